import Derived.Test.YtdleboihgaedjaaGreatRows
import Derived.ProofKit
namespace Go.Proofs.YtdleboihgaedjaaGreat
open Go Go.RowKit
theorem tp_a2 : laidOutB Tryz.prog = true := by kernel_rfl
theorem tp_a3 : mapsRowed Tryz.prog = true := by kernel_rfl
theorem tp_a7 : (Tryz.prog.stops == []) = true := by kernel_rfl
theorem tp_a9 : (Tryz.prog.stopKnobs == []) = true := by kernel_rfl
theorem tp_d5 : (false == Tryz.prog.plainKeys) = true := by kernel_rfl
theorem tp_e2 : Tryz.prog.stopsHeard = true := by kernel_rfl
theorem tp_e3 : Tryz.prog.mayEnter = true := by kernel_rfl
theorem tp_e4 : (Rows.trimHeadersRow.lifted == Tryz.prog.liftsFinal) = true := by kernel_rfl
theorem tp_e5 : (Tryz.prog.make == some Rows.trimHeadersRow.make) = true := by kernel_rfl
end Go.Proofs.YtdleboihgaedjaaGreat
