import Derived.Test.YtdleboihgaedjaaGreatJ
import Derived.ProofKit
namespace Go.Proofs.YtdleboihgaedjaaGreat
open Go Go.RowKit
theorem trimHeaders_a1 : Rows.trimHeadersRow.wf (OpenSpec.ofChange Rows.trimHeadersSpec) = true := by kernel_rfl
theorem trimHeaders_a4 : Tryz.f4.params.all (Tryz.prog.readableRec ·) = true := by kernel_rfl
theorem trimHeaders_a5 : namedTie Tryz.prog Rows.trimHeadersRow.named Rows.trimHeadersSpec.vars = true := by kernel_rfl
theorem trimHeaders_a6 : (Rows.trimHeadersRow.stops == []) = true := by kernel_rfl
theorem trimHeaders_a8 : (Rows.trimHeadersRow.knobs == []) = true := by kernel_rfl
theorem trimHeaders_b1 : (Rows.trimHeadersRow.inPlace == Tryz.prog.inPlace 4) = true := by kernel_rfl
theorem trimHeaders_b2 : (Rows.trimHeadersRow.unfollowed == Tryz.prog.unfollowed 4) = true := by kernel_rfl
theorem trimHeaders_b3 : (Rows.trimHeadersRow.recurses == Tryz.prog.recurses 4) = true := by kernel_rfl
theorem trimHeaders_b4 : (Rows.trimHeadersRow.named == Tryz.prog.varsNamed 4) = true := by kernel_rfl
theorem trimHeaders_c1 : (Rows.trimHeadersRow.maps == (Tryz.f4.params.toList ++ Rows.trimHeadersSpec.plain.varTypes Tryz.prog).any (Tryz.prog.mapsRec ·)) = true := by kernel_rfl
theorem trimHeaders_c2 : (Rows.trimHeadersRow.ifaces == (Tryz.f4.params.toList ++ Rows.trimHeadersSpec.plain.varTypes Tryz.prog).any (Tryz.prog.ifacesRec ·)) = true := by kernel_rfl
theorem trimHeaders_c3 : (Rows.trimHeadersRow.mapsOut == Tryz.prog.mapsAmong Tryz.f4.resultTypes.toList) = true := by kernel_rfl
theorem trimHeaders_c4 : (Rows.trimHeadersRow.loops == (Tryz.f4.params.toList ++ Rows.trimHeadersSpec.plain.varTypes Tryz.prog).any (Tryz.prog.loopsFrom ·)) = true := by kernel_rfl
theorem trimHeaders_c5 : (Rows.trimHeadersRow.wideKeys == (Tryz.f4.params.toList ++ Rows.trimHeadersSpec.plain.varTypes Tryz.prog ++ Tryz.f4.resultTypes.toList).any (Tryz.prog.wideKeysFrom ·)) = true := by kernel_rfl
theorem trimHeaders_d1 : Rows.trimHeadersSpec.vars.all (Tryz.prog.varReadable ·) = true := by kernel_rfl
theorem trimHeaders_d2 : Tryz.f4.resultTypes.all (fun t => Tryz.prog.readableRec t && decide (t < Tryz.prog.types.size)) = true := by kernel_rfl
theorem trimHeaders_d3 : (Rows.trimHeadersRow.ifacesOut == Tryz.f4.resultTypes.toList.any (Tryz.prog.ifacesRec ·)) = true := by kernel_rfl
theorem trimHeaders_d4 : (Rows.trimHeadersRow.loopsOut == Tryz.f4.resultTypes.toList.any (Tryz.prog.loopsFrom ·)) = true := by kernel_rfl
theorem trimHeaders_e1 : Rows.trimHeadersRow.shortTexts.isNone = true := by kernel_rfl
theorem trimHeaders_e6 : Rows.trimHeadersRow.domain.isEmpty = true := by kernel_rfl
theorem trimHeaders_e8 : (Rows.trimHeadersRow.kinds == []) = true := by kernel_rfl
theorem trimHeaders_e7 : (Rows.trimHeadersRow.pinned == Rows.trimHeadersRow.pinnedBy) = true := by kernel_rfl
theorem trimHeaders_g1 : (Rows.trimHeadersRow.veiled == (Tryz.f4.params.toList ++ Rows.trimHeadersSpec.plain.varTypes Tryz.prog ++ Tryz.f4.resultTypes.toList).any (Tryz.prog.veiledRec ·)) = true := by kernel_rfl
theorem trimHeaders_g2 : Rows.trimHeadersRow.veiledFits Tryz.prog Tryz.f4.params.toList (Tryz.f4.params.toList ++ Rows.trimHeadersSpec.plain.varTypes Tryz.prog ++ Tryz.f4.resultTypes.toList) = true := by kernel_rfl
theorem trimHeaders_d5 : (Rows.trimHeadersRow.plainKeys == Tryz.prog.plainKeys) = true := tp_d5
theorem trimHeaders_e4 : (Rows.trimHeadersRow.lifted == Tryz.prog.liftsFinal) = true := tp_e4
theorem trimHeaders_e5 : (Tryz.prog.make == some Rows.trimHeadersRow.make) = true := tp_e5
theorem trimHeaders_facts : joinedFacts Tryz.prog 4 Tryz.f4 Rows.trimHeadersSpec Rows.trimHeadersRow = true := by
  unfold joinedFacts
  simp only [trimHeaders_a1, trimHeaders_a4, trimHeaders_a5, trimHeaders_a6, trimHeaders_a8, trimHeaders_b1, trimHeaders_b2, trimHeaders_b3, trimHeaders_b4, trimHeaders_c1, trimHeaders_c2, trimHeaders_c3, trimHeaders_c4, trimHeaders_c5, trimHeaders_d1, trimHeaders_d2, trimHeaders_d3, trimHeaders_d4, trimHeaders_e1, trimHeaders_e6, trimHeaders_e8, trimHeaders_e7, trimHeaders_g1, trimHeaders_g2, trimHeaders_d5, trimHeaders_e4, trimHeaders_e5, tp_a2, tp_a3, tp_a7, tp_a9, tp_e2, tp_e3, ↓reduceIte, Bool.and_self]
theorem trimHeaders_named : Tryz.prog.funcNamed Rows.trimHeadersRow.func = some 4 := by kernel_rfl
end Go.Proofs.YtdleboihgaedjaaGreat
