import Derived.Test.YtdleboihgaedjaaGreatJ
import Derived.ProofKit
namespace Go.Proofs.YtdleboihgaedjaaGreat
open Go Go.RowKit
theorem cropAreas_a1 : Rows.cropAreasRow.wf (OpenSpec.ofChange Rows.cropAreasSpec) = true := by kernel_rfl
theorem cropAreas_a4 : Tryz.f9.params.all (Tryz.prog.readableRec ·) = true := by kernel_rfl
theorem cropAreas_a5 : namedTie Tryz.prog Rows.cropAreasRow.named Rows.cropAreasSpec.vars = true := by kernel_rfl
theorem cropAreas_a6 : (Rows.cropAreasRow.stops == []) = true := by kernel_rfl
theorem cropAreas_a8 : (Rows.cropAreasRow.knobs == []) = true := by kernel_rfl
theorem cropAreas_b1 : (Rows.cropAreasRow.inPlace == Tryz.prog.inPlace 9) = true := by kernel_rfl
theorem cropAreas_b2 : (Rows.cropAreasRow.unfollowed == Tryz.prog.unfollowed 9) = true := by kernel_rfl
theorem cropAreas_b3 : (Rows.cropAreasRow.recurses == Tryz.prog.recurses 9) = true := by kernel_rfl
theorem cropAreas_b4 : (Rows.cropAreasRow.named == Tryz.prog.varsNamed 9) = true := by kernel_rfl
theorem cropAreas_c1 : (Rows.cropAreasRow.maps == (Tryz.f9.params.toList ++ Rows.cropAreasSpec.plain.varTypes Tryz.prog).any (Tryz.prog.mapsRec ·)) = true := by kernel_rfl
theorem cropAreas_c2 : (Rows.cropAreasRow.ifaces == (Tryz.f9.params.toList ++ Rows.cropAreasSpec.plain.varTypes Tryz.prog).any (Tryz.prog.ifacesRec ·)) = true := by kernel_rfl
theorem cropAreas_c3 : (Rows.cropAreasRow.mapsOut == Tryz.prog.mapsAmong Tryz.f9.resultTypes.toList) = true := by kernel_rfl
theorem cropAreas_c4 : (Rows.cropAreasRow.loops == (Tryz.f9.params.toList ++ Rows.cropAreasSpec.plain.varTypes Tryz.prog).any (Tryz.prog.loopsFrom ·)) = true := by kernel_rfl
theorem cropAreas_c5 : (Rows.cropAreasRow.wideKeys == (Tryz.f9.params.toList ++ Rows.cropAreasSpec.plain.varTypes Tryz.prog ++ Tryz.f9.resultTypes.toList).any (Tryz.prog.wideKeysFrom ·)) = true := by kernel_rfl
theorem cropAreas_d1 : Rows.cropAreasSpec.vars.all (Tryz.prog.varReadable ·) = true := by kernel_rfl
theorem cropAreas_d2 : Tryz.f9.resultTypes.all (fun t => Tryz.prog.readableRec t && decide (t < Tryz.prog.types.size)) = true := by kernel_rfl
theorem cropAreas_d3 : (Rows.cropAreasRow.ifacesOut == Tryz.f9.resultTypes.toList.any (Tryz.prog.ifacesRec ·)) = true := by kernel_rfl
theorem cropAreas_d4 : (Rows.cropAreasRow.loopsOut == Tryz.f9.resultTypes.toList.any (Tryz.prog.loopsFrom ·)) = true := by kernel_rfl
theorem cropAreas_e1 : Rows.cropAreasRow.shortTexts.isNone = true := by kernel_rfl
theorem cropAreas_e6 : Rows.cropAreasRow.domain.isEmpty = true := by kernel_rfl
theorem cropAreas_e8 : (Rows.cropAreasRow.kinds == []) = true := by kernel_rfl
theorem cropAreas_e7 : (Rows.cropAreasRow.pinned == Rows.cropAreasRow.pinnedBy) = true := by kernel_rfl
theorem cropAreas_g1 : (Rows.cropAreasRow.veiled == (Tryz.f9.params.toList ++ Rows.cropAreasSpec.plain.varTypes Tryz.prog ++ Tryz.f9.resultTypes.toList).any (Tryz.prog.veiledRec ·)) = true := by kernel_rfl
theorem cropAreas_g2 : Rows.cropAreasRow.veiledFits Tryz.prog Tryz.f9.params.toList (Tryz.f9.params.toList ++ Rows.cropAreasSpec.plain.varTypes Tryz.prog ++ Tryz.f9.resultTypes.toList) = true := by kernel_rfl
theorem cropAreas_d5 : (Rows.cropAreasRow.plainKeys == Tryz.prog.plainKeys) = true := tp_d5
theorem cropAreas_e4 : (Rows.cropAreasRow.lifted == Tryz.prog.liftsFinal) = true := tp_e4
theorem cropAreas_e5 : (Tryz.prog.make == some Rows.cropAreasRow.make) = true := tp_e5
theorem cropAreas_facts : joinedFacts Tryz.prog 9 Tryz.f9 Rows.cropAreasSpec Rows.cropAreasRow = true := by
  unfold joinedFacts
  simp only [cropAreas_a1, cropAreas_a4, cropAreas_a5, cropAreas_a6, cropAreas_a8, cropAreas_b1, cropAreas_b2, cropAreas_b3, cropAreas_b4, cropAreas_c1, cropAreas_c2, cropAreas_c3, cropAreas_c4, cropAreas_c5, cropAreas_d1, cropAreas_d2, cropAreas_d3, cropAreas_d4, cropAreas_e1, cropAreas_e6, cropAreas_e8, cropAreas_e7, cropAreas_g1, cropAreas_g2, cropAreas_d5, cropAreas_e4, cropAreas_e5, tp_a2, tp_a3, tp_a7, tp_a9, tp_e2, tp_e3, ↓reduceIte, Bool.and_self]
theorem cropAreas_named : Tryz.prog.funcNamed Rows.cropAreasRow.func = some 9 := by kernel_rfl
end Go.Proofs.YtdleboihgaedjaaGreat
