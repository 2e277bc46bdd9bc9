/-
  No cell of these rows narrows 'for every input' (looked for: loops, veiled, ifaces, maps, wideKeys, modest, calm, conditions, laid).
  DERIVED. THE GIVEN ROWS OF THIS SEAT. 12 by the template 'for every input the law returns true; each argument reads behind the call as it read before'; 0 by the template 'total and deterministic' (their statements: YtdleboihgaedjaaGreatTotals.lean).
  GIVEN WITH THE SEED: the statements are not yours to turn. If you find one false, say at which input.
  Laid BY PROGRAM, IN A SANDBOX (cutbox-rows.mjs): the forced cells as the released guide's own fill.sh prints them over the translation 596ffc031f58ce84… (all of the seat's roots in one cut). By AI agents, Wed Nov 11 2026. No macro, syntax, notation, axiom, sorry.
-/
import Derived.Test.YtdleboihgaedjaaGreatChecked
import GoSem.Claim
import GoSem.ClaimJoined
import GoSem.ClaimMapViews
import Derived.JoinedTies
import Derived.KernelRfl
namespace Go.Proofs.YtdleboihgaedjaaGreat
/- THE CELL 'sum', in the pinned program and in every row, IS THE sha256 OF THE DUMP (.gsa) THAT YtdleboihgaedjaaGreatProg.lean LOADS. Nothing in Lean hashes anything: it is a label: what it is worth is what the hold of that sum in a sandbox is worth. -/
noncomputable def Tryz.pinned : Pinned := { name := "ytdleboihgaedjaagreat", sum := "596ffc031f58ce847453fcddf176edb637fba18a7cabbc3e144be246fe783d9a", checked := Tryz.checked }
namespace Rows
def none {H : Type} : Left H := { results := [], args := [] }

/-- 'waveletlaw43.TrimLayers': WHATEVER THE INPUT: true; the input reads as it did. -/
def trimLayersSpec : ChangeSpec := { name := "trimLayers", fn := fun _ => fun
  | [d1, d2] => { results := [.lit (.bool true)], args := [d1, d2] }
  | _ => none }
def trimLayersRow : OpenClaim := { program := "ytdleboihgaedjaagreat", sum := "596ffc031f58ce847453fcddf176edb637fba18a7cabbc3e144be246fe783d9a", func := "wavelet/waveletlaw43.TrimLayers", spec := "trimLayers", unfollowed := true, recurses := true, plainKeys := false, apart := false }
def TrimLayersSaid : Prop := trimLayersRow.holds Tryz.pinned (OpenSpec.ofChange trimLayersSpec)

/-- ITS FALSE NEIGHBOUR: 'it returns false'. Refute it at one input. -/
def trimLayersWrong : ChangeSpec := { name := "trimLayers", fn := fun _ => fun
  | [d1, d2] => { results := [.lit (.bool false)], args := [d1, d2] }
  | _ => none }
def TrimLayersWrongFalsely : Prop := trimLayersRow.holds Tryz.pinned (OpenSpec.ofChange trimLayersWrong)

/-- 'waveletlaw43.TrimHeaders': WHATEVER THE INPUT: true; the input reads as it did. -/
def trimHeadersSpec : ChangeSpec := { name := "trimHeaders", fn := fun _ => fun
  | [d1, d2] => { results := [.lit (.bool true)], args := [d1, d2] }
  | _ => none }
def trimHeadersRow : OpenClaim := { program := "ytdleboihgaedjaagreat", sum := "596ffc031f58ce847453fcddf176edb637fba18a7cabbc3e144be246fe783d9a", func := "wavelet/waveletlaw43.TrimHeaders", spec := "trimHeaders", unfollowed := true, recurses := true, plainKeys := false, apart := false }
def TrimHeadersSaid : Prop := trimHeadersRow.holds Tryz.pinned (OpenSpec.ofChange trimHeadersSpec)

/-- ITS FALSE NEIGHBOUR: 'it returns false'. Refute it at one input. -/
def trimHeadersWrong : ChangeSpec := { name := "trimHeaders", fn := fun _ => fun
  | [d1, d2] => { results := [.lit (.bool false)], args := [d1, d2] }
  | _ => none }
def TrimHeadersWrongFalsely : Prop := trimHeadersRow.holds Tryz.pinned (OpenSpec.ofChange trimHeadersWrong)

/-- 'waveletlaw43.TrimComponents': WHATEVER THE INPUT: true; the input reads as it did. -/
def trimComponentsSpec : ChangeSpec := { name := "trimComponents", fn := fun _ => fun
  | [d1, d2] => { results := [.lit (.bool true)], args := [d1, d2] }
  | _ => none }
def trimComponentsRow : OpenClaim := { program := "ytdleboihgaedjaagreat", sum := "596ffc031f58ce847453fcddf176edb637fba18a7cabbc3e144be246fe783d9a", func := "wavelet/waveletlaw43.TrimComponents", spec := "trimComponents", unfollowed := true, recurses := true, plainKeys := false, apart := false }
def TrimComponentsSaid : Prop := trimComponentsRow.holds Tryz.pinned (OpenSpec.ofChange trimComponentsSpec)

/-- ITS FALSE NEIGHBOUR: 'it returns false'. Refute it at one input. -/
def trimComponentsWrong : ChangeSpec := { name := "trimComponents", fn := fun _ => fun
  | [d1, d2] => { results := [.lit (.bool false)], args := [d1, d2] }
  | _ => none }
def TrimComponentsWrongFalsely : Prop := trimComponentsRow.holds Tryz.pinned (OpenSpec.ofChange trimComponentsWrong)

/-- 'waveletlaw43.TrimResolutions': WHATEVER THE INPUT: true; the input reads as it did. -/
def trimResolutionsSpec : ChangeSpec := { name := "trimResolutions", fn := fun _ => fun
  | [d1, d2] => { results := [.lit (.bool true)], args := [d1, d2] }
  | _ => none }
def trimResolutionsRow : OpenClaim := { program := "ytdleboihgaedjaagreat", sum := "596ffc031f58ce847453fcddf176edb637fba18a7cabbc3e144be246fe783d9a", func := "wavelet/waveletlaw43.TrimResolutions", spec := "trimResolutions", unfollowed := true, recurses := true, plainKeys := false, apart := false }
def TrimResolutionsSaid : Prop := trimResolutionsRow.holds Tryz.pinned (OpenSpec.ofChange trimResolutionsSpec)

/-- ITS FALSE NEIGHBOUR: 'it returns false'. Refute it at one input. -/
def trimResolutionsWrong : ChangeSpec := { name := "trimResolutions", fn := fun _ => fun
  | [d1, d2] => { results := [.lit (.bool false)], args := [d1, d2] }
  | _ => none }
def TrimResolutionsWrongFalsely : Prop := trimResolutionsRow.holds Tryz.pinned (OpenSpec.ofChange trimResolutionsWrong)

/-- 'waveletlaw43.TrimNothing': WHATEVER THE INPUT: true; the input reads as it did. -/
def trimNothingSpec : ChangeSpec := { name := "trimNothing", fn := fun _ => fun
  | [d] => { results := [.lit (.bool true)], args := [d] }
  | _ => none }
def trimNothingRow : OpenClaim := { program := "ytdleboihgaedjaagreat", sum := "596ffc031f58ce847453fcddf176edb637fba18a7cabbc3e144be246fe783d9a", func := "wavelet/waveletlaw43.TrimNothing", spec := "trimNothing", unfollowed := true, recurses := true, plainKeys := false, apart := false }
def TrimNothingSaid : Prop := trimNothingRow.holds Tryz.pinned (OpenSpec.ofChange trimNothingSpec)

/-- ITS FALSE NEIGHBOUR: 'it returns false'. Refute it at one input. -/
def trimNothingWrong : ChangeSpec := { name := "trimNothing", fn := fun _ => fun
  | [d] => { results := [.lit (.bool false)], args := [d] }
  | _ => none }
def TrimNothingWrongFalsely : Prop := trimNothingRow.holds Tryz.pinned (OpenSpec.ofChange trimNothingWrong)

/-- 'waveletlaw43.TrimTwice': WHATEVER THE INPUT: true; the input reads as it did. -/
def trimTwiceSpec : ChangeSpec := { name := "trimTwice", fn := fun _ => fun
  | [d1, d2, d3] => { results := [.lit (.bool true)], args := [d1, d2, d3] }
  | _ => none }
def trimTwiceRow : OpenClaim := { program := "ytdleboihgaedjaagreat", sum := "596ffc031f58ce847453fcddf176edb637fba18a7cabbc3e144be246fe783d9a", func := "wavelet/waveletlaw43.TrimTwice", spec := "trimTwice", unfollowed := true, recurses := true, plainKeys := false, apart := false }
def TrimTwiceSaid : Prop := trimTwiceRow.holds Tryz.pinned (OpenSpec.ofChange trimTwiceSpec)

/-- ITS FALSE NEIGHBOUR: 'it returns false'. Refute it at one input. -/
def trimTwiceWrong : ChangeSpec := { name := "trimTwice", fn := fun _ => fun
  | [d1, d2, d3] => { results := [.lit (.bool false)], args := [d1, d2, d3] }
  | _ => none }
def TrimTwiceWrongFalsely : Prop := trimTwiceRow.holds Tryz.pinned (OpenSpec.ofChange trimTwiceWrong)

/-- 'waveletlaw44.CropAreas': WHATEVER THE INPUT: true; the input reads as it did. -/
def cropAreasSpec : ChangeSpec := { name := "cropAreas", fn := fun _ => fun
  | [d1, d2] => { results := [.lit (.bool true)], args := [d1, d2] }
  | _ => none }
def cropAreasRow : OpenClaim := { program := "ytdleboihgaedjaagreat", sum := "596ffc031f58ce847453fcddf176edb637fba18a7cabbc3e144be246fe783d9a", func := "wavelet/waveletlaw44.CropAreas", spec := "cropAreas", unfollowed := true, recurses := true, plainKeys := false, apart := false }
def CropAreasSaid : Prop := cropAreasRow.holds Tryz.pinned (OpenSpec.ofChange cropAreasSpec)

/-- ITS FALSE NEIGHBOUR: 'it returns false'. Refute it at one input. -/
def cropAreasWrong : ChangeSpec := { name := "cropAreas", fn := fun _ => fun
  | [d1, d2] => { results := [.lit (.bool false)], args := [d1, d2] }
  | _ => none }
def CropAreasWrongFalsely : Prop := cropAreasRow.holds Tryz.pinned (OpenSpec.ofChange cropAreasWrong)

/-- 'waveletlaw44.CropReplaces': WHATEVER THE INPUT: true; the input reads as it did. -/
def cropReplacesSpec : ChangeSpec := { name := "cropReplaces", fn := fun _ => fun
  | [d1, d2, d3] => { results := [.lit (.bool true)], args := [d1, d2, d3] }
  | _ => none }
def cropReplacesRow : OpenClaim := { program := "ytdleboihgaedjaagreat", sum := "596ffc031f58ce847453fcddf176edb637fba18a7cabbc3e144be246fe783d9a", func := "wavelet/waveletlaw44.CropReplaces", spec := "cropReplaces", unfollowed := true, recurses := true, plainKeys := false, apart := false }
def CropReplacesSaid : Prop := cropReplacesRow.holds Tryz.pinned (OpenSpec.ofChange cropReplacesSpec)

/-- ITS FALSE NEIGHBOUR: 'it returns false'. Refute it at one input. -/
def cropReplacesWrong : ChangeSpec := { name := "cropReplaces", fn := fun _ => fun
  | [d1, d2, d3] => { results := [.lit (.bool false)], args := [d1, d2, d3] }
  | _ => none }
def CropReplacesWrongFalsely : Prop := cropReplacesRow.holds Tryz.pinned (OpenSpec.ofChange cropReplacesWrong)

/-- 'waveletlaw44.CropJoins': WHATEVER THE INPUT: true; the input reads as it did. -/
def cropJoinsSpec : ChangeSpec := { name := "cropJoins", fn := fun _ => fun
  | [d1, d2] => { results := [.lit (.bool true)], args := [d1, d2] }
  | _ => none }
def cropJoinsRow : OpenClaim := { program := "ytdleboihgaedjaagreat", sum := "596ffc031f58ce847453fcddf176edb637fba18a7cabbc3e144be246fe783d9a", func := "wavelet/waveletlaw44.CropJoins", spec := "cropJoins", unfollowed := true, recurses := true, plainKeys := false, apart := false }
def CropJoinsSaid : Prop := cropJoinsRow.holds Tryz.pinned (OpenSpec.ofChange cropJoinsSpec)

/-- ITS FALSE NEIGHBOUR: 'it returns false'. Refute it at one input. -/
def cropJoinsWrong : ChangeSpec := { name := "cropJoins", fn := fun _ => fun
  | [d1, d2] => { results := [.lit (.bool false)], args := [d1, d2] }
  | _ => none }
def CropJoinsWrongFalsely : Prop := cropJoinsRow.holds Tryz.pinned (OpenSpec.ofChange cropJoinsWrong)

/-- 'waveletlaw44.CropTiles': WHATEVER THE INPUT: true; the input reads as it did. -/
def cropTilesSpec : ChangeSpec := { name := "cropTiles", fn := fun _ => fun
  | [d1, d2] => { results := [.lit (.bool true)], args := [d1, d2] }
  | _ => none }
def cropTilesRow : OpenClaim := { program := "ytdleboihgaedjaagreat", sum := "596ffc031f58ce847453fcddf176edb637fba18a7cabbc3e144be246fe783d9a", func := "wavelet/waveletlaw44.CropTiles", spec := "cropTiles", unfollowed := true, recurses := true, plainKeys := false, apart := false }
def CropTilesSaid : Prop := cropTilesRow.holds Tryz.pinned (OpenSpec.ofChange cropTilesSpec)

/-- ITS FALSE NEIGHBOUR: 'it returns false'. Refute it at one input. -/
def cropTilesWrong : ChangeSpec := { name := "cropTiles", fn := fun _ => fun
  | [d1, d2] => { results := [.lit (.bool false)], args := [d1, d2] }
  | _ => none }
def CropTilesWrongFalsely : Prop := cropTilesRow.holds Tryz.pinned (OpenSpec.ofChange cropTilesWrong)

/-- 'waveletlaw44.CropWhole': WHATEVER THE INPUT: true; the input reads as it did. -/
def cropWholeSpec : ChangeSpec := { name := "cropWhole", fn := fun _ => fun
  | [d1, d2, d3] => { results := [.lit (.bool true)], args := [d1, d2, d3] }
  | _ => none }
def cropWholeRow : OpenClaim := { program := "ytdleboihgaedjaagreat", sum := "596ffc031f58ce847453fcddf176edb637fba18a7cabbc3e144be246fe783d9a", func := "wavelet/waveletlaw44.CropWhole", spec := "cropWhole", unfollowed := true, recurses := true, plainKeys := false, apart := false }
def CropWholeSaid : Prop := cropWholeRow.holds Tryz.pinned (OpenSpec.ofChange cropWholeSpec)

/-- ITS FALSE NEIGHBOUR: 'it returns false'. Refute it at one input. -/
def cropWholeWrong : ChangeSpec := { name := "cropWhole", fn := fun _ => fun
  | [d1, d2, d3] => { results := [.lit (.bool false)], args := [d1, d2, d3] }
  | _ => none }
def CropWholeWrongFalsely : Prop := cropWholeRow.holds Tryz.pinned (OpenSpec.ofChange cropWholeWrong)

/-- 'waveletlaw44.CropParts': WHATEVER THE INPUT: true; the input reads as it did. -/
def cropPartsSpec : ChangeSpec := { name := "cropParts", fn := fun _ => fun
  | [d1, d2, d3] => { results := [.lit (.bool true)], args := [d1, d2, d3] }
  | _ => none }
def cropPartsRow : OpenClaim := { program := "ytdleboihgaedjaagreat", sum := "596ffc031f58ce847453fcddf176edb637fba18a7cabbc3e144be246fe783d9a", func := "wavelet/waveletlaw44.CropParts", spec := "cropParts", unfollowed := true, recurses := true, plainKeys := false, apart := false }
def CropPartsSaid : Prop := cropPartsRow.holds Tryz.pinned (OpenSpec.ofChange cropPartsSpec)

/-- ITS FALSE NEIGHBOUR: 'it returns false'. Refute it at one input. -/
def cropPartsWrong : ChangeSpec := { name := "cropParts", fn := fun _ => fun
  | [d1, d2, d3] => { results := [.lit (.bool false)], args := [d1, d2, d3] }
  | _ => none }
def CropPartsWrongFalsely : Prop := cropPartsRow.holds Tryz.pinned (OpenSpec.ofChange cropPartsWrong)

/- THE SECOND FORM. 'bulk': how many values and letters a reading holds, each counted each time it is reached (what is shared counts as often as it is met; a slice's spare places count too). A statement '..UptoSaid' is the law's where the arguments, and the package variables that the reading takes, are together of bulk at most 1048576: NARROWER than '..Said'. Prove '..Said' where nothing that the law and all that it calls make is longer than what came in: it says more and counts as full. Else prove '..UptoSaid'. A law counts once. -/
mutual
def uptoBulk {H : Type} : DataW H → Nat
  | .lit (.string bytes) => bytes.length + 1
  | .lit _ => 1
  | .nil => 1
  | .ptr d => uptoBulk d + 1
  | .slice elems spare => uptoBulkAll elems + uptoBulkAll spare + 1
  | .agg parts => uptoBulkAll parts + 1
  | .iface _ d => uptoBulk d + 1
  | .map entries => uptoBulkEntries entries + 1
  | .held _ => 1
def uptoBulkAll {H : Type} : List (DataW H) → Nat
  | [] => 0
  | d :: r => uptoBulk d + uptoBulkAll r
def uptoBulkEntries {H : Type} : List (Lit × DataW H) → Nat
  | [] => 0
  | x :: r => uptoBulkEntry x + uptoBulkEntries r
def uptoBulkEntry {H : Type} : Lit × DataW H → Nat
  | (.string bytes, d) => bytes.length + uptoBulk d + 1
  | (_, d) => uptoBulk d + 1
 end
def uptoSmall : (H : Type) → List (DataW H) → Bool := fun _ ds => decide (uptoBulkAll ds ≤ 1048576)
def OpenSpec.upto (s : _root_.Go.ChangeSpec) : _root_.Go.OpenSpec := { _root_.Go.OpenSpec.ofChange s with cond := some uptoSmall }

/-- 'waveletlaw43.TrimLayers', WHERE WHAT IT READS IS OF BULK AT MOST 1048576: true; the input reads as it did. -/
def trimLayersUptoRow : OpenClaim := { program := "ytdleboihgaedjaagreat", sum := "596ffc031f58ce847453fcddf176edb637fba18a7cabbc3e144be246fe783d9a", func := "wavelet/waveletlaw43.TrimLayers", spec := "trimLayers", unfollowed := true, recurses := true, plainKeys := false, apart := false, narrowed := true }
def TrimLayersUptoSaid : Prop := trimLayersUptoRow.holds Tryz.pinned (OpenSpec.upto trimLayersSpec)

/-- 'waveletlaw43.TrimHeaders', WHERE WHAT IT READS IS OF BULK AT MOST 1048576: true; the input reads as it did. -/
def trimHeadersUptoRow : OpenClaim := { program := "ytdleboihgaedjaagreat", sum := "596ffc031f58ce847453fcddf176edb637fba18a7cabbc3e144be246fe783d9a", func := "wavelet/waveletlaw43.TrimHeaders", spec := "trimHeaders", unfollowed := true, recurses := true, plainKeys := false, apart := false, narrowed := true }
def TrimHeadersUptoSaid : Prop := trimHeadersUptoRow.holds Tryz.pinned (OpenSpec.upto trimHeadersSpec)

/-- 'waveletlaw43.TrimComponents', WHERE WHAT IT READS IS OF BULK AT MOST 1048576: true; the input reads as it did. -/
def trimComponentsUptoRow : OpenClaim := { program := "ytdleboihgaedjaagreat", sum := "596ffc031f58ce847453fcddf176edb637fba18a7cabbc3e144be246fe783d9a", func := "wavelet/waveletlaw43.TrimComponents", spec := "trimComponents", unfollowed := true, recurses := true, plainKeys := false, apart := false, narrowed := true }
def TrimComponentsUptoSaid : Prop := trimComponentsUptoRow.holds Tryz.pinned (OpenSpec.upto trimComponentsSpec)

/-- 'waveletlaw43.TrimResolutions', WHERE WHAT IT READS IS OF BULK AT MOST 1048576: true; the input reads as it did. -/
def trimResolutionsUptoRow : OpenClaim := { program := "ytdleboihgaedjaagreat", sum := "596ffc031f58ce847453fcddf176edb637fba18a7cabbc3e144be246fe783d9a", func := "wavelet/waveletlaw43.TrimResolutions", spec := "trimResolutions", unfollowed := true, recurses := true, plainKeys := false, apart := false, narrowed := true }
def TrimResolutionsUptoSaid : Prop := trimResolutionsUptoRow.holds Tryz.pinned (OpenSpec.upto trimResolutionsSpec)

/-- 'waveletlaw43.TrimNothing', WHERE WHAT IT READS IS OF BULK AT MOST 1048576: true; the input reads as it did. -/
def trimNothingUptoRow : OpenClaim := { program := "ytdleboihgaedjaagreat", sum := "596ffc031f58ce847453fcddf176edb637fba18a7cabbc3e144be246fe783d9a", func := "wavelet/waveletlaw43.TrimNothing", spec := "trimNothing", unfollowed := true, recurses := true, plainKeys := false, apart := false, narrowed := true }
def TrimNothingUptoSaid : Prop := trimNothingUptoRow.holds Tryz.pinned (OpenSpec.upto trimNothingSpec)

/-- 'waveletlaw43.TrimTwice', WHERE WHAT IT READS IS OF BULK AT MOST 1048576: true; the input reads as it did. -/
def trimTwiceUptoRow : OpenClaim := { program := "ytdleboihgaedjaagreat", sum := "596ffc031f58ce847453fcddf176edb637fba18a7cabbc3e144be246fe783d9a", func := "wavelet/waveletlaw43.TrimTwice", spec := "trimTwice", unfollowed := true, recurses := true, plainKeys := false, apart := false, narrowed := true }
def TrimTwiceUptoSaid : Prop := trimTwiceUptoRow.holds Tryz.pinned (OpenSpec.upto trimTwiceSpec)

/-- 'waveletlaw44.CropAreas', WHERE WHAT IT READS IS OF BULK AT MOST 1048576: true; the input reads as it did. -/
def cropAreasUptoRow : OpenClaim := { program := "ytdleboihgaedjaagreat", sum := "596ffc031f58ce847453fcddf176edb637fba18a7cabbc3e144be246fe783d9a", func := "wavelet/waveletlaw44.CropAreas", spec := "cropAreas", unfollowed := true, recurses := true, plainKeys := false, apart := false, narrowed := true }
def CropAreasUptoSaid : Prop := cropAreasUptoRow.holds Tryz.pinned (OpenSpec.upto cropAreasSpec)

/-- 'waveletlaw44.CropReplaces', WHERE WHAT IT READS IS OF BULK AT MOST 1048576: true; the input reads as it did. -/
def cropReplacesUptoRow : OpenClaim := { program := "ytdleboihgaedjaagreat", sum := "596ffc031f58ce847453fcddf176edb637fba18a7cabbc3e144be246fe783d9a", func := "wavelet/waveletlaw44.CropReplaces", spec := "cropReplaces", unfollowed := true, recurses := true, plainKeys := false, apart := false, narrowed := true }
def CropReplacesUptoSaid : Prop := cropReplacesUptoRow.holds Tryz.pinned (OpenSpec.upto cropReplacesSpec)

/-- 'waveletlaw44.CropJoins', WHERE WHAT IT READS IS OF BULK AT MOST 1048576: true; the input reads as it did. -/
def cropJoinsUptoRow : OpenClaim := { program := "ytdleboihgaedjaagreat", sum := "596ffc031f58ce847453fcddf176edb637fba18a7cabbc3e144be246fe783d9a", func := "wavelet/waveletlaw44.CropJoins", spec := "cropJoins", unfollowed := true, recurses := true, plainKeys := false, apart := false, narrowed := true }
def CropJoinsUptoSaid : Prop := cropJoinsUptoRow.holds Tryz.pinned (OpenSpec.upto cropJoinsSpec)

/-- 'waveletlaw44.CropTiles', WHERE WHAT IT READS IS OF BULK AT MOST 1048576: true; the input reads as it did. -/
def cropTilesUptoRow : OpenClaim := { program := "ytdleboihgaedjaagreat", sum := "596ffc031f58ce847453fcddf176edb637fba18a7cabbc3e144be246fe783d9a", func := "wavelet/waveletlaw44.CropTiles", spec := "cropTiles", unfollowed := true, recurses := true, plainKeys := false, apart := false, narrowed := true }
def CropTilesUptoSaid : Prop := cropTilesUptoRow.holds Tryz.pinned (OpenSpec.upto cropTilesSpec)

/-- 'waveletlaw44.CropWhole', WHERE WHAT IT READS IS OF BULK AT MOST 1048576: true; the input reads as it did. -/
def cropWholeUptoRow : OpenClaim := { program := "ytdleboihgaedjaagreat", sum := "596ffc031f58ce847453fcddf176edb637fba18a7cabbc3e144be246fe783d9a", func := "wavelet/waveletlaw44.CropWhole", spec := "cropWhole", unfollowed := true, recurses := true, plainKeys := false, apart := false, narrowed := true }
def CropWholeUptoSaid : Prop := cropWholeUptoRow.holds Tryz.pinned (OpenSpec.upto cropWholeSpec)

/-- 'waveletlaw44.CropParts', WHERE WHAT IT READS IS OF BULK AT MOST 1048576: true; the input reads as it did. -/
def cropPartsUptoRow : OpenClaim := { program := "ytdleboihgaedjaagreat", sum := "596ffc031f58ce847453fcddf176edb637fba18a7cabbc3e144be246fe783d9a", func := "wavelet/waveletlaw44.CropParts", spec := "cropParts", unfollowed := true, recurses := true, plainKeys := false, apart := false, narrowed := true }
def CropPartsUptoSaid : Prop := cropPartsUptoRow.holds Tryz.pinned (OpenSpec.upto cropPartsSpec)

end Rows
end Go.Proofs.YtdleboihgaedjaaGreat
