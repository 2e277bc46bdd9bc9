import Derived.Test.YtdleboihgaedjaaGreatSalY
import Derived.Test.YtdleboihgaedjaaGreatT
namespace Go.Proofs.YtdleboihgaedjaaGreat
open Go Go.Sal
set_option maxRecDepth 100000

theorem reads_int (d : Bool) : Reads Tryz.prog d 3 (fun n : Int => [i64 n]) (fun n => (Lit.int .i64 n).wf = true) := Reads.int d Tryz.underlying3 (by kernel_rfl)
theorem reads_bool (d : Bool) : Reads Tryz.prog d 4 (fun b : Bool => [.bool b]) (fun _ => True) := Reads.bool d Tryz.underlying4 (by kernel_rfl)
theorem cells3 : Tryz.prog.cellsOf 3 = 1 := by kernel_rfl
theorem cells4 : Tryz.prog.cellsOf 4 = 1 := by kernel_rfl
theorem cells31 : Tryz.prog.cellsOf 31 = 4 := by kernel_rfl
theorem cells32 : Tryz.prog.cellsOf 32 = 1 := by kernel_rfl
theorem cells34 : Tryz.prog.cellsOf 34 = 7 := by kernel_rfl
theorem cells86 : Tryz.prog.cellsOf 86 = 4 := by kernel_rfl

theorem reads_rect (d : Bool) : Reads Tryz.prog d 31 Rect.cells (fun _ => True) := by
  intro H enc w base spare held fuel cs x h hd
  obtain ⟨xs, n, _, _, hl, hlen, hf⟩ := DataW.trod_struct Tryz.underlying31 h
  rw [cells31] at hl
  obtain ⟨a0, _, _, v0⟩ := (reads_int d).field hf hlen hd 0 rfl
  obtain ⟨a1, _, _, v1⟩ := (reads_int d).field hf hlen hd 1 rfl
  obtain ⟨a2, _, _, v2⟩ := (reads_int d).field hf hlen hd 2 rfl
  obtain ⟨a3, _, _, v3⟩ := (reads_int d).field hf hlen hd 3 rfl
  match cs, hl with
  | [c0, c1, c2, c3], _ =>
    refine ⟨⟨a0, a1, a2, a3⟩, trivial, by simp [cells31], ?_⟩
    have := VT_app _ _ _ _ v0 (VT_app _ _ _ _ v1 (VT_app _ _ _ _ v2 v3))
    simpa [cells3] using this
theorem reads_comp (d : Bool) : Reads Tryz.prog d 86 Comp.cells (fun _ => True) := by
  intro H enc w base spare held fuel cs x h hd
  obtain ⟨xs, n, _, _, hl, hlen, hf⟩ := DataW.trod_struct Tryz.underlying86 h
  rw [cells86] at hl
  obtain ⟨a0, _, _, v0⟩ := (reads_int d).field hf hlen hd 0 rfl
  obtain ⟨a1, _, _, v1⟩ := (reads_bool d).field hf hlen hd 1 rfl
  obtain ⟨a2, _, _, v2⟩ := (reads_int d).field hf hlen hd 2 rfl
  obtain ⟨a3, _, _, v3⟩ := (reads_int d).field hf hlen hd 3 rfl
  match cs, hl with
  | [c0, c1, c2, c3], _ =>
    refine ⟨⟨a0, a1, a2, a3⟩, trivial, by simp [cells86], ?_⟩
    have := VT_app _ _ _ _ v0 (VT_app _ _ _ _ v1 (VT_app _ _ _ _ v2 v3))
    simpa [cells3, cells4] using this
theorem reads_comps : Reads Tryz.prog true 32 (fun l : List Comp => [lv (els Comp.cells l)]) (fun l => l.length ≤ maxLen ∧ ∀ a ∈ l, True) := Reads.slice Tryz.underlying32 cells32 (reads_comp false)
theorem reads_hdr : Reads Tryz.prog true 34 Hdr.cells (fun h => h.comps.length ≤ maxLen) := by
  intro H enc w base spare held fuel cs x h hd
  obtain ⟨xs, n, _, _, hl, hlen, hf⟩ := DataW.trod_struct Tryz.underlying34 h
  rw [cells34] at hl
  obtain ⟨a0, _, _, v0⟩ := (reads_rect true).field hf hlen hd 0 rfl
  obtain ⟨a1, _, _, v1⟩ := (reads_int true).field hf hlen hd 1 rfl
  obtain ⟨a2, _, _, v2⟩ := (reads_int true).field hf hlen hd 2 rfl
  obtain ⟨a3, k3, _, v3⟩ := reads_comps.field hf hlen hd 3 rfl
  match cs, hl with
  | [c0, c1, c2, c3, c4, c5, c6], _ =>
    refine ⟨⟨a0, a1, a2, a3⟩, k3.1, by simp [cells34], ?_⟩
    have := VT_app _ _ _ _ v0 (VT_app _ _ _ _ v1 (VT_app _ _ _ _ v2 v3))
    simpa [cells3, cells31, cells32] using this

/-- A header that came in. -/
theorem open_hdr {H : Type} {enc : TypeId × Value → H} {W : World} {base b0 : Nat} {spare : Nat → Bool} {held : Bool} {v : Value} {d : DataW H} {p : List MemPlace} (hval : Value.okWide Tryz.prog W .any b0 34 v) (h : DataW.Trod enc Tryz.prog W base spare held 34 v d p) :
    ∃ A : Hdr, A.comps.length ≤ maxLen ∧ V [] (fun _ => none) W A.av v := by
  obtain ⟨cs, rfl, hs⟩ := SlIn_row Tryz.underlying34 hval
  obtain ⟨fuel, hf⟩ := h
  obtain ⟨A, h1, _, h2⟩ := reads_hdr H enc W base spare held fuel _ _ hf fun _ => hs
  exact ⟨A, h1, by simp only [V]; exact ⟨cs, rfl, h2⟩⟩
/-- A rectangle that came in. -/
theorem open_rect {H : Type} {enc : TypeId × Value → H} {W : World} {base b0 : Nat} {spare : Nat → Bool} {held : Bool} {v : Value} {d : DataW H} {p : List MemPlace} (hval : Value.okWide Tryz.prog W .any b0 31 v) (h : DataW.Trod enc Tryz.prog W base spare held 31 v d p) :
    ∃ A : Rect, V [] (fun _ => none) W A.av v := by
  obtain ⟨cs, rfl, _⟩ := SlIn_row Tryz.underlying31 hval
  obtain ⟨fuel, hf⟩ := h
  obtain ⟨A, _, _, h2⟩ := reads_rect false H enc W base spare held fuel _ _ hf (by simp)
  exact ⟨A, by simp only [V]; exact ⟨cs, rfl, h2⟩⟩
/-- A number that came in. -/
theorem open_int3 {H : Type} {enc : TypeId × Value → H} {W : World} {base b0 : Nat} {spare : Nat → Bool} {held : Bool} {v : Value} {d : DataW H} {p : List MemPlace} (hval : Value.okWide Tryz.prog W .any b0 3 v) (h : DataW.Trod enc Tryz.prog W base spare held 3 v d p) :
    ∃ n : Int, (Lit.int .i64 n).wf = true ∧ V [] (fun _ => none) W (i64 n) v := by
  obtain ⟨n, rfl, _, _, hw⟩ := ChangeShapes.open_int Tryz.underlying3 hval h
  exact ⟨n, hw, by simp [V]⟩
end Go.Proofs.YtdleboihgaedjaaGreat
