import Derived.Test.YtdleboihgaedjaaGreatBase
import Derived.ProofKit
/-! What a call's arguments, read as data, are as abstract values. -/
namespace Go.Sal
open Go Go.RowKit
set_option linter.unusedVariables false

/-- A slice lies in a block. -/
def SlIn (w : World) (v : Value) : Prop := ∀ ad len cap, v = .slice (some ad) len cap → ad.spot = none ∧ ad.block < w.heap.size

theorem SlIn_cell {P : Program} {w : World} {r : Reach} {base : Nat} {t : TypeId} {v : Value} (h : Cell.okWide P w r base t v) : SlIn w v := by
  rintro ad len cap rfl
  have h' : Cell.ok P w r base t (.slice (some ad) len cap) := by
    unfold Cell.okWide at h; split at h <;> simp_all
  unfold Cell.ok at h'
  split at h' <;> first | (exact h'.elim; done) | skip
  all_goals simp_all
  obtain ⟨_, _, hw⟩ := h'
  obtain ⟨_, h1, row, cells, h2, _⟩ := hw
  refine ⟨h1, ?_⟩
  unfold World.shape? at h2
  split at h2
  · rename_i e; exact (Array.getElem?_eq_some_iff.mp e).1
  · simp at h2

theorem SlIn_row {P : Program} {w : World} {r : Reach} {base : Nat} {t : TypeId} {fs : Array Field} {v : Value} (ht : P.underlying t = some (.struct fs)) (h : Value.okWide P w r base t v) : ∃ cs : Array Value, v = .agg cs ∧ ∀ x ∈ cs.toList, SlIn w x := by
  simp only [Value.okWide, ht] at h
  obtain ⟨cs, h1, h2, ts, _, _, h3⟩ := h
  refine ⟨cs, h1, fun x hx => ?_⟩
  obtain ⟨i, hi, rfl⟩ := List.getElem_of_mem hx
  obtain ⟨u, _, hu⟩ := h3 i (cs.toList[i]) (by simp)
  exact SlIn_cell hu

theorem SlIn_slice {P : Program} {w : World} {r : Reach} {base : Nat} {t e : TypeId} {v : Value} (ht : P.underlying t = some (.slice e)) (h : Value.okWide P w r base t v) : SlIn w v := by
  simp only [Value.okWide, ht] at h
  exact SlIn_cell h

/-- Cells of type `t` stand for an `a`, whose cells are `g a`. -/
def Reads (P : Program) (deep : Bool) (t : TypeId) {α : Type} (g : α → List AV) (ok : α → Prop) : Prop :=
  ∀ (H : Type) (enc : TypeId × Value → H) (w : World) (base : Nat) (spare : Nat → Bool) (held : Bool) (fuel : Nat) (cs : List Value) (x : DataW H × List MemPlace),
    DataW.trod enc P w base spare held fuel t cs = some x → (deep = true → ∀ v ∈ cs, SlIn w v) → ∃ a, ok a ∧ (g a).length = P.cellsOf t ∧ VT [] (fun _ => none) w (g a) cs

theorem Reads.int {P : Program} {t : TypeId} {k : IntKind} (d : Bool) (ht : P.underlying t = some (.int k)) (hc : P.cellsOf t = 1) : Reads P d t (fun n : Int => [.int k n]) (fun n => (Lit.int k n).wf = true) := by
  intro H enc w base spare held fuel cs x h _
  obtain ⟨n, rfl, _, hw⟩ := DataW.trod_int ht h
  exact ⟨n, hw, by simp [hc], by simp [VT, V]⟩

theorem Reads.bool {P : Program} {t : TypeId} (d : Bool) (ht : P.underlying t = some .bool) (hc : P.cellsOf t = 1) : Reads P d t (fun b : Bool => [.bool b]) (fun _ => True) := by
  intro H enc w base spare held fuel cs x h _
  obtain ⟨n, rfl, _⟩ := DataW.trod_bool ht h
  exact ⟨n, trivial, by simp [hc], by simp [VT, V]⟩

theorem list_of {α : Type} {p : Nat → α → Prop} : ∀ n, (∀ i, i < n → ∃ a, p i a) → ∃ l : List α, l.length = n ∧ ∀ i a, l[i]? = some a → p i a
  | 0, _ => ⟨[], rfl, by simp⟩
  | n + 1, h => by
    obtain ⟨l, h1, h2⟩ := list_of n fun i hi => h i (by omega)
    obtain ⟨a, ha⟩ := h n (by omega)
    refine ⟨l ++ [a], by simp [h1], fun i b e => ?_⟩
    by_cases hi : i < l.length
    · rw [List.getElem?_append_left hi] at e; exact h2 i b e
    · have : i < (l ++ [a]).length := (List.getElem?_eq_some_iff.mp e).1
      have hi : i = l.length := by simp at this; omega
      subst hi
      simp at e; subst e; rw [h1]; exact ha

theorem Reads.slice {P : Program} {t e : TypeId} {α : Type} {g : α → List AV} {ok : α → Prop} (ht : P.underlying t = some (.slice e)) (hc : P.cellsOf t = 1) (r : Reads P false e g ok) :
    Reads P true t (fun l : List α => [lv (els g l)]) (fun l => (l.length ≤ maxLen) ∧ ∀ a ∈ l, ok a) := by
  intro H enc w base spare held fuel cs x h hs
  rcases DataW.trod_slice ht h with ⟨rfl, rfl⟩ | ⟨a, len, cap, elems, rest, n, _, rfl, _, _, h1, h2, h3, h4, _⟩
  · refine ⟨[], ⟨by simp, by simp⟩, by simp [hc], ?_⟩
    simp only [VT, V, els, List.map_nil, List.length_nil]
    exact ⟨_, _, rfl, ⟨none, 0, rfl, by simp, by simp, trivial, by simp, by simp⟩, rfl⟩
  · obtain ⟨hsp, hb⟩ := hs rfl _ (by simp) a len cap rfl
    have ha : a = at_ a.block a.off := by cases a; simp_all [at_]
    obtain ⟨l, hl, hg⟩ := list_of (α := α) (p := fun i y => ok y ∧ (g y).length = P.cellsOf e ∧ VL [] (fun _ => none) w a.block (a.off + i * P.cellsOf e) (g y)) len fun i hi => by
      have := h4 i hi
      rw [List.getElem?_eq_getElem (by omega)] at this
      obtain ⟨cs', e1, e2⟩ := Option.bind_eq_some_iff.mp this
      rw [ha, at_add] at e1
      obtain ⟨y, y1, y2, y3⟩ := r H enc w base spare held n cs' _ e2 (by simp)
      obtain ⟨_, k1, k2⟩ := World.cells?_some e1
      refine ⟨y, y1, y2, VL_ofGet _ _ _ fun j x ej => ?_⟩
      obtain ⟨v, v1, v2⟩ := VT_get _ _ j x y3 ej
      have hj : j < P.cellsOf e := by rw [← y2]; exact (List.getElem?_eq_some_iff.mp ej).1
      refine ⟨v, ?_, v2⟩
      have := k2 j hj
      rw [v1, at_add] at this
      exact this
    refine ⟨l, ⟨by rw [hl]; omega, fun y hy => ?_⟩, by simp [hc], ?_⟩
    · obtain ⟨i, hi, rfl⟩ := List.getElem_of_mem hy
      exact (hg i _ (List.getElem?_eq_getElem hi)).1
    · simp only [VT, V]
      refine ⟨_, _, rfl, ⟨some a, cap, ?_, by simp, ?_, trivial, by simp, ?_⟩, rfl⟩
      · simp [els, hl]
      · simp [els, hl]; exact h1
      · rintro ad ⟨rfl⟩
        refine ⟨a.block, a.off, P.cellsOf e, ha, hb, fun id o x h => by simp at h, VLL_ofGet _ _ _ _ fun j el ej => ?_⟩
        simp only [els, List.getElem?_map, Option.map_eq_some_iff] at ej
        obtain ⟨y, e1, rfl⟩ := ej
        exact ⟨(hg j y e1).2.1, (hg j y e1).2.2⟩

theorem Reads.field {P : Program} {d : Bool} {f : Field} {α : Type} {g : α → List AV} {ok : α → Prop} (r : Reads P d f.type g ok) {H : Type} {enc : TypeId × Value → H} {w : World} {base : Nat} {spare : Nat → Bool} {held : Bool} {n : Nat} {cs : List Value}
    {xs : List (DataW H × List MemPlace)} {fs : Array Field} (hf : ∀ (i : Nat) (f : Field), fs[i]? = some f → DataW.trod enc P w base spare held n f.type ((cs.drop f.offset).take (P.cellsOf f.type)) = xs[i]?) (hlen : xs.length = fs.size)
    (hd : d = true → ∀ v ∈ cs, SlIn w v) (i : Nat) (e : fs[i]? = some f) : ∃ a, ok a ∧ (g a).length = P.cellsOf f.type ∧ VT [] (fun _ => none) w (g a) ((cs.drop f.offset).take (P.cellsOf f.type)) := by
  have h := hf i f e
  have hi : i < xs.length := by rw [hlen]; exact (Array.getElem?_eq_some_iff.mp e).1
  rw [List.getElem?_eq_getElem hi] at h
  exact r H enc w base spare held n _ _ h fun hd' v hv => hd hd' v (List.mem_of_mem_drop (List.mem_of_mem_take hv))

theorem VT_app {σ ι w} : ∀ (xs ys : List AV) (us vs : List Value), VT σ ι w xs us → VT σ ι w ys vs → VT σ ι w (xs ++ ys) (us ++ vs)
  | [], _, _, _, h1, h2 => by simp only [VT] at h1; subst h1; exact h2
  | x :: xs, ys, us, vs, h1, h2 => by
    obtain ⟨u, us', rfl, hv, ht⟩ := h1
    exact ⟨u, us' ++ vs, rfl, hv, VT_app xs ys us' vs ht h2⟩

/-- A call of a pure function from an empty abstract heap. -/
theorem Pure.run {P : Program} {f : FuncId} {args : List AV} {x : AV} (h : Pure P f args x) {W : World} {vs : Array Value} (hv : VT [] (fun _ => none) W args vs.toList) :
    Calls P f vs W fun e w' => (∃ σ ι v, e = .returned v ∧ V σ ι w' x v) ∧ Below W.heap.size W w' :=
  ((h.at []).2 W.heap.size W (fun _ => none) W vs ⟨Below.refl _ _, Nat.le_refl _, by simp, by simp, by simp⟩ hv).mono fun _ _ ⟨r, σ', ι', v, e, q, k, _, hx⟩ => ⟨⟨σ', ι', v, e, q.1 ▸ hx⟩, k.below⟩
end Go.Sal
