/- SalC: what an allocation and a store do to the relation. -/
import Derived.Test.YtdleboihgaedjaaGreatSalB
import Derived.Laws.World
import Derived.Laws.Cells
import Derived.Laws.IdiomCopy
namespace Go.Sal
open Go.RowKit

theorem VL_keep {σ ι w σ' ι' w'} (s : Step σ ι w σ' ι' w') : ∀ (xs : List AV) (b off : Nat), (∀ j, off ≤ j → j < off + xs.length → w'.cell? (at_ b j) = w.cell? (at_ b j)) → VL σ ι w b off xs → VL σ' ι' w' b off xs
  | [], _, _, _, _ => by simp [VL]
  | x :: xs, b, off, hc, h => by
    simp only [VL] at h ⊢
    obtain ⟨⟨v, h1, h2⟩, h3⟩ := h
    simp only [List.length_cons] at hc
    exact ⟨⟨v, by rw [hc off (Nat.le_refl _) (by omega)]; exact h1, V_mono s x v h2⟩, VL_keep s xs b (off + 1) (fun j h1 h2 => hc j (by omega) (by omega)) h3⟩

/-- The value of the cell with number `j`. -/
theorem VL_get {σ ι w} : ∀ (xs : List AV) (b off j : Nat) (x : AV), VL σ ι w b off xs → xs[j]? = some x → ∃ v, w.cell? (at_ b (off + j)) = some v ∧ V σ ι w x v
  | [], _, _, _, _, _, h => by simp at h
  | y :: ys, b, off, 0, x, h, e => by simp at e; subst e; simp only [VL] at h; exact h.1
  | y :: ys, b, off, j + 1, x, h, e => by
    simp only [VL] at h
    simp only [List.getElem?_cons_succ] at e
    have := VL_get ys b (off + 1) j x h.2 e
    rwa [show off + 1 + j = off + (j + 1) by omega] at this

theorem VL_cell {σ ι w} {xs : List AV} {b off j : Nat} (h : VL σ ι w b off xs) (hj : j < xs.length) : ∃ v, w.cell? (at_ b (off + j)) = some v := by
  obtain ⟨v, hv, _⟩ := VL_get xs b off j xs[j] h (List.getElem?_eq_getElem hj)
  exact ⟨v, hv⟩

theorem VL_ofGet {σ ι w} : ∀ (xs : List AV) (b off : Nat), (∀ j x, xs[j]? = some x → ∃ v, w.cell? (at_ b (off + j)) = some v ∧ V σ ι w x v) → VL σ ι w b off xs
  | [], _, _, _ => by simp [VL]
  | y :: ys, b, off, h => by
    simp only [VL]
    exact ⟨by simpa using h 0 y rfl, VL_ofGet ys b (off + 1) fun j x e => by have := h (j + 1) x (by simpa using e); rwa [show off + (j + 1) = off + 1 + j by omega] at this⟩

theorem VL_dropn {σ ι w} {xs : List AV} {b off : Nat} (n : Nat) (h : VL σ ι w b off xs) : VL σ ι w b (off + n) (xs.drop n) :=
  VL_ofGet _ _ _ fun j x e => by
    rw [List.getElem?_drop] at e
    have := VL_get xs b off (n + j) x h e
    rwa [show off + (n + j) = off + n + j by omega] at this

theorem VL_taken {σ ι w} {xs : List AV} {b off : Nat} (n : Nat) (h : VL σ ι w b off xs) : VL σ ι w b off (xs.take n) :=
  VL_ofGet _ _ _ fun j x e => by
    have : xs[j]? = some x := by
      rw [List.getElem?_take] at e
      split at e
      · exact e
      · cases e
    exact VL_get xs b off j x h this

theorem VT_length {σ ι w} : ∀ (xs : List AV) (vs : List Value), VT σ ι w xs vs → xs.length = vs.length
  | [], _, h => by simp only [VT] at h; subst h; rfl
  | x :: xs, vs, h => by
    simp only [VT] at h
    obtain ⟨u, us, rfl, _, h3⟩ := h
    simp [VT_length xs us h3]

theorem VT_get {σ ι w} : ∀ (xs : List AV) (vs : List Value) (j : Nat) (x : AV), VT σ ι w xs vs → xs[j]? = some x → ∃ v, vs[j]? = some v ∧ V σ ι w x v
  | [], _, _, _, _, h => by simp at h
  | y :: ys, vs, 0, x, h, e => by
    simp at e; subst e; simp only [VT] at h
    obtain ⟨u, us, rfl, h2, _⟩ := h
    exact ⟨u, rfl, h2⟩
  | y :: ys, vs, j + 1, x, h, e => by
    simp only [VT] at h
    obtain ⟨u, us, rfl, _, h3⟩ := h
    simpa using VT_get ys us j x h3 (by simpa using e)

theorem VT_ofGet {σ ι w} : ∀ (xs : List AV) (vs : List Value), xs.length = vs.length → (∀ (j : Nat) (x : AV) (v : Value), xs[j]? = some x → vs[j]? = some v → V σ ι w x v) → VT σ ι w xs vs
  | [], vs, h, _ => by cases vs <;> simp_all [VT]
  | x :: xs, [], h, _ => by simp at h
  | x :: xs, v :: vs, h, hh => by
    simp only [VT]
    exact ⟨v, vs, rfl, hh 0 x v rfl rfl, VT_ofGet xs vs (by simpa using h) fun j y u h1 h2 => hh (j + 1) y u (by simpa using h1) (by simpa using h2)⟩

theorem cell_new (w : World) (vs : Array Value) (t : TypeId) (j : Nat) : (w.alloc (.cells vs t)).cell? (at_ w.heap.size j) = vs[j]? := World.cell?_alloc_new w vs t j

theorem cell_old (w : World) (o : Obj) {b j : Nat} (h : b < w.heap.size) : (w.alloc o).cell? (at_ b j) = w.cell? (at_ b j) :=
  World.cell?_alloc_lt w o (at_ b j) h

theorem frozen_old (w : World) (o : Obj) {b j : Nat} (h : b < w.heap.size) : (w.alloc o).frozen? (at_ b j) = w.frozen? (at_ b j) :=
  World.frozen?_alloc_old w o (at_ b j) (by simp; omega)

theorem cell_lt {w : World} {b j : Nat} {v : Value} (h : w.cell? (at_ b j) = some v) : b < w.heap.size := World.block_lt_of_cell? w (at_ b j) h

/-- New objects, each in a block that was not there. -/
theorem Step.alloc {σ ι w} {l : AHeap} {ι' : Inj} (o : Obj) (hι : ∀ i, i < σ.length → ι' i = ι i) (hn : ∀ i b x, σ.length ≤ i → i < σ.length + l.length → ι' i = some (b, x) → w.heap.size ≤ b) :
    Step σ ι w (σ ++ l) ι' (w.alloc o) where
  size := by simp
  keepC := fun id cs h => ⟨hι id (some_lt h), cs, get_right l h, rfl⟩
  keepM := fun id es h => ⟨hι id (some_lt h), es, get_right l h⟩
  keepT := fun id n h => ⟨n, get_right l h, Nat.le_refl _, fun _ => hι id (some_lt h), fun b x' hx => Or.inl ⟨x', by rw [← hι id (some_lt h)]; exact hx, Nat.le_refl _⟩⟩
  fresh := fun id o' b x h1 h2 h3 => hn id b x (by simpa using h1) (by simpa using some_lt h2) h3
  cell := fun b j v h _ => by rw [cell_old w o (cell_lt h)]; exact h
  spare := fun id n b x _ _ _ j _ hc hf => by
    obtain ⟨v, hv⟩ := hc
    rw [cell_old w o (cell_lt hv), frozen_old w o (cell_lt hv)]
    exact ⟨⟨v, hv⟩, hf⟩
  keepH := fun id h b x hx => Or.inl (by rw [← hι id (some_lt h)]; exact hx)

theorem Ext.step {σ ι w σ' ι' w'} (s : Step σ ι w σ' ι' w') (h : σ.length ≤ σ'.length) : Ext σ ι w σ' ι' w' := ⟨h, V_mono s⟩

/-- Objects stay as they were where nobody wrote. -/
theorem ORel_keep {σ ι w σ' ι' w'} (s : Step σ ι w σ' ι' w') {p : Option (Nat × Nat)} {o : AObj} (hc : ∀ b y j, p = some (b, y) → b < w.heap.size → w'.cell? (at_ b j) = w.cell? (at_ b j) ∧ w'.frozen? (at_ b j) = w.frozen? (at_ b j))
    (hb : ∀ b y, p = some (b, y) → b < w.heap.size) (h : ORel σ ι w p o) : ORel σ' ι' w' p o := by
  cases o with
  | cells cs =>
    obtain ⟨b, y, e, hl, hf⟩ := h
    exact ⟨b, y, e, VL_keep s cs b 0 (fun j _ _ => (hc b y j e (hb b y e)).1) hl, fun j hj => by rw [(hc b y j e (hb b y e)).2]; exact hf j hj⟩
  | tok n => trivial
  | hole => exact h
  | map es => exact h.elim

/-- A new block that no object owns. -/
theorem Rel.imm {B w0 σ ι w} (h : Rel B w0 σ ι w) (o : Obj) : Rel B w0 σ ι (w.alloc o) ∧ Step σ ι w σ ι (w.alloc o) := by
  have s : Step σ ι w σ ι (w.alloc o) := by
    have := Step.alloc (σ := σ) (ι := ι) (w := w) (l := []) (ι' := ι) o (fun _ _ => rfl) (fun i b x h1 h2 => by simp at h2; omega)
    simpa using this
  refine ⟨⟨h.below.alloc h.hB o, by simp; have := h.hB; omega, fun id oo ho => ?_, fun id oo b x ho hi => ?_, h.inj⟩, s⟩
  · exact ORel_keep s (fun b y j _ hb => ⟨cell_old w o hb, frozen_old w o hb⟩) (fun b y e => (h.blk id oo b y ho e).2) (h.obj id oo ho)
  · have := h.blk id oo b x ho hi; simp; omega

/-- A new object. -/
theorem Rel.new {B w0 σ ι w} (h : Rel B w0 σ ι w) {cs : List AV} {vs : Array Value} (t : TypeId) (hv : VT σ ι w cs vs.toList) :
    ∃ ι', Rel B w0 (σ ++ [.cells cs]) ι' (w.alloc (.cells vs t)) ∧ Ext σ ι w (σ ++ [.cells cs]) ι' (w.alloc (.cells vs t)) ∧ ι' σ.length = some (w.heap.size, 0) := by
  let ι' : Inj := fun i => if i = σ.length then some (w.heap.size, 0) else ι i
  have hι : ∀ i, i < σ.length → ι' i = ι i := fun i hi => if_neg (by omega)
  have hn : ι' σ.length = some (w.heap.size, 0) := if_pos rfl
  have s : Step σ ι w (σ ++ [.cells cs]) ι' (w.alloc (.cells vs t)) := Step.alloc _ hι (fun i b x h1 h2 h3 => by
    have e : i = σ.length := by simp at h2; omega
    subst e; rw [hn] at h3; cases h3; exact Nat.le_refl _)
  have get : ∀ (id : Nat) (o : AObj), (σ ++ [AObj.cells cs])[id]? = some o → σ[id]? = some o ∨ (id = σ.length ∧ o = .cells cs) := by
    intro id o ho
    rcases Nat.lt_or_ge id σ.length with hl | hl
    · exact Or.inl (get_left ho hl)
    · have := some_lt ho
      simp at this
      have e : id = σ.length := by omega
      subst e
      simp at ho
      exact Or.inr ⟨rfl, ho.symm⟩
  refine ⟨ι', ⟨h.below.alloc h.hB _, by simp; have := h.hB; omega, fun id o ho => ?_, fun id o b x ho hi => ?_, fun i j oi oj b x y hi hj h1 h2 => ?_⟩, Ext.step s (by simp), hn⟩
  · rcases get id o ho with ho | ⟨rfl, rfl⟩
    · rw [hι id (some_lt ho)]
      exact ORel_keep s (fun b y j _ hb => ⟨cell_old w _ hb, frozen_old w _ hb⟩) (fun b y e => (h.blk id o b y ho e).2) (h.obj id o ho)
    · refine ⟨w.heap.size, 0, hn, VL_ofGet _ _ _ fun j x e => ?_, fun j _ => World.frozen?_alloc_new w vs t j⟩
      obtain ⟨v, hv1, hv2⟩ := VT_get cs _ j x hv e
      exact ⟨v, by rw [cell_new]; simpa using hv1, V_mono s x v hv2⟩
  · rcases get id o ho with ho | ⟨rfl, rfl⟩
    · rw [hι id (some_lt ho)] at hi
      have := h.blk id o b x ho hi; simp; omega
    · rw [hn] at hi; cases hi; have := h.hB; simp; omega
  · rcases get i oi hi with hi | ⟨rfl, rfl⟩ <;> rcases get j oj hj with hj | ⟨rfl, rfl⟩
    · rw [hι i (some_lt hi)] at h1; rw [hι j (some_lt hj)] at h2
      exact h.inj i j oi oj b x y hi hj h1 h2
    · rw [hι i (some_lt hi)] at h1; rw [hn] at h2; cases h2
      have := h.blk i oi _ _ hi h1; omega
    · rw [hι j (some_lt hj)] at h2; rw [hn] at h1; cases h1
      have := h.blk j oj _ _ hj h2; omega
    · rfl

end Go.Sal
