/- SalA: forgetting and dropping; the relation between the abstract heap and the world; the judgements on code and calls, and their structural rules. -/
import Derived.Test.YtdleboihgaedjaaGreatSal
namespace Go.Sal
open Go.RowKit

/-- What is left of what is known of spare room. -/
def cleanT (n : Nat) : Tok → Tok
  | .own id m k => if id < n then .own id m k else .none
  | .none => .none
  | .full => .full

mutual
/-- What is left of a value when only the first `n` objects stay. -/
def clean (n : Nat) : AV → AV
  | .ref id off => if id < n then .ref id off else .undef
  | .sl id off len k => if id < n then .sl id off len k else .undef
  | .map id => if id < n then .map id else .undef
  | .lst isnil els tok => .lst isnil (cleanLL n els) (cleanT n tok)
  | .ipt cells => .ipt (cleanL n cells)
  | .agg cells => .agg (cleanL n cells)
  | .tup xs => .tup (cleanL n xs)
  | .fn f xs => .fn f (cleanL n xs)
  | .iface t x => .iface t (clean n x)
  | .undef => .undef
  | .int k i => .int k i
  | .bool b => .bool b
  | .str s => .str s
  | .nilp => .nilp
  | .nilfn => .nilfn
  | .nilmap => .nilmap
  | .nilif => .nilif
  | .skip => .skip
def cleanL (n : Nat) : List AV → List AV
  | [] => []
  | x :: xs => clean n x :: cleanL n xs
def cleanLL (n : Nat) : List (List AV) → List (List AV)
  | [] => []
  | x :: xs => cleanL n x :: cleanLL n xs
end

def cleanO (n : Nat) : AObj → AObj
  | .cells cs => .cells (cleanL n cs)
  | .tok m => .tok m
  | .map es => .map (es.map fun e => (e.1, cleanL n e.2))
  | .hole => .hole

theorem cleanL_length (n : Nat) (xs : List AV) : (cleanL n xs).length = xs.length := by
  induction xs with
  | nil => rfl
  | cons x xs ih => simp [cleanL, ih]
theorem cleanLL_length (n : Nat) (xs : List (List AV)) : (cleanLL n xs).length = xs.length := by
  induction xs with
  | nil => rfl
  | cons x xs ih => simp [cleanLL, ih]
theorem cleanL_map (n : Nat) (xs : List AV) : cleanL n xs = xs.map (clean n) := by
  induction xs with
  | nil => rfl
  | cons x xs ih => simp [cleanL, ih]
theorem cleanLL_map (n : Nat) (xs : List (List AV)) : cleanLL n xs = xs.map (cleanL n) := by
  induction xs with
  | nil => rfl
  | cons x xs ih => simp [cleanLL, ih]

mutual
theorem clean_le {n m : Nat} (h : n ≤ m) : ∀ x : AV, clean n x = x → clean m x = x
  | .ref id off, e => by
    simp only [clean, cleanT, cleanT] at e ⊢
    split at e
    · rw [if_pos (by omega)]
    · cases e
  | .sl id off len k, e => by
    simp only [clean, cleanT, cleanT] at e ⊢
    split at e
    · rw [if_pos (by omega)]
    · cases e
  | .map id, e => by
    simp only [clean, cleanT, cleanT] at e ⊢
    split at e
    · rw [if_pos (by omega)]
    · cases e
  | .lst isnil els tok, e => by
    simp only [clean, cleanT, AV.lst.injEq, true_and] at e ⊢
    refine ⟨cleanLL_le h els e.1, ?_⟩
    cases tok with
    | none => rfl
    | full => rfl
    | own id q k =>
      have := e.2
      simp only at this ⊢
      split at this
      · rw [if_pos (by omega)]
      · cases this
  | .ipt cells, e => by simp only [clean, cleanT, AV.ipt.injEq] at e ⊢; exact cleanL_le h cells e
  | .agg cells, e => by simp only [clean, cleanT, AV.agg.injEq] at e ⊢; exact cleanL_le h cells e
  | .tup cells, e => by simp only [clean, cleanT, AV.tup.injEq] at e ⊢; exact cleanL_le h cells e
  | .fn f cells, e => by simp only [clean, cleanT, AV.fn.injEq, true_and] at e ⊢; exact cleanL_le h cells e
  | .iface t x, e => by simp only [clean, cleanT, AV.iface.injEq, true_and] at e ⊢; exact clean_le h x e
  | .undef, _ => rfl
  | .int .., _ => rfl
  | .bool _, _ => rfl
  | .str _, _ => rfl
  | .nilp, _ => rfl
  | .nilfn, _ => rfl
  | .nilmap, _ => rfl
  | .nilif, _ => rfl
  | .skip, _ => rfl
theorem cleanL_le {n m : Nat} (h : n ≤ m) : ∀ xs : List AV, cleanL n xs = xs → cleanL m xs = xs
  | [], _ => rfl
  | x :: xs, e => by
    simp only [cleanL, List.cons.injEq] at e ⊢
    exact ⟨clean_le h x e.1, cleanL_le h xs e.2⟩
theorem cleanLL_le {n m : Nat} (h : n ≤ m) : ∀ xs : List (List AV), cleanLL n xs = xs → cleanLL m xs = xs
  | [], _ => rfl
  | x :: xs, e => by
    simp only [cleanLL, List.cons.injEq] at e ⊢
    exact ⟨cleanL_le h x e.1, cleanLL_le h xs e.2⟩
end

theorem some_lt {α : Type} {l : List α} {i : Nat} {x : α} (h : l[i]? = some x) : i < l.length := by
  rcases Nat.lt_or_ge i l.length with h' | h'
  · exact h'
  · rw [List.getElem?_eq_none h'] at h; cases h

mutual
/-- What stands for a value names living objects alone. -/
theorem V_clean {σ ι w} : ∀ (x : AV) (v : Value), V σ ι w x v → clean σ.length x = x
  | .ref id off, v, h => by
    simp only [V] at h
    obtain ⟨cs, b, y, h1, _⟩ := h
    simp only [clean, cleanT, some_lt h1, if_true]
  | .sl id off len k, v, h => by
    simp only [V] at h
    obtain ⟨cs, b, y, cap, ad, h1, _⟩ := h
    simp only [clean, cleanT, some_lt h1, if_true]
  | .map id, v, h => by
    simp only [V] at h
    obtain ⟨es, b, y, h1, _⟩ := h
    simp only [clean, cleanT, some_lt h1, if_true]
  | .lst isnil els tok, v, h => by
    simp only [V] at h
    obtain ⟨a, cap, _, _, _, h4, h5, h6⟩ := h
    simp only [clean, cleanT, AV.lst.injEq, true_and]
    constructor
    · cases a with
      | none => rw [h5 rfl]; rfl
      | some ad => obtain ⟨b, off, k, _, _, _, h⟩ := h6 ad rfl; exact VLL_clean els b off k h
    · cases tok with
      | none => rfl
      | full => rfl
      | own id q k =>
        obtain ⟨_, ⟨m, hm, _⟩, _⟩ := h4
        simp only [some_lt hm, if_true]
  | .ipt cells, v, h => by
    simp only [V] at h
    obtain ⟨b, off, _, _, _, h⟩ := h
    simp only [clean, cleanT, AV.ipt.injEq]
    exact VL_clean cells b off h
  | .agg cells, v, h => by
    simp only [V] at h
    obtain ⟨vs, _, h⟩ := h
    simp only [clean, cleanT, AV.agg.injEq]
    exact VT_clean cells _ h
  | .tup cells, v, h => by
    simp only [V] at h
    obtain ⟨vs, _, h⟩ := h
    simp only [clean, cleanT, AV.tup.injEq]
    exact VT_clean cells _ h
  | .fn f cells, v, h => by
    simp only [V] at h
    obtain ⟨vs, _, h⟩ := h
    simp only [clean, cleanT, AV.fn.injEq, true_and]
    exact VT_clean cells _ h
  | .iface t x, v, h => by
    simp only [V] at h
    obtain ⟨u, _, h⟩ := h
    simp only [clean, cleanT, AV.iface.injEq, true_and]
    exact V_clean x u h
  | .undef, _, _ => rfl
  | .int .., _, _ => rfl
  | .bool _, _, _ => rfl
  | .str _, _, _ => rfl
  | .nilp, _, _ => rfl
  | .nilfn, _, _ => rfl
  | .nilmap, _, _ => rfl
  | .nilif, _, _ => rfl
  | .skip, _, _ => rfl
theorem VL_clean {σ ι w} : ∀ (xs : List AV) (b off : Nat), VL σ ι w b off xs → cleanL σ.length xs = xs
  | [], _, _, _ => rfl
  | x :: xs, b, off, h => by
    simp only [VL] at h
    obtain ⟨⟨v, _, h2⟩, h3⟩ := h
    simp only [cleanL, V_clean x v h2, VL_clean xs b (off + 1) h3]
theorem VLL_clean {σ ι w} : ∀ (xs : List (List AV)) (b off k : Nat), VLL σ ι w b off k xs → cleanLL σ.length xs = xs
  | [], _, _, _, _ => rfl
  | x :: xs, b, off, k, h => by
    simp only [VLL] at h
    simp only [cleanLL, VL_clean x b off h.2.1, VLL_clean xs b (off + k) k h.2.2]
theorem VT_clean {σ ι w} : ∀ (xs : List AV) (vs : List Value), VT σ ι w xs vs → cleanL σ.length xs = xs
  | [], _, _ => rfl
  | x :: xs, vs, h => by
    simp only [VT] at h
    obtain ⟨u, us, _, h2, h3⟩ := h
    simp only [cleanL, V_clean x u h2, VT_clean xs us h3]
end

theorem get_left {α : Type} {l r : List α} {i : Nat} {x : α} (h : (l ++ r)[i]? = some x) (hi : i < l.length) : l[i]? = some x := by
  rwa [List.getElem?_append_left hi] at h
theorem get_right {α : Type} {l : List α} (r : List α) {i : Nat} {x : α} (h : l[i]? = some x) : (l ++ r)[i]? = some x := by
  rw [List.getElem?_append_left (some_lt h)]; exact h

theorem Safe.drop {σ l : AHeap} {ι : Inj} {b hi : Nat} (h : Safe (σ ++ l) ι b hi) : Safe σ ι b hi :=
  fun id o x h1 h2 => h id o x (get_right l h1) h2

mutual
/-- The last objects may be dropped from sight. -/
theorem V_drop {σ l : AHeap} {ι w} : ∀ (x : AV) (v : Value), V (σ ++ l) ι w x v → V σ ι w (clean σ.length x) v
  | .ref id off, v, h => by
    simp only [V] at h
    obtain ⟨cs, b, y, h1, h2, h3⟩ := h
    simp only [clean, cleanT]
    split
    · simp only [V]; exact ⟨cs, b, y, get_left h1 ‹_›, h2, h3⟩
    · simp only [V]
  | .sl id off len k, v, h => by
    simp only [V] at h
    obtain ⟨cs, b, y, cap, ad, h1, h2, h3⟩ := h
    simp only [clean, cleanT]
    split
    · simp only [V]; exact ⟨cs, b, y, cap, ad, get_left h1 ‹_›, h2, h3⟩
    · simp only [V]
  | .map id, v, h => by
    simp only [V] at h
    obtain ⟨cs, b, y, h1, h2, h3⟩ := h
    simp only [clean, cleanT]
    split
    · simp only [V]; exact ⟨cs, b, y, get_left h1 ‹_›, h2, h3⟩
    · simp only [V]
  | .lst isnil els tok, v, h => by
    simp only [V] at h
    obtain ⟨a, cap, h1, h2, h3, h4, h5, h6⟩ := h
    simp only [clean, cleanT, V, cleanLL_length]
    refine ⟨a, cap, h1, h2, h3, ?_, fun ha => by rw [h5 ha]; rfl, fun ad had => ?_⟩
    · cases tok with
      | none => trivial
      | full => exact h4
      | own id q k =>
        simp only
        split
        · obtain ⟨e1, ⟨m, hm, hq⟩, e3⟩ := h4
          exact ⟨e1, ⟨m, get_left hm ‹_›, hq⟩, fun hh => e3 (get_right l hh)⟩
        · trivial
    · obtain ⟨b, off, k, e, hb, hs, hl⟩ := h6 ad had
      exact ⟨b, off, k, e, hb, hs.drop, VLL_drop els b off k hl⟩
  | .ipt cells, v, h => by
    simp only [V] at h
    obtain ⟨b, off, h1, hb, hs, hl⟩ := h
    simp only [clean, cleanT, V, cleanL_length]
    exact ⟨b, off, h1, hb, hs.drop, VL_drop cells b off hl⟩
  | .agg cells, v, h => by
    simp only [V] at h
    obtain ⟨vs, h1, h2⟩ := h
    simp only [clean, cleanT, V]
    exact ⟨vs, h1, VT_drop cells _ h2⟩
  | .tup cells, v, h => by
    simp only [V] at h
    obtain ⟨vs, h1, h2⟩ := h
    simp only [clean, cleanT, V]
    exact ⟨vs, h1, VT_drop cells _ h2⟩
  | .fn f cells, v, h => by
    simp only [V] at h
    obtain ⟨vs, h1, h2⟩ := h
    simp only [clean, cleanT, V]
    exact ⟨vs, h1, VT_drop cells _ h2⟩
  | .iface t x, v, h => by
    simp only [V] at h
    obtain ⟨u, h1, h2⟩ := h
    simp only [clean, cleanT, V]
    exact ⟨u, h1, V_drop x u h2⟩
  | .undef, _, _ => by simp [clean, V]
  | .int .., _, h => by simpa [clean, V] using h
  | .bool _, _, h => by simpa [clean, V] using h
  | .str _, _, h => by simpa [clean, V] using h
  | .nilp, _, h => by simpa [clean, V] using h
  | .nilfn, _, h => by simpa [clean, V] using h
  | .nilmap, _, h => by simpa [clean, V] using h
  | .nilif, _, h => by simpa [clean, V] using h
  | .skip, _, h => by simpa [clean, V] using h
theorem VL_drop {σ l : AHeap} {ι w} : ∀ (xs : List AV) (b off : Nat), VL (σ ++ l) ι w b off xs → VL σ ι w b off (cleanL σ.length xs)
  | [], _, _, _ => by simp [cleanL, VL]
  | x :: xs, b, off, h => by
    simp only [VL] at h
    obtain ⟨⟨v, h1, h2⟩, h3⟩ := h
    simp only [cleanL, VL]
    exact ⟨⟨v, h1, V_drop x v h2⟩, VL_drop xs b (off + 1) h3⟩
theorem VLL_drop {σ l : AHeap} {ι w} : ∀ (xs : List (List AV)) (b off k : Nat), VLL (σ ++ l) ι w b off k xs → VLL σ ι w b off k (cleanLL σ.length xs)
  | [], _, _, _, _ => by simp [cleanLL, VLL]
  | x :: xs, b, off, k, h => by
    simp only [VLL] at h
    simp only [cleanLL, VLL, cleanL_length]
    exact ⟨h.1, VL_drop x b off h.2.1, VLL_drop xs b (off + k) k h.2.2⟩
theorem VT_drop {σ l : AHeap} {ι w} : ∀ (xs : List AV) (vs : List Value), VT (σ ++ l) ι w xs vs → VT σ ι w (cleanL σ.length xs) vs
  | [], _, h => by simpa [cleanL, VT] using h
  | x :: xs, vs, h => by
    simp only [VT] at h
    obtain ⟨u, us, h1, h2, h3⟩ := h
    simp only [cleanL, VT]
    exact ⟨u, us, h1, V_drop x u h2, VT_drop xs us h3⟩
end

/-- What an object of the abstract heap says of the world. -/
def ORel (σ : AHeap) (ι : Inj) (w : World) (p : Option (Nat × Nat)) : AObj → Prop
  | .cells cs => ∃ b y, p = some (b, y) ∧ VL σ ι w b 0 cs ∧ ∀ j, j < cs.length → w.frozen? (at_ b j) = false
  | .tok _ => True
  | .map _ => False
  | .hole => p = none

/-- The abstract heap stands for the world; below block `B` the world is as `w0` was. -/
structure Rel (B : Nat) (w0 : World) (σ : AHeap) (ι : Inj) (w : World) : Prop where
  below : Below B w0 w
  hB : B ≤ w.heap.size
  obj : ∀ id o, σ[id]? = some o → ORel σ ι w (ι id) o
  blk : ∀ id o b x, σ[id]? = some o → ι id = some (b, x) → B ≤ b ∧ b < w.heap.size
  inj : ∀ i j oi oj b x y, σ[i]? = some oi → σ[j]? = some oj → ι i = some (b, x) → ι j = some (b, y) → i = j

/-- Each object names objects among the first `n` alone. -/
def Closed (n : Nat) (σ : AHeap) : Prop := ∀ (id : Nat) (o : AObj), σ[id]? = some o → cleanO n o = o

theorem cleanO_le {n m : Nat} (h : n ≤ m) (o : AObj) (e : cleanO n o = o) : cleanO m o = o := by
  cases o with
  | cells cs => simp only [cleanO, AObj.cells.injEq] at e ⊢; exact cleanL_le h cs e
  | tok n => rfl
  | hole => rfl
  | map es =>
    simp only [cleanO, AObj.map.injEq] at e ⊢
    induction es with
    | nil => rfl
    | cons x xs ih =>
      simp only [List.map_cons, List.cons.injEq] at e ⊢
      refine ⟨?_, ih e.2⟩
      have := e.1
      cases x with | mk a b => simp only [Prod.mk.injEq, true_and] at this ⊢; exact cleanL_le h b this

theorem Closed.le {n m : Nat} {σ : AHeap} (h : Closed n σ) (hn : n ≤ m) : Closed m σ := fun id o ho => cleanO_le hn o (h id o ho)

theorem Rel.closed {B w0 σ ι w} (h : Rel B w0 σ ι w) : Closed σ.length σ := by
  intro id o ho
  have := h.obj id o ho
  cases o with
  | cells cs => obtain ⟨b, y, _, hl, _⟩ := this; simp only [cleanO, VL_clean cs b 0 hl]
  | tok n => rfl
  | hole => rfl
  | map es => exact this.elim

theorem Rel.drop {B w0 ι w} {σ l : AHeap} (h : Rel B w0 (σ ++ l) ι w) (hc : Closed σ.length σ) : Rel B w0 σ ι w where
  below := h.below
  hB := h.hB
  obj := fun id o ho => by
    have h1 := h.obj id o (get_right l ho)
    cases o with
    | cells cs =>
      obtain ⟨b, y, e, hl, hf⟩ := h1
      refine ⟨b, y, e, ?_, hf⟩
      have := VL_drop cs b 0 hl
      have hcs := hc id _ ho
      simp only [cleanO, AObj.cells.injEq] at hcs
      rwa [hcs] at this
    | tok n => trivial
    | hole => trivial
    | map es => exact h1.elim
  blk := fun id o b x ho hi => h.blk id o b x (get_right l ho) hi
  inj := fun i j oi oj b x y hi hj => h.inj i j oi oj b x y (get_right l hi) (get_right l hj)

/-- Whatever stood for a value does so still. -/
def Ext (σ : AHeap) (ι : Inj) (w : World) (σ' : AHeap) (ι' : Inj) (w' : World) : Prop := σ.length ≤ σ'.length ∧ ∀ x v, V σ ι w x v → V σ' ι' w' x v

theorem Ext.refl (σ ι w) : Ext σ ι w σ ι w := ⟨Nat.le_refl _, fun _ _ h => h⟩
theorem Ext.trans {σ ι w σ' ι' w' σ'' ι'' w''} (h : Ext σ ι w σ' ι' w') (k : Ext σ' ι' w' σ'' ι'' w'') : Ext σ ι w σ'' ι'' w'' :=
  ⟨Nat.le_trans h.1 k.1, fun x v hx => k.2 x v (h.2 x v hx)⟩
theorem Ext.drop {σ ι w} {σ' l : AHeap} {ι' w'} (h : Ext σ ι w (σ' ++ l) ι' w') (hn : σ.length ≤ σ'.length) : Ext σ ι w σ' ι' w' :=
  ⟨hn, fun x v hx => by have := V_drop x v (h.2 x v hx); rwa [clean_le hn x (V_clean x v hx)] at this⟩

end Go.Sal
