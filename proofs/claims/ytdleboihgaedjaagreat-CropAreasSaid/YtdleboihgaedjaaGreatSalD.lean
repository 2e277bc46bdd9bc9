/- SalD: what a store does to the relation; loads. -/
import Derived.Test.YtdleboihgaedjaaGreatSalC
namespace Go.Sal
open Go.RowKit

theorem setCells_size : ∀ (vs : List Value) (w : World) (b o : Nat), (w.setCells b o vs).heap.size = w.heap.size
  | [], _, _, _ => rfl
  | v :: vs, w, b, o => by simp only [World.setCells]; rw [setCells_size vs]; simp

theorem setCells_frozen : ∀ (vs : List Value) (w : World) (b o : Nat) (a : Addr), (w.setCells b o vs).frozen? a = w.frozen? a
  | [], _, _, _, _ => rfl
  | v :: vs, w, b, o, a => by simp only [World.setCells]; rw [setCells_frozen vs]; simp

theorem setCells_other : ∀ (vs : List Value) (w : World) (b o : Nat) (a : Addr), a.block ≠ b → (w.setCells b o vs).cell? a = w.cell? a
  | [], _, _, _, _, _ => rfl
  | v :: vs, w, b, o, a, h => by
    simp only [World.setCells]; rw [setCells_other vs _ _ _ _ h]
    exact World.cell?_setCell_other _ _ _ _ (fun e => h (by rw [← e]))

theorem setCells_out : ∀ (vs : List Value) (w : World) (b o j : Nat), j < o ∨ o + vs.length ≤ j → (w.setCells b o vs).cell? (at_ b j) = w.cell? (at_ b j)
  | [], _, _, _, _, _ => rfl
  | v :: vs, w, b, o, j, h => by
    simp only [List.length_cons] at h
    simp only [World.setCells]; rw [setCells_out vs _ _ _ _ (by omega)]
    exact World.cell?_setCell_other _ _ _ _ (by simp; omega)

theorem setCells_in : ∀ (vs : List Value) (w : World) (b o j : Nat) (u : Value), (∃ v, w.cell? (at_ b (o + j)) = some v) → vs[j]? = some u → (w.setCells b o vs).cell? (at_ b (o + j)) = some u
  | [], _, _, _, _, _, _, h => by simp at h
  | v :: vs, w, b, o, 0, u, ⟨x, hx⟩, h => by
    simp at h; subst h
    simp only [World.setCells]; rw [setCells_out vs _ _ _ _ (by omega)]
    exact World.cell?_setCell_same _ _ _ hx
  | v :: vs, w, b, o, j + 1, u, ⟨x, hx⟩, h => by
    simp only [World.setCells]
    rw [show o + (j + 1) = o + 1 + j by omega] at hx ⊢
    refine setCells_in vs _ b (o + 1) j u ⟨x, ?_⟩ (by simpa using h)
    rw [World.cell?_setCell_other _ _ _ _ (by simp; omega)]; exact hx

theorem setCells_below {B : Nat} {w0 : World} : ∀ (vs : List Value) (w : World) (b o : Nat), Below B w0 w → B ≤ b → Below B w0 (w.setCells b o vs)
  | [], _, _, _, h, _ => h
  | v :: vs, w, b, o, h, hb => by simp only [World.setCells]; exact setCells_below vs _ b (o + 1) (h.setCell hb _) hb

/-- `cs` with `ys` written from place `off` on. -/
def splice (cs : List AV) (off : Nat) (ys : List AV) : List AV := cs.take off ++ (ys ++ cs.drop (off + ys.length))

theorem splice_length {cs : List AV} {off : Nat} {ys : List AV} (h : off + ys.length ≤ cs.length) : (splice cs off ys).length = cs.length := by
  simp [splice]; omega

theorem splice_get {cs : List AV} {off : Nat} {ys : List AV} (h : off + ys.length ≤ cs.length) (j : Nat) :
    (splice cs off ys)[j]? = if j < off then cs[j]? else if j < off + ys.length then ys[j - off]? else cs[j]? := by
  unfold splice
  split
  · rw [List.getElem?_append_left (by simp; omega), List.getElem?_take, if_pos ‹_›]
  · rw [List.getElem?_append_right (by simp; omega)]
    have e : (cs.take off).length = off := by simp; omega
    rw [e]
    split
    · rw [List.getElem?_append_left (by omega)]
    · rw [List.getElem?_append_right (by omega), List.getElem?_drop]
      congr 1; omega

theorem get_set {α : Type} {l : List α} {i : Nat} {x : α} {j : Nat} (hi : i < l.length) : (l.set i x)[j]? = if j = i then some x else l[j]? := by
  rw [List.getElem?_set]
  split
  · rename_i e; subst e; simp
  · rename_i e; rw [if_neg (fun h => e h.symm)]

/-- A store into an object. -/
theorem Rel.store {B w0 σ ι w} (h : Rel B w0 σ ι w) {id : Nat} {cs ys : List AV} {vs : List Value} {b y off : Nat} (hid : σ[id]? = some (.cells cs)) (hi : ι id = some (b, y)) (hv : VT σ ι w ys vs) (hl : off + ys.length ≤ cs.length) :
    Rel B w0 (σ.set id (.cells (splice cs off ys))) ι (w.setCells b off vs) ∧ Ext σ ι w (σ.set id (.cells (splice cs off ys))) ι (w.setCells b off vs) := by
  have hlt := some_lt hid
  obtain ⟨b', y', e', hvl, hfr⟩ := h.obj id _ hid
  rw [hi] at e'; cases e'
  have hvlen := VT_length _ _ hv
  have other : ∀ b' j, b' ≠ b → (w.setCells b off vs).cell? (at_ b' j) = w.cell? (at_ b' j) := fun b' j hne => setCells_other _ _ _ _ _ hne
  have s : Step σ ι w (σ.set id (.cells (splice cs off ys))) ι (w.setCells b off vs) := by
    refine ⟨by rw [setCells_size]; exact Nat.le_refl _, fun i c hc => ⟨rfl, ?_⟩, fun i c hc => ⟨rfl, ?_⟩, fun i n hn => ⟨n, ?_, Nat.le_refl _, fun _ => rfl, fun b x hx => Or.inl ⟨x, hx, Nat.le_refl _⟩⟩, fun i o b' x h1 h2 => ?_, fun b' j v hc hs => ?_, fun i n b' x h1 _ h3 j _ hc hf => ?_, fun i _ b x hx => Or.inl hx⟩
    · rw [get_set hlt]
      split
      · rename_i e; subst e; rw [hid] at hc; cases hc; exact ⟨_, rfl, splice_length hl⟩
      · exact ⟨c, hc, rfl⟩
    · rw [get_set hlt]
      split
      · rename_i e; subst e; rw [hid] at hc; cases hc
      · exact ⟨c, hc⟩
    · rw [get_set hlt]
      split
      · rename_i e; subst e; rw [hid] at hn; cases hn
      · exact hn
    · rw [get_set hlt] at h2
      split at h2
      · rename_i e; subst e; rw [hid] at h1; cases h1
      · rw [h1] at h2; cases h2
    · have hne : b' ≠ b := by
        rintro rfl
        exact hs id _ y hid hi
      rw [other b' j hne]; exact hc
    · have hne : b' ≠ b := by
        rintro rfl
        have := h.inj i id _ _ _ _ _ h1 hid h3 hi
        subst this; rw [hid] at h1; cases h1
      rw [other b' j hne, setCells_frozen]
      exact ⟨hc, hf⟩
  have hB := h.blk id _ b y hid hi
  refine ⟨⟨setCells_below _ _ _ _ h.below hB.1, by rw [setCells_size]; exact h.hB, fun i o ho => ?_, fun i o b' x ho hi' => ?_, fun i j oi oj b' x z h1 h2 h3 h4 => ?_⟩, Ext.step s (by simp)⟩
  · rw [get_set hlt] at ho
    split at ho
    · rename_i e; subst e; cases ho
      refine ⟨b, y, hi, VL_ofGet _ _ _ fun j x e => ?_, fun j hj => by rw [setCells_frozen]; exact hfr j (by rwa [splice_length hl] at hj)⟩
      rw [splice_get hl] at e
      simp only [Nat.zero_add]
      split at e
      · obtain ⟨v, h1, h2⟩ := VL_get cs b 0 j x hvl e
        simp only [Nat.zero_add] at h1
        exact ⟨v, by rw [setCells_out _ _ _ _ _ (by omega)]; exact h1, V_mono s x v h2⟩
      · split at e
        · obtain ⟨v, h1, h2⟩ := VT_get ys vs _ x hv e
          obtain ⟨u, hu⟩ := VL_cell (j := j) hvl (by omega)
          simp only [Nat.zero_add] at hu
          have := setCells_in vs w b off (j - off) v (by rw [show off + (j - off) = j by omega]; exact ⟨u, hu⟩) h1
          rw [show off + (j - off) = j by omega] at this
          exact ⟨v, this, V_mono s x v h2⟩
        · obtain ⟨v, h1, h2⟩ := VL_get cs b 0 j x hvl e
          simp only [Nat.zero_add] at h1
          exact ⟨v, by rw [setCells_out _ _ _ _ _ (by omega)]; exact h1, V_mono s x v h2⟩
    · rename_i hne
      refine ORel_keep s (fun b' y' j e _ => ?_) (fun b' y' e => (h.blk i o b' y' ho e).2) (h.obj i o ho)
      have : b' ≠ b := by
        rintro rfl
        exact hne (h.inj i id _ _ _ _ _ ho hid e hi)
      exact ⟨other b' j this, setCells_frozen _ _ _ _ _⟩
  · rw [setCells_size]
    rw [get_set hlt] at ho
    split at ho
    · rename_i e; subst e; rw [hi] at hi'; cases hi'; exact hB
    · exact h.blk i o b' x ho hi'
  · rw [get_set hlt] at h1 h2
    have g : ∀ k ok, (if k = id then some (AObj.cells (splice cs off ys)) else σ[k]?) = some ok → ∃ o', σ[k]? = some o' := by
      intro k ok hk
      split at hk
      · rename_i e; subst e; exact ⟨_, hid⟩
      · exact ⟨_, hk⟩
    obtain ⟨o1, g1⟩ := g i oi h1
    obtain ⟨o2, g2⟩ := g j oj h2
    exact h.inj i j o1 o2 b' x z g1 g2 h3 h4

end Go.Sal
