/- SalJ: append onto a slice that is the call's own, or that has no spare room. -/
import Derived.Test.YtdleboihgaedjaaGreatSalI
namespace Go.Sal
open Go.RowKit

section
variable {P : Program} {N : Nat} {σ : AHeap} {st : Tm} {o : Oper} {K : AV → AHeap → Prop}

/-- The type of what is appended: a slice or a string. -/
def notInt (d : TypeDesc) : Prop := d = .string ∨ ∃ e, d = .slice e

theorem append_room {w : World} {t t' e ty : TypeId} {d' : TypeDesc} {i : TypeInfo} (ht : P.underlying t = some (.slice e)) (ht' : P.underlying t' = some d') (hd' : notInt d') (hi : P.info? e = some i)
    {base : Option Addr} {sLen sCap m : Nat} {x : Value} {news : List Value} (hl : (Builtin.lenOf x).run P w = .ok m w) (hf : (Builtin.firstCells i.size m x).run P w = .ok news.toArray w) (hroom : sLen + m ≤ sCap)
    {w' : World} (hst : ∀ a, base = some a → (storeCells (a.add (sLen * i.size)) news).run P w = .ok () w') (hn : base = none → w' = w) :
    (Builtin.append_ #[t, t'] ty #[.slice base sLen sCap, x]).run P w = .ok (.slice base (sLen + m) sCap) w' := by
  cases base with
  | none =>
    rw [hn rfl]
    rcases hd' with rfl | ⟨e', rfl⟩ <;> simp [Builtin.append_, runderlying ht, runderlying ht', rsizeOf hi, hl, hroom, hf]
  | some a =>
    have := hst a rfl
    rcases hd' with rfl | ⟨e', rfl⟩ <;> simp [Builtin.append_, runderlying ht, runderlying ht', rsizeOf hi, hl, hroom, hf, this]

theorem append_grow {w : World} {t t' e ty : TypeId} {d' : TypeDesc} {i : TypeInfo} {z : Value} (ht : P.underlying t = some (.slice e)) (ht' : P.underlying t' = some d') (hd' : notInt d') (hi : P.info? e = some i) (hz : i.zero = some z)
    {base : Option Addr} {sLen sCap m : Nat} {x : Value} {olds news : List Value} (hl : (Builtin.lenOf x).run P w = .ok m w) (hf : (Builtin.firstCells i.size m x).run P w.drew = .ok news.toArray w.drew)
    (ho : (Builtin.firstCells i.size sLen (.slice base sLen sCap)).run P w.drew = .ok olds.toArray w.drew) (hg : sCap < sLen + m) (h63 : sLen + m ≤ maxLen) (hby : (sLen + m) * i.bytes ≤ 140737488355328) :
    (Builtin.append_ #[t, t'] ty #[.slice base sLen sCap, x]).run P w = .ok (.slice (some (at_ w.heap.size 0)) (sLen + m) (grownCap w (sLen + m) sCap e))
        (w.drew.alloc (.cells (olds.toArray ++ news.toArray ++ Builtin.zeroCells z.cells (grownCap w (sLen + m) sCap e - (sLen + m))) e)) := by
  have hn : ¬ (sLen + m ≤ sCap) := by omega
  have h63' : ¬ (9223372036854775807 < ((sLen : Int) + (m : Int))) := by simp only [maxLen] at h63; omega
  have h48' : ¬ (281474976710656 < Builtin.nextslicecap (sLen + m) sCap * i.bytes) := by have := growslice_fits (old := sCap) (by omega) hby; omega
  rcases hd' with rfl | ⟨e', rfl⟩ <;> simp [Builtin.append_, runderlying ht, runderlying ht', rsizeOf hi, rtypeInfo hi, rzeroValue hi hz, hl, hn, h63', h48', Question.forced, hf, ho, newRow, grownCap] <;> (congr 2; apply Array.ext'; simp [List.append_assoc])

/-- What a source of an append stands for: `m` elements, `news` their cells. -/
def Src (P : Program) (w : World) (size m : Nat) (x : Value) (news : List Value) : Prop :=
  (Builtin.lenOf x).run P w = .ok m w ∧ (Builtin.firstCells size m x).run P w = .ok news.toArray w ∧ (Builtin.firstCells size m x).run P w.drew = .ok news.toArray w.drew

theorem VLL_Src {w : World} {ι} {els : List (List AV)} {nl : Option Bool} {tok : Tok} {v : Value} {k : Nat} (h : V σ ι w (.lst nl els tok) v) (hk : ∀ el ∈ els, el.length = k) :
    ∃ news, VT σ ι w els.flatten news ∧ Src P w k els.length v news := by
  simp only [V] at h
  obtain ⟨a, cap, rfl, _, _, _, h5, h6⟩ := h
  cases a with
  | none =>
    have := h5 rfl
    subst this
    exact ⟨[], by simp [VT], by simp [Builtin.lenOf], by simp [Builtin.firstCells], by simp [Builtin.firstCells]⟩
  | some ad =>
    obtain ⟨b, off, kk, rfl, _, _, hl⟩ := h6 ad rfl
    obtain ⟨g1, g2⟩ := VLL_flat _ _ _ _ hl
    have e : els.length * k = els.length * kk := by
      cases els with
      | nil => simp
      | cons x xs =>
        simp only [VLL] at hl
        rw [← hl.1, hk x (by simp)]
    obtain ⟨vs, h1, h2⟩ := VL_values _ _ _ g1
    have hlen := VT_length _ _ h1
    refine ⟨vs, h1, by simp [Builtin.lenOf], ?_, ?_⟩
    · exact run_firstCells_some (P := P) w k els.length (at_ b off) els.length cap vs (by omega) fun j v hv => by rw [at_add]; exact h2 j v hv
    · exact run_firstCells_some (P := P) w.drew k els.length (at_ b off) els.length cap vs (by omega) fun j v hv => by rw [at_add]; exact h2 j v hv

theorem Rel.drew {B w0 ι w} (h : Rel B w0 σ ι w) : Rel B w0 σ ι w.drew ∧ Step σ ι w σ ι w.drew := by
  have s : Step σ ι w σ ι w.drew := {
    size := Nat.le_refl _
    keepC := fun id cs h => ⟨rfl, cs, h, rfl⟩
    keepM := fun id es h => ⟨rfl, es, h⟩
    keepT := fun id n h => ⟨n, h, Nat.le_refl _, fun _ => rfl, fun b x hx => Or.inl ⟨x, hx, Nat.le_refl _⟩⟩
    fresh := fun id o b x h1 h2 => by rw [h1] at h2; simp at h2
    cell := fun b j v h _ => h
    spare := fun id n b x _ _ _ j _ h1 h2 => ⟨h1, h2⟩
    keepH := fun id _ b x hx => Or.inl hx }
  exact ⟨⟨h.below.drew, h.hB, fun id oo ho => ORel_keep s (fun b y j _ _ => ⟨rfl, rfl⟩) (fun b y e => (h.blk id oo b y ho e).2) (h.obj id oo ho), h.blk, h.inj⟩, s⟩

/-- Where a token stands from now on: `p`. A token that was there moves on, or a new one is made. -/
def tokσ (σ : AHeap) (id n : Nat) : AHeap := if id < σ.length then σ.set id (.tok n) else σ ++ [.tok n]

theorem tokσ_get {id n : Nat} (hid : id ≤ σ.length) (j : Nat) : (tokσ σ id n)[j]? = if j = id then some (.tok n) else σ[j]? := by
  unfold tokσ
  split
  · rw [get_set ‹_›]
  · have e : id = σ.length := by omega
    subst e
    split
    · rename_i e; subst e; simp
    · rename_i hne
      rcases Nat.lt_or_ge j σ.length with hj | hj
      · rw [List.getElem?_append_left hj]
      · rw [List.getElem?_append_right hj, List.getElem?_eq_none (l := σ) hj, List.getElem?_eq_none]
        simp; omega

/-- A move of a token (or a new one), the world having changed at most in the token's own spare room, or by a new block. -/
theorem Rel.tok {B w0 ι w w'} (h : Rel B w0 σ ι w) {id n : Nat} {p : Option (Nat × Nat)} (hid : id ≤ σ.length) (hold : ∀ m, σ[id]? = some (.tok m) → m < n) (hkind : ∀ ob, σ[id]? = some ob → ∃ m, ob = .tok m)
    (hb : Below B w0 w') (hsz : w.heap.size ≤ w'.heap.size)
    (hp : ∀ b x, p = some (b, x) → (∃ y, ι id = some (b, y) ∧ id < σ.length ∧ y ≤ x) ∨ (w.heap.size ≤ b ∧ b < w'.heap.size))
    (hcell : ∀ b j, b < w.heap.size → (∀ y, ι id = some (b, y) → id < σ.length → j < y) → w'.cell? (at_ b j) = w.cell? (at_ b j) ∧ w'.frozen? (at_ b j) = w.frozen? (at_ b j)) :
    Rel B w0 (tokσ σ id n) (fun i => if i = id then p else ι i) w' ∧ Ext σ ι w (tokσ σ id n) (fun i => if i = id then p else ι i) w' := by
  have hget := tokσ_get (σ := σ) (n := n) hid
  have other : ∀ i ob b x, σ[i]? = some ob → i ≠ id → ι i = some (b, x) → ∀ y, ι id = some (b, y) → id < σ.length → False := by
    intro i ob b x h1 h2 h3 y h4 h5
    exact h2 (h.inj i id ob _ b x y h1 (List.getElem?_eq_getElem h5) h3 h4)
  have s : Step σ ι w (tokσ σ id n) (fun i => if i = id then p else ι i) w' := by
    refine ⟨hsz, fun i cs hc => ?_, fun i es hc => ?_, fun i m hm => ?_, fun i ob b x h1 h2 h3 => ?_, fun b j v hc hs => ?_, fun i m b x h1 h2 h3 j h4 h5 h6 => ?_, fun i hh b x hx => Or.inl ?_⟩
    · have hne : i ≠ id := by rintro rfl; obtain ⟨m, e⟩ := hkind _ hc; cases e
      exact ⟨if_neg hne, cs, by rw [hget, if_neg hne]; exact hc, rfl⟩
    · have hne : i ≠ id := by rintro rfl; obtain ⟨m, e⟩ := hkind _ hc; cases e
      exact ⟨if_neg hne, es, by rw [hget, if_neg hne]; exact hc⟩
    · by_cases hne : i = id
      · subst hne
        refine ⟨n, by rw [hget, if_pos rfl], Nat.le_of_lt (hold m hm), fun e => ?_, fun b x' hx => ?_⟩
        · have := hold m hm; omega
        · rw [if_pos rfl] at hx
          rcases hp b x' hx with ⟨y, h1, _, h3⟩ | ⟨h1, _⟩
          · exact Or.inl ⟨y, h1, h3⟩
          · exact Or.inr h1
      · exact ⟨m, by rw [hget, if_neg hne]; exact hm, Nat.le_refl _, fun _ => if_neg hne, fun b x' hx => Or.inl ⟨x', by rw [if_neg hne] at hx; exact hx, Nat.le_refl _⟩⟩
    · by_cases hne : i = id
      · subst hne
        rw [if_pos rfl] at h3
        rcases hp b x h3 with ⟨y, _, h5, _⟩ | ⟨h5, _⟩
        · rw [List.getElem?_eq_getElem h5] at h1; cases h1
        · exact h5
      · rw [hget, if_neg hne, h1] at h2; cases h2
    · rw [(hcell b j (cell_lt hc) fun y h1 h2 => ?_).1]; exact hc
      have := hs id _ y (List.getElem?_eq_getElem h2) h1
      obtain ⟨m, e⟩ := hkind _ (List.getElem?_eq_getElem h2)
      rw [e] at this
      simp at this; omega
    · by_cases hne : i = id
      · subst hne
        rw [hget, if_pos rfl] at h2
        have := hold m h1
        cases h2; omega
      · have hlt := (h.blk i _ b x h1 h3).2
        obtain ⟨g1, g2⟩ := hcell b j hlt (fun y h7 h8 => (other i _ b x h1 hne h3 y h7 h8).elim)
        rw [g1, g2]; exact ⟨h5, h6⟩
    · have hne : i ≠ id := by rintro rfl; obtain ⟨m, e⟩ := hkind _ hh; cases e
      rwa [if_neg hne] at hx
  refine ⟨⟨hb, Nat.le_trans h.hB hsz, fun i ob ho => ?_, fun i ob b x ho hi => ?_, fun i j oi oj b x y h1 h2 h3 h4 => ?_⟩, Ext.step s ?_⟩
  · rw [hget] at ho
    split at ho
    · cases ho; trivial
    · rename_i hne
      rw [if_neg hne]
      exact ORel_keep s (fun b y j e hlt => hcell b j hlt (fun z h7 h8 => (other i _ b y ho hne e z h7 h8).elim)) (fun b y e => (h.blk i ob b y ho e).2) (h.obj i ob ho)
  · rw [hget] at ho
    split at ho
    · rename_i e; subst e
      rw [if_pos rfl] at hi
      rcases hp b x hi with ⟨y, h1, h2, _⟩ | ⟨h1, h2⟩
      · have := h.blk i _ b y (List.getElem?_eq_getElem h2) h1; omega
      · have := h.hB; omega
    · rename_i hne
      rw [if_neg hne] at hi
      have := h.blk i ob b x ho hi; omega
  · rw [hget] at h1 h2
    by_cases e1 : i = id <;> by_cases e2 : j = id
    · omega
    · subst e1
      rw [if_neg e2] at h2; rw [if_pos rfl] at h3; rw [if_neg e2] at h4
      rcases hp b x h3 with ⟨z, g1, g2, _⟩ | ⟨g1, _⟩
      · exact (other j _ b y h2 e2 h4 z g1 g2).elim
      · have := h.blk j oj b y h2 h4; omega
    · subst e2
      rw [if_neg e1] at h1; rw [if_neg e1] at h3; rw [if_pos rfl] at h4
      rcases hp b y h4 with ⟨z, g1, g2, _⟩ | ⟨g1, _⟩
      · exact (other i _ b x h1 e1 h3 z g1 g2).elim
      · have := h.blk i oi b x h1 h3; omega
    · rw [if_neg e1] at h1 h3; rw [if_neg e2] at h2 h4
      exact h.inj i j oi oj b x y h1 h2 h3 h4
  · unfold tokσ; split <;> simp

end
end Go.Sal
