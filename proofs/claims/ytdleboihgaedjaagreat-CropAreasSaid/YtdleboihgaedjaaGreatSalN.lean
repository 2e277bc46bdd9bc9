/- SalN: regions: in order, and in an order that is drawn; code; functions. -/
import Derived.Test.YtdleboihgaedjaaGreatSalM
namespace Go.Sal
open Go.RowKit

/-- The value that a guard looks at. -/
def gval (all : List Oper) (st : Tm) (j : Nat) (b : Bool) : AV := match (all[j]?).bind (·.dst) with
  | some d => match st d with
    | .bool t => .bool t
    | .skip => .bool (!b)
    | _ => .undef
  | none => .undef

def swL (P : Program) (md : List (Nat × Nat)) (all : List Oper) : List Oper → Tm → AHeap → (Tm → AHeap → Prop) → Prop
  | [], st, σ, K => K st σ
  | o :: r, st, σ, K => match o.guard with
    | none => aop P md st σ o (fun x σ' => swL P md all r (upd st o.dst x) σ' K)
    | some (j, b) => match gval all st j b with
      | .bool t => (t = b → aop P md st σ o (fun x σ' => swL P md all r (upd st o.dst x) σ' K)) ∧ (t = !b → swL P md all r (upd st o.dst .skip) σ K)
      | _ => False

/-- Operations in whatever order, none of which turns the abstract heap. -/
def swP (P : Program) (md : List (Nat × Nat)) (all : List Oper) : List Oper → Tm → AHeap → (Tm → Prop) → Prop
  | [], st, _, K => K st
  | o :: r, st, σ, K => match o.guard with
    | none => ∃ x, aop P md st σ o (fun y σ' => y = x ∧ σ' = σ) ∧ swP P md all r (upd st o.dst x) σ K
    | some (j, b) => match gval all st j b with
      | .bool t => (t = b → ∃ x, aop P md st σ o (fun y σ' => y = x ∧ σ' = σ) ∧ swP P md all r (upd st o.dst x) σ K) ∧ (t = !b → swP P md all r (upd st o.dst .skip) σ K)
      | _ => False

theorem wanted_of {N B w0 σ ι w st a} (hs : St N B w0 σ ι w st a) {ops : Array Oper} {o : Oper} {j : Nat} {b t : Bool} (hg : o.guard = some (j, b)) (hv : gval ops.toList st j b = .bool t) : Region.wanted o (yielded ops a.tmps) = (t == b) := by
  unfold gval at hv
  split at hv
  · rename_i d hd
    have h := hs.tm d
    have hd' : (ops[j]?).bind (·.dst) = some d := by rw [← Array.getElem?_toList]; exact hd
    split at hv
    · rename_i t' ht
      cases hv
      rw [ht] at h; simp only [V] at h
      have : a.tmps[d]? = some (.bool t) := by
        rw [Array.getD_eq_getD_getElem?] at h
        cases hh : a.tmps[d]? with
        | none => rw [hh] at h; simp [undef] at h
        | some v => rw [hh] at h; simp at h; rw [h]
      simp only [Region.wanted, hg, yielded, hd', Option.bind_some, this]
      cases t <;> cases b <;> rfl
    · rename_i ht
      cases hv
      rw [ht] at h; simp only [V] at h
      simp only [Region.wanted, hg, yielded, hd', Option.bind_some]
      cases hh : a.tmps[d]? with
      | none => cases b <;> rfl
      | some v =>
        rw [Array.getD_eq_getD_getElem?, hh] at h
        simp only [Option.getD_some] at h
        subst h
        cases b <;> rfl
    · cases hv
  · cases hv

/-- Every slot that is written is one of the frame's. -/
def opsOk (N : Nat) (ops : List Oper) : Bool := ops.all fun o => match o.dst with | none => true | some d => decide (d < N)

def codeOk (N : Nat) : Code → Bool
  | .region _ ops _ => opsOk N ops.toList
  | .seq a b => codeOk N a && codeOk N b
  | .cond _ a b => codeOk N a && codeOk N b
  | .block _ c => codeOk N c
  | .loop c => codeOk N c
  | _ => true

theorem opsOk_dst {N : Nat} {ops : List Oper} {i : Nat} {o : Oper} (h : opsOk N ops = true) (ho : ops[i]? = some o) : dOk N o.dst := by
  have := List.all_eq_true.1 h o (List.mem_of_getElem? ho)
  cases hd : o.dst with
  | none => trivial
  | some d => rw [hd] at this; simpa [dOk] using this

section
variable {P : Program} {N : Nat} {md : List (Nat × Nat)}

theorem swL_sound {ops : Array Oper} (hok : opsOk N ops.toList = true) : ∀ (r : List Oper) (i : Nat), ops.toList.drop i = r → ∀ (st : Tm) (σ : AHeap) (K : Tm → AHeap → Prop), swL P md ops.toList r st σ K →
    ∀ B w0 ι w a (Q : Exit → Act → World → Prop), St N B w0 σ ι w st a → (∀ st' σ' ι' a' w', K st' σ' → St N B w0 σ' ι' w' st' a' → Ext σ ι w σ' ι' w' → Q .normal a' w') →
      wpOps P ops Q (List.range' i r.length) a w
  | [], i, hd, st, σ, K, h, B, w0, ι, w, a, Q, hs, hq => by
    simp only [List.length_nil, List.range'_zero, wpOps]
    exact hq st σ ι a w h hs (Ext.refl _ _ _)
  | o :: r, i, hd, st, σ, K, h, B, w0, ι, w, a, Q, hs, hq => by
    have hoi : ops.toList[i]? = some o := by have := congrArg (·[0]?) hd; simpa [List.getElem?_drop] using this
    have hoa : ops[i]? = some o := by rw [← Array.getElem?_toList]; exact hoi
    have hdr : ops.toList.drop (i + 1) = r := by rw [← List.drop_drop, hd]; rfl
    have hdst := opsOk_dst hok hoi
    simp only [List.length_cons, List.range'_succ, wpOps, hoa]
    have doit : aop P md st σ o (fun x σ' => swL P md ops.toList r (upd st o.dst x) σ' K) → o.wp P a w (wpOps P ops Q (List.range' (i + 1) r.length)) Q := by
      intro h
      refine Oper.wp_mono ?_ (aop_sound h B w0 ι w a Q hs)
      rintro a' w' ⟨x, σ', ι', v, hk, rfl, hv, hr, he⟩
      exact swL_sound hok r (i + 1) hdr _ _ _ hk B w0 ι' w' _ Q (hs.put hdst hr he hv) fun st'' σ'' ι'' a'' w'' h1 h2 h3 => hq _ _ _ _ _ h1 h2 (he.trans h3)
    have skip : swL P md ops.toList r (upd st o.dst .skip) σ K → wpOps P ops Q (List.range' (i + 1) r.length) (a.put o.dst undef) w := by
      intro h
      exact swL_sound hok r (i + 1) hdr _ _ _ h B w0 ι w _ Q (hs.put_skip hdst) hq
    simp only [swL] at h
    split at h
    · rename_i hg
      rw [if_pos (by simp [Region.wanted, hg])]
      exact Or.inl (doit h)
    · rename_i j b hg
      split at h
      · rename_i t ht
        rw [wanted_of hs hg ht]
        by_cases e : t = b
        · rw [if_pos (by simp [e])]; exact Or.inl (doit (h.1 e))
        · rw [if_neg (by simp [e])]; exact skip (h.2 (by cases t <;> cases b <;> simp at e ⊢))
      · exact h.elim

theorem AW_region {id : Nat} {ops : Array Oper} {st : Tm} {σ : AHeap} {Q : Post} (hok : opsOk N ops.toList = true) (h : swL P md ops.toList ops.toList st σ (Q .normal)) : AW P N (.region id ops false) st σ Q := by
  intro B w0 ι w a hs
  refine wp_region ?_
  have := swL_sound hok ops.toList 0 (by simp) st σ (Q .normal) h B w0 ι w a (QC N B w0 σ ι w Q) hs fun st' σ' ι' a' w' h1 h2 h3 => ⟨.normal, st', σ', ι', rfl, h1, h2, h3⟩
  rw [Array.length_toList] at this
  rwa [List.range_eq_range']

end
end Go.Sal
