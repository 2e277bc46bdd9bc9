/- SalO: regions whose order is drawn. -/
import Derived.Test.YtdleboihgaedjaaGreatSalN
namespace Go.Sal
open Go.RowKit

section
variable {P : Program} {N : Nat} {md : List (Nat × Nat)}

theorem parts_congr {st st' : Tm} {parts : Array (Nat × Operand)} (e : ∀ x ∈ (parts.toList.map (·.2)), ev st' x = ev st x) :
    parts.toList.map (fun p => (p.1, ev st' p.2)) = parts.toList.map (fun p => (p.1, ev st p.2)) := by
  apply List.map_congr_left
  intro p hp
  rw [e p.2 (List.mem_map.2 ⟨p, hp, rfl⟩)]

theorem abound_congr {st st' : Tm} {d : Nat} {x : Option Operand} (e : ∀ y ∈ x.toArray.toList, ev st' y = ev st y) : abound st' d x = abound st d x := by
  cases x with
  | none => rfl
  | some y => simp only [abound]; rw [e y (by simp)]

/-- An operation looks at its operands alone. -/
theorem aopR_congr {st st' : Tm} {σ : AHeap} {o : Oper} (e : ∀ x ∈ o.op.operands.toList, ev st' x = ev st x) : aopR P md st' σ o = aopR P md st σ o := by
  unfold aopR
  generalize o.op = op at *
  cases op
  case move x => simp only [e x (by simp [Op.operands])]
  case assign x => simp only [e x (by simp [Op.operands])]
  case pick c x y => simp only [e c (by simp [Op.operands]), e x (by simp [Op.operands]), e y (by simp [Op.operands])]
  case alloc => rfl
  case box t x => simp only [e x (by simp [Op.operands])]
  case build t parts => simp only [parts_congr (st := st) (st' := st') (parts := parts) (fun x hx => e x (by simpa [Op.operands] using hx))]
  case buildSlice t len parts => simp only [parts_congr (st := st) (st' := st') (parts := parts) (fun x hx => e x (by simpa [Op.operands] using hx))]
  case load t x => simp only [e x (by simp [Op.operands])]
  case store t x y => simp only [e x (by simp [Op.operands]), e y (by simp [Op.operands])]
  case nilCheck x => simp only [e x (by simp [Op.operands])]
  case binOp op t x y t' => simp only [e x (by simp [Op.operands]), e y (by simp [Op.operands])]
  case unOp op t x => simp only [e x (by simp [Op.operands])]
  case convert s d x => simp only [e x (by simp [Op.operands])]
  case makeSlice t x y => simp only [e x (by simp [Op.operands]), e y (by simp [Op.operands])]
  case makeFunc fn first cap =>
    cases fn <;> try rfl
    simp only
    rw [List.map_congr_left (fun x hx => e x (by simp [Op.operands]; exact Or.inr (by simpa using hx)))]
  case fieldAddr s x f => simp only [e x (by simp [Op.operands])]
  case field s x f => simp only [e x (by simp [Op.operands])]
  case indexAddr t x i => simp only [e x (by simp [Op.operands]), e i (by simp [Op.operands])]
  case index t x i => simp only [e x (by simp [Op.operands]), e i (by simp [Op.operands])]
  case extract x i => simp only [e x (by simp [Op.operands])]
  case slice t x lo hi mx =>
    have h1 : ∀ d, abound st' d lo = abound st d lo := fun d => abound_congr fun y hy => e y (by simp [Op.operands] at hy ⊢; exact Or.inr (Or.inl hy))
    have h2 : ∀ d, abound st' d hi = abound st d hi := fun d => abound_congr fun y hy => e y (by simp [Op.operands] at hy ⊢; exact Or.inr (Or.inr (Or.inl hy)))
    have h3 : ∀ d, abound st' d mx = abound st d mx := fun d => abound_congr fun y hy => e y (by simp [Op.operands] at hy ⊢; exact Or.inr (Or.inr (Or.inr hy)))
    simp only [h1, h2, h3, e x (by simp [Op.operands])]
  case call c =>
    have ha : ∀ x ∈ c.args.toList, ev st' x = ev st x := fun x hx => e x (by simp [Op.operands, Call.operands]; exact Or.inr (by simpa using hx))
    cases hc : c.callee with
    | value f =>
      have hf : ev st' f = ev st f := e f (by simp [Op.operands, Call.operands, hc])
      simp only [hc, hf]
      rw [List.map_congr_left ha]
    | invoke r m => simp only [hc]
    | builtin b =>
      simp only [hc]
      rw [List.map_congr_left ha]
  all_goals rfl

theorem aop_congr {st st' : Tm} {σ : AHeap} {o : Oper} {K : AV → AHeap → Prop} (e : ∀ x ∈ o.op.operands.toList, ev st' x = ev st x) (h : aop P md st σ o K) : aop P md st' σ o K := by
  unfold aop at h ⊢
  rw [aopR_congr e]; exact h

theorem gval_congr {all : List Oper} {st st' : Tm} {j : Nat} {b : Bool} (e : ∀ d, (all[j]?).bind (·.dst) = some d → st' d = st d) : gval all st' j b = gval all st j b := by
  unfold gval
  split
  · rename_i d hd; rw [e d hd]
  · rfl

/-- Operation `o` waits for operation number `i`. -/
def direct (o : Oper) (i : Nat) : Bool := o.after.any fun e => e.on == i && Region.binds .any e

/-- The slots that an operation looks at. -/
def looks (all : List Oper) (o : Oper) : List Nat :=
  (o.op.operands.toList.filterMap fun | .tmp t => some t | _ => none) ++ (match o.guard with | some (g, _) => ((all[g]?).bind (·.dst)).toList | none => [])

/-- The first `n` operations may come in any order: each waits for those that write what it looks at; those behind them wait for all before. -/
def drawOk (all : List Oper) (n : Nat) : Bool :=
  all.zipIdx.all fun p => (p.1.after.all fun e => !Region.binds .any e || decide (e.on < p.2)) &&
    (if p.2 < n then all.zipIdx.all fun q => if q.2 < n then (match q.1.dst with
        | some d => (!(looks all p.1).contains d || direct p.1 q.2) && (q.2 == p.2 || p.1.dst != some d)
        | none => true) else true
      else (List.range p.2).all fun k => direct p.1 k)

theorem drawOk_get {all : List Oper} {n i : Nat} {o : Oper} (h : drawOk all n = true) (ho : all[i]? = some o) :
    (∀ e ∈ o.after, Region.binds .any e = true → e.on < i) ∧
    (i < n → ∀ k p d, k < n → all[k]? = some p → p.dst = some d → (d ∈ looks all o → direct o k = true) ∧ (k ≠ i → o.dst ≠ some d)) ∧
    (n ≤ i → ∀ k, k < i → direct o k = true) := by
  unfold drawOk at h
  have hm : (o, i) ∈ all.zipIdx := by
    rw [List.mem_zipIdx_iff_getElem?]; exact ho
  have h0 := List.all_eq_true.1 h _ hm
  simp only [Bool.and_eq_true] at h0
  refine ⟨fun e he hb => ?_, fun hi k p d hk hp hd => ?_, fun hi k hk => ?_⟩
  · have := Array.all_eq_true'.1 h0.1 e he
    simpa [hb] using this
  · have h1 := h0.2
    rw [if_pos hi] at h1
    have h2 := List.all_eq_true.1 h1 (p, k) (by rw [List.mem_zipIdx_iff_getElem?]; exact hp)
    simp only [hk, if_true, hd, Bool.and_eq_true, Bool.or_eq_true, beq_iff_eq, bne_iff_ne, ne_eq, Bool.not_eq_true'] at h2
    refine ⟨fun hl => ?_, fun hne => ?_⟩
    · rcases h2.1 with h3 | h3
      · have : (looks all o).contains d = true := by simpa using hl
        rw [this] at h3; cases h3
      · exact h3
    · rcases h2.2 with h3 | h3
      · exact absurd h3 hne
      · exact h3
  · have h1 := h0.2
    rw [if_neg (by omega)] at h1
    exact List.all_eq_true.1 h1 k (by simpa using hk)

/-- The state behind the first operations, one after the other. -/
def stF (dst : Nat → Option Nat) (xs : Nat → AV) (s : Tm) (i : Nat) : Nat → Tm
  | 0 => s
  | m + 1 => upd (stF dst xs s i m) (dst (i + m)) (xs (i + m))

theorem stF_shift (dst : Nat → Option Nat) (xs : Nat → AV) (s : Tm) (i m : Nat) : stF dst xs s i (m + 1) = stF dst xs (upd s (dst i) (xs i)) (i + 1) m := by
  induction m with
  | zero => rfl
  | succ m ih =>
    show upd (stF dst xs s i (m + 1)) (dst (i + (m + 1))) (xs (i + (m + 1))) = upd (stF dst xs (upd s (dst i) (xs i)) (i + 1) m) (dst (i + 1 + m)) (xs (i + 1 + m))
    rw [ih, show i + (m + 1) = i + 1 + m by omega]

theorem stF_ext (dst : Nat → Option Nat) (xs ys : Nat → AV) (s : Tm) (i : Nat) : ∀ m, (∀ k, i ≤ k → k < i + m → xs k = ys k) → stF dst xs s i m = stF dst ys s i m
  | 0, _ => rfl
  | m + 1, h => by simp only [stF]; rw [stF_ext dst xs ys s i m fun k h1 h2 => h k h1 (by omega), h (i + m) (by omega) (by omega)]

def dstOf (all : List Oper) (i : Nat) : Option Nat := (all[i]?).bind (·.dst)

/-- What a pure operation does at its place. -/
def stepOk (P : Program) (md : List (Nat × Nat)) (all : List Oper) (σ : AHeap) (o : Oper) (s : Tm) (x : AV) : Prop := match o.guard with
  | none => aop P md s σ o (fun y σ' => y = x ∧ σ' = σ)
  | some (j, b) => ∃ t, gval all s j b = .bool t ∧ ((t = b ∧ aop P md s σ o (fun y σ' => y = x ∧ σ' = σ)) ∨ (t = !b ∧ x = .skip))

theorem swP_trace {all : List Oper} {σ : AHeap} {K : Tm → Prop} : ∀ (r : List Oper) (i : Nat) (s : Tm), (all.drop i).take r.length = r → swP P md all r s σ K →
    ∃ xs : Nat → AV, K (stF (dstOf all) xs s i r.length) ∧ ∀ k, k < r.length → ∃ o, all[i + k]? = some o ∧ stepOk P md all σ o (stF (dstOf all) xs s i k) (xs (i + k))
  | [], i, s, _, h => ⟨fun _ => .undef, h, fun k hk => by simp at hk⟩
  | o :: r, i, s, hr, h => by
    have hoi : all[i]? = some o := by
      have := congrArg (·[0]?) hr
      simpa [List.getElem?_take, List.getElem?_drop] using this
    have hr' : (all.drop (i + 1)).take r.length = r := by
      have := congrArg List.tail hr
      rw [List.length_cons] at this
      simp only [List.tail_cons] at this
      rw [← this, ← List.drop_drop]
      cases hd : all.drop i with
      | nil => simp [hd] at hr
      | cons y ys => simp
    have hdst : dstOf all i = o.dst := by simp [dstOf, hoi]
    have go : ∀ x, swP P md all r (upd s o.dst x) σ K → stepOk P md all σ o s x → ∃ xs : Nat → AV, K (stF (dstOf all) xs s i (r.length + 1)) ∧ ∀ k, k < r.length + 1 → ∃ o, all[i + k]? = some o ∧ stepOk P md all σ o (stF (dstOf all) xs s i k) (xs (i + k)) := by
      intro x h1 h2
      obtain ⟨xs, h3, h4⟩ := swP_trace r (i + 1) _ hr' h1
      refine ⟨fun k => if k = i then x else xs k, ?_, fun k hk => ?_⟩
      · rw [stF_shift, hdst]
        simp only [if_true]
        rw [stF_ext _ _ xs _ _ _ fun k h1 _ => if_neg (by omega)]; exact h3
      · cases k with
        | zero => exact ⟨o, hoi, by simpa [stF] using h2⟩
        | succ k =>
          obtain ⟨o', h5, h6⟩ := h4 k (by omega)
          refine ⟨o', by rwa [show i + (k + 1) = i + 1 + k by omega], ?_⟩
          rw [stF_shift, hdst]
          simp only [if_true, show i + (k + 1) = i + 1 + k by omega, show ¬ (i + 1 + k = i) by omega, if_false]
          rw [stF_ext _ _ xs _ _ _ fun k h1 _ => if_neg (by omega)]; exact h6
    simp only [swP] at h
    simp only [List.length_cons]
    split at h
    · rename_i hg
      obtain ⟨x, h1, h2⟩ := h
      exact go x h2 (by simp only [stepOk, hg]; exact h1)
    · rename_i j b hg
      split at h
      · rename_i t ht
        by_cases e : t = b
        · obtain ⟨x, h1, h2⟩ := h.1 e
          exact go x h2 (by simp only [stepOk, hg]; exact ⟨t, ht, Or.inl ⟨e, h1⟩⟩)
        · have e' : t = !b := by cases t <;> cases b <;> simp at e ⊢
          exact go .skip (h.2 e') (by simp only [stepOk, hg]; exact ⟨t, ht, Or.inr ⟨e', by simp⟩⟩)
      · exact h.elim

end
end Go.Sal
