/- SalV: structs held against one another. -/
import Derived.Test.YtdleboihgaedjaaGreatSalL
import Derived.Laws.StructEq
namespace Go.Sal
open Go.RowKit

inductive EK where
  | int | bool | str

/-- Which cells are held against one another, with the fields' plans put one behind the other. -/
def eqPlanL (P : Program) (g : TypeId → Option (List (Nat × EK))) (size : Nat) : List Field → Option (List (Nat × EK))
  | [] => some []
  | f :: fs => if f.name = "_" ∨ size < f.offset + (ti P f.type).size ∨ (ti P f.type).size = 0 then none else match g f.type, eqPlanL P g size fs with
    | some x, some y => if x.all fun p => p.1 < (ti P f.type).size then some (x.map (fun p => (f.offset + p.1, p.2)) ++ y) else none
    | _, _ => none
def eqPlan (P : Program) : Nat → TypeId → Option (List (Nat × EK))
  | 0, _ => none
  | n + 1, t => match (ti P t).desc with
    | some (.int _) => if (ti P t).size = 1 then some [(0, .int)] else none
    | some .bool => if (ti P t).size = 1 then some [(0, .bool)] else none
    | some .string => if (ti P t).size = 1 then some [(0, .str)] else none
    | some (.struct fs) => if P.stoodInHeld t then none else eqPlanL P (eqPlan P n) (ti P t).size fs.toList
    | _ => none

def aeq1 : EK → AV → AV → Option Bool
  | .int, .int k a, .int k' b => if k = k' then some (decide (a = b)) else none
  | .bool, .bool a, .bool b => some (a == b)
  | .str, .str a, .str b => some (a.toList == b.toList)
  | _, _, _ => none
def aeqC (cs ds : List AV) : List (Nat × EK) → Option Bool
  | [] => some true
  | (i, k) :: r => match cs[i]?, ds[i]? with
    | some x, some y => match aeq1 k x y, aeqC cs ds r with
      | some a, some b => some (a && b)
      | _, _ => none
    | _, _ => none

/-- A struct may be held against its like. -/
def eqOk (P : Program) (t : TypeId) : Option (List (Nat × EK)) := match (ti P t).desc with
  | some (.struct _) => if P.eqGuardType P.depth t then none else eqPlan P 8 t
  | _ => none

theorem aeqC_app {cs ds : List AV} : ∀ (p q : List (Nat × EK)) (r : Bool), aeqC cs ds (p ++ q) = some r → ∃ a b, aeqC cs ds p = some a ∧ aeqC cs ds q = some b ∧ r = (a && b)
  | [], q, r, h => ⟨true, r, rfl, h, by simp⟩
  | (i, k) :: p, q, r, h => by
    simp only [List.cons_append, aeqC] at h ⊢
    split at h
    · rename_i x y h1 h2
      split at h
      · rename_i a b h3 h4
        cases h
        obtain ⟨a', b', h5, h6, rfl⟩ := aeqC_app p q b h4
        refine ⟨a && a', b', ?_, h6, by cases a <;> simp⟩
        simp only [h3, h5]
      · cases h
    · cases h

theorem aeqC_shift {cs ds : List AV} {off size : Nat} : ∀ (p : List (Nat × EK)), (p.all fun q => q.1 < size) = true →
    aeqC cs ds (p.map fun q => (off + q.1, q.2)) = aeqC ((cs.drop off).take size) ((ds.drop off).take size) p
  | [], _ => rfl
  | (i, k) :: p, h => by
    simp only [List.all_cons, Bool.and_eq_true, decide_eq_true_eq] at h
    simp only [List.map_cons, aeqC, List.getElem?_take, h.1, if_true, List.getElem?_drop, aeqC_shift p h.2]

theorem take_one {cs : List AV} {off : Nat} {x : AV} (h : cs[off]? = some x) : (cs.drop off).take 1 = [x] := by
  have hlt : off < cs.length := by
    rcases Nat.lt_or_ge off cs.length with h' | h'
    · exact h'
    · rw [List.getElem?_eq_none h'] at h; cases h
  rw [List.drop_eq_getElem_cons hlt]
  rw [List.getElem?_eq_getElem hlt] at h; cases h
  simp only [List.take_succ_cons, List.take_zero]

section
variable {P : Program} {σ : AHeap} {ι : Inj} {w : World}

/-- What is to be shown of a type's plan. -/
def PlanOk (P : Program) (σ : AHeap) (ι : Inj) (w : World) (n : Nat) (t : TypeId) (plan : List (Nat × EK)) : Prop :=
  ∀ (d : Nat) (cs ds : List AV) (r : Bool) (x y : AV) (u v : Value), n ≤ d → cs.length = (ti P t).size → ds.length = (ti P t).size → aeqC cs ds plan = some r →
    aload (ti P t) cs = some x → aload (ti P t) ds = some y → V σ ι w x u → V σ ι w y v → (Op.equalIn d t u v).run P w = .ok r w

theorem eqPlan_pos : ∀ {n : Nat} {t : TypeId} {plan : List (Nat × EK)}, eqPlan P n t = some plan → ∃ d, (ti P t).desc = some d := by
  intro n t plan h
  cases n with
  | zero => simp [eqPlan] at h
  | succ n => simp only [eqPlan] at h; split at h <;> first | exact ⟨_, ‹_›⟩ | cases h

theorem aload_ok {T : TI} {d : TypeDesc} {cs : List AV} (h : T.desc = some d) (hl : T.size ≤ cs.length) (hs : T.size ≠ 0) : ∃ x, aload T cs = some x := by
  simp only [aload, h, hl, if_true]
  split
  · exact ⟨_, rfl⟩
  · cases cs with
    | nil => simp at hl; omega
    | cons c cs => exact ⟨c, rfl⟩

theorem aload_take {T : TI} {cs : List AV} {x : AV} (h : aload T cs = some x) (hs : T.size ≠ 0) : aload T (cs.take T.size) = some x := by
  cases hd : T.desc with
  | none => simp [aload, hd] at h
  | some d =>
    simp only [aload, hd] at h ⊢
    cases ha : isAggD d
    · simp only [ha, Bool.false_eq_true, if_false] at h ⊢
      rw [List.head?_take, if_neg hs]; exact h
    · simp only [ha, if_true] at h ⊢
      split at h
      · rw [if_pos (by simp; omega)]; rw [List.take_take, Nat.min_self]; exact h
      · cases h

theorem eqFields_ok {n : Nat} (ih : ∀ t plan, eqPlan P n t = some plan → PlanOk P σ ι w n t plan) {size : Nat} {us vs : Array Value} {cs ds : List AV} (hcs : cs.length = size) (hds : ds.length = size)
    (hu : VT σ ι w cs us.toList) (hv : VT σ ι w ds vs.toList) (d : Nat) (hn : n ≤ d) : ∀ (fs : List Field) (plan : List (Nat × EK)) (r : Bool), eqPlanL P (eqPlan P n) size fs = some plan → aeqC cs ds plan = some r →
    (Op.eqFields d us vs fs).run P w = .ok r w
  | [], plan, r, h, hr => by
    simp only [eqPlanL, Option.some.injEq] at h; subst h
    simp only [aeqC, Option.some.injEq] at hr; subst hr
    simp [Op.eqFields]
  | f :: fs, plan, r, h, hr => by
    simp only [eqPlanL] at h
    split at h
    · cases h
    · rename_i hf
      split at h
      · rename_i p q h1 h2
        split at h
        · rename_i h3
          cases h
          obtain ⟨a, b, h4, h5, rfl⟩ := aeqC_app _ _ _ hr
          rw [aeqC_shift p h3] at h4
          obtain ⟨dd, hd⟩ := eqPlan_pos h1
          obtain ⟨x, hx⟩ := aload_ok (cs := cs.drop f.offset) hd (by simp; omega) (by omega)
          obtain ⟨y, hy⟩ := aload_ok (cs := ds.drop f.offset) hd (by simp; omega) (by omega)
          obtain ⟨u, g1, g2⟩ := rpart (P := P) hu hx
          obtain ⟨v, g3, g4⟩ := rpart (P := P) hv hy
          have key := ih _ _ h1 d _ _ a x y u v hn (by simp; omega) (by simp; omega) h4 (aload_take hx (by omega)) (aload_take hy (by omega)) g2 g4
          have rest := eqFields_ok ih hcs hds hu hv d hn fs q b h2 h5
          simp only [Op.eqFields]
          rw [if_pos (by grind)]
          simp only [Sem.run_bind, g1, g3, Result.andThen_ok, key, Sem.run_ite]
          cases a
          · simp
          · simpa using rest
        · cases h
      · cases h

theorem eqPlan_ok : ∀ (n : Nat) (t : TypeId) (plan : List (Nat × EK)), eqPlan P n t = some plan → PlanOk P σ ι w n t plan
  | 0, t, plan, h => by simp [eqPlan] at h
  | n + 1, t, plan, h => by
    intro d cs ds r x y u v hn hcs hds hr hx hy hu hv
    obtain ⟨d, rfl⟩ : ∃ e, d = e + 1 := ⟨d - 1, by omega⟩
    simp only [eqPlan] at h
    have leaf : ∀ k, [(0, k)] = plan → isAggD ((ti P t).desc.getD .bool) = false → ∃ b, aeq1 k x y = some b ∧ r = b := by
      intro k e ha
      subst e
      simp only [aload] at hx hy
      cases hd : (ti P t).desc with
      | none => rw [hd] at hx; cases hx
      | some dd =>
        rw [hd] at hx hy ha
        simp only [Option.getD_some] at ha
        simp only [ha, Bool.false_eq_true, if_false] at hx hy
        rw [List.head?_eq_getElem?] at hx hy
        simp only [aeqC, hx, hy] at hr
        split at hr
        · rename_i a b h1 h2
          cases h2; cases hr
          exact ⟨a, h1, by simp⟩
        · cases hr
    split at h
    · rename_i k hd
      split at h <;> cases h
      obtain ⟨_, _, hun, _⟩ := ti_desc hd
      obtain ⟨b, h1, rfl⟩ := leaf .int rfl (by rw [hd]; rfl)
      cases x <;> cases y <;> simp [aeq1] at h1
      obtain ⟨rfl, rfl⟩ := h1
      simp only [V] at hu hv; subst hu; subst hv
      rw [run_equalIn_int w d t _ k _ _ hun]; congr 1
    · rename_i hd
      split at h <;> cases h
      obtain ⟨_, _, hun, _⟩ := ti_desc hd
      obtain ⟨b, h1, rfl⟩ := leaf .bool rfl (by rw [hd]; rfl)
      cases x <;> cases y <;> simp [aeq1] at h1
      subst h1
      simp only [V] at hu hv; subst hu; subst hv
      exact run_equalIn_bool' w d t _ _ hun
    · rename_i hd
      split at h <;> cases h
      obtain ⟨_, _, hun, _⟩ := ti_desc hd
      obtain ⟨b, h1, rfl⟩ := leaf .str rfl (by rw [hd]; rfl)
      cases x <;> cases y <;> simp [aeq1] at h1
      subst h1
      simp only [V] at hu hv; subst hu; subst hv
      exact run_equalIn_string w d t _ _ hun
    · rename_i fs hd
      split at h
      · cases h
      · rename_i hst
        obtain ⟨_, _, hun, _⟩ := ti_desc hd
        have hf : P.fieldsOf t = fs := by simp only [Program.fieldsOf, hun]
        simp only [aload, hd, isAggD, if_true] at hx hy
        rw [if_pos (by omega)] at hx hy
        cases hx; cases hy
        rw [List.take_of_length_le (by omega)] at hu hv
        simp only [V] at hu hv
        obtain ⟨us, rfl, hu⟩ := hu
        obtain ⟨vs, rfl, hv⟩ := hv
        rw [run_equalIn_agg w d t us vs (by rw [hf]; exact hun) (by simpa using hst), hf]
        exact eqFields_ok (eqPlan_ok n) hcs hds hu hv d (by omega) _ _ _ h hr
    · cases h

end

section
variable {P : Program} {N : Nat} {σ : AHeap} {st : Tm} {o : Oper} {K : AV → AHeap → Prop}

theorem rstructEq {op : BinOp} {t t' : TypeId} {x y : Operand} {cs ds : List AV} {plan : List (Nat × EK)} {r : Bool} (ho : o.op = .binOp op t x y t') (hop : op = .eql ∨ op = .neq) (hx : ev st x = .agg cs) (hy : ev st y = .agg ds)
    (hp : eqOk P t = some plan) (hcs : cs.length = (ti P t).size) (hds : ds.length = (ti P t).size) (hr : aeqC cs ds plan = some r) (hk : K (.bool (if op = .eql then r else !r)) σ) : AOp P N o st σ K := by
  refine AOp_pure _ (fun B w0 ι w a hs => ?_) hk
  have h1 := hs.ev x
  have h2 := hs.ev y
  rw [hx] at h1; rw [hy] at h2
  refine ⟨.bool (if op = .eql then r else !r), ?_, by simp [V]⟩
  simp only [eqOk] at hp
  split at hp
  case h_2 => cases hp
  rename_i fs hd
  split at hp
  · cases hp
  rename_i hg
  have hpo := eqPlan_ok (σ := σ) (ι := ι) (w := w) 8 t plan hp 10000 cs ds r (.agg cs) (.agg ds) (a.eval x) (a.eval y) (by omega) hcs hds hr
    (by simp only [aload, hd, isAggD, if_true]; rw [if_pos (by omega), List.take_of_length_le (by omega)]) (by simp only [aload, hd, isAggD, if_true]; rw [if_pos (by omega), List.take_of_length_le (by omega)]) h1 h2
  simp only [V] at h1 h2
  obtain ⟨us, e1, _⟩ := h1
  obtain ⟨vs, e2, _⟩ := h2
  rw [e1, e2] at hpo
  simp only [execOp, ho, e1, e2, Sem.run_bind, run_eqGuard_agg w op t x y us vs (by simpa using hg), Result.andThen_ok]
  rcases hop with rfl | rfl
  · simp [run_eql_struct, hpo]
  · simp [run_neq_struct, hpo]

end
end Go.Sal
