/- SalQ: code; functions. -/
import Derived.Test.YtdleboihgaedjaaGreatSalX
namespace Go.Sal
open Go.RowKit

/-- Operations that may turn the abstract heap: the first of them ends what may come in any order. -/
def effOp (md : List (Nat × Nat)) (o : Oper) : Bool := match o.op with
  | .store .. | .alloc .. | .box .. | .makeSlice .. | .makeMap .. | .mapUpdate .. | .insert .. => true
  | .buildSlice .. => inMd md (o.dst.getD 0)
  | .call c => match c.callee with
    | .builtin .append => !inMd md (o.dst.getD 0)
    | .builtin .copy => true
    | _ => false
  | _ => false

def preLen (md : List (Nat × Nat)) : List Oper → Nat
  | [] => 0
  | o :: r => if effOp md o then 0 else preLen md r + 1

theorem preLen_le (md : List (Nat × Nat)) : ∀ l : List Oper, preLen md l ≤ l.length
  | [] => Nat.le_refl _
  | o :: r => by
    have := preLen_le md r
    simp only [preLen, List.length_cons]
    split <;> omega

section
variable {P : Program} {N : Nat} {md : List (Nat × Nat)}

/-- The results, as the function's table of results says. -/
def rv1 (P : Program) (st : Tm) (σ : AHeap) : ResultVar → Option AV
  | .tmp t => some (st t)
  | .cell a t => match st a with
    | .ref id off => match σ[id]? with
      | some (.cells cs) => aload (ti P t) (cs.drop off)
      | _ => none
    | _ => none

def rvs (P : Program) (st : Tm) (σ : AHeap) : List ResultVar → Option (List AV)
  | [] => some []
  | r :: rs => match rv1 P st σ r, rvs P st σ rs with
    | some x, some xs => some (x :: xs)
    | _, _ => none

def rres : List AV → AV
  | [x] => x
  | xs => .tup xs

/-- One result, as the machine reads it. -/
def rvRun (tmps : Array Value) : ResultVar → Sem Value
  | .tmp t => pure (tmps.getD t undef)
  | .cell b t => do loadVar t (← asAddr (tmps.getD b undef))

theorem rv1_run {B w0 σ ι w st a} (hs : St N B w0 σ ι w st a) {r : ResultVar} {x : AV} (h : rv1 P st σ r = some x) :
    ∃ v, (rvRun a.tmps r).run P w = .ok v w ∧ V σ ι w x v := by
  cases r with
  | tmp t => simp only [rv1, Option.some.injEq] at h; subst h; exact ⟨_, rfl, hs.tm t⟩
  | cell b t =>
    simp only [rv1] at h
    split at h
    · rename_i id off e
      split at h
      · rename_i cs hid
        have hv := hs.tm b
        rw [e] at hv; simp only [V] at hv
        obtain ⟨cs', bb, y, h1, h2, h3⟩ := hv
        rw [hid] at h1; cases h1
        obtain ⟨b', y', e', hl, _⟩ := hs.rel.obj id _ hid
        rw [h2] at e'; cases e'
        have hl' := VL_dropn off hl
        rw [Nat.zero_add] at hl'
        obtain ⟨v, h4, h5⟩ := rloadVar (P := P) hl' h
        exact ⟨v, by simp [rvRun, h3, asAddr, h4], h5⟩
      · cases h
    · cases h

theorem rvs_run {B w0 σ ι w st a} (hs : St N B w0 σ ι w st a) : ∀ (rs : List ResultVar) (xs : List AV), rvs P st σ rs = some xs →
    ∃ vs, (rs.mapM (rvRun a.tmps)).run P w = .ok vs w ∧ VT σ ι w xs vs
  | [], xs, h => by simp only [rvs, Option.some.injEq] at h; subst h; exact ⟨[], by simp, by simp [VT]⟩
  | r :: rs, xs, h => by
    simp only [rvs] at h
    split at h
    · rename_i x xs' h1 h2
      cases h
      obtain ⟨v, h3, h4⟩ := rv1_run (P := P) hs h1
      obtain ⟨vs, h5, h6⟩ := rvs_run hs rs xs' h2
      refine ⟨v :: vs, ?_, by simp only [VT]; exact ⟨v, vs, rfl, h4, h6⟩⟩
      rw [List.mapM_cons]
      simp only [Sem.run_bind, h3, Result.andThen_ok, h5, Sem.run_pure]
    · cases h

/-- The frame of a call at its begin. -/
def ini (args : List AV) : Tm := fun t => args.getD t .undef

/-- How a call may end: with result `r` and heap `σ'`, which may be looked at anew. -/
def Fin (σ : AHeap) (R : AV → AHeap → Prop) (r : AV) (σ' : AHeap) : Prop := ∃ r' σ'', Less σ.length (fun _ => r) σ' (fun _ => r') σ'' ∧ R r' σ''

end
end Go.Sal
