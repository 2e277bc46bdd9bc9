/- SalF: operations, more: comparisons beyond numbers, addresses of parts, loads, stores, new variables, slices' elements, literals, calls. -/
import Derived.Test.YtdleboihgaedjaaGreatSalE
namespace Go.Sal
open Go.RowKit

section
variable {P : Program} {N : Nat} {σ : AHeap} {st : Tm} {o : Oper} {K : AV → AHeap → Prop}

theorem rmove {x : Operand} (ho : o.op = .move x ∨ o.op = .assign x) (hk : K (ev st x) σ) : AOp P N o st σ K :=
  AOp_pure _ (fun B w0 ι w a hs => ⟨a.eval x, by rcases ho with ho | ho <;> simp [execOp, ho], hs.ev x⟩) hk

theorem rpick {c x y : Operand} {t : Bool} (ho : o.op = .pick c x y) (hc : ev st c = .bool t) (hk : K (if t then ev st x else ev st y) σ) : AOp P N o st σ K :=
  AOp_pure _ (fun B w0 ι w a hs => by
    have h := hs.ev c
    rw [hc] at h; simp only [V] at h
    cases t with
    | true => exact ⟨a.eval x, by simp [execOp, ho, h, asBool], hs.ev x⟩
    | false => exact ⟨a.eval y, by simp [execOp, ho, h, asBool], hs.ev y⟩) hk

/-- The kinds of values that are held against nil. -/
inductive CK where
  | bool | ptr | slice | func

def ckOf : TypeDesc → Option CK
  | .bool => some .bool
  | .pointer _ => some .ptr
  | .slice _ => some .slice
  | .func .. => some .func
  | _ => none

def acmpB : AV → AV → Option Bool
  | .bool a, .bool b => some (a == b)
  | _, _ => none
def acmpP : AV → AV → Option Bool
  | .nilp, .nilp => some true
  | .nilp, .ref .. => some false
  | .nilp, .ipt _ => some false
  | .ref .., .nilp => some false
  | .ipt _, .nilp => some false
  | _, _ => none
def acmpS : AV → AV → Option Bool
  | .lst (some n) _ _, .lst (some true) [] .full => some n
  | _, _ => none
def acmpF : AV → AV → Option Bool
  | .nilfn, .nilfn => some true
  | .nilfn, .fn .. => some false
  | .fn .., .nilfn => some false
  | _, _ => none
/-- Comparisons of bools, pointers, slices and functions with nil. -/
def acmp : CK → AV → AV → Option Bool
  | .bool, x, y => acmpB x y
  | .ptr, x, y => acmpP x y
  | .slice, x, y => acmpS x y
  | .func, x, y => acmpF x y

theorem equalIn_bool (w : World) (d : Nat) (t : TypeId) (a b : Bool) (hu : P.underlying t = some .bool) : (Op.equalIn (d + 1) t (.bool a) (.bool b)).run P w = .ok (a == b) w := by
  simp [Op.equalIn, runderlying hu]
theorem equalIn_ptr (w : World) (d : Nat) (t e : TypeId) (x y : Option Addr) (hu : P.underlying t = some (.pointer e)) (h : x = none ∨ y = none) : (Op.equalIn (d + 1) t (.pointer x) (.pointer y)).run P w = .ok (x.isNone && y.isNone) w := by
  cases x <;> cases y <;> simp [Op.equalIn, runderlying hu] at h ⊢
theorem equalIn_slice (w : World) (d : Nat) (t e : TypeId) (x : Option Addr) (n c m : Nat) (hu : P.underlying t = some (.slice e)) : (Op.equalIn (d + 1) t (.slice x n c) (.slice none 0 m)).run P w = .ok x.isNone w := by
  cases x <;> simp [Op.equalIn, runderlying hu]
theorem equalIn_func (w : World) (d : Nat) (t : TypeId) (p r : Array TypeId) (va : Bool) (hu : P.underlying t = some (.func p r va)) (f g c : _) : (Op.equalIn (d + 1) t .nilFunc .nilFunc).run P w = .ok true w ∧ (Op.equalIn (d + 1) t .nilFunc (.func f g c)).run P w = .ok false w ∧ (Op.equalIn (d + 1) t (.func f g c) .nilFunc).run P w = .ok false w := by
  simp [Op.equalIn, runderlying hu]

theorem rcmp {op : BinOp} {t t' : TypeId} {d : TypeDesc} {ck : CK} {x y : Operand} {r : Bool} (ho : o.op = .binOp op t x y t') (hop : op = .eql ∨ op = .neq) (hd : (ti P t).desc = some d) (hck : ckOf d = some ck)
    (hr : acmp ck (ev st x) (ev st y) = some r) (hk : K (.bool (if op = .eql then r else !r)) σ) : AOp P N o st σ K := by
  refine AOp_pure _ (fun B w0 ι w a hs => ?_) hk
  obtain ⟨i, _, hu, _⟩ := ti_desc hd
  have hx := hs.ev x
  have hy := hs.ev y
  refine ⟨.bool (if op = .eql then r else !r), ?_, by simp [V]⟩
  simp only [execOp, ho]
  generalize ev st x = X at *
  generalize ev st y = Y at *
  generalize a.eval x = u at *
  generalize a.eval y = v at *
  cases d <;> simp [ckOf] at hck <;> subst hck <;> simp only [acmp] at hr
  case bool =>
    unfold acmpB at hr
    split at hr <;> simp at hr
    subst hr
    simp only [V] at hx hy; subst hx; subst hy
    rcases hop with rfl | rfl <;> simp [eqGuard, binOp, Op.equal, Op.maxDepth, equalIn_bool w 9999 _ _ _ hu]
  case pointer e =>
    have kl : ∀ q : Option Addr, (Op.equalIn 10000 t (.pointer none) (.pointer q)).run P w = .ok q.isNone w := fun q => by
      have := equalIn_ptr w 9999 t e none q hu (.inl rfl); simpa using this
    have kr : ∀ p : Option Addr, (Op.equalIn 10000 t (.pointer p) (.pointer none)).run P w = .ok p.isNone w := fun p => by
      have := equalIn_ptr w 9999 t e p none hu (.inr rfl); simpa using this
    unfold acmpP at hr
    split at hr <;> simp at hr <;> simp only [V] at hx hy <;> subst hr
    · subst hx; subst hy; rcases hop with rfl | rfl <;> simp [eqGuard, binOp, Op.equal, Op.maxDepth, kl]
    · obtain ⟨_, _, _, _, _, rfl⟩ := hy; subst hx; rcases hop with rfl | rfl <;> simp [eqGuard, binOp, Op.equal, Op.maxDepth, kl]
    · obtain ⟨_, _, rfl, _⟩ := hy; subst hx; rcases hop with rfl | rfl <;> simp [eqGuard, binOp, Op.equal, Op.maxDepth, kl]
    · obtain ⟨_, _, _, _, _, rfl⟩ := hx; subst hy; rcases hop with rfl | rfl <;> simp [eqGuard, binOp, Op.equal, Op.maxDepth, kr]
    · obtain ⟨_, _, rfl, _⟩ := hx; subst hy; rcases hop with rfl | rfl <;> simp [eqGuard, binOp, Op.equal, Op.maxDepth, kr]
  case slice e =>
    unfold acmpS at hr
    split at hr <;> simp at hr
    subst hr
    simp only [V] at hx hy
    obtain ⟨ax, cx, rfl, h2, _⟩ := hx
    obtain ⟨ay, cy, rfl, h3, _⟩ := hy
    cases ay with
    | some z => simp at h3
    | none => rcases hop with rfl | rfl <;> simp [eqGuard, binOp, Op.equal, Op.maxDepth, equalIn_slice w 9999 _ _ _ _ _ _ hu, h2]
  case func p q va =>
    unfold acmpF at hr
    split at hr <;> simp at hr <;> simp only [V] at hx hy
    · subst hr; subst hx; subst hy; rcases hop with rfl | rfl <;> simp [eqGuard, binOp, Op.equal, Op.maxDepth, (equalIn_func w 9999 t p q va hu (.func 0) #[] #[]).1]
    · obtain ⟨vs, rfl, _⟩ := hy
      subst hr; subst hx; rcases hop with rfl | rfl <;> simp [eqGuard, binOp, Op.equal, Op.maxDepth, (equalIn_func w 9999 t p q va hu _ _ _).2.1]
    · obtain ⟨vs, rfl, _⟩ := hx
      subst hr; subst hy; rcases hop with rfl | rfl <;> simp [eqGuard, binOp, Op.equal, Op.maxDepth, (equalIn_func w 9999 t p q va hu _ _ _).2.2]

end
end Go.Sal
