/- SalE: operations: what each yields on abstract values, and that the machine does so (copies, arithmetic, addresses, loads, stores, new variables). -/
import Derived.Test.YtdleboihgaedjaaGreatSalD
import Derived.Laws.Sem
import Derived.Laws.StructEq
namespace Go.Sal
open Go.RowKit

/-- What is asked of a type's table row. -/
structure TI where
  desc : Option TypeDesc
  size : Nat
  bytes : Nat
  zero : Option (List AV)

def ti (P : Program) (t : TypeId) : TI := match P.info? t with
  | some i => { desc := P.underlying t, size := i.size, bytes := i.bytes, zero := i.zero.map fun v => v.cells.toList.map ofConst }
  | none => { desc := none, size := 0, bytes := 0, zero := none }

theorem ti_desc {P : Program} {t : TypeId} {d : TypeDesc} (h : (ti P t).desc = some d) : ∃ i, P.info? t = some i ∧ P.underlying t = some d ∧ (ti P t).size = i.size ∧ (ti P t).bytes = i.bytes := by
  unfold ti at h ⊢
  split at h
  · rename_i i hi; rw [hi]; exact ⟨i, rfl, h, rfl, rfl⟩
  · cases h

theorem ti_size {P : Program} {t : TypeId} (h : 0 < (ti P t).size) : ∃ i, P.info? t = some i ∧ (ti P t).size = i.size ∧ (ti P t).bytes = i.bytes := by
  unfold ti at h ⊢
  split at h
  · rename_i i hi; rw [hi]; exact ⟨i, rfl, rfl, rfl⟩
  · simp at h

theorem ti_zero {P : Program} {t : TypeId} {cs : List AV} (h : (ti P t).zero = some cs) : ∃ i v, P.info? t = some i ∧ i.zero = some v ∧ cs = v.cells.toList.map ofConst ∧ (ti P t).size = i.size ∧ (ti P t).bytes = i.bytes := by
  unfold ti at h ⊢
  split at h
  · rename_i i hi
    simp only [Option.map_eq_some_iff] at h
    obtain ⟨v, h1, h2⟩ := h
    rw [hi]; exact ⟨i, v, rfl, h1, h2.symm, rfl, rfl⟩
  · cases h

section runs
variable {P : Program} {w : World} {t : TypeId}
theorem rtypeInfo {i : TypeInfo} (h : P.info? t = some i) : (typeInfo t).run P w = .ok i w := by simp [typeInfo, h]
theorem rsizeOf {i : TypeInfo} (h : P.info? t = some i) : (sizeOf t).run P w = .ok i.size w := by simp [sizeOf, rtypeInfo h]
theorem runderlying {d : TypeDesc} (h : P.underlying t = some d) : (underlying t).run P w = .ok d w := by simp [underlying, h]
theorem rzeroValue {i : TypeInfo} {v : Value} (h : P.info? t = some i) (hz : i.zero = some v) : (zeroValue t).run P w = .ok v w := by simp [zeroValue, rtypeInfo h, hz]
end runs

def isAggD : TypeDesc → Bool
  | .struct _ | .array _ _ => true
  | _ => false

theorem risAgg {P : Program} {w : World} {t : TypeId} {d : TypeDesc} (h : P.underlying t = some d) : (isAgg t).run P w = .ok (isAggD d) w := by
  simp only [isAgg, Sem.run_bind, runderlying h, Result.andThen_ok]
  cases d <;> rfl

theorem at_add (b o n : Nat) : (at_ b o).add n = at_ b (o + n) := by
  unfold Addr.add
  split
  · rename_i h; subst h; rfl
  · rfl

theorem VL_values {σ ι w} : ∀ (xs : List AV) (b off : Nat), VL σ ι w b off xs → ∃ vs : List Value, VT σ ι w xs vs ∧ ∀ j v, vs[j]? = some v → w.cell? (at_ b (off + j)) = some v
  | [], _, _, _ => ⟨[], by simp [VT], by simp⟩
  | x :: xs, b, off, h => by
    simp only [VL] at h
    obtain ⟨⟨v, h1, h2⟩, h3⟩ := h
    obtain ⟨vs, h4, h5⟩ := VL_values xs b (off + 1) h3
    refine ⟨v :: vs, by simp only [VT]; exact ⟨v, vs, rfl, h2, h4⟩, fun j u hu => ?_⟩
    cases j with
    | zero => simp at hu; subst hu; exact h1
    | succ j => have := h5 j u (by simpa using hu); rwa [show off + 1 + j = off + (j + 1) by omega] at this

theorem rloadCells {P σ ι w} {xs : List AV} {b off : Nat} (h : VL σ ι w b off xs) : ∃ vs : List Value, VT σ ι w xs vs ∧ (loadCells (at_ b off) xs.length).run P w = .ok vs.toArray w := by
  obtain ⟨vs, h1, h2⟩ := VL_values xs b off h
  refine ⟨vs, h1, ?_⟩
  rw [VT_length _ _ h1]
  exact run_loadCells_list w _ vs fun j v hv => by rw [at_add]; exact h2 j v hv

/-- A variable of a type, read out of a row of cells. -/
def aload (T : TI) (cs : List AV) : Option AV := match T.desc with
  | some d => if isAggD d then (if T.size ≤ cs.length then some (.agg (cs.take T.size)) else none) else cs.head?
  | none => none

theorem rloadVar {P σ ι w} {t : TypeId} {cs : List AV} {b off : Nat} {r : AV} (h : VL σ ι w b off cs) (hr : aload (ti P t) cs = some r) : ∃ v, (loadVar t (at_ b off)).run P w = .ok v w ∧ V σ ι w r v := by
  unfold aload at hr
  cases hd : (ti P t).desc with
  | none => rw [hd] at hr; cases hr
  | some d =>
    obtain ⟨i, hi, hu, hs, _⟩ := ti_desc hd
    rw [hd] at hr
    simp only at hr
    simp only [loadVar, Sem.run_bind, risAgg hu, Result.andThen_ok]
    split at hr
    · rename_i ha
      split at hr
      · cases hr
        obtain ⟨vs, h1, h2⟩ := rloadCells (P := P) (VL_taken (ti P t).size h)
        have e : (cs.take (ti P t).size).length = i.size := by rw [List.length_take, hs]; omega
        rw [e] at h2
        refine ⟨.agg vs.toArray, ?_, by simp only [V]; exact ⟨_, rfl, by simpa using h1⟩⟩
        simp [ha, rsizeOf hi, h2]
      · cases hr
    · rename_i ha
      cases cs with
      | nil => cases hr
      | cons c cs =>
        simp at hr; subst hr
        simp only [VL] at h
        obtain ⟨⟨v, h1, h2⟩, _⟩ := h
        refine ⟨v, ?_, h2⟩
        simp [ha, run_load, h1]

/-- The cells of a value that is one variable's. -/
def vcells : AV → Option (List AV)
  | .agg cs => some cs
  | .undef => none
  | .skip => none
  | .tup _ => none
  | x => some [x]

def one : AV → Bool
  | .agg _ | .undef | .skip | .tup _ => false
  | _ => true

theorem V_one {σ ι w} : ∀ {x : AV} {v : Value}, one x = true → V σ ι w x v → v.oneCell' = true ∧ v.cells = #[v]
  | .int .., v, _, h => by simp only [V] at h; subst h; exact ⟨rfl, rfl⟩
  | .bool _, v, _, h => by simp only [V] at h; subst h; exact ⟨rfl, rfl⟩
  | .str _, v, _, h => by simp only [V] at h; subst h; exact ⟨rfl, rfl⟩
  | .nilp, v, _, h => by simp only [V] at h; subst h; exact ⟨rfl, rfl⟩
  | .ref .., v, _, h => by simp only [V] at h; obtain ⟨_, _, _, _, _, rfl⟩ := h; exact ⟨rfl, rfl⟩
  | .lst .., v, _, h => by simp only [V] at h; obtain ⟨_, _, rfl, _⟩ := h; exact ⟨rfl, rfl⟩
  | .sl .., v, _, h => by simp only [V] at h; obtain ⟨_, _, _, _, _, _, _, rfl, _⟩ := h; exact ⟨rfl, rfl⟩
  | .ipt _, v, _, h => by simp only [V] at h; obtain ⟨_, _, rfl, _⟩ := h; exact ⟨rfl, rfl⟩
  | .fn .., v, _, h => by simp only [V] at h; obtain ⟨_, rfl, _⟩ := h; exact ⟨rfl, rfl⟩
  | .nilfn, v, _, h => by simp only [V] at h; subst h; exact ⟨rfl, rfl⟩
  | .nilmap, v, _, h => by simp only [V] at h; subst h; exact ⟨rfl, rfl⟩
  | .map _, v, _, h => by simp only [V] at h; obtain ⟨_, _, _, _, _, rfl⟩ := h; exact ⟨rfl, rfl⟩
  | .iface .., v, _, h => by simp only [V] at h; obtain ⟨_, rfl, _⟩ := h; exact ⟨rfl, rfl⟩
  | .nilif, v, _, h => by simp only [V] at h; subst h; exact ⟨rfl, rfl⟩

theorem V_cells {σ ι w} {x : AV} {v : Value} {cs : List AV} (h : V σ ι w x v) (hc : vcells x = some cs) : VT σ ι w cs v.cells.toList := by
  by_cases ho : one x = true
  · have := (V_one ho h).2
    rw [this]
    cases x <;> simp [vcells, one] at hc ho <;> (subst hc; simp only [VT]; exact ⟨v, [], rfl, h, rfl⟩)
  · cases x <;> simp [vcells, one] at hc ho
    subst hc
    simp only [V] at h
    obtain ⟨vs, rfl, h2⟩ := h
    exact h2

theorem VT_one {σ ι w} : ∀ {xs : List AV} {vs : List Value}, xs.all one = true → VT σ ι w xs vs → ∀ v ∈ vs, v.oneCell' = true
  | [], vs, _, h => by simp only [VT] at h; subst h; simp
  | x :: xs, vs, ha, h => by
    simp only [VT] at h
    obtain ⟨u, us, rfl, h2, h3⟩ := h
    simp only [List.all_cons, Bool.and_eq_true] at ha
    intro v hv
    cases hv with
    | head => exact (V_one ha.1 h2).1
    | tail _ hv => exact VT_one ha.2 h3 v hv

/-- The judgement on one operation: what it yields and the heap behind it meet `K`. -/
def AOp (P : Program) (N : Nat) (o : Oper) (st : Tm) (σ : AHeap) (K : AV → AHeap → Prop) : Prop :=
  ∀ B w0 ι w a (Q : Exit → Act → World → Prop), St N B w0 σ ι w st a →
    o.wp P a w (fun a' w' => ∃ x σ' ι' v, K x σ' ∧ a' = a.put o.dst v ∧ V σ' ι' w' x v ∧ Rel B w0 σ' ι' w' ∧ Ext σ ι w σ' ι' w') Q

theorem AOp_pure {P N o st σ} {K : AV → AHeap → Prop} (x : AV) (h : ∀ B w0 ι w a, St N B w0 σ ι w st a → ∃ v, (execOp a.eval o).run P w = .ok (.value v) w ∧ V σ ι w x v) (hk : K x σ) : AOp P N o st σ K := by
  intro B w0 ι w a Q hs
  obtain ⟨v, h1, h2⟩ := h B w0 ι w a hs
  unfold Oper.wp; rw [h1]
  exact ⟨x, σ, ι, v, hk, rfl, h2, hs.rel, Ext.refl _ _ _⟩

theorem AOp_val {P N o st σ} {K : AV → AHeap → Prop} (x : AV) (σ' : AHeap) (h : ∀ B w0 ι w a, St N B w0 σ ι w st a → ∃ v ι' w', (execOp a.eval o).run P w = .ok (.value v) w' ∧ V σ' ι' w' x v ∧ Rel B w0 σ' ι' w' ∧ Ext σ ι w σ' ι' w') (hk : K x σ') : AOp P N o st σ K := by
  intro B w0 ι w a Q hs
  obtain ⟨v, ι', w', h1, h2, h3, h4⟩ := h B w0 ι w a hs
  unfold Oper.wp; rw [h1]
  exact ⟨x, σ', ι', v, hk, rfl, h2, h3, h4⟩

/-- Whole numbers. -/
def bitsOf (op : BinOp) (k : IntKind) (x y : Int) : Int := match op with
  | .and => k.wrap ((BitVec.ofInt k.bits x &&& BitVec.ofInt k.bits y).toNat)
  | .or => k.wrap ((BitVec.ofInt k.bits x ||| BitVec.ofInt k.bits y).toNat)
  | .xor => k.wrap ((BitVec.ofInt k.bits x ^^^ BitVec.ofInt k.bits y).toNat)
  | _ => k.wrap ((BitVec.ofInt k.bits x &&& ~~~BitVec.ofInt k.bits y).toNat)

def abin (op : BinOp) (x y : AV) : Option (Prop × AV) := match x, y with
  | .int k a, .int k' b => match op with
    | .shl => some (0 ≤ b, .int k (k.wrap (a * 2 ^ (min b.toNat k.bits))))
    | .shr => some (0 ≤ b, .int k (a.fdiv (2 ^ (min b.toNat k.bits))))
    | .add => some (k = k', .int k (k.wrap (a + b)))
    | .sub => some (k = k', .int k (k.wrap (a - b)))
    | .mul => some (k = k', .int k (k.wrap (a * b)))
    | .quo => some (k = k' ∧ b ≠ 0, .int k (k.wrap (a.tdiv b)))
    | .rem => some (k = k' ∧ b ≠ 0, .int k (a.tmod b))
    | .and => some (k = k', .int k (bitsOf .and k a b))
    | .or => some (k = k', .int k (bitsOf .or k a b))
    | .xor => some (k = k', .int k (bitsOf .xor k a b))
    | .andNot => some (k = k', .int k (bitsOf .andNot k a b))
    | .eql => some (k = k', .bool (a == b))
    | .neq => some (k = k', .bool (a != b))
    | .lss => some (k = k', .bool (decide (a < b)))
    | .leq => some (k = k', .bool (decide (a ≤ b)))
    | .gtr => some (k = k', .bool (decide (a > b)))
    | .geq => some (k = k', .bool (decide (a ≥ b)))
  | .str a, .str b => match op with
    | .eql => some (True, .bool (a.toList == b.toList))
    | .neq => some (True, .bool (!(a.toList == b.toList)))
    | .lss => some (True, .bool (Op.bytesLess a.toList b.toList))
    | .leq => some (True, .bool (Op.bytesLess a.toList b.toList || a.toList == b.toList))
    | .gtr => some (True, .bool (!(Op.bytesLess a.toList b.toList || a.toList == b.toList)))
    | .geq => some (True, .bool (!Op.bytesLess a.toList b.toList))
    | _ => none
  | _, _ => none

theorem rbin {P : Program} {N : Nat} {σ : AHeap} {st : Tm} {o : Oper} {op : BinOp} {t t' : TypeId} {x y : Operand} {p : Prop} {r : AV} {K : AV → AHeap → Prop} (ho : o.op = .binOp op t x y t')
    (hb : abin op (ev st x) (ev st y) = some (p, r)) (hp : p) (hk : K r σ) : AOp P N o st σ K := by
  refine AOp_pure r (fun B w0 ι w a hs => ?_) hk
  have hx := hs.ev x
  have hy := hs.ev y
  simp only [execOp, ho]
  unfold abin at hb
  split at hb
  · rename_i k m k' n e1 e2
    rw [e1] at hx; rw [e2] at hy
    simp only [V] at hx hy
    rw [hx, hy]
    split at hb <;> cases hb
    case h_1 => refine ⟨_, ?_, by simp [V]; rfl⟩; simp [eqGuard, binOp, Op.shift, Int.not_lt.2 hp]
    case h_2 => refine ⟨_, ?_, by simp [V]; rfl⟩; simp [eqGuard, binOp, Op.shift, Int.not_lt.2 hp]
    case h_6 => obtain ⟨rfl, hp⟩ := hp; refine ⟨_, ?_, by simp [V]; rfl⟩; simp [eqGuard, binOp, Op.intDiv, hp]
    case h_7 => obtain ⟨rfl, hp⟩ := hp; refine ⟨_, ?_, by simp [V]; rfl⟩; simp [eqGuard, binOp, Op.intDiv, hp]
    all_goals (subst hp; refine ⟨_, ?_, by simp [V]; rfl⟩; simp [eqGuard, binOp, Op.intArith, Op.intBits, Op.intCmp, bitsOf])
  · rename_i m n e1 e2
    rw [e1] at hx; rw [e2] at hy
    simp only [V] at hx hy
    rw [hx, hy]
    split at hb <;> cases hb <;> (refine ⟨_, ?_, by simp [V]; rfl⟩; simp [eqGuard, binOp, Op.stringOp])
  · cases hb

end Go.Sal
