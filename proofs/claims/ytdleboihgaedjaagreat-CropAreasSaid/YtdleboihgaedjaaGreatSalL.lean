/- SalL: calls; least and greatest; slice expressions; make; strings and bytes. -/
import Derived.Test.YtdleboihgaedjaaGreatSalK
namespace Go.Sal
open Go.RowKit

section
variable {P : Program} {N : Nat} {σ : AHeap} {st : Tm} {o : Oper} {K : AV → AHeap → Prop}

theorem VT_append {ι w} : ∀ (xs ys : List AV) (us vs : List Value), VT σ ι w xs us → VT σ ι w ys vs → VT σ ι w (xs ++ ys) (us ++ vs)
  | [], ys, us, vs, h, h' => by simp only [VT] at h; subst h; simpa using h'
  | x :: xs, ys, us, vs, h, h' => by
    simp only [VT] at h
    obtain ⟨u, us', rfl, h1, h2⟩ := h
    simp only [List.cons_append, VT]
    exact ⟨u, us' ++ vs, rfl, h1, VT_append xs ys us' vs h2 h'⟩

theorem rcall {f : Operand} {args : Array Operand} {ts : Array TypeId} {g : FuncId} {cap : List AV} (ho : o.op = .call { callee := .value f, args := args, argTypes := ts }) (hf : ev st f = .fn g cap)
    (h : ACalls P g (args.toList.map (ev st) ++ cap) σ K) : AOp P N o st σ K := by
  intro B w0 ι w a Q hs
  obtain ⟨⟨fn, h1, h2, h3⟩, hc⟩ := h
  have hv := hs.ev f
  rw [hf] at hv; simp only [V] at hv
  obtain ⟨vs, hv, hvs⟩ := hv
  have hrun : (execOp a.eval o).run P w = .ok (.enter g (args.map a.eval ++ vs)) w := by
    have h2' : ¬ fn.body = none := by cases hb : fn.body <;> simp [hb] at h2 ⊢
    have h3' : ¬ fn.name = "runtime.NumGoroutine" := by simpa using h3
    simp [execOp, ho, resolve, hv, Deferred.ofValue, invoke, callFunc, h1, h2', h3']
  unfold Oper.wp; rw [hrun]
  refine (hc B w0 ι w _ hs.rel ?_).mono fun e w' hh => ?_
  · rw [Array.toList_append, Array.toList_map]
    exact VT_append _ _ _ _ (hs.evs _) hvs
  · obtain ⟨r, σ', ι', v, rfl, h4, h5, h6, h7⟩ := hh
    exact ⟨r, σ', ι', v, h4, rfl, h7, h5, h6⟩

/-- The least or the greatest of whole numbers. -/
def aminmax (mx : Bool) : List AV → Option AV
  | [] => none
  | x :: xs => xs.foldl (fun acc y => match acc, y with
    | some (.int k a), .int _ b => some (.int k (if mx then (if a < b then b else a) else (if b < a then b else a)))
    | _, _ => none) (some x)

theorem rmin2 {w : World} {k k' : IntKind} {a b : Int} : (Builtin.min2 (.int k a) (.int k' b)).run P w = .ok (.int k (if b < a then b else a)) w := by simp [Builtin.min2]
theorem rmax2 {w : World} {k k' : IntKind} {a b : Int} : (Builtin.max2 (.int k a) (.int k' b)).run P w = .ok (.int k (if a < b then b else a)) w := by simp [Builtin.max2]

theorem rminmax {mx : Bool} {ts : Array TypeId} {x y : Operand} {k k' : IntKind} {a b : Int} (ho : o.op = .call { callee := .builtin (if mx then .max else .min), args := #[x, y], argTypes := ts })
    (hx : ev st x = .int k a) (hy : ev st y = .int k' b) (hk : K (.int k (if mx then (if a < b then b else a) else (if b < a then b else a))) σ) : AOp P N o st σ K :=
  AOp_pure _ (fun B w0 ι w A hs => by
    have h := hs.ev x
    have h' := hs.ev y
    rw [hx] at h; rw [hy] at h'; simp only [V] at h h'
    cases mx
    · refine ⟨.int k (if b < a then b else a), ?_, by simp [V]⟩
      simp only [Bool.false_eq_true, if_false] at ho
      simp [execOp, ho, resolve, invoke, builtin, Builtin.min_, h, h', rmin2]
    · refine ⟨.int k (if a < b then b else a), ?_, by simp [V]⟩
      simp only [if_true] at ho
      simp [execOp, ho, resolve, invoke, builtin, Builtin.max_, h, h', rmax2]) hk

theorem rsliceBound {w : World} {k : IntKind} {n : Int} {y : Nat} {c : BoundsCode} (h0 : 0 ≤ n) (h1 : n ≤ y) : (Instr.sliceBound (.int k n) y c).run P w = .ok n.toNat w := by
  simp [Instr.sliceBound, asIntOf, h0, h1]

/-- A bound of a slice expression: what is not written counts as `d`. -/
def abound (st : Tm) (d : Nat) : Option Operand → Option Int
  | none => some d
  | some x => match ev st x with
    | .int _ n => some n
    | _ => none

theorem abound_run {B w0 ι w a} (hs : St N B w0 σ ι w st a) {x : Operand} {d : Nat} {n : Int} (h : abound st d (some x) = some n) : ∃ k, a.eval x = .int k n := by
  simp only [abound] at h
  split at h
  · rename_i k m e
    have hv := hs.ev x
    rw [e] at hv; simp only [V] at hv
    cases h; exact ⟨k, hv⟩
  · cases h

theorem rsliceBounds {B w0 ι w a} (hs : St N B w0 σ ι w st a) {isSlice : Bool} {len cap : Nat} {lo hi mx : Option Operand} {l h : Int} (hlo : abound st 0 lo = some l) (hhi : abound st len hi = some h)
    (h0 : 0 ≤ l) (h1 : l ≤ h) (h2 : h ≤ len) (h3 : len ≤ cap) (hm : mx = none ∨ (mx.isSome ∧ hi.isSome ∧ abound st 0 mx = some h)) :
    (Instr.sliceBounds isSlice len cap (lo.map a.eval) (hi.map a.eval) (mx.map a.eval)).run P w = .ok (l.toNat, h.toNat, if mx.isSome then h.toNat else cap) w := by
  have hb1 : ∀ k c, (Instr.sliceBound (.int k l) h.toNat c).run P w = .ok l.toNat w := fun k c => rsliceBound h0 (by omega)
  have hb2 : ∀ k c, (Instr.sliceBound (.int k h) cap c).run P w = .ok h.toNat w := fun k c => rsliceBound (by omega) (by omega)
  have hb3 : ∀ k c, (Instr.sliceBound (.int k h) h.toNat c).run P w = .ok h.toNat w := fun k c => rsliceBound (by omega) (by omega)
  have hl : lo = none ∧ l = 0 ∨ ∃ x k, lo = some x ∧ a.eval x = .int k l := by
    cases lo with
    | none => simp only [abound, Option.some.injEq] at hlo; exact Or.inl ⟨rfl, hlo.symm⟩
    | some x => obtain ⟨k, e⟩ := abound_run hs hlo; exact Or.inr ⟨x, k, rfl, e⟩
  rcases hm with rfl | ⟨hm1, hm2, hm3⟩
  · cases hi with
    | none =>
      simp only [abound, Option.some.injEq] at hhi; subst hhi
      simp only [Int.toNat_natCast] at hb1 ⊢
      rcases hl with ⟨rfl, rfl⟩ | ⟨x, k, rfl, e⟩
      · simp [Instr.sliceBounds]
      · simp [Instr.sliceBounds, e, hb1]
    | some y =>
      obtain ⟨k, e⟩ := abound_run hs hhi
      rcases hl with ⟨rfl, rfl⟩ | ⟨x, k, rfl, e'⟩
      · cases isSlice <;> simp [Instr.sliceBounds, e, hb2]
      · cases isSlice <;> simp [Instr.sliceBounds, e, e', hb2, hb1]
  · cases mx with
    | none => simp at hm1
    | some z =>
      cases hi with
      | none => simp at hm2
      | some y =>
        obtain ⟨k, e⟩ := abound_run hs hhi
        obtain ⟨k', e'⟩ := abound_run hs hm3
        rcases hl with ⟨rfl, rfl⟩ | ⟨x, k, rfl, e''⟩
        · cases isSlice <;> simp [Instr.sliceBounds, e, e', hb2, hb3]
        · cases isSlice <;> simp [Instr.sliceBounds, e, e', e'', hb2, hb3, hb1]

theorem rslice {t e : TypeId} {x : Operand} {lo hi mx : Option Operand} {nl : Option Bool} {els : List (List AV)} {tok : Tok} {l h : Int} (ho : o.op = .slice t x lo hi mx) (hd : (ti P t).desc = some (.slice e))
    (hx : ev st x = .lst nl els tok) (hlo : abound st 0 lo = some l) (hhi : abound st els.length hi = some h) (h0 : 0 ≤ l) (h1 : l ≤ h) (h2 : h ≤ els.length)
    (hm : mx = none ∨ (mx.isSome ∧ hi.isSome ∧ abound st 0 mx = some h)) (hsz : 0 < (ti P e).size) (hw : ∀ el ∈ els, el.length = (ti P e).size)
    (hk : K (.lst nl ((els.take h.toNat).drop l.toNat) (if mx.isSome then .full else .none)) σ) : AOp P N o st σ K :=
  AOp_pure _ (fun B w0 ι w a hs => by
    have hv := hs.ev x
    rw [hx] at hv; simp only [V] at hv
    obtain ⟨base, cap, g1, g2, g3, g4, g5, g6⟩ := hv
    obtain ⟨_, _, hu, _⟩ := ti_desc hd
    obtain ⟨ie, hie, hse, _⟩ := ti_size hsz
    have hb := rsliceBounds (P := P) hs (isSlice := true) (cap := cap) hlo hhi h0 h1 h2 g3 hm
    generalize hcap : (if mx.isSome then h.toNat else cap) = m at hb
    have hmge : h.toNat ≤ m := by rw [← hcap]; split <;> omega
    have hll : ((els.take h.toNat).drop l.toNat).length = h.toNat - l.toNat := by simp; omega
    refine ⟨.slice (if m = l.toNat then base else base.map (·.add (l.toNat * ie.size))) (h.toNat - l.toNat) (m - l.toNat), ?_, ?_⟩
    · simp [execOp, ho, Instr.sliceAt, Instr.slice, runderlying hu, g1, hb, rsizeOf hie]
    · simp only [V, hll]
      refine ⟨_, _, rfl, ?_, by omega, ?_, ?_, ?_⟩
      · intro c hc; rw [g2 c hc]; split <;> cases base <;> rfl
      · by_cases hms : mx.isSome = true
        · rw [if_pos hms] at hcap ⊢; subst hcap; simp [TokOk]
        · rw [if_neg hms]; simp [TokOk]
      · intro hh
        have : base = none := by
          split at hh
          · exact hh
          · cases base <;> simp at hh ⊢
        rw [g5 this]; simp
      · intro ad had
        cases base with
        | none => split at had <;> simp at had
        | some bd =>
          obtain ⟨b, off, kk, rfl, k1, k2, k3⟩ := g6 _ rfl
          split at had
          · rename_i hml
            cases had
            have : h.toNat - l.toNat = 0 := by omega
            refine ⟨b, off, 0, rfl, k1, k2.le (by simp), ?_⟩
            have hnil : (els.take h.toNat).drop l.toNat = [] := List.eq_nil_of_length_eq_zero (by rw [hll]; exact this)
            rw [hnil]; simp [VLL]
          · simp only [Option.map_some, Option.some.injEq] at had
            subst had
            have hkk : els ≠ [] → kk = ie.size := by
              intro hne
              cases els with
              | nil => exact (hne rfl).elim
              | cons q qs => simp only [VLL] at k3; rw [← k3.1, hw q (by simp), hse]
            refine ⟨b, off + l.toNat * ie.size, ie.size, at_add _ _ _, k1, ?_, VLL_ofGet _ _ _ _ fun j el hel => ?_⟩
            · by_cases hne : els = []
              · subst hne
                simp at h2
                have : l.toNat = 0 := by omega
                have : h.toNat = 0 := by omega
                simp [*]
                exact k2.le (by simp)
              · rw [hkk hne] at k2
                refine k2.le ?_
                have : l.toNat + (h.toNat - l.toNat) ≤ els.length := by omega
                have := Nat.mul_le_mul_right ie.size this
                rw [Nat.add_mul] at this
                omega
            · have hel' : els[l.toNat + j]? = some el := by
                rw [List.getElem?_drop, List.getElem?_take] at hel
                split at hel
                · exact hel
                · cases hel
              have hne : els ≠ [] := by rintro rfl; simp at hel'
              obtain ⟨q1, q2⟩ := VLL_get _ _ _ _ _ _ k3 hel'
              rw [hkk hne] at q1 q2
              rw [Nat.add_mul] at q2
              exact ⟨q1, by rwa [show off + l.toNat * ie.size + j * ie.size = off + (l.toNat * ie.size + j * ie.size) by omega]⟩) hk

theorem rsliceS {t e : TypeId} {x : Operand} {lo hi mx : Option Operand} {id off len k : Nat} {l h : Int} (ho : o.op = .slice t x lo hi mx) (hd : (ti P t).desc = some (.slice e))
    (hx : ev st x = .sl id off len k) (hlo : abound st 0 lo = some l) (hhi : abound st len hi = some h) (h0 : 0 ≤ l) (h1 : l ≤ h) (h2 : h ≤ len)
    (hm : mx = none) (hsz : 0 < (ti P e).size) (hkk : k = (ti P e).size) (hk : K (.sl id (off + l.toNat * k) (h.toNat - l.toNat) k) σ) : AOp P N o st σ K :=
  AOp_pure _ (fun B w0 ι w a hs => by
    subst hm
    have hv := hs.ev x
    rw [hx] at hv; simp only [V] at hv
    obtain ⟨cs, b, y, cap, ad, g1, g2, g3, g4, g5, g6⟩ := hv
    obtain ⟨_, _, hu, _⟩ := ti_desc hd
    obtain ⟨ie, hie, hse, _⟩ := ti_size hsz
    have hb := rsliceBounds (P := P) hs (isSlice := true) (cap := cap) (mx := none) hlo hhi h0 h1 h2 g4 (.inl rfl)
    simp only [Option.map_none, Option.isSome_none, Bool.false_eq_true, if_false] at hb
    have hmul : l.toNat * k + (h.toNat - l.toNat) * k ≤ len * k := by
      rw [← Nat.add_mul]; exact Nat.mul_le_mul_right _ (by omega)
    refine ⟨.slice (if cap = l.toNat then some (at_ b ad) else some ((at_ b ad).add (l.toNat * ie.size))) (h.toNat - l.toNat) (cap - l.toNat), ?_, ?_⟩
    · simp [execOp, ho, Instr.sliceAt, Instr.slice, runderlying hu, g3, hb, rsizeOf hie]
    · simp only [V]
      split
      · rename_i hc
        exact ⟨cs, b, y, _, _, g1, g2, rfl, by omega, by omega, fun hh => by omega⟩
      · refine ⟨cs, b, y, _, _, g1, g2, by rw [at_add], by omega, by omega, fun hh => ?_⟩
        rw [g6 (by omega), hkk, hse]) hk

theorem rsliceStr {t : TypeId} {x : Operand} {lo hi : Option Operand} {s : ByteArray} {l h : Int} (ho : o.op = .slice t x lo hi none) (hd : (ti P t).desc = some .string)
    (hx : ev st x = .str s) (hlo : abound st 0 lo = some l) (hhi : abound st s.size hi = some h) (h0 : 0 ≤ l) (h1 : l ≤ h) (h2 : h ≤ s.size) (hk : K (.str (s.extract l.toNat h.toNat)) σ) : AOp P N o st σ K :=
  AOp_pure _ (fun B w0 ι w a hs => by
    have hv := hs.ev x
    rw [hx] at hv; simp only [V] at hv
    obtain ⟨_, _, hu, _⟩ := ti_desc hd
    have hb := rsliceBounds (P := P) hs (isSlice := false) (cap := s.size) (mx := none) hlo hhi h0 h1 h2 (Nat.le_refl _) (.inl rfl)
    simp only [Option.map_none, Option.isSome_none, Bool.false_eq_true, if_false] at hb
    exact ⟨.string (s.extract l.toNat h.toNat), by simp [execOp, ho, Instr.sliceAt, Instr.slice, runderlying hu, hv, hb], by simp [V]⟩) hk

end
end Go.Sal
