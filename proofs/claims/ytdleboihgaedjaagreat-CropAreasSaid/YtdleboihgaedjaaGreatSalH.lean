/- SalH: operations on slices and arrays: elements, lengths, literals; struct literals; calls. -/
import Derived.Test.YtdleboihgaedjaaGreatSalG
namespace Go.Sal
open Go.RowKit

theorem VLL_get {σ ι w} : ∀ (els : List (List AV)) (b off k j : Nat) (el : List AV), VLL σ ι w b off k els → els[j]? = some el → el.length = k ∧ VL σ ι w b (off + j * k) el
  | [], _, _, _, _, _, _, h => by simp at h
  | x :: xs, b, off, k, 0, el, h, e => by
    simp at e; subst e; simp only [VLL] at h
    simpa using ⟨h.1, h.2.1⟩
  | x :: xs, b, off, k, j + 1, el, h, e => by
    simp only [VLL] at h
    have := VLL_get xs b (off + k) k j el h.2.2 (by simpa using e)
    rwa [show off + k + j * k = off + (j + 1) * k by rw [Nat.succ_mul]; omega] at this

theorem VLL_ofGet {σ ι w} : ∀ (els : List (List AV)) (b off k : Nat), (∀ (j : Nat) (el : List AV), els[j]? = some el → el.length = k ∧ VL σ ι w b (off + j * k) el) → VLL σ ι w b off k els
  | [], _, _, _, _ => by simp [VLL]
  | x :: xs, b, off, k, h => by
    have h0 := h 0 x rfl
    simp only [Nat.zero_mul, Nat.add_zero] at h0
    simp only [VLL]
    refine ⟨h0.1, h0.2, VLL_ofGet xs b (off + k) k fun j el e => ?_⟩
    have := h (j + 1) el (by simpa using e)
    rwa [show off + (j + 1) * k = off + k + j * k by rw [Nat.succ_mul]; omega] at this

section
variable {P : Program} {N : Nat} {σ : AHeap} {st : Tm} {o : Oper} {K : AV → AHeap → Prop}

theorem rindexAddr {t e : TypeId} {x i : Operand} {nl : Option Bool} {els : List (List AV)} {tok : Tok} {k : IntKind} {n : Int} {el : List AV} (ho : o.op = .indexAddr t x i) (hd : (ti P t).desc = some (.slice e))
    (hx : ev st x = .lst nl els tok) (hi : ev st i = .int k n) (h0 : 0 ≤ n) (hel : els[n.toNat]? = some el) (hsz : 0 < (ti P e).size) (hlen : el.length = (ti P e).size) (hk : K (.ipt el) σ) : AOp P N o st σ K :=
  AOp_pure _ (fun B w0 ι w a hs => by
    have h := hs.ev x
    have h' := hs.ev i
    rw [hx] at h; rw [hi] at h'; simp only [V] at h h'
    obtain ⟨ad, cap, h1, _, _, _, h5, h6⟩ := h
    have hlt := some_lt hel
    cases ad with
    | none => rw [h5 rfl] at hel; simp at hel
    | some ad =>
      obtain ⟨b, off, kk, rfl, hb, hsf, hl⟩ := h6 ad rfl
      obtain ⟨e1, e2⟩ := VLL_get _ _ _ _ _ _ hl hel
      obtain ⟨_, _, hu, _⟩ := ti_desc hd
      obtain ⟨ie, hie, hse, _⟩ := ti_size hsz
      have hkk : kk = ie.size := by omega
      subst hkk
      refine ⟨.pointer (some (at_ b (off + n.toNat * ie.size))), ?_, ?_⟩
      · have : n < els.length := by omega
        simp [execOp, ho, Instr.indexAt, h', asIntOf, runderlying hu, h1, h0, this, rsizeOf hie, at_add]
      · simp only [V]
        refine ⟨b, _, rfl, hb, hsf.le ?_, e2⟩
        have : (n.toNat + 1) * ie.size ≤ els.length * ie.size := Nat.mul_le_mul_right _ hlt
        rw [Nat.succ_mul] at this
        omega) hk

theorem rindexAddrS {t e : TypeId} {x i : Operand} {id off len kk : Nat} {k : IntKind} {n : Int} (ho : o.op = .indexAddr t x i) (hd : (ti P t).desc = some (.slice e))
    (hx : ev st x = .sl id off len kk) (hi : ev st i = .int k n) (h0 : 0 ≤ n) (hn : n < len) (hsz : 0 < (ti P e).size) (hkk : kk = (ti P e).size) (hk : K (.ref id (off + n.toNat * kk)) σ) : AOp P N o st σ K :=
  AOp_pure _ (fun B w0 ι w a hs => by
    have h := hs.ev x
    have h' := hs.ev i
    rw [hx] at h; rw [hi] at h'; simp only [V] at h h'
    obtain ⟨cs, b, y, cap, ad, h1, h2, h3, _, h5, h8⟩ := h
    rw [h8 (by omega)] at h3
    obtain ⟨_, _, hu, _⟩ := ti_desc hd
    obtain ⟨ie, hie, hse, _⟩ := ti_size hsz
    refine ⟨.pointer (some (at_ b (off + n.toNat * ie.size))), ?_, by simp only [V]; exact ⟨cs, b, y, h1, h2, by rw [hkk, hse]⟩⟩
    simp [execOp, ho, Instr.indexAt, h', asIntOf, runderlying hu, h3, h0, hn, rsizeOf hie, at_add]) hk

theorem rindexAddrA {t e : TypeId} {len : Nat} {x i : Operand} {id off : Nat} {k : IntKind} {n : Int} (ho : o.op = .indexAddr t x i) (hd : (ti P t).desc = some (.array len e))
    (hx : ev st x = .ref id off) (hi : ev st i = .int k n) (h0 : 0 ≤ n) (hn : n < len) (hsz : 0 < (ti P e).size) (hk : K (.ref id (off + n.toNat * (ti P e).size)) σ) : AOp P N o st σ K :=
  AOp_pure _ (fun B w0 ι w a hs => by
    have h := hs.ev x
    have h' := hs.ev i
    rw [hx] at h; rw [hi] at h'; simp only [V] at h h'
    obtain ⟨cs, b, y, h1, h2, h3⟩ := h
    obtain ⟨_, _, hu, _⟩ := ti_desc hd
    obtain ⟨ie, hie, hse, _⟩ := ti_size hsz
    refine ⟨.pointer (some (at_ b (off + n.toNat * ie.size))), ?_, by simp only [V]; exact ⟨cs, b, y, h1, h2, by rw [hse]⟩⟩
    simp [execOp, ho, Instr.indexAt, h', asIntOf, runderlying hu, h3, h0, hn, rsizeOf hie, at_add, Instr.sureAddr]) hk

theorem rindexAgg {t e : TypeId} {len : Nat} {x i : Operand} {cs : List AV} {k : IntKind} {n : Int} {r : AV} (ho : o.op = .index t x i) (hd : (ti P t).desc = some (.array len e))
    (hx : ev st x = .agg cs) (hi : ev st i = .int k n) (h0 : 0 ≤ n) (hn : n < len) (hsz : 0 < (ti P e).size) (hr : aload (ti P e) (cs.drop (n.toNat * (ti P e).size)) = some r) (hk : K r σ) : AOp P N o st σ K :=
  AOp_pure _ (fun B w0 ι w a hs => by
    have h := hs.ev x
    have h' := hs.ev i
    rw [hx] at h; rw [hi] at h'; simp only [V] at h h'
    obtain ⟨vs, h3, hl⟩ := h
    obtain ⟨_, _, hu, _⟩ := ti_desc hd
    obtain ⟨ie, hie, hse, _⟩ := ti_size hsz
    obtain ⟨v, h4, h5⟩ := rpart (P := P) hl hr
    refine ⟨v, ?_, h5⟩
    rw [hse] at h4
    simp [execOp, ho, Instr.index, h', asIntOf, runderlying hu, h3, h0, hn, rsizeOf hie, h4]) hk

theorem rindexStr {t : TypeId} {x i : Operand} {s : ByteArray} {k : IntKind} {n : Int} {c : UInt8} (ho : o.op = .index t x i) (hd : (ti P t).desc = some .string)
    (hx : ev st x = .str s) (hi : ev st i = .int k n) (h0 : 0 ≤ n) (hc : s[n.toNat]? = some c) (hk : K (.int .u8 c.toNat) σ) : AOp P N o st σ K :=
  AOp_pure _ (fun B w0 ι w a hs => by
    have h := hs.ev x
    have h' := hs.ev i
    rw [hx] at h; rw [hi] at h'; simp only [V] at h h'
    obtain ⟨_, _, hu, _⟩ := ti_desc hd
    refine ⟨.int .u8 c.toNat, ?_, by simp [V]⟩
    simp [execOp, ho, Instr.index, h', asIntOf, runderlying hu, h, h0, hc]) hk

/-- The length of a slice or a string. -/
def alen : TypeDesc → AV → Option Nat
  | .slice _, .lst _ els _ => some els.length
  | .slice _, .sl _ _ len _ => some len
  | .string, .str s => some s.size
  | _, _ => none

theorem rlen {x : Operand} {t : TypeId} {d : TypeDesc} {n : Nat} (ho : o.op = .call { callee := .builtin .len, args := #[x], argTypes := #[t] }) (hd : (ti P t).desc = some d) (hn : alen d (ev st x) = some n) (hk : K (.int .i64 n) σ) : AOp P N o st σ K :=
  AOp_pure _ (fun B w0 ι w a hs => by
    have h := hs.ev x
    obtain ⟨_, _, hu, _⟩ := ti_desc hd
    refine ⟨.int .i64 n, ?_, by simp [V]⟩
    unfold alen at hn
    split at hn <;> cases hn
    · rename_i e nl els tok e1
      rw [e1] at h; simp only [V] at h
      obtain ⟨_, _, h, _⟩ := h
      simp [execOp, ho, resolve, invoke, builtin, Builtin.len_, runderlying hu, h, goInt]
    · rename_i e id off len k e1
      rw [e1] at h; simp only [V] at h
      obtain ⟨_, _, _, _, _, _, _, h, _⟩ := h
      simp [execOp, ho, resolve, invoke, builtin, Builtin.len_, runderlying hu, h, goInt]
    · rename_i s e1
      rw [e1] at h; simp only [V] at h
      simp [execOp, ho, resolve, invoke, builtin, Builtin.len_, runderlying hu, h, goInt]) hk

/-- Parts written into a row of cells, one behind the other. -/
def afill (place : Nat → Option (Nat × Nat)) (cells : List AV) : List (Nat × AV) → Option (List AV)
  | [] => some cells
  | (i, x) :: rest => match place i, vcells x with
    | some (off, size), some ys => if ys.length = size ∧ off + ys.length ≤ cells.length then afill place (splice cells off ys) rest else none
    | _, _ => none

theorem foldl_set : ∀ (vs : List Value) (k off : Nat) (cs : Array Value) (j : Nat), off + k + vs.length ≤ cs.size →
    ((vs.zipIdx k).foldl (fun (cs : Array Value) (p : Value × Nat) => cs.setIfInBounds (off + p.2) p.1) cs).size = cs.size ∧
    ((vs.zipIdx k).foldl (fun (cs : Array Value) (p : Value × Nat) => cs.setIfInBounds (off + p.2) p.1) cs)[j]? = if j < off + k then cs[j]? else if j < off + k + vs.length then vs[j - (off + k)]? else cs[j]?
  | [], k, off, cs, j, _ => by
    refine ⟨by simp, ?_⟩
    simp only [List.zipIdx_nil, List.foldl_nil, List.length_nil, Nat.add_zero]
    split
    · rfl
    · rfl
  | v :: vs, k, off, cs, j, h => by
    simp only [List.length_cons] at h
    have ih := foldl_set vs (k + 1) off (cs.setIfInBounds (off + k) v) j (by simp; omega)
    simp only [List.zipIdx_cons, List.foldl_cons]
    refine ⟨by rw [ih.1]; simp, ?_⟩
    rw [ih.2]
    simp only [List.length_cons]
    by_cases h1 : j < off + k
    · rw [if_pos (by omega), if_pos h1, Array.getElem?_setIfInBounds_ne (by omega)]
    · rw [if_neg h1]
      by_cases h2 : j = off + k
      · subst h2
        rw [if_pos (by omega), if_pos (by omega)]
        rw [Array.getElem?_setIfInBounds_self_of_lt (by omega)]
        simp
      · rw [if_neg (by omega)]
        by_cases h3 : j < off + k + (vs.length + 1)
        · rw [if_pos (by omega), if_pos h3]
          rw [show j - (off + k) = (j - (off + (k + 1))) + 1 by omega, List.getElem?_cons_succ]
        · rw [if_neg (by omega), if_neg h3, Array.getElem?_setIfInBounds_ne (by omega)]

theorem VT_fill {ι w} (place : Nat → Option (Nat × Nat)) : ∀ (parts : List (Nat × Operand)) (a : Act) (cells : List AV) (cs : Array Value) (r : List AV), (∀ x, V σ ι w (ev st x) (a.eval x)) → VT σ ι w cells cs.toList →
    afill place cells (parts.map fun p => (p.1, ev st p.2)) = some r → ∃ rs, Instr.fill place cs (parts.map fun p => (p.1, a.eval p.2)) = some rs ∧ VT σ ι w r rs.toList
  | [], a, cells, cs, r, _, hc, h => by
    simp only [List.map_nil, afill, Option.some.injEq] at h
    subst h
    exact ⟨cs, by simp [Instr.fill], hc⟩
  | (i, x) :: rest, a, cells, cs, r, hv, hc, h => by
    simp only [List.map_cons, afill] at h
    split at h
    · rename_i off size ys h1 h2
      split at h
      · rename_i hh
        obtain ⟨hh1, hh2⟩ := hh
        have hx := V_cells (hv x) h2
        have hl := VT_length _ _ hx
        have hcl := VT_length _ _ hc
        simp only [Array.length_toList] at hl hcl
        have fs := fun j => foldl_set (a.eval x).cells.toList 0 off cs j (by simp; omega)
        simp only [Nat.add_zero, Array.length_toList] at fs
        have hvt : VT σ ι w (splice cells off ys) (((a.eval x).cells.toList.zipIdx 0).foldl (fun (cs : Array Value) (p : Value × Nat) => cs.setIfInBounds (off + p.2) p.1) cs).toList := by
          refine VT_ofGet _ _ (by rw [splice_length hh2, hcl]; exact (fs 0).1.symm) fun j X u e1 e2 => ?_
          rw [splice_get hh2] at e1
          rw [Array.getElem?_toList, (fs j).2] at e2
          split at e1
          · rw [if_pos ‹_›] at e2
            obtain ⟨u', g1, g2⟩ := VT_get _ _ _ _ hc e1
            rw [Array.getElem?_toList, e2] at g1; cases g1; exact g2
          · rw [if_neg ‹_›] at e2
            split at e1
            · rw [if_pos (by omega)] at e2
              obtain ⟨u', g1, g2⟩ := VT_get _ _ _ _ hx e1
              rw [e2] at g1; cases g1; exact g2
            · rw [if_neg (by omega)] at e2
              obtain ⟨u', g1, g2⟩ := VT_get _ _ _ _ hc e1
              rw [Array.getElem?_toList, e2] at g1; cases g1; exact g2
        obtain ⟨rs, h3, h4⟩ := VT_fill place rest a _ _ r hv hvt h
        refine ⟨rs, ?_, h4⟩
        simp only [List.map_cons, Instr.fill, h1]
        rw [if_neg (by simp; omega)]
        rw [← h3]
        congr 1
        rw [← Array.foldl_toList]
        simp
      · cases h
    · cases h

end
end Go.Sal
