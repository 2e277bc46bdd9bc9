/- SalI: struct and slice literals; append. -/
import Derived.Test.YtdleboihgaedjaaGreatSalH
import Derived.Laws.Tables
import Derived.Great.BuildSlice
import Derived.Laws.AppendOwn
namespace Go.Sal
open Go.RowKit

/-- The places of the fields of a struct. -/
def aplaces (P : Program) : List Field → Option (List (Nat × Nat))
  | [] => some []
  | f :: fs => match aplaces P fs with
    | some r => if 0 < (ti P f.type).size then some ((f.offset, (ti P f.type).size) :: r) else none
    | none => none

theorem aplaces_ok {P : Program} : ∀ (fs : List Field) (r : List (Nat × Nat)), aplaces P fs = some r → fs.mapM (fun f => (P.info? f.type).map fun i => (f.offset, i.size)) = some r
  | [], r, h => by simp [aplaces] at h; subst h; simp
  | f :: fs, r, h => by
    simp only [aplaces] at h
    split at h
    · rename_i q hq
      split at h
      · rename_i hs
        obtain ⟨i, hi, he, _⟩ := ti_size hs
        simp only [Option.some.injEq] at h
        subst h
        simp [List.mapM_cons, hi, aplaces_ok fs q hq, he]
      · cases h
    · cases h

/-- The cells of a struct or array literal. -/
def abuild (P : Program) (t : TypeId) (parts : List (Nat × AV)) : Option (List AV) := match (ti P t).desc, (ti P t).zero with
  | some (.struct fs), some z => match aplaces P fs.toList with
    | some pl => afill (pl[·]?) z parts
    | none => none
  | some (.array _ e), some z => if 0 < (ti P e).size then afill (fun i => some (i * (ti P e).size, (ti P e).size)) z parts else none
  | _, _ => none

theorem VLL_chunks {σ ι w} (k : Nat) : ∀ (n : Nat) (l : List AV) (b off : Nat), n * k ≤ l.length → VL σ ι w b off l → VLL σ ι w b off k (chunks k n l)
  | 0, _, _, _, _, _ => by simp [chunks, VLL]
  | n + 1, l, b, off, hl, h => by
    rw [Nat.succ_mul] at hl
    simp only [chunks, VLL]
    exact ⟨by simp; omega, VL_taken k h, VLL_chunks k n _ b (off + k) (by simp; omega) (VL_dropn k h)⟩

theorem VLL_flat {σ ι w} : ∀ (els : List (List AV)) (b off k : Nat), VLL σ ι w b off k els → VL σ ι w b off els.flatten ∧ els.flatten.length = els.length * k
  | [], _, _, _, _ => by simp [VL]
  | x :: xs, b, off, k, h => by
    simp only [VLL] at h
    obtain ⟨h1, h2, h3⟩ := h
    obtain ⟨h4, h5⟩ := VLL_flat xs b (off + k) k h3
    refine ⟨VL_ofGet _ _ _ fun j y e => ?_, by simp only [List.flatten_cons, List.length_append, List.length_cons, Nat.succ_mul, h1]; omega⟩
    rw [List.flatten_cons] at e
    rcases Nat.lt_or_ge j x.length with hj | hj
    · rw [List.getElem?_append_left hj] at e; exact VL_get x b off j y h2 e
    · rw [List.getElem?_append_right hj] at e
      have := VL_get _ b (off + k) (j - x.length) y h4 e
      rwa [show off + k + (j - x.length) = off + j by omega] at this

section
variable {P : Program} {N : Nat} {σ : AHeap} {st : Tm} {o : Oper} {K : AV → AHeap → Prop}

theorem rbuild {t : TypeId} {parts : Array (Nat × Operand)} {cs : List AV} (ho : o.op = .build t parts) (hb : abuild P t (parts.toList.map fun p => (p.1, ev st p.2)) = some cs) (hk : K (.agg cs) σ) : AOp P N o st σ K :=
  AOp_pure _ (fun B w0 ι w a hs => by
    have main : ∃ rs, P.built t (parts.map fun (i, x) => (i, a.eval x)).toList = some rs ∧ VT σ ι w cs rs.toList := by
      rw [Array.toList_map]
      unfold abuild at hb
      split at hb
      · rename_i fs z hd hz
        obtain ⟨i, v, hi, hv, rfl, _⟩ := ti_zero hz
        obtain ⟨_, _, hu, _⟩ := ti_desc hd
        split at hb
        · rename_i pl hpl
          have hp := aplaces_ok _ _ hpl
          obtain ⟨rs, h1, h2⟩ := VT_fill (pl[·]?) parts.toList a _ v.cells cs hs.ev (VT_ofConst _ _ _ _) hb
          exact ⟨rs, by simpa only [Program.built, hi, hu, hv, hp, List.getElem?_toArray] using h1, h2⟩
        · cases hb
      · rename_i n e z hd hz
        obtain ⟨i, v, hi, hv, rfl, _⟩ := ti_zero hz
        obtain ⟨_, _, hu, _⟩ := ti_desc hd
        split at hb
        · rename_i hs'
          obtain ⟨ie, hie, hse, _⟩ := ti_size hs'
          obtain ⟨rs, h1, h2⟩ := VT_fill _ parts.toList a _ v.cells cs hs.ev (VT_ofConst _ _ _ _) hb
          rw [hse] at h1
          exact ⟨rs, by simp only [Program.built, hi, hu, hv, hie]; exact h1, h2⟩
        · cases hb
      · cases hb
    obtain ⟨rs, h1, h2⟩ := main
    exact ⟨.agg rs, by simp [execOp, ho, run_build w t _ rs h1], by simp only [V]; exact ⟨rs, rfl, h2⟩⟩) hk

/-- The cells of a slice literal. -/
def aflat (P : Program) (e : TypeId) (len : Nat) (parts : List (Nat × AV)) : Option (List AV) := match (ti P e).zero with
  | some z => if 0 < (ti P e).size ∧ z.length = (ti P e).size ∧ len * (ti P e).size ≤ 2 ^ 24 then
      afill (fun i => some (i * (ti P e).size, (ti P e).size)) ((List.range (len * (ti P e).size)).map fun j => z.getD (j % (ti P e).size) .undef) parts else none
  | none => none

theorem afill_length (place : Nat → Option (Nat × Nat)) : ∀ (parts : List (Nat × AV)) (cells r : List AV), afill place cells parts = some r → r.length = cells.length
  | [], cells, r, h => by simp only [afill, Option.some.injEq] at h; rw [h]
  | (i, x) :: rest, cells, r, h => by
    simp only [afill] at h
    split at h
    · split at h
      · rename_i hh
        rw [afill_length place rest _ r h, splice_length hh.2]
      · cases h
    · cases h

theorem rflat {ι w} {t e : TypeId} {len : Nat} {parts : Array (Nat × Operand)} {cs : List AV} {a : Act} (hd : (ti P t).desc = some (.slice e)) (hb : aflat P e len (parts.toList.map fun p => (p.1, ev st p.2)) = some cs) (hv : ∀ x, V σ ι w (ev st x) (a.eval x)) (hlen : 0 < len) :
    cs.length = len * (ti P e).size ∧ ∃ rs : Array Value, VT σ ι w cs rs.toList ∧ (Instr.buildSlice t len (parts.map fun (i, x) => (i, a.eval x))).run P w = .ok (.slice (some (at_ w.heap.size 0)) len len) (w.alloc (.cells rs e)) := by
  unfold aflat at hb
  split at hb
  · rename_i z hz
    split at hb
    · rename_i hh
      obtain ⟨h1, h2, h3⟩ := hh
      obtain ⟨i, v, hi, hvz, rfl, hsz, _⟩ := ti_zero hz
      obtain ⟨_, _, hu, _⟩ := ti_desc hd
      have hl := afill_length _ _ _ _ hb
      simp only [List.length_map, List.length_range] at hl
      refine ⟨hl, ?_⟩
      have hvs : v.cells.size = i.size := by simpa [hsz] using h2
      have hz0 : VT σ ι w ((List.range (len * (ti P e).size)).map fun j => (v.cells.toList.map ofConst).getD (j % (ti P e).size) .undef) ((Array.range (len * i.size)).map (v.cells[· % v.cells.size]!)).toList := by
        refine VT_ofGet _ _ (by simp [hsz]) fun j x u e1 e2 => ?_
        simp only [List.getElem?_map, Array.toList_map, Array.toList_range] at e1 e2
        rw [hsz] at e1
        rcases Nat.lt_or_ge j (len * i.size) with hj | hj
        · rw [List.getElem?_range hj] at e1 e2
          simp only [Option.map_some, Option.some.injEq] at e1 e2
          have hm : j % i.size < v.cells.size := by rw [hvs]; exact Nat.mod_lt _ (by omega)
          subst e1; subst e2
          rw [hvs, List.getD_eq_getElem?_getD, List.getElem?_map, Array.getElem?_toList, getElem!_pos v.cells _ hm, Array.getElem?_eq_getElem hm]
          exact V_ofConst _ _ _ _
        · rw [List.getElem?_eq_none (by simpa using hj)] at e1; cases e1
      obtain ⟨rs, g1, g2⟩ := VT_fill _ parts.toList a _ _ cs hv hz0 hb
      refine ⟨rs, g2, ?_⟩
      rw [hsz] at g1
      have hp : 0 < len * i.size := Nat.mul_pos hlen (by omega)
      exact run_buildSlice w t e len _ rs i v hu hi hvz (by rw [hsz] at h3; omega) (by omega) (by rw [Array.toList_map]; exact g1)
    · cases hb
  · cases hb

theorem Safe_new {B w0 ι w} (h : Rel B w0 σ ι w) (hi : Nat) : Safe σ ι w.heap.size hi := by
  intro id o x h1 h2
  have := h.blk id o _ x h1 h2
  omega

theorem rbuildSlice {t e : TypeId} {len : Nat} {parts : Array (Nat × Operand)} {cs : List AV} (ho : o.op = .buildSlice t len parts) (hd : (ti P t).desc = some (.slice e)) (hlen : 0 < len)
    (hb : aflat P e len (parts.toList.map fun p => (p.1, ev st p.2)) = some cs) (hk : K (.lst (some false) (chunks (ti P e).size len cs) .full) σ) : AOp P N o st σ K :=
  AOp_val _ σ (fun B w0 ι w a hs => by
    obtain ⟨hcl, rs, h1, h2⟩ := rflat (P := P) hd hb hs.ev hlen
    obtain ⟨hr, s⟩ := hs.rel.imm (.cells rs e)
    refine ⟨.slice (some (at_ w.heap.size 0)) len len, ι, w.alloc (.cells rs e), by simp [execOp, ho, h2], ?_, hr, Ext.step s (Nat.le_refl _)⟩
    simp only [V, chunks_length]
    refine ⟨some (at_ w.heap.size 0), len, rfl, by simp, Nat.le_refl _, by simp [TokOk], by simp, fun ad had => ?_⟩
    cases had
    refine ⟨w.heap.size, 0, (ti P e).size, rfl, by simp, Safe_new hs.rel _, VLL_chunks _ _ _ _ _ (by omega) (VL_ofGet _ _ _ fun j x ej => ?_)⟩
    obtain ⟨v, g1, g2⟩ := VT_get _ _ _ _ h1 ej
    exact ⟨v, by rw [Nat.zero_add, cell_new]; simpa using g1, V_mono s x v g2⟩) hk

theorem rbuildSliceR {t e : TypeId} {len : Nat} {parts : Array (Nat × Operand)} {cs : List AV} (ho : o.op = .buildSlice t len parts) (hd : (ti P t).desc = some (.slice e)) (hlen : 0 < len)
    (hb : aflat P e len (parts.toList.map fun p => (p.1, ev st p.2)) = some cs) (hk : K (.sl σ.length 0 len (ti P e).size) (σ ++ [.cells cs])) : AOp P N o st σ K :=
  AOp_val _ _ (fun B w0 ι w a hs => by
    obtain ⟨hcl, rs, h1, h2⟩ := rflat (P := P) hd hb hs.ev hlen
    obtain ⟨ι', hr, he, hn⟩ := hs.rel.new (cs := cs) (vs := rs) e h1
    refine ⟨.slice (some (at_ w.heap.size 0)) len len, ι', w.alloc (.cells rs e), by simp [execOp, ho, h2], ?_, hr, he⟩
    simp only [V]
    exact ⟨cs, w.heap.size, 0, len, 0, by simp, hn, rfl, Nat.le_refl _, by omega, fun _ => rfl⟩) hk

theorem rbuildSlice0 {t e : TypeId} {parts : Array (Nat × Operand)} {i : TypeInfo} (ho : o.op = .buildSlice t 0 parts) (hparts : parts = #[]) (hd : (ti P t).desc = some (.slice e)) (hi : P.info? e = some i) (hk : K (.lst (some false) [] .full) σ) : AOp P N o st σ K :=
  AOp_val _ σ (fun B w0 ι w a hs => by
    obtain ⟨_, _, hu, _⟩ := ti_desc hd
    obtain ⟨hr, s⟩ := hs.rel.imm (.cells #[] e)
    subst hparts
    refine ⟨.slice (some (at_ w.heap.size 0)) 0 0, ι, w.alloc (.cells #[] e), by simp [execOp, ho, Instr.buildSlice, runderlying hu, rsizeOf hi, Instr.fill, newRow, show Array.range 0 = #[] from rfl], ?_, hr, Ext.step s (Nat.le_refl _)⟩
    simp only [V]
    refine ⟨some (at_ w.heap.size 0), 0, rfl, by simp, by simp, by simp [TokOk], by simp, fun ad had => ?_⟩
    cases had
    exact ⟨w.heap.size, 0, 0, rfl, by simp, Safe_new hs.rel _, by simp [VLL]⟩) hk

end
end Go.Sal
