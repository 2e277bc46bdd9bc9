/- SalL2: make; copy; sources of copies and appends; strings and bytes. -/
import Derived.Test.YtdleboihgaedjaaGreatSalV
import Derived.Laws.MakeOwn
import Derived.Laws.IdiomStrings
namespace Go.Sal
open Go.RowKit

/-- Zero values one behind the other. -/
def zcells (zc : List AV) : Nat → List AV
  | 0 => []
  | n + 1 => zc ++ zcells zc n
theorem zcells_length (zc : List AV) : ∀ n, (zcells zc n).length = n * zc.length
  | 0 => by simp [zcells]
  | n + 1 => by simp only [zcells, List.length_append, zcells_length zc n, Nat.succ_mul]; omega
theorem zcells_get (zc : List AV) : ∀ (n j : Nat), j < n * zc.length → (zcells zc n)[j]? = zc[j % zc.length]?
  | 0, j, h => by simp at h
  | n + 1, j, h => by
    simp only [zcells]
    rcases Nat.lt_or_ge j zc.length with g | g
    · rw [List.getElem?_append_left g, Nat.mod_eq_of_lt g]
    · rw [Nat.succ_mul] at h
      rw [List.getElem?_append_right g, zcells_get zc n _ (by omega)]
      congr 1
      conv => rhs; rw [← Nat.sub_add_cancel g, Nat.add_mod_right]

section
variable {P : Program} {N : Nat} {σ : AHeap} {st : Tm} {o : Oper} {K : AV → AHeap → Prop}

theorem VT_zcells {ι w} {z : Value} {size n : Nat} (hz : z.cells.size = size) (hpos : 0 < size) : VT σ ι w (zcells (z.cells.toList.map ofConst) n) (madeCells z.cells (n * size)).toList := by
  have hl : (z.cells.toList.map ofConst).length = size := by simp [hz]
  refine VT_ofGet _ _ (by rw [zcells_length, hl]; simp [madeCells]) fun j x v hx hv => ?_
  have hj : j < n * size := by have := some_lt hx; rw [zcells_length, hl] at this; exact this
  rw [zcells_get _ _ _ (by rw [hl]; exact hj), hl] at hx
  have hm : j % size < z.cells.size := by rw [hz]; exact Nat.mod_lt _ hpos
  rw [List.getElem?_map, Array.getElem?_toList, Array.getElem?_eq_getElem hm] at hx
  simp only [Option.map_some, Option.some.injEq] at hx
  simp only [madeCells, Array.toList_map, Array.toList_range, List.getElem?_map, List.getElem?_range hj, Option.map_some, Option.some.injEq] at hv
  rw [hz, getElem!_pos z.cells _ hm] at hv
  subst hx; subst hv
  exact V_ofConst _ _ _ _

theorem mul_toNat {b : Nat} {c : Int} {m : Nat} (h0 : 0 ≤ c) (h : b * c.toNat ≤ m) : (b : Int) * c ≤ (m : Int) := by
  have e : ((c.toNat : Nat) : Int) = c := by omega
  rw [← e, ← Int.natCast_mul]
  omega

theorem rmakeSliceR {t e : TypeId} {x y : Operand} {zc : List AV} {kl kc : IntKind} {l c : Int} (ho : o.op = .makeSlice t x y) (hd : (ti P t).desc = some (.slice e)) (hz : (ti P e).zero = some zc) (hzl : zc.length = (ti P e).size) (hsz : 0 < (ti P e).size)
    (hx : ev st x = .int kl l) (hy : ev st y = .int kc c) (h0 : 0 ≤ l) (h1 : l ≤ c) (hb : (ti P e).bytes * c.toNat ≤ 281474976710656) (h63 : c ≤ 9223372036854775807)
    (hk : K (.sl σ.length 0 l.toNat (ti P e).size) (σ ++ [.cells (zcells zc c.toNat)])) : AOp P N o st σ K :=
  AOp_val _ _ (fun B w0 ι w a hs => by
    obtain ⟨_, _, hu, _⟩ := ti_desc hd
    obtain ⟨i, z, hi, hzz, rfl, hse, hbe⟩ := ti_zero hz
    have h := hs.ev x; have h' := hs.ev y
    rw [hx] at h; rw [hy] at h'; simp only [V] at h h'
    have hzs : z.cells.size = (ti P e).size := by simpa using hzl
    have hr := run_make (P := P) w t e i z hu hi hzz kl kc l c h0 h1 (by rw [← hbe]; exact mul_toNat (by omega) hb) h63
    have hvt : VT σ ι w (zcells (z.cells.toList.map ofConst) c.toNat) (madeCells z.cells (c.toNat * i.size)).toList := by rw [← hse]; exact VT_zcells hzs hsz
    obtain ⟨ι', hr', he, hn⟩ := hs.rel.new e hvt
    refine ⟨.slice (some (at_ w.heap.size 0)) l.toNat c.toNat, ι', _, by simp [execOp, ho, h, h', hr], ?_, hr', he⟩
    simp only [V]
    refine ⟨_, w.heap.size, 0, c.toNat, 0, by simp; rfl, hn, rfl, by omega, ?_, fun _ => rfl⟩
    rw [zcells_length, hzl, Nat.zero_add]
    exact Nat.mul_le_mul_right _ (by omega)) hk

theorem rmakeSlice0 {t e : TypeId} {x y : Operand} {zc : List AV} {kl kc : IntKind} {c : Int} (ho : o.op = .makeSlice t x y) (hd : (ti P t).desc = some (.slice e)) (hz : (ti P e).zero = some zc) (hzl : zc.length = (ti P e).size) (hsz : 0 < (ti P e).size)
    (hx : ev st x = .int kl 0) (hy : ev st y = .int kc c) (h1 : 0 ≤ c) (hb : (ti P e).bytes * c.toNat ≤ 281474976710656) (h63 : c ≤ 9223372036854775807)
    (hk : K (.lst (some false) [] (.own σ.length 0 (ti P e).size)) (σ ++ [.tok 0])) : AOp P N o st σ K :=
  AOp_val _ _ (fun B w0 ι w a hs => by
    obtain ⟨_, _, hu, _⟩ := ti_desc hd
    obtain ⟨i, z, hi, hzz, rfl, hse, hbe⟩ := ti_zero hz
    have h := hs.ev x; have h' := hs.ev y
    rw [hx] at h; rw [hy] at h'; simp only [V] at h h'
    have hr := run_make (P := P) w t e i z hu hi hzz kl kc 0 c (Int.le_refl _) h1 (by rw [← hbe]; exact mul_toNat (by omega) hb) h63
    generalize hcells : madeCells z.cells (c.toNat * i.size) = cells at hr
    have hcs : cells.size = c.toNat * (ti P e).size := by rw [← hcells, hse]; simp [madeCells]
    obtain ⟨hr', he⟩ := hs.rel.tok (id := σ.length) (n := 0) (p := some (w.heap.size, 0)) (w' := w.alloc (.cells cells e)) (Nat.le_refl _) (fun m hm => by rw [List.getElem?_eq_none (Nat.le_refl _)] at hm; cases hm)
      (fun ob hob => by rw [List.getElem?_eq_none (Nat.le_refl _)] at hob; cases hob) (hs.rel.below.alloc hs.rel.hB _) (by simp) (fun b x hh => by cases hh; exact Or.inr ⟨Nat.le_refl _, by simp⟩)
      (fun b j hb' _ => ⟨cell_old w _ hb', frozen_old w _ hb'⟩)
    have ht : tokσ σ σ.length 0 = σ ++ [.tok 0] := by simp [tokσ]
    rw [ht] at hr' he
    refine ⟨.slice (some (at_ w.heap.size 0)) 0 c.toNat, _, _, by simp [execOp, ho, h, h', hr], ?_, hr', he⟩
    simp only [V]
    refine ⟨some (at_ w.heap.size 0), c.toNat, rfl, by simp, Nat.zero_le _, ⟨rfl, ⟨0, by simp, Nat.le_refl _⟩, fun _ => Or.inr ⟨w.heap.size, 0, rfl, by simp, fun j _ hj2 => ?_⟩⟩, by simp, fun ad had => ?_⟩
    · have hjl : j < cells.size := by omega
      exact ⟨⟨cells[j], by rw [cell_new]; exact Array.getElem?_eq_getElem hjl⟩, World.frozen?_alloc_new w _ _ _⟩
    · cases had
      refine ⟨w.heap.size, 0, 0, rfl, by simp, fun i' ob x' h7 h8 => ?_, by simp [VLL]⟩
      by_cases hii : i' = σ.length
      · subst hii
        simp at h7; subst h7
        simp
      · simp only [if_neg hii] at h8
        have hlt : i' < σ.length := by have := some_lt h7; simp at this; omega
        rw [List.getElem?_append_left hlt] at h7
        have := hs.rel.blk i' ob _ _ h7 h8
        omega) hk

/-- The elements that a copy or an append reads. -/
def asrc (σ : AHeap) (size : Nat) : AV → Option (List (List AV))
  | .lst _ els _ => some els
  | .sl id off len k => match σ[id]? with
    | some (.cells cs) => if k = size then some (chunks k len (cs.drop off)) else none
    | _ => none
  | .str s => if size = 1 then some (s.data.toList.map fun b => [.int .u8 b.toNat]) else none
  | _ => none

theorem asrc_nil {size : Nat} {x : AV} {els : List (List AV)} (h : asrc [] size x = some els) : asrc σ size x = some els := by
  cases x <;> simp_all [asrc]

theorem chunks_flatten (k : Nat) : ∀ (n : Nat) (l : List AV), (chunks k n l).flatten = l.take (n * k)
  | 0, l => by simp [chunks]
  | n + 1, l => by
    simp only [chunks, List.flatten_cons, chunks_flatten k n, Nat.succ_mul]
    rw [Nat.add_comm, List.take_add]
theorem chunks_len (k : Nat) : ∀ (n : Nat) (l : List AV), n * k ≤ l.length → ∀ el ∈ chunks k n l, el.length = k
  | 0, l, _, el, h => by simp [chunks] at h
  | n + 1, l, hl, el, h => by
    rw [Nat.succ_mul] at hl
    simp only [chunks, List.mem_cons] at h
    rcases h with rfl | h
    · simp; omega
    · exact chunks_len k n _ (by simp; omega) el h

theorem VT_taken {ι w} : ∀ (n : Nat) (xs : List AV) (vs : List Value), VT σ ι w xs vs → VT σ ι w (xs.take n) (vs.take n)
  | 0, _, _, _ => by simp [VT]
  | n + 1, [], vs, h => by simp only [VT] at h; subst h; simp [VT]
  | n + 1, x :: xs, vs, h => by
    simp only [VT] at h
    obtain ⟨u, us, rfl, h1, h2⟩ := h
    simp only [List.take_succ_cons, VT]
    exact ⟨u, us.take n, rfl, h1, VT_taken n xs us h2⟩

theorem flatten_take {els : List (List AV)} {k : Nat} (h : ∀ el ∈ els, el.length = k) : ∀ n, n ≤ els.length → (els.take n).flatten = els.flatten.take (n * k) := by
  induction els with
  | nil => intro n hn; simp
  | cons x xs ih =>
    intro n hn
    cases n with
    | zero => simp
    | succ n =>
      simp only [List.take_succ_cons, List.flatten_cons]
      rw [ih (fun el he => h el (by simp [he])) n (by simpa using hn), Nat.succ_mul, Nat.add_comm (n * k) k]
      have hx := h x (by simp)
      rw [← hx, List.take_length_add_append]

theorem asrc_ok {B w0 ι w} (hr : Rel B w0 σ ι w) {x : AV} {v : Value} {size : Nat} {els : List (List AV)} (h : asrc σ size x = some els) (hv : V σ ι w x v) (hk : ∀ el ∈ els, el.length = size) :
    ∃ news, VT σ ι w els.flatten news ∧ (Builtin.lenOf v).run P w = .ok els.length w ∧ ∀ w', (∀ b j, w'.cell? (at_ b j) = w.cell? (at_ b j)) → ∀ n, n ≤ els.length → (Builtin.firstCells size n v).run P w' = .ok (news.take (n * size)).toArray w' := by
  have rows : ∀ (b off len cap : Nat) (vs : List Value), (∀ j u, vs[j]? = some u → w.cell? (at_ b (off + j)) = some u) → vs.length = els.length * size → ∀ w', (∀ b j, w'.cell? (at_ b j) = w.cell? (at_ b j)) → ∀ n, n ≤ els.length →
      (Builtin.firstCells size n (.slice (some (at_ b off)) len cap)).run P w' = .ok (vs.take (n * size)).toArray w' := by
    intro b off len cap vs h1 h2 w' hw' n hn
    have hle : n * size ≤ els.length * size := Nat.mul_le_mul_right _ hn
    exact run_firstCells_some (P := P) w' size n (at_ b off) len cap (vs.take (n * size)) (by rw [List.length_take]; omega) fun j u hj => by
      rw [List.getElem?_take] at hj
      split at hj
      · rw [at_add, hw']; exact h1 j u hj
      · cases hj
  cases x with
  | lst nl els' tok =>
    simp only [asrc, Option.some.injEq] at h
    subst h
    simp only [V] at hv
    obtain ⟨a, cap, rfl, _, _, _, h5, h6⟩ := hv
    cases a with
    | none =>
      have := h5 rfl
      subst this
      exact ⟨[], by simp [VT], by simp [Builtin.lenOf], fun w' _ n hn => by simp [Builtin.firstCells]⟩
    | some ad =>
      obtain ⟨b, off, kk, rfl, _, _, hl⟩ := h6 ad rfl
      obtain ⟨g1, g2⟩ := VLL_flat _ _ _ _ hl
      obtain ⟨vs, h1, h2⟩ := VL_values _ _ _ g1
      have hlen := VT_length _ _ h1
      rw [flatten_length hk] at hlen
      exact ⟨vs, h1, by simp [Builtin.lenOf], rows b off _ _ vs h2 (by omega)⟩
  | sl id off len k =>
    simp only [asrc] at h
    split at h
    · rename_i cs hid
      split at h
      · rename_i hks
        cases h
        simp only [V] at hv
        obtain ⟨cs', b, y, cap, q, h1, h2, rfl, h4, h5, h6⟩ := hv
        rw [hid] at h1; cases h1
        obtain ⟨b', y', e, hl, _⟩ := hr.obj id _ hid
        rw [h2] at e; cases e
        rw [chunks_flatten, chunks_length]
        have g1 := VL_taken (len * k) (VL_dropn off hl)
        rw [Nat.zero_add] at g1
        obtain ⟨vs, h7, h8⟩ := VL_values _ _ _ g1
        have hlen := VT_length _ _ h7
        have hl2 : ((cs.drop off).take (len * k)).length = len * k := by simp; omega
        rw [hl2] at hlen
        subst hks
        refine ⟨vs, h7, by simp [Builtin.lenOf], fun w' hw' n hn => ?_⟩
        cases len with
        | zero =>
          have : n = 0 := by omega
          subst this
          have := run_firstCells_some (P := P) w' k 0 (at_ b q) 0 cap [] (by simp) (by simp)
          simpa using this
        | succ len =>
          rw [h6 (by omega)]
          exact rows b off _ _ vs h8 (by rw [chunks_length]; omega) w' hw' n (by rw [chunks_length]; exact hn)
      · cases h
    · cases h
  | str s =>
    simp only [asrc] at h
    split at h
    · rename_i h1
      cases h
      subst h1
      simp only [V] at hv
      subst hv
      refine ⟨s.data.toList.map fun b => .int .u8 b.toNat, ?_, ?_, fun w' _ n hn => ?_⟩
      · have : ∀ l : List UInt8, VT σ ι w (l.map fun b => [AV.int .u8 b.toNat]).flatten (l.map fun b => Value.int .u8 b.toNat) := by
          intro l
          induction l with
          | nil => simp [VT]
          | cons b l ih => simp only [List.map_cons, List.flatten_cons, List.singleton_append, VT]; exact ⟨_, _, rfl, by simp [V], ih⟩
        exact this _
      · simp only [Builtin.lenOf, Sem.run_pure, List.length_map]; rfl
      · simp only [Builtin.firstCells, Sem.run_pure, Nat.mul_one]
        congr 1
        apply Array.ext'
        simp [ByteArray.data_extract, List.map_take]
    · cases h
  | _ => simp [asrc] at h

theorem asrc_Src {x : Operand} {size : Nat} {els : List (List AV)} (h : asrc σ size (ev st x) = some els) (hk : ∀ el ∈ els, el.length = size) {B w0 ι w a} (hs : St N B w0 σ ι w st a) :
    ∃ news, VT σ ι w els.flatten news ∧ Src P w size els.length (a.eval x) news := by
  obtain ⟨news, h1, h2, h3⟩ := asrc_ok (P := P) hs.rel h (hs.ev x) hk
  have hl := VT_length _ _ h1
  rw [flatten_length hk] at hl
  have e1 := h3 w (fun _ _ => rfl) els.length (Nat.le_refl _)
  have e2 := h3 w.drew (fun _ _ => rfl) els.length (Nat.le_refl _)
  rw [List.take_of_length_le (by omega)] at e1 e2
  exact ⟨news, h1, h2, e1, e2⟩

theorem rcopy {t t' e : TypeId} {x y : Operand} {id off len k : Nat} {els : List (List AV)} {cs : List AV} (ho : o.op = .call { callee := .builtin .copy, args := #[x, y], argTypes := #[t, t'] }) (hd : (ti P t).desc = some (.slice e))
    (hx : ev st x = .sl id off len k) (hkk : k = (ti P e).size) (hsz : 0 < (ti P e).size) (hid : σ[id]? = some (.cells cs)) (hy : asrc σ (ti P e).size (ev st y) = some els) (hw : ∀ el ∈ els, el.length = (ti P e).size ∧ el.all one = true)
    (hk : K (.int .i64 (min els.length len : Nat)) (σ.set id (.cells (splice cs off (els.take (min els.length len)).flatten)))) : AOp P N o st σ K :=
  AOp_val _ _ (fun B w0 ι w a hs => by
    obtain ⟨_, _, hu, _⟩ := ti_desc hd
    obtain ⟨ie, hie, hse, _⟩ := ti_size hsz
    have hv := hs.ev x
    rw [hx] at hv; simp only [V] at hv
    obtain ⟨cs', b, z, cap, q, h1, h2, h3, h4, h5, h6⟩ := hv
    rw [hid] at h1; cases h1
    obtain ⟨news, g1, g2, g3⟩ := asrc_ok (P := P) hs.rel hy (hs.ev y) fun el he => (hw el he).1
    generalize hm : min els.length len = m at hk ⊢
    have hm1 : m ≤ els.length := by omega
    have hm2 : m ≤ len := by omega
    have g4 := g3 w (fun _ _ => rfl) m hm1
    have hft := flatten_take (fun el he => (hw el he).1) m hm1
    have hvt : VT σ ι w (els.take m).flatten (news.take (m * (ti P e).size)) := by rw [hft]; exact VT_taken _ _ _ g1
    have hfl : (els.take m).flatten.length = m * (ti P e).size := by
      rw [flatten_length fun el he => (hw el (List.mem_of_mem_take he)).1, List.length_take]; congr 1; omega
    have hml : m * (ti P e).size ≤ len * k := by rw [hkk]; exact Nat.mul_le_mul_right _ hm2
    have hone : ∀ v ∈ news.take (m * (ti P e).size), v.oneCell' = true := VT_one (all_flatten fun el he => (hw el (List.mem_of_mem_take he)).2) hvt
    obtain ⟨b', y', e', hvl, hfr⟩ := hs.rel.obj id _ hid
    rw [h2] at e'; cases e'
    have hlen := VT_length _ _ hvt
    have hst : (storeCells (at_ b q) (news.take (m * (ti P e).size))).run P w = .ok () (w.setCells b off (news.take (m * (ti P e).size))) := by
      by_cases hm0 : m = 0
      · subst hm0
        simp [storeCells, World.setCells]
      · rw [h6 (by omega)]
        have := run_storeCells_cells (P := P) b off (news.take (m * (ti P e).size)) 0 w (fun j hj => by
          obtain ⟨v, hv⟩ := VL_cell (j := off + j) hvl (by omega)
          simp only [Nat.zero_add] at hv
          simp [hv]) (fun j hj => by simpa using hfr (off + j) (by omega)) hone
        simpa using this
    have hrun : (Builtin.copy_ #[t, t'] o.type #[a.eval x, a.eval y]).run P w = .ok (.int .i64 (m : Nat)) (w.setCells b off (news.take (m * (ti P e).size))) := by
      have hmm : Nat.min els.length len = m := hm
      simp [Builtin.copy_, runderlying hu, h3, g2, hmm, rsizeOf hie, ← hse, g4, hst, goInt]
    obtain ⟨hr, he⟩ := hs.rel.store (off := off) hid h2 hvt (by rw [hfl]; omega)
    exact ⟨.int .i64 (m : Nat), ι, w.setCells b off (news.take (m * (ti P e).size)), by simp [execOp, ho, resolve, invoke, builtin, hrun], by simp [V], hr, he⟩) hk

/-- The bytes of a string's value. -/
def bytesOf (els : List (List AV)) : List UInt8 := els.map fun el => match el with
  | [.int _ n] => UInt8.ofNat n.toNat
  | _ => 0

/-- Elements, by what each one's cells are. -/
def els {α : Type} (g : α → List AV) (l : List α) : List (List AV) := l.map g
/-- A byte's cells. -/
def bcell (b : UInt8) : List AV := [.int .u8 b.toNat]
/-- Bytes as elements. -/
abbrev bels (l : List UInt8) : List (List AV) := els bcell l
theorem bels_map (l : List UInt8) : bels l = l.map fun b => [.int .u8 b.toNat] := rfl
@[simp] theorem bytesOf_bels (l : List UInt8) : bytesOf (bels l) = l := by
  unfold bytesOf
  rw [bels_map, List.map_map]
  conv => rhs; rw [← List.map_id l]
  apply List.map_congr_left
  intro b _
  simp

theorem rconvBS {s d e : TypeId} {x : Operand} {l : List UInt8} (ho : o.op = .convert s d x) (hs' : (ti P s).desc = some (.slice e)) (he : (ti P e).desc = some (.int .u8)) (hd : (ti P d).desc = some .string)
    (hx : asrc σ 1 (ev st x) = some (bels l)) (hsl : ∀ b, ev st x ≠ .str b) (hk : K (.str ⟨l.toArray⟩) σ) : AOp P N o st σ K :=
  AOp_pure _ (fun B w0 ι w a hs => by
    obtain ⟨_, _, hu1, _⟩ := ti_desc hs'
    obtain ⟨_, _, hu2, _⟩ := ti_desc he
    obtain ⟨_, _, hu3, _⟩ := ti_desc hd
    obtain ⟨news, h1, h2, h3⟩ := asrc_ok (P := P) hs.rel hx (hs.ev x) (by simp [bels_map])
    have hnews : news = (l.map fun b => (b.toNat : Int)).map (Value.int .u8) := by
      have key : ∀ (l : List UInt8) (news : List Value), VT σ ι w (bels l).flatten news → news = (l.map fun b => (b.toNat : Int)).map (Value.int .u8) := by
        intro l
        induction l with
        | nil => intro news h; simpa [bels_map, VT] using h
        | cons b l ih =>
          intro news h
          simp only [bels_map, List.map_cons, List.flatten_cons, List.singleton_append, VT] at h
          obtain ⟨u, us, rfl, h1, h2⟩ := h
          simp only [V] at h1
          rw [h1, ih us h2]; simp
      exact key l news h1
    have hv := hs.ev x
    obtain ⟨ad, len, cap, hval⟩ : ∃ ad len cap, a.eval x = .slice ad len cap := by
      generalize ev st x = y at hx hv hsl
      cases y with
      | lst nl els tok => simp only [V] at hv; obtain ⟨ad, cap, e, _⟩ := hv; exact ⟨_, _, _, e⟩
      | sl id off len k => simp only [V] at hv; obtain ⟨_, b, _, cap, q, _, _, e, _⟩ := hv; exact ⟨_, _, _, e⟩
      | str b => exact absurd rfl (hsl b)
      | _ => simp [asrc] at hx
    refine ⟨.string ⟨l.toArray⟩, ?_, by simp [V]⟩
    have hcv := run_convert_bytes_string (P := P) w s d e ad len cap hu1 hu2 hu3
    have hrun : (Conv.bytesToString (.slice ad len cap)).run P w = .ok (.string ⟨l.toArray⟩) w := by
      rw [hval] at h2 h3
      have hlen : len = l.length := by simpa [Builtin.lenOf, bels_map] using h2
      cases ad with
      | none =>
        have := h3 w (fun _ _ => rfl) (bels l).length (Nat.le_refl _)
        simp only [Builtin.firstCells, Sem.run_pure, bels_map, List.length_map, Nat.mul_one] at this
        have hn : news.length = l.length := by rw [hnews]; simp
        rw [List.take_of_length_le (by omega)] at this
        have hz : news = [] := by simpa using this.symm
        have : l = [] := by
          rw [hz] at hn
          exact List.eq_nil_of_length_eq_zero hn.symm
        subst this
        simp [Conv.bytesToString, Sem.run_pure]; rfl
      | some ad =>
        have := h3 w (fun _ _ => rfl) (bels l).length (Nat.le_refl _)
        simp only [Builtin.firstCells, bels_map, List.length_map, Nat.mul_one] at this
        have hn : news.length = l.length := by rw [hnews]; simp
        rw [List.take_of_length_le (by omega), hnews, ← hlen] at this
        rw [run_bytesToString (P := P) w ad len cap _ this, foldl_push_byteCells]
        simp [ByteArray.empty, ByteArray.emptyWithCapacity]; rfl
    simp [execOp, ho, hval, hcv, hrun]) hk

theorem rconvSB {s d e : TypeId} {x : Operand} {b : ByteArray} (ho : o.op = .convert s d x) (hs' : (ti P s).desc = some .string) (hd : (ti P d).desc = some (.slice e)) (he : (ti P e).desc = some (.int .u8))
    (hx : ev st x = .str b) (hk : K (.lst (some false) (bels b.data.toList) .none) σ) : AOp P N o st σ K :=
  AOp_val _ σ (fun B w0 ι w a hs => by
    obtain ⟨_, _, hu1, _⟩ := ti_desc hs'
    obtain ⟨_, _, hu2, _⟩ := ti_desc hd
    obtain ⟨_, _, hu3, _⟩ := ti_desc he
    have hv := hs.ev x
    rw [hx] at hv; simp only [V] at hv
    have hr := run_bytes_of_string (P := P) w s d e b hu1 hu2 hu3
    generalize hcap : grownCap w b.size 0 e = cap at hr
    have hge : b.size ≤ cap := by rw [← hcap]; exact grownCap_ge _ _ _ _
    obtain ⟨hrd, sd⟩ := hs.rel.drew
    obtain ⟨hr2, s2⟩ := hrd.imm (.cells (bytesRow b cap) e ((bytesRow b cap).size, (bytesRow b cap).size + 1))
    refine ⟨.slice (some (at_ w.heap.size 0)) b.size cap, ι, _, by simp [execOp, ho, hv, hr], ?_, hr2, (Ext.step sd (Nat.le_refl _)).trans (Ext.step s2 (Nat.le_refl _))⟩
    simp only [V]
    have hbl : (bels b.data.toList).length = b.size := by simp [bels_map]
    refine ⟨some (at_ w.heap.size 0), cap, by rw [hbl], by simp, by rw [hbl]; exact hge, trivial, by simp, fun ad had => ?_⟩
    cases had
    refine ⟨w.heap.size, 0, 1, rfl, by simp, Safe_new hrd _, VLL_ofGet _ _ _ _ fun j el hel => ?_⟩
    simp only [bels_map, List.getElem?_map, Option.map_eq_some_iff] at hel
    obtain ⟨c, h1, rfl⟩ := hel
    refine ⟨rfl, ?_⟩
    simp only [VL, and_true]
    refine ⟨.int .u8 c.toNat, ?_, by simp [V]⟩
    have hj : j < b.data.size := by have := some_lt h1; simpa using this
    have : (w.drew.alloc (.cells (bytesRow b cap) e ((bytesRow b cap).size, (bytesRow b cap).size + 1))).cell? (at_ w.heap.size (0 + j * 1)) = (bytesRow b cap)[j]? := by
      rw [Nat.zero_add, Nat.mul_one]
      exact World.cell?_alloc_mark w.drew _ _ _ _
    rw [this]
    unfold bytesRow
    rw [Array.getElem?_append_left (by simpa using hj), Array.getElem?_map, ← Array.getElem?_toList, h1]
    rfl) hk

end
end Go.Sal
