/- SalK: append, the rule. -/
import Derived.Test.YtdleboihgaedjaaGreatSalJ
namespace Go.Sal
open Go.RowKit

theorem VLL_append {σ ι w} : ∀ (xs ys : List (List AV)) (b off k : Nat), VLL σ ι w b off k xs → VLL σ ι w b (off + xs.length * k) k ys → VLL σ ι w b off k (xs ++ ys)
  | [], ys, b, off, k, _, h => by simpa using h
  | x :: xs, ys, b, off, k, h, h' => by
    simp only [VLL, List.cons_append] at h ⊢
    refine ⟨h.1, h.2.1, VLL_append xs ys b (off + k) k h.2.2 ?_⟩
    rw [List.length_cons, Nat.succ_mul] at h'
    rwa [show off + k + xs.length * k = off + (xs.length * k + k) by omega]

theorem VLL_ofFlat {σ ι w} : ∀ (els : List (List AV)) (b off k : Nat), (∀ el ∈ els, el.length = k) → VL σ ι w b off els.flatten → VLL σ ι w b off k els
  | [], _, _, _, _, _ => by simp [VLL]
  | x :: xs, b, off, k, hk, h => by
    simp only [VLL]
    have hx := hk x (by simp)
    rw [List.flatten_cons] at h
    refine ⟨hx, ?_, VLL_ofFlat xs b (off + k) k (fun el he => hk el (by simp [he])) ?_⟩
    · have := VL_taken x.length h; rwa [List.take_left] at this
    · have := VL_dropn x.length h; rwa [List.drop_left, hx] at this

theorem flatten_length {els : List (List AV)} {k : Nat} (h : ∀ el ∈ els, el.length = k) : els.flatten.length = els.length * k := by
  induction els with
  | nil => simp
  | cons x xs ih => simp only [List.flatten_cons, List.length_append, List.length_cons, Nat.succ_mul, h x (by simp), ih fun el he => h el (by simp [he])]; omega

theorem all_flatten {els : List (List AV)} (h : ∀ el ∈ els, el.all one = true) : els.flatten.all one = true := by
  induction els with
  | nil => rfl
  | cons x xs ih => simp only [List.flatten_cons, List.all_append, h x (by simp), ih fun el he => h el (by simp [he]), Bool.and_self]

/-- The token behind an append: the slice's own, or a new one where there is no spare room. -/
def tokId (σ : AHeap) (len k : Nat) : Tok → Option Nat
  | .none => none
  | .full => some σ.length
  | .own id n k' => match σ[id]? with
    | some (.tok m) => if n = len ∧ k' = k ∧ m = n then some id else none
    | _ => none

section
variable {P : Program} {N : Nat} {σ : AHeap} {st : Tm} {o : Oper} {K : AV → AHeap → Prop}

theorem set_same {l : AHeap} {i : Nat} {x : AObj} (h : l[i]? = some x) : l.set i x = l := by
  apply List.ext_getElem?
  intro j
  rw [get_set (some_lt h)]
  split
  · rename_i e; subst e; exact h.symm
  · rfl

/-- Whether a slice is nil behind an append. -/
def napp (nl : Option Bool) : List (List AV) → Option Bool
  | [] => nl
  | _ :: _ => some false

theorem rappend {t t' e : TypeId} {d' : TypeDesc} {x y : Operand} {nl : Option Bool} {els els2 : List (List AV)} {tok : Tok} {zc : List AV} {id : Nat}
    (ho : o.op = .call { callee := .builtin .append, args := #[x, y], argTypes := #[t, t'] }) (hd : (ti P t).desc = some (.slice e)) (hd' : (ti P t').desc = some d') (hnd : notInt d')
    (hz : (ti P e).zero = some zc) (hzl : zc.length = (ti P e).size) (hsz : 0 < (ti P e).size)
    (hx : ev st x = .lst nl els tok) (hw : ∀ el ∈ els, el.length = (ti P e).size)
    (hy : ∀ B w0 ι w a, St N B w0 σ ι w st a → ∃ news, VT σ ι w els2.flatten news ∧ Src P w (ti P e).size els2.length (a.eval y) news)
    (hw2 : ∀ el ∈ els2, el.length = (ti P e).size ∧ el.all one = true)
    (hlen : els.length + els2.length ≤ maxLen) (hby : (els.length + els2.length) * (ti P e).bytes ≤ 140737488355328)
    (ht : tokId σ els.length (ti P e).size tok = some id)
    (hk : K (.lst (napp nl els2) (els ++ els2) (.own id (els.length + els2.length) (ti P e).size)) (tokσ σ id (els.length + els2.length))) : AOp P N o st σ K := by
  refine AOp_val _ _ (fun B w0 ι w a hs => ?_) hk
  have h := hs.ev x
  rw [hx] at h
  have hV := h
  simp only [V] at h
  obtain ⟨base, cap, h1, h2, h3, h4, h5, h6⟩ := h
  obtain ⟨_, _, hu, _⟩ := ti_desc hd
  obtain ⟨_, _, hu', _⟩ := ti_desc hd'
  obtain ⟨i, z, hi, hzz, rfl, hse, hbe⟩ := ti_zero hz
  obtain ⟨news, hn1, hsrc⟩ := hy B w0 ι w a hs
  generalize hk0 : (ti P e).size = k at *
  generalize hm0 : els2.length = m at *
  generalize hl0 : els.length = n at *
  have hnl := VT_length _ _ hn1
  rw [flatten_length (fun el he => (hw2 el he).1), hm0] at hnl
  have hone := VT_one (all_flatten fun el he => (hw2 el he).2) hn1
  have hops : ∀ v' w', (Builtin.append_ #[t, t'] o.type #[.slice base n cap, a.eval y]).run P w = .ok v' w' → (execOp a.eval o).run P w = .ok (.value v') w' := by
    intro v' w' hr
    simp [execOp, ho, resolve, invoke, builtin, h1, hr]
  -- what is known of the token
  have hid : id ≤ σ.length ∧ (∀ mm, σ[id]? = some (.tok mm) → mm = n) ∧ (∀ ob, σ[id]? = some ob → ∃ mm, ob = .tok mm) ∧
      (cap = n ∨ ∃ b off, id < σ.length ∧ base = some (at_ b off) ∧ ι id = some (b, off + n * k) ∧ ∀ j, off + n * k ≤ j → j < off + cap * k → (∃ v, w.cell? (at_ b j) = some v) ∧ w.frozen? (at_ b j) = false) := by
    cases tok with
    | none => simp [tokId] at ht
    | full =>
      simp only [tokId, Option.some.injEq] at ht
      subst ht
      refine ⟨Nat.le_refl _, fun mm hmm => ?_, fun ob hob => ?_, Or.inl h4⟩
      · rw [List.getElem?_eq_none (Nat.le_refl _)] at hmm; cases hmm
      · rw [List.getElem?_eq_none (Nat.le_refl _)] at hob; cases hob
    | own id' n' k' =>
      simp only [tokId] at ht
      split at ht
      · rename_i mm hmm
        split at ht
        · rename_i hh
          obtain ⟨rfl, rfl, rfl⟩ := hh
          simp only [Option.some.injEq] at ht
          subst ht
          refine ⟨Nat.le_of_lt (some_lt hmm), fun q hq => by rw [hmm] at hq; cases hq; rfl, fun ob hob => ⟨_, by rw [hmm] at hob; cases hob; rfl⟩, ?_⟩
          rcases h4.2.2 hmm with g | ⟨b, off, g1, g2, g3⟩
          · exact Or.inl g
          · exact Or.inr ⟨b, off, some_lt hmm, g1, g2, g3⟩
        · cases ht
      · cases ht
  obtain ⟨hid1, hid2, hid3, hid4⟩ := hid
  have hgetid : (tokσ σ id (n + m))[id]? = some (.tok (n + m)) := by rw [tokσ_get hid1, if_pos rfl]
  have htokOk : ∀ (w' : World) (ι' : Inj) (base' : Option Addr) (cap' : Nat), (cap' = n + m ∨ ∃ b off, base' = some (at_ b off) ∧ ι' id = some (b, off + (n + m) * k) ∧
      ∀ j, off + (n + m) * k ≤ j → j < off + cap' * k → (∃ v, w'.cell? (at_ b j) = some v) ∧ w'.frozen? (at_ b j) = false) →
      TokOk (tokσ σ id (n + m)) ι' w' base' (n + m) cap' (.own id (n + m) k) := by
    intro w' ι' base' cap' hh
    exact ⟨rfl, ⟨n + m, hgetid, Nat.le_refl _⟩, fun _ => hh⟩
  have hnlen : (els ++ els2).length = n + m := by rw [List.length_append, hl0, hm0]
  by_cases hm : m = 0
  · -- nothing is appended
    subst hm
    have he2 : els2 = [] := List.eq_nil_of_length_eq_zero hm0
    subst he2
    have hnews : news = [] := by simp only [List.flatten_nil, VT] at hn1; exact hn1
    subst hnews
    have hrun := append_room (P := P) (ty := o.type) hu hu' hnd hi (base := base) (sLen := n) (sCap := cap) (m := 0) hsrc.1 (by rw [← hse]; exact hsrc.2.1) (by omega) (w' := w) (fun _ _ => by simp [storeCells]) (fun _ => rfl)
    have hrel : ∃ ι', Rel B w0 (tokσ σ id (n + 0)) ι' w ∧ Ext σ ι w (tokσ σ id (n + 0)) ι' w ∧ (cap = n ∨ ι' = ι) := by
      by_cases hlt : id < σ.length
      · obtain ⟨ob, hob⟩ : ∃ ob, σ[id]? = some ob := ⟨_, List.getElem?_eq_getElem hlt⟩
        obtain ⟨mm, rfl⟩ := hid3 ob hob
        have := hid2 mm hob
        subst this
        refine ⟨ι, ?_, ?_, Or.inr rfl⟩ <;> (unfold tokσ; rw [if_pos hlt, Nat.add_zero, set_same hob])
        · exact hs.rel
        · exact Ext.refl _ _ _
      · have := hs.rel.tok (id := id) (n := n + 0) (p := none) (w' := w) hid1 (fun mm hmm => absurd (some_lt hmm) hlt) hid3 hs.rel.below (Nat.le_refl _) (fun _ _ h => by cases h) (fun b j _ _ => ⟨rfl, rfl⟩)
        refine ⟨_, this.1, this.2, Or.inl ?_⟩
        rcases hid4 with g | ⟨_, _, g, _⟩
        · exact g
        · exact absurd g hlt
    obtain ⟨ι', hr, he, hcap⟩ := hrel
    refine ⟨_, ι', w, hops _ _ hrun, ?_, hr, he⟩
    have hV' := he.2 _ _ hV
    simp only [V] at hV' ⊢
    obtain ⟨base', cap', e1, e2, e3, e4, e5, e6⟩ := hV'
    rw [h1] at e1; cases e1
    rw [hnlen]
    refine ⟨base, cap, rfl, by simpa [napp] using e2, by omega, ?_, by simpa using e5, ?_⟩
    · refine htokOk w ι' base cap ?_
      rcases hid4 with g | ⟨b, off, g1, g2, g3, g4⟩
      · exact Or.inl (by omega)
      · rcases hcap with hcap | hcap
        · exact Or.inl (by omega)
        · subst hcap; exact Or.inr ⟨b, off, g2, by simpa using g3, by simpa using g4⟩
    · simpa [hl0] using e6
  · have hempty : napp nl els2 = some false := by
      cases els2 with
      | nil => simp at hm0; omega
      | cons _ _ => rfl
    by_cases hroom : n + m ≤ cap
    · -- there is room
      rcases hid4 with g | ⟨b, off, g1, rfl, g3, g4⟩
      · omega
      have hcapk : (n + m) * k ≤ cap * k := Nat.mul_le_mul_right _ hroom
      rw [Nat.add_mul] at hcapk
      have hst := run_storeCells_cells (P := P) b (off + n * k) news 0 w (fun j hj => by
          obtain ⟨⟨v, hv⟩, _⟩ := g4 (off + n * k + j) (by omega) (by omega)
          simp only [at_] at hv
          simp [hv]) (fun j hj => (g4 (off + n * k + 0 + j) (by omega) (by omega)).2) hone
      simp only [Nat.add_zero] at hst
      have hrun := append_room (P := P) (ty := o.type) hu hu' hnd hi (base := some (at_ b off)) (sLen := n) (sCap := cap) (m := m) hsrc.1 (by rw [← hse]; exact hsrc.2.1) hroom (w' := w.setCells b (off + n * k) news)
        (fun ad had => by cases had; rw [at_add, ← hse]; exact hst) (fun hh => by cases hh)
      have hB := hs.rel.blk id _ b _ (List.getElem?_eq_getElem g1) g3
      have hcells : ∀ b' j, b' < w.heap.size → (∀ y, ι id = some (b', y) → id < σ.length → j < y) → (w.setCells b (off + n * k) news).cell? (at_ b' j) = w.cell? (at_ b' j) ∧ (w.setCells b (off + n * k) news).frozen? (at_ b' j) = w.frozen? (at_ b' j) := by
        intro b' j _ hh
        refine ⟨?_, setCells_frozen _ _ _ _ _⟩
        by_cases hbb : b' = b
        · subst hbb; exact setCells_out _ _ _ _ _ (Or.inl (hh _ g3 g1))
        · exact setCells_other _ _ _ _ _ hbb
      obtain ⟨hr, he⟩ := hs.rel.tok (id := id) (n := n + m) (p := some (b, off + (n + m) * k)) (w' := w.setCells b (off + n * k) news) hid1 (fun mm hmm => by rw [hid2 mm hmm]; omega) hid3
        (setCells_below _ _ _ _ hs.rel.below hB.1) (by rw [setCells_size]; exact Nat.le_refl _) (fun b' x' hh => by cases hh; exact Or.inl ⟨_, g3, g1, by rw [Nat.add_mul]; omega⟩) hcells
      refine ⟨_, _, _, hops _ _ hrun, ?_, hr, he⟩
      have hV' := he.2 _ _ hV
      simp only [V] at hV' ⊢
      obtain ⟨base', cap', e1, e2, e3, e4, e5, e6⟩ := hV'
      rw [h1] at e1; cases e1
      rw [hnlen, hempty]
      refine ⟨some (at_ b off), cap, rfl, by simp, hroom, ?_, by simp, fun ad had => ?_⟩
      · refine htokOk _ _ _ _ (Or.inr ⟨b, off, rfl, if_pos rfl, fun j hj1 hj2 => ?_⟩)
        rw [Nat.add_mul] at hj1
        rw [setCells_out _ _ _ _ _ (Or.inr (by omega)), setCells_frozen]
        exact g4 j (by omega) hj2
      · cases had
        obtain ⟨b', off', kk, e7, e8, e9, e10⟩ := e6 _ rfl
        cases e7
        refine ⟨b, off, k, rfl, e8, fun i' ob x' h7 h8 => ?_, VLL_append _ _ _ _ _ ?_ ?_⟩
        · by_cases hii : i' = id
          · subst hii
            rw [hgetid] at h7; cases h7
            simp only [if_true, Option.some.injEq, Prod.mk.injEq, true_and] at h8
            subst h8
            exact Nat.le_refl _
          · rw [tokσ_get hid1, if_neg hii] at h7
            simp only [if_neg hii] at h8
            exact absurd (hs.rel.inj i' id _ _ _ _ _ h7 (List.getElem?_eq_getElem g1) h8 g3) hii
        · cases els with
          | nil => simp [VLL]
          | cons q qs =>
            have : kk = k := by simp only [VLL] at e10; rw [← e10.1]; exact hw q (by simp)
            subst this; exact e10
        · refine VLL_ofFlat _ _ _ _ (fun el he => (hw2 el he).1) (VL_ofGet _ _ _ fun j q hq => ?_)
          rw [hl0]
          obtain ⟨v, hv1, hv2⟩ := VT_get _ _ _ _ hn1 hq
          have hj := some_lt hv1
          exact ⟨v, setCells_in _ _ _ _ _ _ ((g4 (off + els.length * k + j) (by omega) (by omega)).1) hv1, he.2 _ _ hv2⟩
    · -- a new block
      have holds : ∃ olds : List Value, VT σ ι w els.flatten olds ∧ (Builtin.firstCells i.size n (.slice base n cap)).run P w.drew = .ok olds.toArray w.drew := by
        obtain ⟨olds, q1, q2⟩ := VLL_Src (P := P) hV hw
        rw [h1, hl0, hse] at q2
        exact ⟨olds, q1, q2.2.2⟩
      obtain ⟨olds, q1, q2⟩ := holds
      have holdl := VT_length _ _ q1
      rw [flatten_length hw, hl0] at holdl
      have hrun := append_grow (P := P) (ty := o.type) hu hu' hnd hi hzz (base := base) (sLen := n) (sCap := cap) (m := m) hsrc.1 (by rw [← hse]; exact hsrc.2.2) q2 (by omega) hlen (by rw [← hbe]; exact hby)
      generalize hcap' : grownCap w (n + m) cap e = cap' at hrun
      have hge : n + m ≤ cap' := by rw [← hcap']; exact grownCap_ge _ _ _ _
      have hzs : z.cells.size = k := by simpa using hzl
      generalize hobj : (olds.toArray ++ news.toArray ++ Builtin.zeroCells z.cells (cap' - (n + m))) = cells at hrun
      have hcsz : cells.size = cap' * k := by
        rw [← hobj]
        simp only [Array.size_append, List.size_toArray, size_zeroCells, hzs, ← holdl, ← hnl, ← Nat.add_mul]
        congr 1; omega
      obtain ⟨hrd, sd⟩ := hs.rel.drew
      obtain ⟨hr, he⟩ := hrd.tok (id := id) (n := n + m) (p := some (w.heap.size, (n + m) * k)) (w' := w.drew.alloc (.cells cells e)) hid1 (fun mm hmm => by rw [hid2 mm hmm]; omega) hid3
        ((hs.rel.below.drew).alloc hs.rel.hB _) (by simp) (fun b' x' hh => by cases hh; exact Or.inr ⟨Nat.le_refl _, by simp⟩) (fun b' j hb' _ => ⟨cell_old w.drew _ hb', frozen_old w.drew _ hb'⟩)
      have he' := (Ext.step sd (Nat.le_refl _)).trans he
      refine ⟨_, _, _, hops _ _ hrun, ?_, hr, he'⟩
      simp only [V]
      rw [hnlen, hempty]
      refine ⟨some (at_ w.heap.size 0), cap', rfl, by simp, hge, ?_, by simp, fun ad had => ?_⟩
      · refine htokOk _ _ _ _ (Or.inr ⟨w.heap.size, 0, rfl, by simp, fun j hj1 hj2 => ?_⟩)
        have hjl : j < cells.size := by omega
        exact ⟨⟨cells[j], by rw [show w.heap.size = w.drew.heap.size from rfl, cell_new]; exact Array.getElem?_eq_getElem hjl⟩, World.frozen?_alloc_new w.drew _ _ _⟩
      · cases had
        refine ⟨w.heap.size, 0, k, rfl, by simp, fun i' ob x' h7 h8 => ?_, ?_⟩
        · by_cases hii : i' = id
          · subst hii
            rw [hgetid] at h7; cases h7
            simp only [if_true, Option.some.injEq, Prod.mk.injEq, true_and] at h8
            subst h8
            simp
          · rw [tokσ_get hid1, if_neg hii] at h7
            simp only [if_neg hii] at h8
            have := hs.rel.blk i' ob _ _ h7 h8
            omega
        · refine VLL_ofFlat _ _ _ _ (fun el hel => ?_) (VL_ofGet _ _ _ fun j q hq => ?_)
          · rcases List.mem_append.1 hel with g | g
            · exact hw el g
            · exact (hw2 el g).1
          · rw [Nat.zero_add, show w.heap.size = w.drew.heap.size from rfl, cell_new]
            rw [List.flatten_append] at hq
            have hfl : els.flatten.length = n * k := by rw [flatten_length hw, hl0]
            rcases Nat.lt_or_ge j (n * k) with hj | hj
            · rw [List.getElem?_append_left (by omega)] at hq
              obtain ⟨v, hv1, hv2⟩ := VT_get _ _ _ _ q1 hq
              refine ⟨v, ?_, he'.2 _ _ hv2⟩
              rw [← hobj, ← Array.getElem?_toList]
              simp only [Array.toList_append]
              rw [List.append_assoc, List.getElem?_append_left (by omega)]
              exact hv1
            · rw [List.getElem?_append_right (by omega), hfl] at hq
              obtain ⟨v, hv1, hv2⟩ := VT_get _ _ _ _ hn1 hq
              have := some_lt hv1
              refine ⟨v, ?_, he'.2 _ _ hv2⟩
              rw [← hobj, ← Array.getElem?_toList]
              simp only [Array.toList_append]
              rw [List.append_assoc, List.getElem?_append_right (by omega), List.getElem?_append_left (by omega), ← holdl]
              exact hv1

theorem cleanLL_flat {n : Nat} : ∀ (els : List (List AV)), cleanL n els.flatten = els.flatten → cleanLL n els = els
  | [], _ => rfl
  | x :: xs, h => by
    simp only [List.flatten_cons, cleanL_map, List.map_append] at h
    obtain ⟨h1, h2⟩ := List.append_inj h (by simp)
    simp only [cleanLL, cleanL_map, h1, List.cons.injEq, true_and]
    exact cleanLL_flat xs (by rw [cleanL_map]; exact h2)

/-- An append onto a slice without spare room; what spare room there is from now on is not told. -/
theorem rappendN {t t' e : TypeId} {d' : TypeDesc} {x y : Operand} {nl : Option Bool} {els els2 : List (List AV)} {zc : List AV}
    (ho : o.op = .call { callee := .builtin .append, args := #[x, y], argTypes := #[t, t'] }) (hd : (ti P t).desc = some (.slice e)) (hd' : (ti P t').desc = some d') (hnd : notInt d')
    (hz : (ti P e).zero = some zc) (hzl : zc.length = (ti P e).size) (hsz : 0 < (ti P e).size)
    (hx : ev st x = .lst nl els .full) (hw : ∀ el ∈ els, el.length = (ti P e).size)
    (hy : ∀ B w0 ι w a, St N B w0 σ ι w st a → ∃ news, VT σ ι w els2.flatten news ∧ Src P w (ti P e).size els2.length (a.eval y) news)
    (hw2 : ∀ el ∈ els2, el.length = (ti P e).size ∧ el.all one = true)
    (hlen : els.length + els2.length ≤ maxLen) (hby : (els.length + els2.length) * (ti P e).bytes ≤ 140737488355328)
    (hk : K (.lst (napp nl els2) (els ++ els2) .none) σ) : AOp P N o st σ K := by
  intro B w0 ι w a Q hs
  refine Oper.wp_mono ?_ (rappend (K := fun x σ' => x = .lst (napp nl els2) (els ++ els2) (.own σ.length (els.length + els2.length) (ti P e).size) ∧ σ' = tokσ σ σ.length (els.length + els2.length)) ho hd hd' hnd hz hzl hsz hx hw hy hw2 hlen hby rfl ⟨rfl, rfl⟩ B w0 ι w a Q hs)
  rintro a' w' ⟨x', σ', ι', v, ⟨rfl, rfl⟩, rfl, hv, hr, he⟩
  have ht : tokσ σ σ.length (els.length + els2.length) = σ ++ [.tok (els.length + els2.length)] := by simp [tokσ]
  rw [ht] at hv hr he
  have hc := hs.rel.closed
  refine ⟨_, σ, ι', v, hk, rfl, ?_, hr.drop hc, he.drop (Nat.le_refl _)⟩
  have := V_drop _ _ hv
  obtain ⟨news, h1, _⟩ := hy B w0 ι w a hs
  have c2 := cleanLL_flat els2 (VT_clean _ _ h1)
  have hxv := hs.ev x
  rw [hx] at hxv
  have c1 := V_clean _ _ hxv
  simp only [clean, AV.lst.injEq, true_and] at c1
  simp only [clean, cleanLL_map, List.map_append] at this
  rw [← cleanLL_map, ← cleanLL_map, c1.1, c2] at this
  simpa [cleanT] using this

end
end Go.Sal
