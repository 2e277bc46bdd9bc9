/- SalP: regions whose order is drawn: the rule. -/
import Derived.Test.YtdleboihgaedjaaGreatSalO
namespace Go.Sal
open Go.RowKit

theorem filter_lt {l : List Nat} {p q : Nat → Bool} {i : Nat} (hi : i ∈ l) (h : ∀ j, q j = true → p j = true) (hp : p i = true) (hq : q i = false) : (l.filter q).length < (l.filter p).length := by
  induction l with
  | nil => cases hi
  | cons x xs ih =>
    have hle : (xs.filter q).length ≤ (xs.filter p).length := by
      rw [← List.countP_eq_length_filter, ← List.countP_eq_length_filter]
      exact List.countP_mono_left fun j _ => h j
    by_cases e : x = i
    · subst e
      rw [List.filter_cons_of_pos hp, List.filter_cons_of_neg (by simp [hq])]
      simp; omega
    · have hi' : i ∈ xs := by
        cases hi with
        | head => exact absurd rfl e
        | tail _ h => exact h
      have := ih hi'
      by_cases hqx : q x = true
      · rw [List.filter_cons_of_pos hqx, List.filter_cons_of_pos (h x hqx)]; simp; omega
      · rw [List.filter_cons_of_neg hqx]
        by_cases hpx : p x = true
        · rw [List.filter_cons_of_pos hpx]; simp; omega
        · rw [List.filter_cons_of_neg hpx]; exact this

section
variable {P : Program} {N : Nat} {md : List (Nat × Nat)} {ops : Array Oper} {n : Nat}

/-- How many operations have not come up yet. -/
def left (ops : Array Oper) (listed : Array Bool) : Nat := ((List.range ops.size).filter fun j => !listed.getD j false).length

theorem getD_set {l : Array Bool} {i j : Nat} (hi : i < l.size) : (l.setIfInBounds i true).getD j false = (j == i || l.getD j false) := by
  by_cases e : j = i
  · subst e; simp [Array.getD_eq_getD_getElem?, hi]
  · simp only [Array.getD_eq_getD_getElem?]
    rw [Array.getElem?_setIfInBounds_ne (by omega)]
    simp [e]

theorem left_set {listed : Array Bool} {i : Nat} (hs : listed.size = ops.size) (hi : i < ops.size) (hl : listed.getD i false = false) : left ops (listed.setIfInBounds i true) < left ops listed := by
  unfold left
  refine filter_lt (i := i) (by simpa using hi) (fun j hj => ?_) (by simp [hl]) ?_
  · rw [getD_set (by omega)] at hj; simp at hj ⊢; exact hj.2
  · rw [getD_set (by omega)]; simp

theorem left_zero {listed : Array Bool} (h : left ops listed = 0) {i : Nat} (hi : i < ops.size) : listed.getD i false = true := by
  unfold left at h
  have := List.eq_nil_of_length_eq_zero h
  rw [List.filter_eq_nil_iff] at this
  have := this i (by simpa using hi)
  simpa using this

theorem getD_tf {l : Array Bool} {i : Nat} (hi : i < l.size) : l.getD i true = l.getD i false := by
  simp [Array.getD_eq_getD_getElem?, hi]

/-- Something is ready as long as not all has come up. -/
theorem ready_ne {listed : Array Bool} (hs : listed.size = ops.size) (hd : drawOk ops.toList n = true) (h : Region.ready .any ops listed = []) : ∀ i, i < ops.size → listed.getD i false = true := by
  intro i
  induction i using Nat.strongRecOn with
  | _ i ih =>
    intro hi
    by_cases hc : listed.getD i false = true
    · exact hc
    · exfalso
      have ho : ops[i]? = some ops[i] := Array.getElem?_eq_getElem hi
      have hm : i ∈ Region.ready .any ops listed := mem_ready.2 ⟨by rw [getD_tf (by omega)]; simpa using hc, _, ho, fun e he hb => ih e.on ((drawOk_get hd (by rw [Array.getElem?_toList]; exact ho)).1 e he hb) (by
        have := (drawOk_get hd (by rw [Array.getElem?_toList]; exact ho)).1 e he hb; omega)⟩
      rw [h] at hm; cases hm

/-- Behind the first operations the others come in their order. -/
theorem wpAny_rest (hok : opsOk N ops.toList = true) (hd : drawOk ops.toList n = true) : ∀ (r : List Oper) (m : Nat), n ≤ m → ops.toList.drop m = r → ∀ (fuel : Nat) (listed : Array Bool), listed.size = ops.size → (∀ i, i < ops.size → (listed.getD i false = true ↔ i < m)) → left ops listed ≤ fuel →
    ∀ (st : Tm) (σ : AHeap) (K : Tm → AHeap → Prop), swL P md ops.toList r st σ K → ∀ B w0 ι w a (Q : Exit → Act → World → Prop), St N B w0 σ ι w st a →
      (∀ st' σ' ι' a' w', K st' σ' → St N B w0 σ' ι' w' st' a' → Ext σ ι w σ' ι' w' → Q .normal a' w') → wpAny P .any ops Q fuel listed a w
  | [], m, hnm, hr, fuel, listed, hs, hl, _, st, σ, K, h, B, w0, ι, w, a, Q, hst, hq => by
    have hm : ops.size ≤ m := by have := congrArg List.length hr; simp at this; omega
    have hemp : Region.ready .any ops listed = [] := by
      cases hrr : Region.ready .any ops listed with
      | nil => rfl
      | cons i is =>
        have hi : i ∈ Region.ready .any ops listed := by rw [hrr]; simp
        obtain ⟨h1, o, h2, _⟩ := mem_ready.1 hi
        have hlt : i < ops.size := (Array.getElem?_eq_some_iff.1 h2).1
        rw [getD_tf (by omega)] at h1
        have := (hl i hlt).2 (by omega)
        rw [h1] at this; cases this
    have hfin := hq st σ ι a w h hst (Ext.refl _ _ _)
    cases fuel with
    | zero => exact ⟨hemp, hfin⟩
    | succ f => exact ⟨fun _ => hfin, fun i hi => by rw [hemp] at hi; cases hi⟩
  | o :: r, m, hnm, hr, fuel, listed, hs, hl, hf, st, σ, K, h, B, w0, ι, w, a, Q, hst, hq => by
    have hom : ops.toList[m]? = some o := by have := congrArg (·[0]?) hr; simpa [List.getElem?_drop] using this
    have hoa : ops[m]? = some o := by rw [← Array.getElem?_toList]; exact hom
    have hmlt : m < ops.size := (Array.getElem?_eq_some_iff.1 hoa).1
    have hdr : ops.toList.drop (m + 1) = r := by rw [← List.drop_drop, hr]; rfl
    have hdst := opsOk_dst hok hom
    have hml : listed.getD m false = false := by
      cases hh : listed.getD m false with
      | false => rfl
      | true => have := (hl m hmlt).1 hh; omega
    cases fuel with
    | zero => rw [left_zero (by omega) hmlt] at hml; cases hml
    | succ f =>
      refine ⟨fun he => ?_, fun i hi => ?_⟩
      · have := ready_ne hs hd he m hmlt
        have := (hl m hmlt).1 this; omega
      · obtain ⟨h1, oi, h2, h3⟩ := mem_ready.1 hi
        have hlt : i < ops.size := (Array.getElem?_eq_some_iff.1 h2).1
        rw [getD_tf (by omega)] at h1
        have him : m ≤ i := by
          rcases Nat.lt_or_ge i m with g | g
          · rw [(hl i hlt).2 g] at h1; cases h1
          · exact g
        have him' : i = m := by
          rcases Nat.lt_or_ge m i with g | g
          · have hdir := (drawOk_get hd (by rw [Array.getElem?_toList]; exact h2)).2.2 (by omega) m g
            simp only [direct, Array.any_eq_true'] at hdir
            obtain ⟨e, he, hee⟩ := hdir
            simp only [Bool.and_eq_true, beq_iff_eq] at hee
            have := h3 e he hee.2
            rw [hee.1] at this
            have := (hl m hmlt).1 this; omega
          · omega
        subst him'
        rw [hoa] at h2; cases h2
        have ih := wpAny_rest hok hd r (i + 1) (by omega) hdr f (listed.setIfInBounds i true) (by simpa using hs) (fun j hj => by
          rw [getD_set (by omega)]
          by_cases e : j = i
          · subst e; simp
          · have := hl j hj
            simp only [Bool.or_eq_true, beq_iff_eq, e, false_or, this]; omega) (by have := left_set hs hmlt hml; omega)
        have doit : aop P md st σ o (fun x σ' => swL P md ops.toList r (upd st o.dst x) σ' K) → o.wp P a w (wpAny P .any ops Q f (listed.setIfInBounds i true)) Q := by
          intro h
          refine Oper.wp_mono ?_ (aop_sound h B w0 ι w a Q hst)
          rintro a' w' ⟨x, σ', ι', v, hk, rfl, hv, hr', he⟩
          exact ih _ _ _ hk B w0 ι' w' _ Q (hst.put hdst hr' he hv) fun st'' σ'' ι'' a'' w'' h1 h2 h3 => hq _ _ _ _ _ h1 h2 (he.trans h3)
        have skip : swL P md ops.toList r (upd st o.dst .skip) σ K → wpAny P .any ops Q f (listed.setIfInBounds i true) (a.put o.dst undef) w := by
          intro h
          exact ih _ _ _ h B w0 ι w _ Q (hst.put_skip hdst) hq
        simp only [wpOp, hoa]
        simp only [swL] at h
        split at h
        · rename_i hg
          rw [if_pos (by simp [Region.wanted, hg])]
          exact Or.inl (doit h)
        · rename_i j b hg
          split at h
          · rename_i t ht
            rw [wanted_of hst hg ht]
            by_cases e : t = b
            · rw [if_pos (by simp [e])]; exact Or.inl (doit (h.1 e))
            · rw [if_neg (by simp [e])]; exact skip (h.2 (by cases t <;> cases b <;> simp at e ⊢))
          · exact h.elim

/-- The state where some of the first operations have come up. -/
def SL (dst : Nat → Option Nat) (xs : Nat → AV) (st : Tm) (n : Nat) (L : Nat → Bool) : Tm := fun t =>
  match (List.range n).find? fun i => L i && dst i == some t with
  | some i => xs i
  | none => st t

theorem SL_hit {dst : Nat → Option Nat} {xs : Nat → AV} {st : Tm} {n : Nat} {L : Nat → Bool} {t i : Nat} (hi : i < n) (hL : L i = true) (hd : dst i = some t) (hu : ∀ k, k < n → k ≠ i → dst k ≠ some t) : SL dst xs st n L t = xs i := by
  unfold SL
  cases hf : (List.range n).find? fun i => L i && dst i == some t with
  | none =>
    rw [List.find?_eq_none] at hf
    have := hf i (by simpa using hi)
    simp [hL, hd] at this
  | some k =>
    have h1 := List.find?_some hf
    have h2 := List.mem_of_find?_eq_some hf
    simp only [Bool.and_eq_true, beq_iff_eq, List.mem_range] at h1 h2
    by_cases e : k = i
    · subst e; rfl
    · exact absurd h1.2 (hu k h2 e)

theorem SL_miss {dst : Nat → Option Nat} {xs : Nat → AV} {st : Tm} {n : Nat} {L : Nat → Bool} {t : Nat} (h : ∀ i, i < n → L i = true → dst i ≠ some t) : SL dst xs st n L t = st t := by
  unfold SL
  cases hf : (List.range n).find? fun i => L i && dst i == some t with
  | none => rfl
  | some k =>
    have h1 := List.find?_some hf
    have h2 := List.mem_of_find?_eq_some hf
    simp only [Bool.and_eq_true, beq_iff_eq, List.mem_range] at h1 h2
    exact absurd h1.2 (h k h2 h1.1)

theorem stF_miss {dst : Nat → Option Nat} {xs : Nat → AV} {st : Tm} {t : Nat} : ∀ {m : Nat}, (∀ i, i < m → dst i ≠ some t) → stF dst xs st 0 m t = st t
  | 0, _ => rfl
  | m + 1, h => by
    have h0 := h m (by omega)
    simp only [stF, Nat.zero_add]
    cases hd : dst m with
    | none => rw [upd_none]; exact stF_miss fun i hi => h i (by omega)
    | some d =>
      rw [upd_ne _ _ _ _ (fun e => h0 (by rw [hd, e]))]
      exact stF_miss fun i hi => h i (by omega)

theorem stF_hit {dst : Nat → Option Nat} {xs : Nat → AV} {st : Tm} {t i : Nat} : ∀ {m : Nat}, i < m → dst i = some t → (∀ k, k < m → k ≠ i → dst k ≠ some t) → stF dst xs st 0 m t = xs i
  | 0, h, _, _ => by omega
  | m + 1, h, hd, hu => by
    simp only [stF, Nat.zero_add]
    by_cases e : i = m
    · subst e; rw [hd, upd_same]
    · have h0 := hu m (by omega) (fun h => e h.symm)
      cases hdm : dst m with
      | none => rw [upd_none]; exact stF_hit (by omega) hd fun k hk => hu k (by omega)
      | some d =>
        rw [upd_ne _ _ _ _ (fun e => h0 (by rw [hdm, e]))]
        exact stF_hit (by omega) hd fun k hk => hu k (by omega)

theorem rep_false (n i : Nat) : (Array.replicate n false).getD i false = false := by
  simp only [Array.getD_eq_getD_getElem?, Array.getElem?_replicate]; split <;> rfl

theorem wpAny_pure (hok : opsOk N ops.toList = true) (hd : drawOk ops.toList n = true) (hn : n ≤ ops.size) {st : Tm} {σ : AHeap} {K : Tm → AHeap → Prop} {xs : Nat → AV}
    (htr : ∀ k, k < n → ∃ o, ops.toList[k]? = some o ∧ stepOk P md ops.toList σ o (stF (dstOf ops.toList) xs st 0 k) (xs k))
    (hK : swL P md ops.toList (ops.toList.drop n) (stF (dstOf ops.toList) xs st 0 n) σ K) :
    ∀ (fuel : Nat) (listed : Array Bool), listed.size = ops.size → left ops listed ≤ fuel → (∀ i, listed.getD i false = true → i < n) → ∀ B w0 ι w a (Q : Exit → Act → World → Prop),
      St N B w0 σ ι w (SL (dstOf ops.toList) xs st n fun i => listed.getD i false) a → (∀ st' σ' ι' a' w', K st' σ' → St N B w0 σ' ι' w' st' a' → Ext σ ι w σ' ι' w' → Q .normal a' w') → wpAny P .any ops Q fuel listed a w := by
  -- two writers of one slot are one
  have uniq : ∀ i k t, i < n → k < n → dstOf ops.toList i = some t → dstOf ops.toList k = some t → k = i := by
    intro i k t hi hk h1 h2
    simp only [dstOf, Option.bind_eq_some_iff] at h1 h2
    obtain ⟨oi, g1, g2⟩ := h1
    obtain ⟨ok, g3, g4⟩ := h2
    by_cases e : k = i
    · exact e
    · exact absurd g2 (((drawOk_get hd g1).2.1 hi k ok t hk g3 g4).2 e)
  intro fuel
  induction fuel with
  | zero =>
    intro listed hs hf hL B w0 ι w a Q hst hq
    have hall : ∀ i, i < ops.size → listed.getD i false = true := fun i hi => left_zero (by omega) hi
    have hsn : ops.size ≤ n := by
      rcases Nat.lt_or_ge n ops.size with g | g
      · have := hL n (hall n g); omega
      · exact g
    refine wpAny_rest hok hd (ops.toList.drop n) n (Nat.le_refl _) rfl 0 listed hs (fun i hi => ⟨fun h => hL i h, fun _ => hall i hi⟩) hf _ σ K hK B w0 ι w a Q ?_ hq
    have : SL (dstOf ops.toList) xs st n (fun i => listed.getD i false) = stF (dstOf ops.toList) xs st 0 n := by
      funext t
      by_cases hex : ∃ i, i < n ∧ dstOf ops.toList i = some t
      · obtain ⟨i, hi, hdt⟩ := hex
        have hu : ∀ k, k < n → k ≠ i → dstOf ops.toList k ≠ some t := fun k hk hne h => hne (uniq i k t hi hk hdt h)
        rw [SL_hit hi (hall i (by omega)) hdt hu, stF_hit hi hdt hu]
      · have hm : ∀ i, i < n → dstOf ops.toList i ≠ some t := fun i hi h => hex ⟨i, hi, h⟩
        rw [SL_miss fun i hi _ => hm i hi, stF_miss hm]
    rw [← this]; exact hst
  | succ fuel ih =>
    intro listed hs hf hL B w0 ι w a Q hst hq
    by_cases hall : ∀ i, i < n → listed.getD i false = true
    · refine wpAny_rest hok hd (ops.toList.drop n) n (Nat.le_refl _) rfl (fuel + 1) listed hs (fun i hi => ⟨fun h => hL i h, fun h => hall i h⟩) hf _ σ K hK B w0 ι w a Q ?_ hq
      have : SL (dstOf ops.toList) xs st n (fun i => listed.getD i false) = stF (dstOf ops.toList) xs st 0 n := by
        funext t
        by_cases hex : ∃ i, i < n ∧ dstOf ops.toList i = some t
        · obtain ⟨i, hi, hdt⟩ := hex
          have hu : ∀ k, k < n → k ≠ i → dstOf ops.toList k ≠ some t := fun k hk hne h => hne (uniq i k t hi hk hdt h)
          rw [SL_hit hi (hall i hi) hdt hu, stF_hit hi hdt hu]
        · have hm : ∀ i, i < n → dstOf ops.toList i ≠ some t := fun i hi h => hex ⟨i, hi, h⟩
          rw [SL_miss fun i hi _ => hm i hi, stF_miss hm]
      rw [← this]; exact hst
    · refine ⟨fun he => ?_, fun i hi => ?_⟩
      · exact absurd (fun i hi => ready_ne hs hd he i (by omega)) hall
      · obtain ⟨h1, o, h2, h3⟩ := mem_ready.1 hi
        have hlt : i < ops.size := (Array.getElem?_eq_some_iff.1 h2).1
        rw [getD_tf (by omega)] at h1
        have h2l : ops.toList[i]? = some o := by rw [Array.getElem?_toList]; exact h2
        have hdg := drawOk_get hd h2l
        have dirListed : ∀ k, direct o k = true → listed.getD k false = true := by
          intro k hk
          simp only [direct, Array.any_eq_true'] at hk
          obtain ⟨e, he, hee⟩ := hk
          simp only [Bool.and_eq_true, beq_iff_eq] at hee
          have := h3 e he hee.2
          rwa [hee.1] at this
        have hin : i < n := by
          rcases Nat.lt_or_ge i n with g | g
          · exact g
          · exact absurd (fun k hk => dirListed k (hdg.2.2 g k (by omega))) hall
        obtain ⟨o', g1, g2⟩ := htr i hin
        rw [h2l] at g1; cases g1
        have hdst := opsOk_dst hok h2l
        have hdsti : dstOf ops.toList i = o.dst := by simp [dstOf, h2l]
        -- what the operation looks at is what it looks at in order
        have same : ∀ d, d ∈ looks ops.toList o → SL (dstOf ops.toList) xs st n (fun i => listed.getD i false) d = stF (dstOf ops.toList) xs st 0 i d := by
          intro d hdl
          by_cases hex : ∃ k, k < n ∧ dstOf ops.toList k = some d
          · obtain ⟨k, hk, hkd⟩ := hex
            have hu : ∀ q, q < n → q ≠ k → dstOf ops.toList q ≠ some d := fun q hq hne h => hne (uniq k q d hk hq hkd h)
            have hkd' := hkd
            simp only [dstOf, Option.bind_eq_some_iff] at hkd'
            obtain ⟨ok, q1, q2⟩ := hkd'
            have hdir := (hdg.2.1 hin k ok d hk q1 q2).1 hdl
            have hki : k < i := by
              simp only [direct, Array.any_eq_true'] at hdir
              obtain ⟨e, he, hee⟩ := hdir
              simp only [Bool.and_eq_true, beq_iff_eq] at hee
              have := hdg.1 e he hee.2
              omega
            rw [SL_hit hk (dirListed k hdir) hkd hu, stF_hit hki hkd fun q hq => hu q (by omega)]
          · have hm : ∀ k, k < n → dstOf ops.toList k ≠ some d := fun k hk h => hex ⟨k, hk, h⟩
            rw [SL_miss fun k hk _ => hm k hk, stF_miss fun k hk => hm k (by omega)]
        have evs : ∀ x ∈ o.op.operands.toList, ev (SL (dstOf ops.toList) xs st n fun i => listed.getD i false) x = ev (stF (dstOf ops.toList) xs st 0 i) x := by
          intro x hx
          cases x with
          | tmp t =>
            simp only [ev]
            exact same t (by unfold looks; exact List.mem_append.2 (Or.inl (List.mem_filterMap.2 ⟨.tmp t, hx, rfl⟩)))
          | const v => rfl
          | global g => rfl
          | func f => rfl
        -- the state behind it
        have next : ∀ ι' w' v, Rel B w0 σ ι' w' → Ext σ ι w σ ι' w' → V σ ι' w' (xs i) v → wpAny P .any ops Q fuel (listed.setIfInBounds i true) (a.put o.dst v) w' := by
          intro ι' w' v hr he hv
          refine ih (listed.setIfInBounds i true) (by simpa using hs) (by have := left_set hs hlt h1; omega) (fun j hj => ?_) B w0 ι' w' _ Q ?_ (fun st' σ' ι'' a' w'' h1 h2 h3 => hq st' σ' ι'' a' w'' h1 h2 (he.trans h3))
          · rw [getD_set (by omega)] at hj
            simp only [Bool.or_eq_true, beq_iff_eq] at hj
            rcases hj with rfl | hj
            · exact hin
            · exact hL j hj
          · have hp := hst.put (x := xs i) (v := v) hdst hr he hv
            have : (SL (dstOf ops.toList) xs st n fun j => (listed.setIfInBounds i true).getD j false) = upd (SL (dstOf ops.toList) xs st n fun i => listed.getD i false) o.dst (xs i) := by
              funext t
              cases hod : o.dst with
              | none =>
                rw [upd_none]
                rw [hod] at hdsti
                by_cases hex : ∃ k, k < n ∧ listed.getD k false = true ∧ dstOf ops.toList k = some t
                · obtain ⟨k, hk, hkl, hkd⟩ := hex
                  have hu : ∀ q, q < n → q ≠ k → dstOf ops.toList q ≠ some t := fun q hq hne h => hne (uniq k q t hk hq hkd h)
                  rw [SL_hit hk (by rw [getD_set (by omega), hkl, Bool.or_true]) hkd hu, SL_hit hk hkl hkd hu]
                · rw [SL_miss, SL_miss]
                  · intro k hk hkl hkd; exact hex ⟨k, hk, hkl, hkd⟩
                  · intro k hk hkl hkd
                    rw [getD_set (by omega)] at hkl
                    simp only [Bool.or_eq_true, beq_iff_eq] at hkl
                    rcases hkl with rfl | hkl
                    · rw [hdsti] at hkd; cases hkd
                    · exact hex ⟨k, hk, hkl, hkd⟩
              | some d =>
                rw [hod] at hdsti
                by_cases etd : t = d
                · subst etd
                  rw [upd_same]
                  have hu : ∀ q, q < n → q ≠ i → dstOf ops.toList q ≠ some t := fun q hq hne h => hne (uniq i q t hin hq hdsti h)
                  exact SL_hit hin (by rw [getD_set (by omega)]; simp) hdsti hu
                · rw [upd_ne _ _ _ _ etd]
                  by_cases hex : ∃ k, k < n ∧ listed.getD k false = true ∧ dstOf ops.toList k = some t
                  · obtain ⟨k, hk, hkl, hkd⟩ := hex
                    have hu : ∀ q, q < n → q ≠ k → dstOf ops.toList q ≠ some t := fun q hq hne h => hne (uniq k q t hk hq hkd h)
                    rw [SL_hit hk (by rw [getD_set (by omega), hkl, Bool.or_true]) hkd hu, SL_hit hk hkl hkd hu]
                  · rw [SL_miss, SL_miss]
                    · intro k hk hkl hkd; exact hex ⟨k, hk, hkl, hkd⟩
                    · intro k hk hkl hkd
                      rw [getD_set (by omega)] at hkl
                      simp only [Bool.or_eq_true, beq_iff_eq] at hkl
                      rcases hkl with rfl | hkl
                      · rw [hdsti] at hkd; cases hkd; exact etd rfl
                      · exact hex ⟨k, hk, hkl, hkd⟩
            rw [this]; exact hp
        have doit : aop P md (stF (dstOf ops.toList) xs st 0 i) σ o (fun y σ' => y = xs i ∧ σ' = σ) → o.wp P a w (wpAny P .any ops Q fuel (listed.setIfInBounds i true)) Q := by
          intro h
          refine Oper.wp_mono ?_ (aop_sound (aop_congr evs h) B w0 ι w a Q hst)
          rintro a' w' ⟨x, σ', ι', v, ⟨hk1, hk2⟩, rfl, hv, hr', he⟩
          subst hk1; subst hk2
          exact next ι' w' v hr' he hv
        simp only [wpOp, h2]
        unfold stepOk at g2
        split at g2
        · rename_i hg
          rw [if_pos (by simp [Region.wanted, hg])]
          exact Or.inl (doit g2)
        · rename_i j b hg
          obtain ⟨t, ht, g3⟩ := g2
          have ht' : gval ops.toList (SL (dstOf ops.toList) xs st n fun i => listed.getD i false) j b = .bool t := by
            rw [← ht]
            refine gval_congr fun d hd' => same d ?_
            unfold looks
            rw [hg]
            exact List.mem_append.2 (Or.inr (by simp only [hd']; simp))
          rw [wanted_of hst hg ht']
          rcases g3 with ⟨e, g3⟩ | ⟨e, g3⟩
          · rw [if_pos (by simp [e])]; exact Or.inl (doit g3)
          · rw [if_neg (by cases t <;> cases b <;> simp at e ⊢)]
            exact next ι w undef hst.rel (Ext.refl _ _ _) (by rw [g3]; simp [V])

/-- A region whose order is drawn: the first `n` operations turn nothing, whatever their order; the others come behind them in order. -/
theorem AW_draw {id : Nat} {st : Tm} {σ : AHeap} {Q : Post} (hm : P.follows .mixedOrders = true) (hok : opsOk N ops.toList = true) (hd : drawOk ops.toList n = true) (hn : n ≤ ops.size)
    (h : swP P md ops.toList (ops.toList.take n) st σ (fun st' => swL P md ops.toList (ops.toList.drop n) st' σ (Q .normal))) : AW P N (.region id ops true) st σ Q := by
  intro B w0 ι w a hs
  refine wp_region_any hm ?_
  have hl : (ops.toList.take n).length = n := by simp; omega
  obtain ⟨xs, h1, h2⟩ := swP_trace (ops.toList.take n) 0 st (by rw [List.drop_zero, hl]) h
  rw [hl] at h1 h2
  simp only [Nat.zero_add] at h2
  obtain ⟨hr, sd⟩ := hs.rel.drew
  have he := Ext.step sd (Nat.le_refl _)
  refine wpAny_pure hok hd hn h2 h1 ops.size (Array.replicate ops.size false) (by simp) ?_ (fun i hi => ?_) B w0 ι w.drew a (QC N B w0 σ ι w Q) ?_ fun st' σ' ι' a' w' h1 h2 h3 => ⟨.normal, st', σ', ι', rfl, h1, h2, he.trans h3⟩
  · unfold left
    exact Nat.le_trans (List.length_filter_le _ _) (by simp)
  · rw [rep_false] at hi; cases hi
  · refine ⟨hr, fun t => ?_, hs.sz, hs.df⟩
    rw [SL_miss (fun i hi hL => by rw [rep_false] at hL; cases hL)]
    exact he.2 _ _ (hs.tm t)

end
end Go.Sal
