/- SalW: regions whose order is drawn, with several stores that lie apart. -/
import Derived.Test.YtdleboihgaedjaaGreatSalP
namespace Go.Sal
open Go.RowKit

/-- What is to be stored: object, place, cells. -/
abbrev Pend := Nat × Nat × List AV

def st1 (σ : AHeap) (a : Pend) : AHeap := match σ[a.1]? with
  | some (.cells cs) => σ.set a.1 (.cells (splice cs a.2.1 a.2.2))
  | _ => σ
def fitsP (σ : AHeap) (a : Pend) : Prop := ∃ cs, σ[a.1]? = some (.cells cs) ∧ a.2.1 + a.2.2.length ≤ cs.length
def apart (a b : Pend) : Prop := a.1 ≠ b.1 ∨ a.2.1 + a.2.2.length ≤ b.2.1 ∨ b.2.1 + b.2.2.length ≤ a.2.1
theorem apart.symm {a b : Pend} (h : apart a b) : apart b a := by unfold apart at *; omega

theorem st1_get {σ : AHeap} {a : Pend} (ha : fitsP σ a) (j : Nat) : (st1 σ a)[j]? = if j = a.1 then (match σ[a.1]? with | some (.cells cs) => some (.cells (splice cs a.2.1 a.2.2)) | x => x) else σ[j]? := by
  obtain ⟨cs, h1, _⟩ := ha
  simp only [st1, h1]
  by_cases e : j = a.1
  · subst e; rw [if_pos rfl, List.getElem?_set_self (some_lt h1)]
  · rw [if_neg e, List.getElem?_set_ne (fun h => e h.symm)]

theorem st1_fits {σ : AHeap} {a b : Pend} (ha : fitsP σ a) (hb : fitsP σ b) : fitsP (st1 σ a) b := by
  have hg := st1_get ha b.1
  obtain ⟨cs, h1, h2⟩ := hb
  by_cases e : b.1 = a.1
  · rw [if_pos e, ← e, h1] at hg
    obtain ⟨cs', h3, h4⟩ := ha
    rw [← e, h1] at h3; cases h3
    exact ⟨_, hg, by rw [splice_length h4]; exact h2⟩
  · rw [if_neg e, h1] at hg; exact ⟨cs, hg, h2⟩

theorem st1_comm {σ : AHeap} {a b : Pend} (ha : fitsP σ a) (hb : fitsP σ b) (h : apart a b) : st1 (st1 σ a) b = st1 (st1 σ b) a := by
  apply List.ext_getElem?
  intro j
  rw [st1_get (st1_fits ha hb), st1_get (st1_fits hb ha), st1_get ha, st1_get hb, st1_get ha, st1_get hb]
  obtain ⟨cs, h1, h2⟩ := ha
  obtain ⟨ds, h3, h4⟩ := hb
  by_cases e : a.1 = b.1
  · rw [← e] at h3 ⊢
    rw [h1] at h3; cases h3
    simp only [if_true, h1]
    by_cases ej : j = a.1
    · simp only [ej, if_true, Option.some.injEq, AObj.cells.injEq]
      apply List.ext_getElem?
      intro q
      rw [splice_get (cs := splice cs a.2.1 a.2.2) (by rw [splice_length h2]; exact h4), splice_get (cs := splice cs b.2.1 b.2.2) (by rw [splice_length h4]; exact h2), splice_get h2, splice_get h4]
      rcases h with h | h | h
      · exact absurd e h
      all_goals (repeat' split) <;> first | rfl | omega
    · simp only [ej, if_false]
  · have e' : ¬ b.1 = a.1 := fun h => e h.symm
    simp only [e, e', if_false, h1, h3]
    by_cases ej : j = a.1
    · subst ej; simp only [e, if_false, if_true]
    · simp only [ej, if_false]

def app (σ : AHeap) (l : List Pend) : AHeap := l.foldl st1 σ

theorem app_fits : ∀ (l : List Pend) (σ : AHeap) (a : Pend), fitsP σ a → (∀ b ∈ l, fitsP σ b) → fitsP (app σ l) a
  | [], _, _, h, _ => h
  | b :: l, σ, a, h, hl => app_fits l (st1 σ b) a (st1_fits (hl b (by simp)) h) fun c hc => st1_fits (hl b (by simp)) (hl c (by simp [hc]))

theorem app_move : ∀ (l : List Pend) (σ : AHeap) (a : Pend), fitsP σ a → (∀ b ∈ l, fitsP σ b ∧ apart a b) → app (st1 σ a) l = st1 (app σ l) a
  | [], _, _, _, _ => rfl
  | b :: l, σ, a, h, hl => by
    have hb := hl b (by simp)
    show app (st1 (st1 σ a) b) l = st1 (app (st1 σ b) l) a
    rw [st1_comm h hb.1 hb.2]
    exact app_move l (st1 σ b) a (st1_fits hb.1 h) fun c hc => ⟨st1_fits hb.1 (hl c (by simp [hc])).1, (hl c (by simp [hc])).2⟩

/-- The heap where some of the stores have come up. -/
def pick (pd : Nat → Option Pend) (L : Nat → Bool) (i : Nat) : Option Pend := if L i then pd i else none
def HL (σ : AHeap) (pd : Nat → Option Pend) (n : Nat) (L : Nat → Bool) : AHeap := app σ ((List.range n).filterMap (pick pd L))

theorem fm_same {pd : Nat → Option Pend} {L : Nat → Bool} {i : Nat} : ∀ (l : List Nat), i ∉ l → l.filterMap (pick pd fun j => j == i || L j) = l.filterMap (pick pd L)
  | [], _ => rfl
  | x :: xs, h => by
    have h1 : x ≠ i := fun e => h (by simp [e])
    have h2 := fm_same (pd := pd) (L := L) (i := i) xs fun e => h (by simp [e])
    have : pick pd (fun j => j == i || L j) x = pick pd L x := by simp [pick, h1]
    rw [List.filterMap_cons, List.filterMap_cons, this, h2]

theorem fm_add {pd : Nat → Option Pend} {L : Nat → Bool} {i : Nat} {a : Pend} (hL : L i = false) (ha : pd i = some a) : ∀ (l : List Nat), l.Nodup → i ∈ l →
    ∃ pre post, l.filterMap (pick pd L) = pre ++ post ∧ l.filterMap (pick pd fun j => j == i || L j) = pre ++ a :: post
  | x :: xs, hn, hi => by
    obtain ⟨hx, hn'⟩ := List.nodup_cons.1 hn
    by_cases e : x = i
    · subst e
      refine ⟨[], xs.filterMap (pick pd L), ?_, ?_⟩
      · rw [List.filterMap_cons]; simp [pick, hL]
      · rw [List.filterMap_cons]
        rw [fm_same xs hx]
        simp [pick, ha]
    · have hi' : i ∈ xs := by
        cases hi with
        | head => exact absurd rfl e
        | tail _ h => exact h
      obtain ⟨pre, post, h1, h2⟩ := fm_add hL ha xs hn' hi'
      refine ⟨(pick pd L x).toList ++ pre, post, ?_, ?_⟩
      · rw [List.filterMap_cons]
        cases pick pd L x <;> simp [h1]
      · rw [List.filterMap_cons]
        have : pick pd (fun j => j == i || L j) x = pick pd L x := by simp [pick, e]
        rw [this]
        cases pick pd L x <;> simp [h2]

theorem HL_add {σ : AHeap} {pd : Nat → Option Pend} {n i : Nat} {L : Nat → Bool} {a : Pend} (hi : i < n) (hL : L i = false) (ha : pd i = some a) (hf : ∀ j b, j < n → pd j = some b → fitsP σ b)
    (hp : ∀ j b, j < n → j ≠ i → pd j = some b → apart a b) : HL σ pd n (fun j => j == i || L j) = st1 (HL σ pd n L) a := by
  obtain ⟨pre, post, h1, h2⟩ := fm_add hL ha (List.range n) List.nodup_range (by simpa using hi)
  unfold HL
  rw [h1, h2]
  unfold app
  rw [List.foldl_append, List.foldl_append]
  have mem : ∀ b ∈ pre ++ post, ∃ j, j < n ∧ j ≠ i ∧ pd j = some b := by
    intro b hb
    rw [← h1, List.mem_filterMap] at hb
    obtain ⟨j, hj, hb⟩ := hb
    simp only [pick] at hb
    split at hb
    · rename_i hLj
      exact ⟨j, by simpa using hj, (fun e => by rw [e, hL] at hLj; cases hLj), hb⟩
    · cases hb
  have fpre : ∀ b ∈ pre, fitsP σ b := fun b hb => by obtain ⟨j, h1, _, h3⟩ := mem b (by simp [hb]); exact hf j b h1 h3
  exact app_move post (app σ pre) a (app_fits pre σ a (hf i a hi ha) fpre) fun b hb => by
    obtain ⟨j, h1, h2, h3⟩ := mem b (by simp [hb])
    exact ⟨app_fits pre σ b (hf j b h1 h3) fpre, hp j b h1 h2 h3⟩

theorem HL_none {σ : AHeap} {pd : Nat → Option Pend} {n : Nat} {L : Nat → Bool} (h : ∀ i, i < n → L i = true → pd i = none) : HL σ pd n L = σ := by
  unfold HL
  have : (List.range n).filterMap (pick pd L) = [] := by
    rw [List.filterMap_eq_nil_iff]
    intro i hi
    simp only [pick]
    split
    · exact h i (by simpa using hi) ‹_›
    · rfl
  rw [this]; rfl

/-- Operations that look at no object. -/
def plainOp (o : Oper) : Bool := match o.op with
  | .move _ | .assign _ | .pick .. | .build .. | .nilCheck _ | .binOp .. | .unOp .. | .convert .. | .makeFunc .. | .fieldAddr .. | .field .. | .indexAddr .. | .index .. | .extract .. | .slice .. => true
  | _ => false
def isStore (o : Oper) : Bool := match o.op with
  | .store .. => true
  | _ => false

/-- Each operation waits for those that write what it looks at; a store also for all that look at objects. -/
def drawOk2 (all : List Oper) : Bool :=
  all.zipIdx.all fun p => (p.1.after.all fun e => !Region.binds .any e || decide (e.on < p.2)) &&
    (all.zipIdx.all fun q => (match q.1.dst with
        | some d => (!(looks all p.1).contains d || direct p.1 q.2) && (q.2 == p.2 || p.1.dst != some d)
        | none => true) && (!isStore p.1 || isStore q.1 || plainOp q.1 || direct p.1 q.2)) &&
    (!isStore p.1 || (p.1.guard.isNone && p.1.dst.isNone))

section
variable {P : Program} {N : Nat} {md : List (Nat × Nat)} {ops : Array Oper}

theorem drawOk2_get {all : List Oper} {i : Nat} {o : Oper} (h : drawOk2 all = true) (ho : all[i]? = some o) :
    (∀ e ∈ o.after, Region.binds .any e = true → e.on < i) ∧
    (∀ k p, all[k]? = some p → (∀ d, p.dst = some d → (d ∈ looks all o → direct o k = true) ∧ (k ≠ i → o.dst ≠ some d)) ∧ (isStore o = true → isStore p = true ∨ plainOp p = true ∨ direct o k = true)) ∧
    (isStore o = true → o.guard = none ∧ o.dst = none) := by
  unfold drawOk2 at h
  have hm : (o, i) ∈ all.zipIdx := by
    rw [List.mem_zipIdx_iff_getElem?]; exact ho
  have h0 := List.all_eq_true.1 h _ hm
  simp only [Bool.and_eq_true] at h0
  refine ⟨fun e he hb => ?_, fun k p hp => ?_, fun hs => ?_⟩
  · have := Array.all_eq_true'.1 h0.1.1 e he
    simpa [hb] using this
  · have h2 := List.all_eq_true.1 h0.1.2 (p, k) (by rw [List.mem_zipIdx_iff_getElem?]; exact hp)
    simp only [Bool.and_eq_true] at h2
    refine ⟨fun d hd => ?_, fun hs => ?_⟩
    · have h3 := h2.1
      simp only [hd, Bool.and_eq_true, Bool.or_eq_true, beq_iff_eq, bne_iff_ne, ne_eq, Bool.not_eq_true'] at h3
      refine ⟨fun hl => ?_, fun hne => ?_⟩
      · rcases h3.1 with h4 | h4
        · have : (looks all o).contains d = true := by simpa using hl
          rw [this] at h4; cases h4
        · exact h4
      · rcases h3.2 with h4 | h4
        · exact absurd h4 hne
        · exact h4
    · have h3 := h2.2
      simp only [hs, Bool.not_true, Bool.false_or, Bool.or_eq_true] at h3
      rcases h3 with (h3 | h3) | h3
      · exact Or.inl h3
      · exact Or.inr (Or.inl h3)
      · exact Or.inr (Or.inr h3)
  · have h1 := h0.2
    simp only [hs, Bool.not_true, Bool.false_or, Bool.and_eq_true, Option.isNone_iff_eq_none] at h1
    exact h1

/-- A plain operation is the same on every heap. -/
theorem plain_heap {o : Oper} (hp : plainOp o = true) {s : Tm} {σ : AHeap} (σ' : AHeap) {K K' : AV → AHeap → Prop} (h : aop P md s σ o K) (hk : ∀ x, K x σ → K' x σ') : aop P md s σ' o K' := by
  unfold aop at h ⊢
  have key : (∃ p x, aopR P md s σ o = .val p x σ ∧ aopR P md s σ' o = .val p x σ') ∨ aopR P md s σ o = .stuck := by
    unfold plainOp at hp
    unfold aopR
    split at hp <;> first | cases hp | skip
    all_goals rename_i ho; rw [ho]; simp only
    all_goals (repeat' split) <;> first | exact Or.inr rfl | exact Or.inl ⟨_, _, rfl, rfl⟩
  rcases key with ⟨p, x, h1, h2⟩ | h1
  · rw [h1] at h; rw [h2]; exact ⟨h.1, hk x h.2⟩
  · rw [h1] at h; exact h.elim

/-- What is known of a store at its place: what it will store, and that this fits. -/
def storeAt (P : Program) (σ : AHeap) (st : Tm) (o : Oper) (a : Pend) : Prop := ∃ t x y cs, o.op = .store t x y ∧ ev st x = .ref a.1 a.2.1 ∧ vcells (ev st y) = some a.2.2 ∧ σ[a.1]? = some (.cells cs) ∧
  (ti P t).size = a.2.2.length ∧ 0 < a.2.2.length ∧ a.2.2.all one = true ∧ a.2.1 + a.2.2.length ≤ cs.length

theorem storeAt.fits {σ : AHeap} {st : Tm} {o : Oper} {a : Pend} (h : storeAt P σ st o a) : fitsP σ a := by
  obtain ⟨_, _, _, cs, _, _, _, h1, _, _, _, h2⟩ := h
  exact ⟨cs, h1, h2⟩

theorem st1_len {σ : AHeap} {a : Pend} {id : Nat} {cs : List AV} (ha : fitsP σ a) (h : σ[id]? = some (.cells cs)) : ∃ ds, (st1 σ a)[id]? = some (.cells ds) ∧ ds.length = cs.length := by
  have hg := st1_get ha id
  by_cases e : id = a.1
  · rw [if_pos e, ← e, h] at hg
    obtain ⟨cs', h3, h4⟩ := ha
    rw [← e, h] at h3; cases h3
    exact ⟨_, hg, splice_length h4⟩
  · rw [if_neg e, h] at hg; exact ⟨_, hg, rfl⟩

theorem app_len : ∀ (l : List Pend) {σ : AHeap} {id : Nat} {cs : List AV}, (∀ a ∈ l, fitsP σ a) → σ[id]? = some (.cells cs) → ∃ ds, (app σ l)[id]? = some (.cells ds) ∧ ds.length = cs.length
  | [], _, _, cs, _, h => ⟨cs, h, rfl⟩
  | a :: l, σ, id, cs, hl, h => by
    obtain ⟨ds, h1, h2⟩ := st1_len (hl a (by simp)) h
    obtain ⟨es, h3, h4⟩ := app_len l (σ := st1 σ a) (fun b hb => st1_fits (hl a (by simp)) (hl b (by simp [hb]))) h1
    exact ⟨es, h3, by omega⟩

theorem storeAt.app {σ : AHeap} {st : Tm} {o : Oper} {a : Pend} {l : List Pend} (h : storeAt P σ st o a) (hl : ∀ b ∈ l, fitsP σ b) : storeAt P (app σ l) st o a := by
  obtain ⟨t, x, y, cs, h1, h2, h3, h4, h5, h6, h7, h8⟩ := h
  obtain ⟨ds, g1, g2⟩ := app_len l hl h4
  exact ⟨t, x, y, ds, h1, h2, h3, g1, h5, h6, h7, by omega⟩

theorem storeAt.aop {σ : AHeap} {st : Tm} {o : Oper} {a : Pend} {K : AV → AHeap → Prop} (h : storeAt P σ st o a) (hk : K .undef (st1 σ a)) : aop P md st σ o K := by
  obtain ⟨t, x, y, cs, h1, h2, h3, h4, h5, h6, h7, h8⟩ := h
  unfold Sal.aop aopR
  rw [h1]
  simp only [h2, h3, h4]
  refine ⟨⟨h5, h6, h7, h8⟩, ?_⟩
  simpa only [st1, h4] using hk


/-- Operations in whatever order: the stores are put off. -/
def swQ (P : Program) (md : List (Nat × Nat)) (all : List Oper) : List Oper → Tm → AHeap → List Pend → (Tm → AHeap → Prop) → Prop
  | [], st, σ, pend, K => pend.Pairwise apart ∧ K st (app σ pend)
  | o :: r, st, σ, pend, K => if isStore o = true then ∃ a, storeAt P σ st o a ∧ swQ P md all r st σ (pend ++ [a]) K else match o.guard with
    | none => ∃ x, aop P md st σ o (fun y σ' => y = x ∧ σ' = σ) ∧ swQ P md all r (upd st o.dst x) σ pend K
    | some (j, b) => match gval all st j b with
      | .bool t => (t = b → ∃ x, aop P md st σ o (fun y σ' => y = x ∧ σ' = σ) ∧ swQ P md all r (upd st o.dst x) σ pend K) ∧ (t = !b → swQ P md all r (upd st o.dst .skip) σ pend K)
      | _ => False

theorem fm_range {pd pd' : Nat → Option Pend} : ∀ (m i : Nat), (∀ k, i ≤ k → pd k = pd' k) → (List.range' i m).filterMap pd = (List.range' i m).filterMap pd'
  | 0, _, _ => rfl
  | m + 1, i, h => by
    rw [List.range'_succ, List.filterMap_cons, List.filterMap_cons, h i (Nat.le_refl _), fm_range m (i + 1) fun k hk => h k (by omega)]

theorem swQ_trace {all : List Oper} {σ : AHeap} {K : Tm → AHeap → Prop} (hdn : ∀ o ∈ all, isStore o = true → o.dst = none) : ∀ (r : List Oper) (i : Nat) (s : Tm) (pend : List Pend), (all.drop i).take r.length = r → swQ P md all r s σ pend K →
    ∃ (xs : Nat → AV) (pd : Nat → Option Pend), (pend ++ (List.range' i r.length).filterMap pd).Pairwise apart ∧ K (stF (dstOf all) xs s i r.length) (app σ (pend ++ (List.range' i r.length).filterMap pd)) ∧
      ∀ k, k < r.length → ∃ o, all[i + k]? = some o ∧ ((isStore o = true ∧ ∃ a, pd (i + k) = some a ∧ storeAt P σ (stF (dstOf all) xs s i k) o a) ∨ (isStore o = false ∧ pd (i + k) = none ∧ stepOk P md all σ o (stF (dstOf all) xs s i k) (xs (i + k))))
  | [], i, s, pend, _, h => ⟨fun _ => .undef, fun _ => none, by simpa [swQ] using h.1, by simpa [stF] using h.2, fun k hk => by simp at hk⟩
  | o :: r, i, s, pend, hr, h => by
    have hoi : all[i]? = some o := by
      have := congrArg (·[0]?) hr
      simpa [List.getElem?_take, List.getElem?_drop] using this
    have hr' : (all.drop (i + 1)).take r.length = r := by
      have := congrArg List.tail hr
      rw [List.length_cons] at this
      simp only [List.tail_cons] at this
      rw [← this, ← List.drop_drop]
      cases hd : all.drop i with
      | nil => simp [hd] at hr
      | cons y ys => simp
    have hdst : dstOf all i = o.dst := by simp [dstOf, hoi]
    have go : ∀ (x : AV) (pa : Option Pend), swQ P md all r (upd s o.dst x) σ (pend ++ pa.toList) K →
        ((isStore o = true ∧ ∃ a, pa = some a ∧ storeAt P σ s o a) ∨ (isStore o = false ∧ pa = none ∧ stepOk P md all σ o s x)) →
        ∃ (xs : Nat → AV) (pd : Nat → Option Pend), (pend ++ (List.range' i (r.length + 1)).filterMap pd).Pairwise apart ∧ K (stF (dstOf all) xs s i (r.length + 1)) (app σ (pend ++ (List.range' i (r.length + 1)).filterMap pd)) ∧
          ∀ k, k < r.length + 1 → ∃ o, all[i + k]? = some o ∧ ((isStore o = true ∧ ∃ a, pd (i + k) = some a ∧ storeAt P σ (stF (dstOf all) xs s i k) o a) ∨ (isStore o = false ∧ pd (i + k) = none ∧ stepOk P md all σ o (stF (dstOf all) xs s i k) (xs (i + k)))) := by
      intro x pa h1 h2
      obtain ⟨xs, pd, g1, g2, g3⟩ := swQ_trace hdn r (i + 1) _ _ hr' h1
      have e1 : (List.range' i (r.length + 1)).filterMap (fun k => if k = i then pa else pd k) = pa.toList ++ (List.range' (i + 1) r.length).filterMap pd := by
        rw [List.range'_succ, List.filterMap_cons]
        have : (List.range' (i + 1) r.length).filterMap (fun k => if k = i then pa else pd k) = (List.range' (i + 1) r.length).filterMap pd := fm_range _ _ fun k hk => if_neg (by omega)
        rw [this]
        cases pa <;> simp
      refine ⟨fun k => if k = i then x else xs k, fun k => if k = i then pa else pd k, by rw [e1, ← List.append_assoc]; exact g1, ?_, fun k hk => ?_⟩
      · rw [e1, ← List.append_assoc, stF_shift, hdst]
        simp only [if_true]
        rw [stF_ext _ _ xs _ _ _ fun k h1 _ => if_neg (by omega)]; exact g2
      · cases k with
        | zero => exact ⟨o, hoi, by simpa [stF] using h2⟩
        | succ k =>
          obtain ⟨o', h5, h6⟩ := g3 k (by omega)
          refine ⟨o', by rwa [show i + (k + 1) = i + 1 + k by omega], ?_⟩
          rw [stF_shift, hdst]
          simp only [if_true, show i + (k + 1) = i + 1 + k by omega, show ¬ (i + 1 + k = i) by omega, if_false]
          rw [stF_ext _ _ xs _ _ _ fun k h1 _ => if_neg (by omega)]; exact h6
    simp only [swQ] at h
    simp only [List.length_cons]
    split at h
    · rename_i hs
      obtain ⟨a, h1, h2⟩ := h
      refine go .undef (some a) ?_ (Or.inl ⟨hs, a, rfl, h1⟩)
      rw [hdn o (List.mem_of_getElem? hoi) hs, upd_none]; exact h2
    · rename_i hs
      have hs' : isStore o = false := by simpa using hs
      split at h
      · rename_i hg
        obtain ⟨x, h1, h2⟩ := h
        exact go x none (by simpa using h2) (Or.inr ⟨hs', rfl, by simp only [stepOk, hg]; exact h1⟩)
      · rename_i j b hg
        split at h
        · rename_i t ht
          by_cases e : t = b
          · obtain ⟨x, h1, h2⟩ := h.1 e
            exact go x none (by simpa using h2) (Or.inr ⟨hs', rfl, by simp only [stepOk, hg]; exact ⟨t, ht, Or.inl ⟨e, h1⟩⟩⟩)
          · have e' : t = !b := by cases t <;> cases b <;> simp at e ⊢
            exact go .skip none (by simpa using h.2 e') (Or.inr ⟨hs', rfl, by simp only [stepOk, hg]; exact ⟨t, ht, Or.inr ⟨e', by simp⟩⟩⟩)
        · exact h.elim

/-- Something is ready as long as not all has come up. -/
theorem ready_ne2 {listed : Array Bool} (hs : listed.size = ops.size) (hd : drawOk2 ops.toList = true) (h : Region.ready .any ops listed = []) : ∀ i, i < ops.size → listed.getD i false = true := by
  intro i
  induction i using Nat.strongRecOn with
  | _ i ih =>
    intro hi
    by_cases hc : listed.getD i false = true
    · exact hc
    · exfalso
      have ho : ops[i]? = some ops[i] := Array.getElem?_eq_getElem hi
      have hm : i ∈ Region.ready .any ops listed := mem_ready.2 ⟨by rw [getD_tf (by omega)]; simpa using hc, _, ho, fun e he hb => ih e.on ((drawOk2_get hd (by rw [Array.getElem?_toList]; exact ho)).1 e he hb) (by
        have := (drawOk2_get hd (by rw [Array.getElem?_toList]; exact ho)).1 e he hb; omega)⟩
      rw [h] at hm; cases hm

theorem SL_ext {dst : Nat → Option Nat} {xs : Nat → AV} {st : Tm} {n : Nat} {L L' : Nat → Bool} (h : ∀ i, i < n → L i = L' i) : SL dst xs st n L = SL dst xs st n L' := by
  funext t
  unfold SL
  have : (List.range n).find? (fun i => L i && dst i == some t) = (List.range n).find? (fun i => L' i && dst i == some t) := by
    have key : ∀ l : List Nat, (∀ i ∈ l, i < n) → l.find? (fun i => L i && dst i == some t) = l.find? (fun i => L' i && dst i == some t) := by
      intro l
      induction l with
      | nil => intro _; rfl
      | cons x xs ih => intro hl; simp only [List.find?_cons, h x (hl x (by simp)), ih fun i hi => hl i (by simp [hi])]
    exact key _ (by simp)
  rw [this]

theorem HL_ext {σ : AHeap} {pd : Nat → Option Pend} {n : Nat} {L L' : Nat → Bool} (h : ∀ i, i < n → L i = L' i) : HL σ pd n L = HL σ pd n L' := by
  unfold HL
  have key : ∀ l : List Nat, (∀ i ∈ l, i < n) → l.filterMap (pick pd L) = l.filterMap (pick pd L') := by
    intro l
    induction l with
    | nil => intro _; rfl
    | cons x xs ih => intro hl; simp only [List.filterMap_cons, pick, h x (hl x (by simp)), ih fun i hi => hl i (by simp [hi])]
  rw [key _ (by simp)]


theorem pair_idx {pd : Nat → Option Pend} {m : Nat} (h : ((List.range' 0 m).filterMap pd).Pairwise apart) {i j : Nat} {a b : Pend} (hi : i < m) (hj : j < m) (hne : j ≠ i) (ha : pd i = some a) (hb : pd j = some b) : apart a b := by
  rw [List.pairwise_filterMap, List.pairwise_iff_getElem] at h
  rcases Nat.lt_or_gt_of_ne hne with g | g
  · have := h j i (by simpa using hj) (by simpa using hi) g b (by simpa using hb) a (by simpa using ha)
    exact this.symm
  · exact h i j (by simpa using hi) (by simpa using hj) g a (by simpa using ha) b (by simpa using hb)

theorem wpAny_q (hok : opsOk N ops.toList = true) (hd : drawOk2 ops.toList = true) {st : Tm} {σ : AHeap} {K : Tm → AHeap → Prop} {xs : Nat → AV} {pd : Nat → Option Pend}
    (htr : ∀ k, k < ops.size → ∃ o, ops.toList[k]? = some o ∧ ((isStore o = true ∧ ∃ a, pd k = some a ∧ storeAt P σ (stF (dstOf ops.toList) xs st 0 k) o a) ∨ (isStore o = false ∧ pd k = none ∧ stepOk P md ops.toList σ o (stF (dstOf ops.toList) xs st 0 k) (xs k))))
    (hpw : ((List.range' 0 ops.size).filterMap pd).Pairwise apart) (hK : K (stF (dstOf ops.toList) xs st 0 ops.size) (app σ ((List.range' 0 ops.size).filterMap pd))) :
    ∀ (fuel : Nat) (listed : Array Bool), listed.size = ops.size → left ops listed ≤ fuel → (∀ j o k, listed.getD j false = true → ops.toList[j]? = some o → direct o k = true → listed.getD k false = true) → ∀ B w0 ι w a (Q : Exit → Act → World → Prop),
      St N B w0 (HL σ pd ops.size fun i => listed.getD i false) ι w (SL (dstOf ops.toList) xs st ops.size fun i => listed.getD i false) a →
      (∀ st' σ' ι' a' w', K st' σ' → St N B w0 σ' ι' w' st' a' → Ext (HL σ pd ops.size fun i => listed.getD i false) ι w σ' ι' w' → Q .normal a' w') → wpAny P .any ops Q fuel listed a w := by
  have uniq : ∀ i k t, dstOf ops.toList i = some t → dstOf ops.toList k = some t → k = i := by
    intro i k t h1 h2
    simp only [dstOf, Option.bind_eq_some_iff] at h1 h2
    obtain ⟨oi, g1, g2⟩ := h1
    obtain ⟨ok, g3, g4⟩ := h2
    by_cases e : k = i
    · exact e
    · exact absurd g2 ((((drawOk2_get hd g1).2.1 k ok g3).1 t g4).2 e)
  have fits : ∀ j b, j < ops.size → pd j = some b → fitsP σ b := by
    intro j b hj hb
    obtain ⟨o, _, h | h⟩ := htr j hj
    · obtain ⟨_, a, h1, h2⟩ := h
      rw [hb] at h1; cases h1
      exact h2.fits
    · rw [h.2.1] at hb; cases hb
  have done : ∀ (listed : Array Bool), (∀ i, i < ops.size → listed.getD i false = true) → ∀ B w0 ι w a (Q : Exit → Act → World → Prop),
      St N B w0 (HL σ pd ops.size fun i => listed.getD i false) ι w (SL (dstOf ops.toList) xs st ops.size fun i => listed.getD i false) a →
      (∀ st' σ' ι' a' w', K st' σ' → St N B w0 σ' ι' w' st' a' → Ext (HL σ pd ops.size fun i => listed.getD i false) ι w σ' ι' w' → Q .normal a' w') → Q .normal a w := by
    intro listed hall B w0 ι w a Q hst hq
    have e1 : SL (dstOf ops.toList) xs st ops.size (fun i => listed.getD i false) = stF (dstOf ops.toList) xs st 0 ops.size := by
      funext t
      by_cases hex : ∃ i, i < ops.size ∧ dstOf ops.toList i = some t
      · obtain ⟨i, hi, hdt⟩ := hex
        have hu : ∀ k, k < ops.size → k ≠ i → dstOf ops.toList k ≠ some t := fun k _ hne h => hne (uniq i k t hdt h)
        rw [SL_hit hi (hall i hi) hdt hu, stF_hit hi hdt hu]
      · have hm : ∀ i, i < ops.size → dstOf ops.toList i ≠ some t := fun i hi h => hex ⟨i, hi, h⟩
        rw [SL_miss fun i hi _ => hm i hi, stF_miss hm]
    have e2 : HL σ pd ops.size (fun i => listed.getD i false) = app σ ((List.range' 0 ops.size).filterMap pd) := by
      rw [HL_ext (L' := fun _ => true) fun i hi => hall i hi]
      unfold HL
      rw [List.range_eq_range']
      congr 1
    refine hq _ _ ι a w hK ?_ ?_
    · rw [← e1, ← e2]; exact hst
    · rw [← e2]; exact Ext.refl _ _ _
  intro fuel
  induction fuel with
  | zero =>
    intro listed hs hf _ B w0 ι w a Q hst hq
    have hall : ∀ i, i < ops.size → listed.getD i false = true := fun i hi => left_zero (by omega) hi
    have hemp : Region.ready .any ops listed = [] := by
      cases hrr : Region.ready .any ops listed with
      | nil => rfl
      | cons i is =>
        have hi : i ∈ Region.ready .any ops listed := by rw [hrr]; simp
        obtain ⟨h1, o, h2, _⟩ := mem_ready.1 hi
        have hlt : i < ops.size := (Array.getElem?_eq_some_iff.1 h2).1
        rw [getD_tf (by omega)] at h1
        rw [hall i hlt] at h1; cases h1
    exact ⟨hemp, done listed hall B w0 ι w a Q hst hq⟩
  | succ fuel ih =>
    intro listed hs hf hL B w0 ι w a Q hst hq
    refine ⟨fun he => done listed (ready_ne2 hs hd he) B w0 ι w a Q hst hq, fun i hi => ?_⟩
    obtain ⟨h1, o, h2, h3⟩ := mem_ready.1 hi
    have hlt : i < ops.size := (Array.getElem?_eq_some_iff.1 h2).1
    rw [getD_tf (by omega)] at h1
    have h2l : ops.toList[i]? = some o := by rw [Array.getElem?_toList]; exact h2
    have hdg := drawOk2_get hd h2l
    have dirListed : ∀ k, direct o k = true → listed.getD k false = true := by
      intro k hk
      simp only [direct, Array.any_eq_true'] at hk
      obtain ⟨e, he, hee⟩ := hk
      simp only [Bool.and_eq_true, beq_iff_eq] at hee
      have := h3 e he hee.2
      rwa [hee.1] at this
    obtain ⟨o', g1, g2⟩ := htr i hlt
    rw [h2l] at g1; cases g1
    have hdst := opsOk_dst hok h2l
    have hdsti : dstOf ops.toList i = o.dst := by simp [dstOf, h2l]
    have same : ∀ d, d ∈ looks ops.toList o → SL (dstOf ops.toList) xs st ops.size (fun i => listed.getD i false) d = stF (dstOf ops.toList) xs st 0 i d := by
      intro d hdl
      by_cases hex : ∃ k, k < ops.size ∧ dstOf ops.toList k = some d
      · obtain ⟨k, hk, hkd⟩ := hex
        have hu : ∀ q, q < ops.size → q ≠ k → dstOf ops.toList q ≠ some d := fun q _ hne h => hne (uniq k q d hkd h)
        have hkd' := hkd
        simp only [dstOf, Option.bind_eq_some_iff] at hkd'
        obtain ⟨ok, q1, q2⟩ := hkd'
        have hdir := ((hdg.2.1 k ok q1).1 d q2).1 hdl
        have hki : k < i := by
          simp only [direct, Array.any_eq_true'] at hdir
          obtain ⟨e, he, hee⟩ := hdir
          simp only [Bool.and_eq_true, beq_iff_eq] at hee
          have := hdg.1 e he hee.2
          omega
        rw [SL_hit hk (dirListed k hdir) hkd hu, stF_hit hki hkd fun q hq => hu q (by omega)]
      · have hm : ∀ k, k < ops.size → dstOf ops.toList k ≠ some d := fun k hk h => hex ⟨k, hk, h⟩
        rw [SL_miss fun k hk _ => hm k hk, stF_miss fun k hk => hm k (by omega)]
    have evs : ∀ x ∈ o.op.operands.toList, ev (SL (dstOf ops.toList) xs st ops.size fun i => listed.getD i false) x = ev (stF (dstOf ops.toList) xs st 0 i) x := by
      intro x hx
      cases x with
      | tmp t =>
        simp only [ev]
        exact same t (by unfold looks; exact List.mem_append.2 (Or.inl (List.mem_filterMap.2 ⟨.tmp t, hx, rfl⟩)))
      | const v => rfl
      | global g => rfl
      | func f => rfl
    have hset : ∀ j, (listed.setIfInBounds i true).getD j false = (j == i || listed.getD j false) := fun j => getD_set (by omega)
    have closed : ∀ j o k, (listed.setIfInBounds i true).getD j false = true → ops.toList[j]? = some o → direct o k = true → (listed.setIfInBounds i true).getD k false = true := by
      intro j o' k hj ho hk
      rw [hset] at hj ⊢
      simp only [Bool.or_eq_true, beq_iff_eq] at hj
      rcases hj with rfl | hj
      · rw [h2l] at ho; cases ho; rw [dirListed k hk, Bool.or_true]
      · rw [hL j o' k hj ho hk, Bool.or_true]
    have hleft : left ops (listed.setIfInBounds i true) ≤ fuel := by have := left_set hs hlt h1; omega
    rcases g2 with ⟨hst1, pa, hpa, hsa⟩ | ⟨hst0, hpd, hstep⟩
    · -- a store
      obtain ⟨hg, hdn⟩ := hdg.2.2 hst1
      have fl : ∀ b ∈ (List.range ops.size).filterMap (pick pd fun i => listed.getD i false), fitsP σ b := by
        intro b hb
        rw [List.mem_filterMap] at hb
        obtain ⟨j, hj, hb⟩ := hb
        simp only [pick] at hb
        split at hb
        · exact fits j b (by simpa using hj) hb
        · cases hb
      have hsa' : storeAt P (HL σ pd ops.size fun i => listed.getD i false) (SL (dstOf ops.toList) xs st ops.size fun i => listed.getD i false) o pa := by
        have := hsa.app fl
        obtain ⟨t, x, y, cs, q1, q2, q3, q4⟩ := this
        refine ⟨t, x, y, cs, q1, ?_, ?_, q4⟩
        · rw [evs x (by simp [q1, Op.operands])]; exact q2
        · rw [evs y (by simp [q1, Op.operands])]; exact q3
      have eH : HL σ pd ops.size (fun j => (listed.setIfInBounds i true).getD j false) = st1 (HL σ pd ops.size fun i => listed.getD i false) pa := by
        rw [HL_ext (L' := fun j => j == i || listed.getD j false) fun j _ => hset j]
        exact HL_add hlt h1 hpa fits fun j b hj hne hb => pair_idx hpw hlt hj hne hpa hb
      have eS : SL (dstOf ops.toList) xs st ops.size (fun j => (listed.setIfInBounds i true).getD j false) = SL (dstOf ops.toList) xs st ops.size fun i => listed.getD i false := by
        funext t
        rw [hdn] at hdsti
        by_cases hex : ∃ k, k < ops.size ∧ listed.getD k false = true ∧ dstOf ops.toList k = some t
        · obtain ⟨k, hk, hkl, hkd⟩ := hex
          have hu : ∀ q, q < ops.size → q ≠ k → dstOf ops.toList q ≠ some t := fun q _ hne h => hne (uniq k q t hkd h)
          rw [SL_hit hk (by rw [hset, hkl, Bool.or_true]) hkd hu, SL_hit hk hkl hkd hu]
        · rw [SL_miss, SL_miss]
          · intro k hk hkl hkd; exact hex ⟨k, hk, hkl, hkd⟩
          · intro k hk hkl hkd
            rw [hset] at hkl
            simp only [Bool.or_eq_true, beq_iff_eq] at hkl
            rcases hkl with rfl | hkl
            · rw [hdsti] at hkd; cases hkd
            · exact hex ⟨k, hk, hkl, hkd⟩
      simp only [wpOp, h2]
      rw [if_pos (by simp [Region.wanted, hg])]
      refine Or.inl (Oper.wp_mono ?_ (aop_sound (hsa'.aop (md := md) (K := fun x σ' => x = .undef ∧ σ' = st1 (HL σ pd ops.size fun i => listed.getD i false) pa) ⟨rfl, rfl⟩) B w0 ι w a Q hst))
      rintro a' w' ⟨x, σ', ι', v, ⟨hk1, hk2⟩, rfl, hv, hr', he⟩
      subst hk1; subst hk2
      refine ih (listed.setIfInBounds i true) (by simpa using hs) hleft closed B w0 ι' w' _ Q ?_ fun st' σ' ι'' a' w'' q1 q2 q3 => hq st' σ' ι'' a' w'' q1 q2 ?_
      · rw [eH, eS]
        have hp := hst.put (x := .undef) (v := v) hdst hr' he hv
        rw [hdn, upd_none] at hp
        rw [hdn]; exact hp
      · rw [eH] at q3; exact he.trans q3
    · -- another operation
      have eH : HL σ pd ops.size (fun j => (listed.setIfInBounds i true).getD j false) = HL σ pd ops.size fun i => listed.getD i false := by
        unfold HL
        congr 1
        have key : ∀ l : List Nat, l.filterMap (pick pd fun j => (listed.setIfInBounds i true).getD j false) = l.filterMap (pick pd fun i => listed.getD i false) := by
          intro l
          induction l with
          | nil => rfl
          | cons x xs ihx =>
            have : pick pd (fun j => (listed.setIfInBounds i true).getD j false) x = pick pd (fun i => listed.getD i false) x := by
              simp only [pick, hset]
              by_cases e : x = i
              · subst e; rw [hpd]; simp
              · simp [e]
            rw [List.filterMap_cons, List.filterMap_cons, this, ihx]
        exact key _
      have next : ∀ ι' w' v, Rel B w0 (HL σ pd ops.size fun i => listed.getD i false) ι' w' → Ext (HL σ pd ops.size fun i => listed.getD i false) ι w (HL σ pd ops.size fun i => listed.getD i false) ι' w' → V (HL σ pd ops.size fun i => listed.getD i false) ι' w' (xs i) v → wpAny P .any ops Q fuel (listed.setIfInBounds i true) (a.put o.dst v) w' := by
        intro ι' w' v hr he hv
        refine ih (listed.setIfInBounds i true) (by simpa using hs) hleft closed B w0 ι' w' _ Q ?_ fun st' σ' ι'' a' w'' h1 h2 h3 => hq st' σ' ι'' a' w'' h1 h2 ?_
        · rw [eH]
          have hp := hst.put (x := xs i) (v := v) hdst hr he hv
          have : (SL (dstOf ops.toList) xs st ops.size fun j => (listed.setIfInBounds i true).getD j false) = upd (SL (dstOf ops.toList) xs st ops.size fun i => listed.getD i false) o.dst (xs i) := by
            funext t
            cases hod : o.dst with
            | none =>
              rw [upd_none]
              rw [hod] at hdsti
              by_cases hex : ∃ k, k < ops.size ∧ listed.getD k false = true ∧ dstOf ops.toList k = some t
              · obtain ⟨k, hk, hkl, hkd⟩ := hex
                have hu : ∀ q, q < ops.size → q ≠ k → dstOf ops.toList q ≠ some t := fun q _ hne h => hne (uniq k q t hkd h)
                rw [SL_hit hk (by rw [hset, hkl, Bool.or_true]) hkd hu, SL_hit hk hkl hkd hu]
              · rw [SL_miss, SL_miss]
                · intro k hk hkl hkd; exact hex ⟨k, hk, hkl, hkd⟩
                · intro k hk hkl hkd
                  rw [hset] at hkl
                  simp only [Bool.or_eq_true, beq_iff_eq] at hkl
                  rcases hkl with rfl | hkl
                  · rw [hdsti] at hkd; cases hkd
                  · exact hex ⟨k, hk, hkl, hkd⟩
            | some d =>
              rw [hod] at hdsti
              by_cases etd : t = d
              · subst etd
                rw [upd_same]
                have hu : ∀ q, q < ops.size → q ≠ i → dstOf ops.toList q ≠ some t := fun q _ hne h => hne (uniq i q t hdsti h)
                exact SL_hit hlt (by rw [hset]; simp) hdsti hu
              · rw [upd_ne _ _ _ _ etd]
                by_cases hex : ∃ k, k < ops.size ∧ listed.getD k false = true ∧ dstOf ops.toList k = some t
                · obtain ⟨k, hk, hkl, hkd⟩ := hex
                  have hu : ∀ q, q < ops.size → q ≠ k → dstOf ops.toList q ≠ some t := fun q _ hne h => hne (uniq k q t hkd h)
                  rw [SL_hit hk (by rw [hset, hkl, Bool.or_true]) hkd hu, SL_hit hk hkl hkd hu]
                · rw [SL_miss, SL_miss]
                  · intro k hk hkl hkd; exact hex ⟨k, hk, hkl, hkd⟩
                  · intro k hk hkl hkd
                    rw [hset] at hkl
                    simp only [Bool.or_eq_true, beq_iff_eq] at hkl
                    rcases hkl with rfl | hkl
                    · rw [hdsti] at hkd; cases hkd; exact etd rfl
                    · exact hex ⟨k, hk, hkl, hkd⟩
          rw [this]; exact hp
        · rw [eH] at h3; exact he.trans h3
      -- an operation that looks at objects comes ahead of all stores
      have heapAt : plainOp o = false → HL σ pd ops.size (fun i => listed.getD i false) = σ := by
        intro hp
        refine HL_none fun j hj hlj => ?_
        obtain ⟨oj, q1, q2⟩ := htr j hj
        rcases q2 with ⟨q2, _⟩ | q2
        · rcases ((drawOk2_get hd q1).2.1 i o h2l).2 q2 with q3 | q3 | q3
          · rw [hst0] at q3; cases q3
          · rw [hp] at q3; cases q3
          · rw [hL j oj i hlj q1 q3] at h1; cases h1
        · exact q2.2.1
      have doit : aop P md (stF (dstOf ops.toList) xs st 0 i) σ o (fun y σ' => y = xs i ∧ σ' = σ) → o.wp P a w (wpAny P .any ops Q fuel (listed.setIfInBounds i true)) Q := by
        intro h
        have h' : aop P md (SL (dstOf ops.toList) xs st ops.size fun i => listed.getD i false) (HL σ pd ops.size fun i => listed.getD i false) o (fun y σ' => y = xs i ∧ σ' = HL σ pd ops.size fun i => listed.getD i false) := by
          cases hp : plainOp o with
          | true => exact plain_heap hp _ (aop_congr evs h) fun x hx => ⟨hx.1, rfl⟩
          | false => rw [heapAt hp]; exact aop_congr evs h
        refine Oper.wp_mono ?_ (aop_sound h' B w0 ι w a Q hst)
        rintro a' w' ⟨x, σ', ι', v, ⟨hk1, hk2⟩, rfl, hv, hr', he⟩
        subst hk1; subst hk2
        exact next ι' w' v hr' he hv
      simp only [wpOp, h2]
      unfold stepOk at hstep
      split at hstep
      · rename_i hg
        rw [if_pos (by simp [Region.wanted, hg])]
        exact Or.inl (doit hstep)
      · rename_i j b hg
        obtain ⟨t, ht, g3⟩ := hstep
        have ht' : gval ops.toList (SL (dstOf ops.toList) xs st ops.size fun i => listed.getD i false) j b = .bool t := by
          rw [← ht]
          refine gval_congr fun d hd' => same d ?_
          unfold looks
          rw [hg]
          exact List.mem_append.2 (Or.inr (by simp only [hd']; simp))
        rw [wanted_of hst hg ht']
        rcases g3 with ⟨e, g3⟩ | ⟨e, g3⟩
        · rw [if_pos (by simp [e])]; exact Or.inl (doit g3)
        · rw [if_neg (by cases t <;> cases b <;> simp at e ⊢)]
          exact next ι w undef hst.rel (Ext.refl _ _ _) (by rw [g3]; simp [V])

/-- A region whose order is drawn, with stores that lie apart. -/
theorem AW_drawQ {id : Nat} {st : Tm} {σ : AHeap} {Q : Post} (hm : P.follows .mixedOrders = true) (hok : opsOk N ops.toList = true) (hd : drawOk2 ops.toList = true)
    (h : swQ P md ops.toList ops.toList st σ [] (Q .normal)) : AW P N (.region id ops true) st σ Q := by
  intro B w0 ι w a hs
  refine wp_region_any hm ?_
  obtain ⟨xs, pd, h1, h2, h3⟩ := swQ_trace (fun o ho hst => by
    obtain ⟨i, hi⟩ := List.getElem?_of_mem ho
    exact ((drawOk2_get hd hi).2.2 hst).2) ops.toList 0 st [] (by rw [List.drop_zero]; exact List.take_of_length_le (Nat.le_refl _)) h
  simp only [List.nil_append, Nat.zero_add, Array.length_toList] at h1 h2 h3
  obtain ⟨hr, sd⟩ := hs.rel.drew
  have he := Ext.step sd (Nat.le_refl _)
  have e0 : HL σ pd ops.size (fun i => (Array.replicate ops.size false).getD i false) = σ := HL_none fun i _ hi => by rw [rep_false] at hi; cases hi
  refine wpAny_q hok hd h3 h1 h2 ops.size (Array.replicate ops.size false) (by simp) ?_ (fun j o k hj => by rw [rep_false] at hj; cases hj) B w0 ι w.drew a (QC N B w0 σ ι w Q) ?_ fun st' σ' ι' a' w' h1 h2 h3 => ⟨.normal, st', σ', ι', rfl, h1, h2, he.trans (by rwa [e0] at h3)⟩
  · unfold left
    exact Nat.le_trans (List.length_filter_le _ _) (by simp)
  · rw [e0]
    refine ⟨hr, fun t => ?_, hs.sz, hs.df⟩
    rw [SL_miss (fun i hi hL => by rw [rep_false] at hL; cases hL)]
    exact he.2 _ _ (hs.tm t)

end
end Go.Sal
