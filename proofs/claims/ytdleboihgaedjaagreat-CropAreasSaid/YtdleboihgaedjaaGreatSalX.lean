/- SalX: regions whose order is drawn, at large: what each operation does to the heap is told; those that do not wait for one another must not mind their order. -/
import Derived.Test.YtdleboihgaedjaaGreatSalW
namespace Go.Sal
open Go.RowKit

/-- What an operation does to the heap: nothing; it looks at an object; it stores; it looks at an object and puts another in its place; a new object. -/
inductive Eff where
  | none
  | rd (id : Nat)
  | wr (p : Pend)
  | obj (id : Nat) (o : AObj)
  | grow (id : Nat) (o : AObj)
  | bar (σ' : AHeap)
instance : Inhabited Eff := ⟨.none⟩

def effA (σ : AHeap) : Eff → AHeap
  | .none => σ
  | .rd _ => σ
  | .wr p => st1 σ p
  | .obj id o => σ.set id o
  | .grow _ o => σ ++ [o]
  | .bar σ' => σ'

def effOk (σ : AHeap) : Eff → Prop
  | .none => True
  | .rd id => id < σ.length
  | .wr p => fitsP σ p
  | .obj id _ => id < σ.length
  | .grow id _ => id = σ.length
  | .bar σ' => σ.length ≤ σ'.length

/-- Two heaps are alike in what an effect looks at. -/
def effEq (σ τ : AHeap) : Eff → Prop
  | .none => True
  | .rd id => σ[id]? = τ[id]?
  | .wr p => fitsP σ p ↔ fitsP τ p
  | .obj id _ => σ[id]? = τ[id]?
  | .grow _ _ => σ.length = τ.length
  | .bar _ => σ = τ

def compat : Eff → Eff → Prop
  | .none, _ => True
  | _, .none => True
  | .rd _, .rd _ => True
  | .rd i, .wr p => i ≠ p.1
  | .rd i, .obj j _ => i ≠ j
  | .rd i, .grow j _ => i ≠ j
  | .wr p, .rd j => p.1 ≠ j
  | .wr p, .wr q => apart p q
  | .wr p, .obj j _ => p.1 ≠ j
  | .wr p, .grow j _ => p.1 ≠ j
  | .obj i _, .rd j => i ≠ j
  | .obj i _, .wr p => i ≠ p.1
  | .obj i _, .obj j _ => i ≠ j
  | .obj i _, .grow j _ => i ≠ j
  | .grow i _, .rd j => i ≠ j
  | .grow i _, .wr p => i ≠ p.1
  | .grow i _, .obj j _ => i ≠ j
  | .grow _ _, .grow _ _ => False
  | .bar _, .rd _ => False
  | .bar _, .wr _ => False
  | .bar _, .obj _ _ => False
  | .bar _, .grow _ _ => False
  | .bar _, .bar _ => False
  | .rd _, .bar _ => False
  | .wr _, .bar _ => False
  | .obj _ _, .bar _ => False
  | .grow _ _, .bar _ => False

theorem effEq.refl (σ : AHeap) (e : Eff) : effEq σ σ e := by cases e <;> simp [effEq]
theorem effEq.symm {σ τ : AHeap} {e : Eff} (h : effEq σ τ e) : effEq τ σ e := by
  cases e with
  | wr p => exact Iff.symm h
  | none => trivial
  | _ => exact Eq.symm h
theorem effEq.trans {σ τ υ : AHeap} {e : Eff} (h : effEq σ τ e) (k : effEq τ υ e) : effEq σ υ e := by
  cases e with
  | wr p => exact Iff.trans h k
  | none => trivial
  | _ => exact Eq.trans h k

theorem st1_length (σ : AHeap) (p : Pend) : (st1 σ p).length = σ.length := by
  unfold st1; split <;> simp

theorem effA_length_le {σ : AHeap} {e : Eff} (h : effOk σ e) : σ.length ≤ (effA σ e).length := by
  cases e <;> simp [effA, st1_length]
  exact h

/-- An effect leaves object `i` alone. -/
def avoids (i : Nat) : Eff → Prop
  | .none => True
  | .rd _ => True
  | .wr p => i ≠ p.1
  | .obj j _ => i ≠ j
  | .grow j _ => i ≠ j
  | .bar _ => False

/-- What an effect leaves of another object. -/
theorem effA_other {σ : AHeap} {e : Eff} {i : Nat} (hk : effOk σ e) (h : avoids i e) : (effA σ e)[i]? = σ[i]? := by
  cases e with
  | none => rfl
  | rd => rfl
  | wr p => simp only [effA]; rw [st1_get hk, if_neg h]
  | obj j o => simp only [effA]; rw [List.getElem?_set_ne (fun e => h e.symm)]
  | grow j o =>
    simp only [effA]
    simp only [effOk] at hk
    subst hk
    rcases Nat.lt_trichotomy i σ.length with g | g | g
    · rw [List.getElem?_append_left g]
    · exact absurd g h
    · rw [List.getElem?_eq_none (by simp; omega), List.getElem?_eq_none (by omega)]
  | bar => exact h.elim

theorem fits_of {σ τ : AHeap} {p : Pend} (h : σ[p.1]? = τ[p.1]?) : fitsP σ p ↔ fitsP τ p := by
  unfold fitsP; rw [h]

theorem fits_st1 {σ : AHeap} {p q : Pend} (hp : fitsP σ p) : fitsP (st1 σ p) q ↔ fitsP σ q := by
  constructor
  · rintro ⟨cs, h1, h2⟩
    rw [st1_get hp] at h1
    by_cases e : q.1 = p.1
    · obtain ⟨ds, h3, h4⟩ := hp
      rw [if_pos e, h3] at h1
      simp only [Option.some.injEq, AObj.cells.injEq] at h1
      subst h1
      rw [splice_length h4] at h2
      exact ⟨ds, by rw [e]; exact h3, h2⟩
    · rw [if_neg e] at h1; exact ⟨cs, h1, h2⟩
  · exact fun h => st1_fits hp h

/-- An effect does not touch what another, compatible one looks at. -/
theorem effEq_of {σ : AHeap} {e f : Eff} (hc : compat e f ∨ compat f e) (he : effOk σ e) : effEq (effA σ e) σ f := by
  have key : ∀ i, avoids i e → (effA σ e)[i]? = σ[i]? := fun i h => effA_other he h
  cases f with
  | none => trivial
  | rd i =>
    refine key i ?_
    cases e <;> simp only [compat, avoids] at hc ⊢
    · rcases hc with h | h
      · exact fun e => h e.symm
      · exact h
    · rcases hc with h | h
      · exact fun e => h e.symm
      · exact h
    · rcases hc with h | h
      · exact fun e => h e.symm
      · exact h
    · rcases hc with h | h <;> exact h.elim
  | obj i o =>
    refine key i ?_
    cases e <;> simp only [compat, avoids] at hc ⊢
    · rcases hc with h | h
      · exact fun e => h e.symm
      · exact h
    · rcases hc with h | h
      · exact fun e => h e.symm
      · exact h
    · rcases hc with h | h
      · exact fun e => h e.symm
      · exact h
    · rcases hc with h | h <;> exact h.elim
  | wr q =>
    cases e with
    | none => exact Iff.rfl
    | rd => exact Iff.rfl
    | wr p => exact fits_st1 he
    | obj j o =>
      refine fits_of (key q.1 ?_)
      simp only [compat, avoids] at hc ⊢
      rcases hc with h | h
      · exact fun e => h e.symm
      · exact h
    | grow j o =>
      refine fits_of (key q.1 ?_)
      simp only [compat, avoids] at hc ⊢
      rcases hc with h | h
      · exact fun e => h e.symm
      · exact h
    | bar => simp only [compat] at hc; rcases hc with h | h <;> exact h.elim
  | grow i o =>
    cases e with
    | none => rfl
    | rd => rfl
    | wr p => simp [effEq, effA, st1_length]
    | obj j o' => simp [effEq, effA]
    | grow j o' => simp only [compat] at hc; rcases hc with h | h <;> exact h.elim
    | bar => simp only [compat] at hc; rcases hc with h | h <;> exact h.elim
  | bar τ =>
    cases e with
    | none => rfl
    | rd => rfl
    | _ => simp only [compat] at hc; rcases hc with h | h <;> exact h.elim

theorem set_st1 {σ : AHeap} {p : Pend} {j : Nat} {o : AObj} (h : p.1 ≠ j) : st1 (σ.set j o) p = (st1 σ p).set j o := by
  have hg : (σ.set j o)[p.1]? = σ[p.1]? := List.getElem?_set_ne (fun e => h e.symm)
  cases hh : σ[p.1]? with
  | none => simp only [st1, hg, hh]
  | some o' =>
    cases o' with
    | cells cs => simp only [st1, hg, hh]; exact List.set_comm _ _ (fun e => h e.symm)
    | _ => simp only [st1, hg, hh]
theorem app_st1 {σ : AHeap} {p : Pend} {o : AObj} (hp : fitsP σ p) : st1 (σ ++ [o]) p = st1 σ p ++ [o] := by
  obtain ⟨cs, h, _⟩ := hp
  have hl := some_lt h
  unfold st1
  rw [List.getElem?_append_left hl, h]
  simp only
  rw [List.set_append_left _ _ hl]

theorem effA_comm {σ : AHeap} {e f : Eff} (hc : compat e f) (he : effOk σ e) (hf : effOk σ f) : effA (effA σ e) f = effA (effA σ f) e := by
  cases e <;> cases f <;> simp only [compat] at hc <;> simp only [effA, effOk] at he hf ⊢
  · exact st1_comm he hf hc
  · exact (set_st1 hc).symm
  · exact (app_st1 he).symm
  · exact set_st1 fun e => hc e.symm
  · exact List.set_comm _ _ hc
  · rw [List.set_append_left _ _ he]
  · exact app_st1 hf
  · rw [List.set_append_left _ _ hf]

theorem effOk_of {σ τ : AHeap} {e : Eff} (h : effEq σ τ e) (hl : σ.length ≤ τ.length) (hk : effOk σ e) (hr : ∀ id, e = .rd id → id < τ.length) : effOk τ e := by
  cases e with
  | none => trivial
  | rd id => exact hr id rfl
  | wr p => exact h.1 hk
  | obj id o => simp only [effOk] at hk ⊢; omega
  | grow id o => simp only [effOk, effEq] at hk h ⊢; omega
  | bar υ => simp only [effOk, effEq] at hk h ⊢; rw [← h]; exact hk

theorem effOk_back {σ : AHeap} {e f : Eff} (hc : compat e f) (he : effOk σ e) (hf : effOk (effA σ e) f) : effOk σ f := by
  have h := effEq_of (f := f) (Or.inl hc) he
  cases f with
  | none => trivial
  | rd id =>
    simp only [effOk, effEq] at hf h ⊢
    rcases Nat.lt_or_ge id σ.length with g | g
    · exact g
    · rw [List.getElem?_eq_none g, List.getElem?_eq_none_iff] at h; omega
  | wr p => exact h.1 hf
  | obj id o =>
    simp only [effOk, effEq] at hf h ⊢
    rcases Nat.lt_or_ge id σ.length with g | g
    · exact g
    · rw [List.getElem?_eq_none g, List.getElem?_eq_none_iff] at h; omega
  | grow id o => simp only [effOk, effEq] at hf h ⊢; omega
  | bar υ => simp only [effOk, effEq] at hf h ⊢; rw [← h]; exact hf

theorem effOk_fore {σ : AHeap} {e f : Eff} (hc : compat e f) (he : effOk σ e) (hf : effOk σ f) : effOk (effA σ f) e := by
  have h := (effEq_of (f := e) (Or.inr hc) hf).symm
  refine effOk_of h (effA_length_le hf) he fun id hid => ?_
  subst hid
  have := effA_length_le hf
  simp only [effOk] at he; omega

section
variable {P : Program} {N : Nat} {md : List (Nat × Nat)} {ops : Array Oper}

/-- What an operation does, wherever the heap is alike in what it looks at. -/
def ValE (P : Program) (md : List (Nat × Nat)) (s : Tm) (σ : AHeap) (o : Oper) (x : AV) (e : Eff) : Prop :=
  effOk σ e ∧ ∀ τ, effEq σ τ e → effOk τ e → aop P md s τ o (fun y τ' => y = x ∧ τ' = effA τ e)

def ValG (P : Program) (md : List (Nat × Nat)) (all : List Oper) (s : Tm) (σ : AHeap) (o : Oper) (x : AV) (e : Eff) : Prop := match o.guard with
  | none => ValE P md s σ o x e
  | some (j, b) => ∃ t, gval all s j b = .bool t ∧ ((t = b ∧ ValE P md s σ o x e) ∨ (t = !b ∧ x = .skip ∧ e = .none))

theorem ValG.ok {all : List Oper} {s : Tm} {σ : AHeap} {o : Oper} {x : AV} {e : Eff} (h : ValG P md all s σ o x e) : effOk σ e := by
  unfold ValG at h
  split at h
  · exact h.1
  · obtain ⟨t, _, h | h⟩ := h
    · exact h.2.1
    · rw [h.2.2]; trivial

theorem ValG.heap {all : List Oper} {s : Tm} {σ τ : AHeap} {o : Oper} {x : AV} {e : Eff} (h : ValG P md all s σ o x e) (he : effEq σ τ e) (hk : effOk τ e) : ValG P md all s τ o x e := by
  have key : ValE P md s σ o x e → ValE P md s τ o x e := fun h => ⟨hk, fun υ h1 h2 => h.2 υ (he.trans h1) h2⟩
  unfold ValG at h ⊢
  split
  · rename_i hg; simp only [hg] at h; exact key h
  · rename_i j b hg
    simp only [hg] at h
    obtain ⟨t, h1, h | h⟩ := h
    · exact ⟨t, h1, Or.inl ⟨h.1, key h.2⟩⟩
    · exact ⟨t, h1, Or.inr h⟩

theorem ValG.state {all : List Oper} {s s' : Tm} {σ : AHeap} {o : Oper} {x : AV} {e : Eff} (h : ValG P md all s σ o x e) (hs : ∀ d, d ∈ looks all o → s' d = s d) : ValG P md all s' σ o x e := by
  have evs : ∀ y ∈ o.op.operands.toList, ev s' y = ev s y := by
    intro y hy
    cases y with
    | tmp t => simp only [ev]; exact hs t (by unfold looks; exact List.mem_append.2 (Or.inl (List.mem_filterMap.2 ⟨.tmp t, hy, rfl⟩)))
    | const v => rfl
    | global g => rfl
    | func f => rfl
  have key : ValE P md s σ o x e → ValE P md s' σ o x e := fun h => ⟨h.1, fun υ h1 h2 => aop_congr evs (h.2 υ h1 h2)⟩
  unfold ValG at h ⊢
  split
  · rename_i hg; simp only [hg] at h; exact key h
  · rename_i j b hg
    simp only [hg] at h
    obtain ⟨t, h1, h2⟩ := h
    refine ⟨t, ?_, h2.imp (fun h => ⟨h.1, key h.2⟩) id⟩
    rw [← h1]
    refine gval_congr fun d hd => hs d ?_
    unfold looks
    rw [hg]
    exact List.mem_append.2 (Or.inr (by simp only [hd]; simp))

/-- An operation that comes up: its number, itself, what it yields, what it does. -/
structure Evt where
  i : Nat
  o : Oper
  x : AV
  e : Eff

def RunE (P : Program) (md : List (Nat × Nat)) (all : List Oper) : List Evt → Tm → AHeap → (Tm → AHeap → Prop) → Prop
  | [], s, σ, K => K s σ
  | a :: r, s, σ, K => ValG P md all s σ a.o a.x a.e ∧ RunE P md all r (upd s a.o.dst a.x) (effA σ a.e) K

/-- Each operation waits for those that write what it looks at, or they for it; no two write one slot. -/
def drawOk3 (all : List Oper) : Bool :=
  all.zipIdx.all fun p => (p.1.after.all fun e => !Region.binds .any e || decide (e.on < p.2)) &&
    (all.zipIdx.all fun q => match q.1.dst with
        | some d => (!(looks all p.1).contains d || (direct p.1 q.2 || direct q.1 p.2)) && (q.2 == p.2 || p.1.dst != some d)
        | none => true)

theorem drawOk3_get {all : List Oper} {i : Nat} {o : Oper} (h : drawOk3 all = true) (ho : all[i]? = some o) :
    (∀ e ∈ o.after, Region.binds .any e = true → e.on < i) ∧
    (∀ k p, all[k]? = some p → (∀ d, p.dst = some d → (d ∈ looks all o → direct o k = true ∨ direct p i = true) ∧ (k ≠ i → o.dst ≠ some d))) := by
  unfold drawOk3 at h
  have hm : (o, i) ∈ all.zipIdx := by
    rw [List.mem_zipIdx_iff_getElem?]; exact ho
  have h0 := List.all_eq_true.1 h _ hm
  simp only [Bool.and_eq_true] at h0
  refine ⟨fun e he hb => ?_, fun k p hp d hd => ?_⟩
  · have := Array.all_eq_true'.1 h0.1 e he
    simpa [hb] using this
  · have h3 := List.all_eq_true.1 h0.2 (p, k) (by rw [List.mem_zipIdx_iff_getElem?]; exact hp)
    simp only [hd, Bool.and_eq_true, Bool.or_eq_true, beq_iff_eq, bne_iff_ne, ne_eq, Bool.not_eq_true'] at h3
    refine ⟨fun hl => ?_, fun hne => ?_⟩
    · rcases h3.1 with h4 | h4
      · have : (looks all o).contains d = true := by simpa using hl
        rw [this] at h4; cases h4
      · simpa using h4
    · rcases h3.2 with h4 | h4
      · exact absurd h4 hne
      · exact h4

theorem direct_lt {all : List Oper} {i k : Nat} {o : Oper} (h : drawOk3 all = true) (ho : all[i]? = some o) (hd : direct o k = true) : k < i := by
  simp only [direct, Array.any_eq_true'] at hd
  obtain ⟨e, he, hee⟩ := hd
  simp only [Bool.and_eq_true, beq_iff_eq] at hee
  have := (drawOk3_get h ho).1 e he hee.2
  omega

theorem upd_comm {s : Tm} {d f : Option Nat} {x y : AV} (h : ∀ t, d = some t → f ≠ some t) : upd (upd s d x) f y = upd (upd s f y) d x := by
  cases d with
  | none => rfl
  | some d =>
    cases f with
    | none => rfl
    | some f =>
      have h1 : d ≠ f := fun e => h d rfl (by rw [e])
      funext t
      simp only [upd]
      by_cases e1 : t = f
      · by_cases e2 : t = d
        · exact absurd (e2.symm.trans e1) h1
        · rw [if_pos e1, if_neg e2, if_pos e1]
      · simp [e1]

/-- An operation that waits for none of those ahead of it may come first. -/
theorem run_front {all : List Oper} (hd : drawOk3 all = true) {b : Evt} {post : List Evt} {K : Tm → AHeap → Prop} (hb : all[b.i]? = some b.o) :
    ∀ (pre : List Evt) (s : Tm) (σ : AHeap), (∀ a ∈ pre, all[a.i]? = some a.o ∧ a.i < b.i ∧ direct b.o a.i = false ∧ compat a.e b.e) → RunE P md all (pre ++ b :: post) s σ K →
      ValG P md all s σ b.o b.x b.e ∧ RunE P md all (pre ++ post) (upd s b.o.dst b.x) (effA σ b.e) K
  | [], s, σ, _, h => h
  | a :: pre, s, σ, hp, h => by
    obtain ⟨ha, hr⟩ := h
    obtain ⟨q1, q2, q3, q4⟩ := hp a (by simp)
    obtain ⟨hv, hr'⟩ := run_front hd hb pre _ _ (fun c hc => hp c (by simp [hc])) hr
    have hok := ha.ok
    have hbk : effOk σ b.e := effOk_back q4 hok hv.ok
    have n1 : ∀ d, d ∈ looks all b.o → upd s a.o.dst a.x d = s d := by
      intro d hl
      cases hdd : a.o.dst with
      | none => rfl
      | some t =>
        refine upd_ne _ _ _ _ fun e => ?_
        subst e
        rcases ((drawOk3_get hd hb).2 a.i a.o q1 d hdd).1 hl with k | k
        · rw [k] at q3; cases q3
        · have := direct_lt hd q1 k; omega
    have n2 : ∀ d, d ∈ looks all a.o → upd s b.o.dst b.x d = s d := by
      intro d hl
      cases hdd : b.o.dst with
      | none => rfl
      | some t =>
        refine upd_ne _ _ _ _ fun e => ?_
        subst e
        rcases ((drawOk3_get hd q1).2 b.i b.o hb d hdd).1 hl with k | k
        · have := direct_lt hd q1 k; omega
        · rw [k] at q3; cases q3
    have hb2 : ValG P md all s σ b.o b.x b.e := (hv.heap (effEq_of (Or.inl q4) hok) hbk).state fun d hl => (n1 d hl).symm
    refine ⟨hb2, ?_, ?_⟩
    · exact (ha.heap (effEq_of (Or.inr q4) hbk).symm (effOk_fore q4 hok hbk)).state n2
    · have e1 : upd (upd s a.o.dst a.x) b.o.dst b.x = upd (upd s b.o.dst b.x) a.o.dst a.x :=
        upd_comm fun t ht hbt => ((drawOk3_get hd hb).2 a.i a.o q1 t ht).2 (by omega) hbt
      rw [e1, effA_comm q4 hok hbk] at hr'
      exact hr'

theorem ready_ne3 {listed : Array Bool} (hs : listed.size = ops.size) (hd : drawOk3 ops.toList = true) (h : Region.ready .any ops listed = []) : ∀ i, i < ops.size → listed.getD i false = true := by
  intro i
  induction i using Nat.strongRecOn with
  | _ i ih =>
    intro hi
    by_cases hc : listed.getD i false = true
    · exact hc
    · exfalso
      have ho : ops[i]? = some ops[i] := Array.getElem?_eq_getElem hi
      have hm : i ∈ Region.ready .any ops listed := mem_ready.2 ⟨by rw [getD_tf (by omega)]; simpa using hc, _, ho, fun e he hb => ih e.on ((drawOk3_get hd (by rw [Array.getElem?_toList]; exact ho)).1 e he hb) (by
        have := (drawOk3_get hd (by rw [Array.getElem?_toList]; exact ho)).1 e he hb; omega)⟩
      rw [h] at hm; cases hm

theorem wpAny_run (hok : opsOk N ops.toList = true) (hd : drawOk3 ops.toList = true) {K : Tm → AHeap → Prop} : ∀ (fuel : Nat) (listed : Array Bool) (rem : List Evt) (st : Tm) (σ : AHeap), listed.size = ops.size → left ops listed ≤ fuel →
    (∀ i, i < ops.size → (listed.getD i false = false ↔ ∃ a ∈ rem, a.i = i)) → (∀ a ∈ rem, ops.toList[a.i]? = some a.o) →
    rem.Pairwise (fun a b => a.i < b.i ∧ (direct b.o a.i = true ∨ compat a.e b.e)) → RunE P md ops.toList rem st σ K →
    ∀ B w0 ι w a (Q : Exit → Act → World → Prop), St N B w0 σ ι w st a → (∀ st' σ' ι' a' w', K st' σ' → St N B w0 σ' ι' w' st' a' → Ext σ ι w σ' ι' w' → Q .normal a' w') → wpAny P .any ops Q fuel listed a w := by
  have done : ∀ (listed : Array Bool) (rem : List Evt) (st : Tm) (σ : AHeap), (∀ i, i < ops.size → (listed.getD i false = false ↔ ∃ a ∈ rem, a.i = i)) → (∀ a ∈ rem, ops.toList[a.i]? = some a.o) → (∀ i, i < ops.size → listed.getD i false = true) →
      RunE P md ops.toList rem st σ K → K st σ := by
    intro listed rem st σ hl ho hall hr
    cases rem with
    | nil => exact hr
    | cons a r =>
      have hlt : a.i < ops.size := by have := some_lt (ho a (by simp)); simpa using this
      have := (hl a.i hlt).2 ⟨a, by simp, rfl⟩
      rw [hall _ hlt] at this; cases this
  intro fuel
  induction fuel with
  | zero =>
    intro listed rem st σ hs hf hl ho hp hr B w0 ι w a Q hst hq
    have hall : ∀ i, i < ops.size → listed.getD i false = true := fun i hi => left_zero (by omega) hi
    have hemp : Region.ready .any ops listed = [] := by
      cases hrr : Region.ready .any ops listed with
      | nil => rfl
      | cons i is =>
        have hi : i ∈ Region.ready .any ops listed := by rw [hrr]; simp
        obtain ⟨h1, o, h2, _⟩ := mem_ready.1 hi
        have hlt : i < ops.size := (Array.getElem?_eq_some_iff.1 h2).1
        rw [getD_tf (by omega), hall i hlt] at h1; cases h1
    exact ⟨hemp, hq st σ ι a w (done listed rem st σ hl ho hall hr) hst (Ext.refl _ _ _)⟩
  | succ fuel ih =>
    intro listed rem st σ hs hf hl ho hp hr B w0 ι w a Q hst hq
    refine ⟨fun he => hq st σ ι a w (done listed rem st σ hl ho (ready_ne3 hs hd he) hr) hst (Ext.refl _ _ _), fun i hi => ?_⟩
    obtain ⟨h1, o, h2, h3⟩ := mem_ready.1 hi
    have hlt : i < ops.size := (Array.getElem?_eq_some_iff.1 h2).1
    rw [getD_tf (by omega)] at h1
    have h2l : ops.toList[i]? = some o := by rw [Array.getElem?_toList]; exact h2
    have dirListed : ∀ k, direct o k = true → listed.getD k false = true := by
      intro k hk
      simp only [direct, Array.any_eq_true'] at hk
      obtain ⟨e, he, hee⟩ := hk
      simp only [Bool.and_eq_true, beq_iff_eq] at hee
      have := h3 e he hee.2
      rwa [hee.1] at this
    obtain ⟨b, hb, rfl⟩ := (hl i hlt).1 h1
    have hbo := ho b hb
    rw [h2l] at hbo
    cases hbo
    obtain ⟨pre, post, rfl⟩ := List.append_of_mem hb
    have hpre : ∀ a ∈ pre, ops.toList[a.i]? = some a.o ∧ a.i < b.i ∧ direct b.o a.i = false ∧ compat a.e b.e := by
      intro c hc
      have hcm : c ∈ pre ++ b :: post := by simp [hc]
      have hcl : c.i < ops.size := by have := some_lt (ho c hcm); simpa using this
      obtain ⟨g1, g2⟩ := (List.pairwise_append.1 hp).2.2 c hc b (by simp)
      have hnd : direct b.o c.i = false := by
        cases hh : direct b.o c.i with
        | false => rfl
        | true =>
          have := (hl c.i hcl).2 ⟨c, hcm, rfl⟩
          rw [dirListed _ hh] at this; cases this
      refine ⟨ho c hcm, g1, hnd, ?_⟩
      rcases g2 with g2 | g2
      · rw [hnd] at g2; cases g2
      · exact g2
    obtain ⟨hv, hr'⟩ := run_front hd h2l pre st σ hpre hr
    have hset : ∀ j, (listed.setIfInBounds b.i true).getD j false = (j == b.i || listed.getD j false) := fun j => getD_set (by omega)
    have hp' : (pre ++ post).Pairwise (fun a b => a.i < b.i ∧ (direct b.o a.i = true ∨ compat a.e b.e)) :=
      hp.sublist (List.Sublist.append_left (List.sublist_cons_self b post) pre)
    have hl' : ∀ j, j < ops.size → ((listed.setIfInBounds b.i true).getD j false = false ↔ ∃ a ∈ pre ++ post, a.i = j) := by
      intro j hj
      rw [hset, Bool.or_eq_false_iff, hl j hj]
      constructor
      · rintro ⟨q1, c, hc, rfl⟩
        refine ⟨c, ?_, rfl⟩
        simp only [List.mem_append, List.mem_cons] at hc ⊢
        rcases hc with hc | hc | hc
        · exact Or.inl hc
        · subst hc; simp at q1
        · exact Or.inr hc
      · rintro ⟨c, hc, rfl⟩
        have hne : c.i ≠ b.i := by
          rcases List.mem_append.1 hc with hc | hc
          · have := (hpre c hc).2.1; omega
          · have := ((List.pairwise_append.1 hp).2.1)
            have := (List.pairwise_cons.1 this).1 c hc
            omega
        refine ⟨by simpa using hne, c, ?_, rfl⟩
        simp only [List.mem_append, List.mem_cons] at hc ⊢
        rcases hc with hc | hc
        · exact Or.inl hc
        · exact Or.inr (Or.inr hc)
    have hdst := opsOk_dst hok h2l
    have next : ∀ ι' w' v, Rel B w0 (effA σ b.e) ι' w' → Ext σ ι w (effA σ b.e) ι' w' → V (effA σ b.e) ι' w' b.x v → wpAny P .any ops Q fuel (listed.setIfInBounds b.i true) (a.put b.o.dst v) w' := by
      intro ι' w' v hrel he hv'
      refine ih (listed.setIfInBounds b.i true) (pre ++ post) _ _ (by simpa using hs) (by have := left_set hs hlt h1; omega) hl' (fun c hc => ho c (by
        simp only [List.mem_append, List.mem_cons] at hc ⊢
        rcases hc with hc | hc
        · exact Or.inl hc
        · exact Or.inr (Or.inr hc))) hp' hr' B w0 ι' w' _ Q (hst.put hdst hrel he hv') fun st' σ' ι'' a' w'' q1 q2 q3 => hq st' σ' ι'' a' w'' q1 q2 (he.trans q3)
    have doit : ValE P md st σ b.o b.x b.e → b.o.wp P a w (wpAny P .any ops Q fuel (listed.setIfInBounds b.i true)) Q := by
      intro h
      refine Oper.wp_mono ?_ (aop_sound (h.2 σ (effEq.refl _ _) h.1) B w0 ι w a Q hst)
      rintro a' w' ⟨x, σ', ι', v, ⟨hk1, hk2⟩, rfl, hv, hr', he⟩
      subst hk1; subst hk2
      exact next ι' w' v hr' he hv
    simp only [wpOp, h2]
    unfold ValG at hv
    split at hv
    · rename_i hg
      rw [if_pos (by simp [Region.wanted, hg])]
      exact Or.inl (doit hv)
    · rename_i j t' hg
      obtain ⟨t, ht, g3⟩ := hv
      rw [wanted_of hst hg ht]
      rcases g3 with ⟨e, g3⟩ | ⟨e, g3, g4⟩
      · rw [if_pos (by simp [e])]; exact Or.inl (doit g3)
      · rw [if_neg (by cases t <;> cases t' <;> simp at e ⊢)]
        refine next ι w undef ?_ ?_ ?_ <;> rw [g4] <;> simp only [effA]
        · exact hst.rel
        · exact Ext.refl _ _ _
        · rw [g3]; simp [V]

/-- A region whose order is drawn: in its order, with what each operation does. -/
theorem AW_drawX {id : Nat} {st : Tm} {σ : AHeap} {Q : Post} {evs : List Evt} (hm : P.follows .mixedOrders = true) (hok : opsOk N ops.toList = true) (hd : drawOk3 ops.toList = true)
    (hi : evs.map (·.i) = List.range ops.size) (ho : ∀ a ∈ evs, ops.toList[a.i]? = some a.o) (hp : evs.Pairwise (fun a b => direct b.o a.i = true ∨ compat a.e b.e))
    (h : RunE P md ops.toList evs st σ (Q .normal)) : AW P N (.region id ops true) st σ Q := by
  intro B w0 ι w a hs
  refine wp_region_any hm ?_
  obtain ⟨hr, sd⟩ := hs.rel.drew
  have he := Ext.step sd (Nat.le_refl _)
  have hp' : evs.Pairwise (fun a b => a.i < b.i ∧ (direct b.o a.i = true ∨ compat a.e b.e)) := by
    refine List.Pairwise.and ?_ hp
    have : (evs.map (·.i)).Pairwise (· < ·) := by rw [hi]; exact List.pairwise_lt_range
    exact List.pairwise_map.1 this
  refine wpAny_run (md := md) hok hd ops.size (Array.replicate ops.size false) evs st σ (by simp) ?_ (fun i hlt => ⟨fun _ => ?_, fun _ => rep_false _ _⟩) ho hp' h B w0 ι w.drew a (QC N B w0 σ ι w Q) ⟨hr, fun t => he.2 _ _ (hs.tm t), hs.sz, hs.df⟩ fun st' σ' ι' a' w' h1 h2 h3 => ⟨.normal, st', σ', ι', rfl, h1, h2, he.trans h3⟩
  · unfold left
    exact Nat.le_trans (List.length_filter_le _ _) (by simp)
  · have : i ∈ evs.map (·.i) := by rw [hi]; simpa using hlt
    simpa using this

/-- Operations that do nothing to the heap and look at none of it. -/
def isLoad (o : Oper) : Bool := match o.op with
  | .load .. | .lookup .. => true
  | _ => false
def okEff (o : Oper) (e : Eff) : Prop := (plainOp o = true → e = .none) ∧ (isLoad o = true → match e with | .none | .rd _ => True | _ => False)

/-- The pairs of operations, of which the later does not wait for the earlier, that may mind their order. -/
def loose (all : List Oper) : List (Nat × Nat) :=
  all.zipIdx.flatMap fun q => if plainOp q.1 then [] else all.zipIdx.filterMap fun p => if p.2 < q.2 && !plainOp p.1 && !direct q.1 p.2 && !(isLoad p.1 && isLoad q.1) then some (p.2, q.2) else none

theorem loose_mem {all : List Oper} {i j : Nat} {o p : Oper} (hi : all[i]? = some o) (hj : all[j]? = some p) (hij : i < j) (h1 : plainOp o = false) (h2 : plainOp p = false) (h3 : direct p i = false) (h4 : ¬ (isLoad o = true ∧ isLoad p = true)) : (i, j) ∈ loose all := by
  unfold loose
  rw [List.mem_flatMap]
  refine ⟨(p, j), by rw [List.mem_zipIdx_iff_getElem?]; exact hj, ?_⟩
  simp only [h2, Bool.false_eq_true, if_false]
  rw [List.mem_filterMap]
  refine ⟨(o, i), by rw [List.mem_zipIdx_iff_getElem?]; exact hi, ?_⟩
  simp only [hij, decide_true, h1, h3, Bool.not_false, Bool.and_true, Bool.true_and]
  cases h5 : isLoad o <;> cases h6 : isLoad p <;> simp [h5, h6] at h4 ⊢

/-- Operations in whatever order, as in their own, with what each does. -/
def swD (P : Program) (md : List (Nat × Nat)) (all : List Oper) (L : List (Nat × Nat)) : List Oper → Tm → AHeap → List Eff → (Tm → AHeap → Prop) → Prop
  | [], st, σ, done, K => (∀ p ∈ L, compat (done.getD p.1 .none) (done.getD p.2 .none)) ∧ K st σ
  | o :: r, st, σ, done, K => ∃ x e, ValG P md all st σ o x e ∧ okEff o e ∧ swD P md all L r (upd st o.dst x) (effA σ e) (done ++ [e]) K

theorem swD_trace {all : List Oper} {L : List (Nat × Nat)} {K : Tm → AHeap → Prop} : ∀ (r : List Oper) (st : Tm) (σ : AHeap) (done : List Eff), all.drop done.length = r → swD P md all L r st σ done K →
    ∃ evs : List Evt, evs.map (·.i) = List.range' done.length r.length ∧ (∀ a ∈ evs, all[a.i]? = some a.o ∧ okEff a.o a.e) ∧
      (∀ p ∈ L, compat ((done ++ evs.map (·.e)).getD p.1 .none) ((done ++ evs.map (·.e)).getD p.2 .none)) ∧ RunE P md all evs st σ K
  | [], st, σ, done, _, h => ⟨[], rfl, by simp, by simpa [swD] using h.1, by simpa [RunE, swD] using h.2⟩
  | o :: r, st, σ, done, hr, h => by
    obtain ⟨x, e, h1, h2, h3⟩ := h
    have hoi : all[done.length]? = some o := by have := congrArg (·[0]?) hr; simpa [List.getElem?_drop] using this
    have hdr : all.drop (done ++ [e]).length = r := by rw [List.length_append, List.length_singleton, ← List.drop_drop, hr]; rfl
    obtain ⟨evs, g1, g2, g3, g4⟩ := swD_trace r _ _ (done ++ [e]) hdr h3
    refine ⟨⟨done.length, o, x, e⟩ :: evs, ?_, ?_, ?_, h1, g4⟩
    · rw [List.map_cons, g1, List.length_cons, List.range'_succ]; simp
    · intro a ha
      rcases List.mem_cons.1 ha with rfl | ha
      · exact ⟨hoi, h2⟩
      · exact g2 a ha
    · simpa [List.append_assoc] using g3

/-- A region whose order is drawn. -/
theorem AW_dops {id : Nat} {st : Tm} {σ : AHeap} {Q : Post} {L : List (Nat × Nat)} (hm : P.follows .mixedOrders = true) (hok : opsOk N ops.toList = true) (hd : drawOk3 ops.toList = true) (hL : loose ops.toList = L)
    (h : swD P md ops.toList L ops.toList st σ [] (Q .normal)) : AW P N (.region id ops true) st σ Q := by
  obtain ⟨evs, h1, h2, h3, h4⟩ := swD_trace ops.toList st σ [] (by simp) h
  simp only [List.nil_append, List.length_nil, Array.length_toList] at h1 h3
  rw [← List.range_eq_range'] at h1
  refine AW_drawX hm hok hd h1 (fun a ha => (h2 a ha).1) ?_ h4
  have hlen : evs.length = ops.size := by have := congrArg List.length h1; simpa using this
  have hidx : ∀ i (hi : i < evs.length), evs[i].i = i := by
    intro i hi
    have : (evs.map (·.i))[i]? = (List.range ops.size)[i]? := by rw [h1]
    rw [List.getElem?_map, List.getElem?_eq_getElem hi, List.getElem?_range (by omega)] at this
    simpa using this
  have heff : ∀ i (hi : i < evs.length), (evs.map (·.e)).getD i .none = evs[i].e := by
    intro i hi
    rw [List.getD_eq_getElem?_getD, List.getElem?_map, List.getElem?_eq_getElem hi]; rfl
  rw [List.pairwise_iff_getElem]
  intro i j hi hj hij
  obtain ⟨a1, a2⟩ := h2 evs[i] (List.getElem_mem hi)
  obtain ⟨b1, b2⟩ := h2 evs[j] (List.getElem_mem hj)
  rw [hidx i hi] at a1 ⊢
  rw [hidx j hj] at b1
  cases hdir : direct evs[j].o i with
  | true => exact Or.inl rfl
  | false =>
    refine Or.inr ?_
    cases p1 : plainOp evs[i].o with
    | true => rw [a2.1 p1]; trivial
    | false =>
      cases p2 : plainOp evs[j].o with
      | true => rw [b2.1 p2]; cases evs[i].e <;> trivial
      | false =>
        by_cases hl : isLoad evs[i].o = true ∧ isLoad evs[j].o = true
        · have q1 := a2.2 hl.1
          have q2 := b2.2 hl.2
          generalize evs[i].e = e1 at q1 ⊢
          generalize evs[j].e = e2 at q2 ⊢
          cases e1 <;> cases e2 <;> simp_all [compat]
        · have := h3 (i, j) (hL ▸ loose_mem a1 b1 hij p1 p2 hdir hl)
          rw [heff i hi, heff j hj] at this
          exact this

/-- What an operation does to the heap. -/
def effOf (P : Program) (md : List (Nat × Nat)) (st : Tm) (σ : AHeap) (o : Oper) (σ' : AHeap) : Eff := match o.op with
  | .load _ x => match ev st x with
    | .ref id _ => .rd id
    | _ => .none
  | .store _ x y => match ev st x, vcells (ev st y) with
    | .ref id off, some ys => .wr (id, off, ys)
    | _, _ => .none
  | .alloc t => match (ti P t).zero with
    | some cs => match md.lookup (o.dst.getD 0) with
      | some (id + 1) => .obj id (.cells cs)
      | _ => .grow σ.length (.cells cs)
    | none => .none
  | .box _ x => match vcells (ev st x) with
    | some cs => .grow σ.length (.cells cs)
    | none => .none
  | .buildSlice t len parts => if inMd md (o.dst.getD 0) = true then (match (ti P t).desc with
    | some (.slice e) => match aflat P e len (parts.toList.map fun p => (p.1, ev st p.2)) with
      | some cs => .grow σ.length (.cells cs)
      | none => .none
    | _ => .none) else .none
  | .makeSlice t x y => match (ti P t).desc, ev st y with
    | some (.slice e), .int _ c => match (ti P e).zero with
      | some zc => if inMd md (o.dst.getD 0) = true then .grow σ.length (.cells (zcells zc c.toNat)) else .grow σ.length (.tok 0)
      | none => .none
    | _, _ => .none
  | .call c => match c.callee with
    | .builtin .append => if inMd md (o.dst.getD 0) = true then .none else match c.args.toList.map (ev st), c.argTypes.toList with
      | [.lst _ els tok, y], [t, _] => match (ti P t).desc with
        | some (.slice e) => match y with
          | .sl .. => .bar σ'
          | _ => match tokId σ els.length (ti P e).size tok, asrc [] (ti P e).size y with
            | some id, some els2 => if id < σ.length then .obj id (.tok (els.length + els2.length)) else .grow id (.tok (els.length + els2.length))
            | _, _ => .bar σ'
        | _ => .bar σ'
      | _, _ => .bar σ'
    | .builtin .len => .none
    | .builtin .min => .none
    | .builtin .max => .none
    | _ => .bar σ'
  | _ => .none

theorem plain_eff {st : Tm} {σ σ' : AHeap} {o : Oper} (h : plainOp o = true) : effOf P md st σ o σ' = .none := by
  unfold plainOp at h
  unfold effOf
  split at h <;> first | (rename_i ho; rw [ho]; done) | cases h

theorem plain_key {o : Oper} (hp : plainOp o = true) {s : Tm} {σ : AHeap} : (∃ p x, ∀ τ, aopR P md s τ o = .val p x τ) ∨ aopR P md s σ o = .stuck := by
  have key : ∀ τ, (∃ p x, aopR P md s σ o = .val p x σ ∧ aopR P md s τ o = .val p x τ) ∨ aopR P md s σ o = .stuck := by
    intro σ'
    unfold plainOp at hp
    unfold aopR
    split at hp <;> first | cases hp | skip
    all_goals rename_i ho; rw [ho]; simp only
    all_goals (repeat' split) <;> first | exact Or.inr rfl | exact Or.inl ⟨_, _, rfl, rfl⟩
  rcases key σ with ⟨p, x, h1, _⟩ | h
  · refine Or.inl ⟨p, x, fun τ => ?_⟩
    rcases key τ with ⟨p', x', h2, h3⟩ | h2
    · rw [h1] at h2; cases h2; exact h3
    · rw [h1] at h2; cases h2
  · exact Or.inr h

theorem val_of {st : Tm} {σ σ' : AHeap} {o : Oper} {p : Prop} {x : AV} (h : aopR P md st σ o = .val p x σ') (hp : p) :
    ValE P md st σ o x (effOf P md st σ o σ') ∧ okEff o (effOf P md st σ o σ') ∧ σ' = effA σ (effOf P md st σ o σ') := by
  by_cases hpl : plainOp o = true
  · rcases plain_key (P := P) (md := md) (σ := σ) hpl (s := st) with ⟨q, y, hk⟩ | hk
    · rw [hk σ] at h; cases h
      rw [plain_eff hpl]
      refine ⟨⟨trivial, fun τ _ _ => ?_⟩, ⟨fun _ => rfl, fun _ => trivial⟩, rfl⟩
      unfold aop; rw [hk τ]; exact ⟨hp, by trivial, by trivial⟩
    · rw [hk] at h; cases h
  have ok1 : plainOp o = true → ∀ e : Eff, e = .none := fun h => absurd h hpl
  cases hop : o.op
  case load t y =>
    simp only [aopR, hop] at h
    split at h
    · rename_i id off hx
      split at h
      · rename_i cs hid
        split at h
        · rename_i r hr
          cases h
          have he : ∀ υ, effOf P md st σ o υ = .rd id := fun υ => by simp only [effOf, hop, hx]
          rw [he]
          refine ⟨⟨some_lt hid, fun τ h1 _ => ?_⟩, ⟨fun h => ok1 h _, fun _ => trivial⟩, rfl⟩
          simp only [effEq] at h1
          rw [hid] at h1
          simp only [aop, aopR, hop, hx, ← h1, hr]
          exact ⟨trivial, by trivial, by trivial⟩
        · cases h
      · cases h
    · rename_i cs hx
      split at h
      · rename_i r hr
        cases h
        have he : ∀ υ, effOf P md st σ o υ = .none := fun υ => by simp only [effOf, hop, hx]
        rw [he]
        refine ⟨⟨trivial, fun τ h1 _ => ?_⟩, ⟨fun h => ok1 h _, fun _ => trivial⟩, rfl⟩
        simp only [aop, aopR, hop, hx, hr]
        exact ⟨trivial, by trivial, by trivial⟩
      · cases h
    · cases h
  case store t y z =>
    simp only [aopR, hop] at h
    split at h
    · rename_i id off ys hx hy
      split at h
      · rename_i cs hid
        cases h
        obtain ⟨p1, p2, p3, p4⟩ := hp
        have he : ∀ υ, effOf P md st σ o υ = .wr (id, off, ys) := fun υ => by simp only [effOf, hop, hx, hy]
        rw [he]
        refine ⟨⟨⟨cs, hid, p4⟩, fun τ h1 h2 => ?_⟩, ⟨fun h => ok1 h _, fun h => by simp [isLoad, hop] at h⟩, ?_⟩
        · obtain ⟨ds, g1, g2⟩ := h2
          simp only at g1 g2
          simp only [aop, aopR, hop, hx, hy, g1, effA, st1]
          exact ⟨⟨p1, p2, p3, g2⟩, by trivial, by trivial⟩
        · simp only [effA, st1, hid]
      · cases h
    · cases h
  case alloc t =>
    simp only [aopR, hop] at h
    split at h
    · rename_i cs hz
      split at h
      · rename_i id hl
        split at h
        · rename_i hid
          cases h
          have he : ∀ υ, effOf P md st σ o υ = .obj id (.cells cs) := fun υ => by simp only [effOf, hop, hz, hl]
          rw [he]
          refine ⟨⟨some_lt hid, fun τ h1 h2 => ?_⟩, ⟨fun h => ok1 h _, fun h => by simp [isLoad, hop] at h⟩, rfl⟩
          simp only [effEq] at h1
          simp only [aop, aopR, hop, hz, hl, ← h1, hid, effA]
          exact ⟨trivial, by trivial, by trivial⟩
        · cases h
      · rename_i hl
        cases h
        have he : ∀ υ, effOf P md st σ o υ = .grow σ.length (.cells cs) := fun υ => by
          simp only [effOf, hop, hz]
        rw [he]
        refine ⟨⟨rfl, fun τ h1 h2 => ?_⟩, ⟨fun h => ok1 h _, fun h => by simp [isLoad, hop] at h⟩, rfl⟩
        simp only [effEq] at h1
        simp only [aop, aopR, hop, hz]
        exact ⟨trivial, by rw [h1], rfl⟩
    · cases h
  case box t y =>
    simp only [aopR, hop] at h
    split at h
    · rename_i cs hz
      cases h
      have he : ∀ υ, effOf P md st σ o υ = .grow σ.length (.cells cs) := fun υ => by simp only [effOf, hop, hz]
      rw [he]
      refine ⟨⟨rfl, fun τ h1 h2 => ?_⟩, ⟨fun h => ok1 h _, fun h => by simp [isLoad, hop] at h⟩, rfl⟩
      simp only [effEq] at h1
      simp only [aop, aopR, hop, hz, effA, h1]
      exact ⟨trivial, by trivial, by trivial⟩
    · cases h
  case buildSlice t len parts =>
    have quiet : ∀ y q, (∀ τ, aopR P md st τ o = .val q y τ) → q → effOf P md st σ o σ' = .none → aopR P md st σ o = .val p x σ' →
        ValE P md st σ o x (effOf P md st σ o σ') ∧ okEff o (effOf P md st σ o σ') ∧ σ' = effA σ (effOf P md st σ o σ') := by
      intro y q hk hq he h
      rw [hk σ] at h; cases h
      rw [he]
      refine ⟨⟨trivial, fun τ _ _ => ?_⟩, ⟨fun _ => rfl, fun _ => trivial⟩, rfl⟩
      unfold aop; rw [hk τ]; exact ⟨hq, by trivial, by trivial⟩
    have h0 := h
    simp only [aopR, hop] at h
    split at h
    · rename_i e hd
      split at h
      · rename_i hz
        subst hz
        split at h
        · rename_i hl
          split at h
          · cases h
          · rename_i hmd
            cases h
            exact quiet _ _ (fun τ => by simp only [aopR, hop, hd, hl, if_true, if_neg hmd]; try rfl) hp (by simp only [effOf, hop, if_neg hmd]) h0
        · cases h
      · rename_i hz
        split at h
        · rename_i cs hcs
          split at h
          · rename_i hmd
            cases h
            have he : ∀ υ, effOf P md st σ o υ = .grow σ.length (.cells cs) := fun υ => by simp only [effOf, hop, if_pos hmd, hd, hcs]
            rw [he]
            refine ⟨⟨rfl, fun τ h1 h2 => ?_⟩, ⟨fun h => ok1 h _, fun h => by simp [isLoad, hop] at h⟩, rfl⟩
            simp only [effEq] at h1
            simp only [aop, aopR, hop, hd, if_neg hz, hcs, if_pos hmd, effA, h1]
            exact ⟨hp, by trivial, by trivial⟩
          · rename_i hmd
            cases h
            exact quiet _ _ (fun τ => by simp only [aopR, hop, hd, if_neg hz, hcs, if_neg hmd]; try rfl) hp (by simp only [effOf, hop, if_neg hmd]) h0
        · cases h
    · cases h
  case makeSlice t y z =>
    simp only [aopR, hop] at h
    split at h
    · rename_i e kl l kc c hd hx hy
      split at h
      · rename_i zc hz
        split at h
        · rename_i hmd
          cases h
          have he : ∀ υ, effOf P md st σ o υ = .grow σ.length (.cells (zcells zc c.toNat)) := fun υ => by simp only [effOf, hop, hd, hy, hz, if_pos hmd]
          rw [he]
          refine ⟨⟨rfl, fun τ h1 h2 => ?_⟩, ⟨fun h => ok1 h _, fun h => by simp [isLoad, hop] at h⟩, rfl⟩
          simp only [effEq] at h1
          simp only [aop, aopR, hop, hd, hx, hy, hz, if_pos hmd, effA, h1]
          exact ⟨hp, by trivial, by trivial⟩
        · rename_i hmd
          cases h
          have he : ∀ υ, effOf P md st σ o υ = .grow σ.length (.tok 0) := fun υ => by simp only [effOf, hop, hd, hy, hz, if_neg hmd]
          rw [he]
          refine ⟨⟨rfl, fun τ h1 h2 => ?_⟩, ⟨fun h => ok1 h _, fun h => by simp [isLoad, hop] at h⟩, rfl⟩
          simp only [effEq] at h1
          simp only [aop, aopR, hop, hd, hx, hy, hz, if_neg hmd, effA, h1]
          exact ⟨hp, by trivial, by trivial⟩
      · cases h
    · cases h
  case call c =>
    have quiet : ∀ y q, (∀ τ, aopR P md st τ o = .val q y τ) → q → effOf P md st σ o σ' = .none → aopR P md st σ o = .val p x σ' →
        ValE P md st σ o x (effOf P md st σ o σ') ∧ okEff o (effOf P md st σ o σ') ∧ σ' = effA σ (effOf P md st σ o σ') := by
      intro y q hk hq he h
      rw [hk σ] at h; cases h
      rw [he]
      refine ⟨⟨trivial, fun τ _ _ => ?_⟩, ⟨fun _ => rfl, fun _ => trivial⟩, rfl⟩
      unfold aop; rw [hk τ]; exact ⟨hq, by trivial, by trivial⟩
    have h0 := h
    simp only [aopR, hop] at h
    split at h
    · split at h <;> cases h
    · rename_i b hc
      unfold abuiltin at h
      split at h
      · rename_i y t h2 h3
        split at h
        · rename_i d hd
          split at h
          · rename_i n hn
            cases h
            exact quiet _ _ (fun τ => by simp only [aopR, hop, hc, abuiltin, h2, h3, hd, hn]; try rfl) hp (by simp only [effOf, hop, hc]) h0
          · cases h
        · cases h
      · rename_i y z h2
        split at h
        · cases h
          exact quiet _ _ (fun τ => by simp only [aopR, hop, hc, abuiltin, h2]; try rfl) hp (by simp only [effOf, hop, hc]) h0
        · cases h
      · rename_i y z h2
        split at h
        · cases h
          exact quiet _ _ (fun τ => by simp only [aopR, hop, hc, abuiltin, h2]; try rfl) hp (by simp only [effOf, hop, hc]) h0
        · cases h
      · rename_i y z t t' h2 h3
        cases hnt : inMd md (o.dst.getD 0) with
        | true =>
          simp only [hnt, if_true] at h
          split at h
          · split at h
            · rename_i g1 g2 _ _ _ _ els2 zc k1 k2 k4
              cases h
              exact quiet _ _ (fun τ => by simp only [aopR, hop, hc, hnt, abuiltin, h2, h3, g1, g2, k1, k2, k4, if_true]; try rfl) hp (by simp only [effOf, hop, hc, hnt, if_true]) h0
            · cases h
          · cases h
        | false =>
        simp only [hnt, Bool.false_eq_true, if_false] at h
        have bar : effOf P md st σ o σ' = .bar σ' → ValE P md st σ o x (effOf P md st σ o σ') ∧ okEff o (effOf P md st σ o σ') ∧ σ' = effA σ (effOf P md st σ o σ') := by
          intro he
          have hl : σ.length ≤ σ'.length := by
            have := h0
            simp only [aopR, hop, hc, abuiltin, h2, h3, hnt, Bool.false_eq_true, if_false] at this
            split at this
            · split at this
              · cases this
                unfold tokσ; split <;> simp
              · cases this
            · cases this
          rw [he]
          refine ⟨⟨hl, fun τ h1 h2' => ?_⟩, ⟨fun h => ok1 h _, fun h => by simp [isLoad, hop] at h⟩, rfl⟩
          simp only [effEq] at h1
          subst h1
          unfold aop; rw [h0]; exact ⟨hp, rfl, rfl⟩
        split at h
        · rename_i z _ _ _ _ e d' nl els tok g1 g2
          split at h
          · rename_i els2 id zc k1 k2 k3 k4
            by_cases hsl : ∃ i o l k, z = .sl i o l k
            · obtain ⟨i, o', l, k, rfl⟩ := hsl
              exact bar (by simp only [effOf, hop, hc, hnt, h2, h3, g1, Bool.false_eq_true, if_false])
            have hnl : ∀ τ, asrc τ (ti P e).size z = asrc σ (ti P e).size z := by
              intro τ
              cases z with
              | sl i o l k => exact absurd ⟨_, _, _, _, rfl⟩ hsl
              | _ => rfl
            cases h
            have he : ∀ υ, effOf P md st σ o υ = if id < σ.length then .obj id (.tok (els.length + els2.length)) else .grow id (.tok (els.length + els2.length)) := fun υ => by
              have k2' := (hnl []).trans k2
              cases z with
              | sl i o l k => exact absurd ⟨_, _, _, _, rfl⟩ hsl
              | _ => simp only [effOf, hop, hc, hnt, h2, h3, g1, k3, k2', Bool.false_eq_true, if_false]
            have hidle : ¬ id < σ.length → id = σ.length := by
              intro hlt
              cases tok with
              | none => simp [tokId] at k3
              | full => simpa [tokId] using k3.symm
              | own i n k =>
                simp only [tokId] at k3
                split at k3
                · rename_i mm hmm
                  split at k3
                  · cases k3; exact absurd (some_lt hmm) hlt
                  · cases k3
                · cases k3
            rw [he]
            by_cases hlt : id < σ.length
            · rw [if_pos hlt]
              refine ⟨⟨hlt, fun τ h1 h2' => ?_⟩, ⟨fun h => ok1 h _, fun h => by simp [isLoad, hop] at h⟩, by simp [effA, tokσ, hlt]⟩
              simp only [effEq] at h1
              have g3' : tokId τ els.length (ti P e).size tok = some id := by
                cases tok with
                | none => simp [tokId] at k3
                | full => simp only [tokId, Option.some.injEq] at k3; omega
                | own i n k =>
                  have : i = id := by
                    simp only [tokId] at k3
                    split at k3
                    · split at k3
                      · simpa using k3
                      · cases k3
                    · cases k3
                  subst this
                  simp only [tokId, ← h1] at k3 ⊢; exact k3
              have hlt' : id < τ.length := h2'
              simp only [aop, aopR, hop, hc, hnt, abuiltin, h2, h3, g1, g2, g3', k1, (hnl τ).trans k2, k4, effA, tokσ, if_pos hlt', Bool.false_eq_true, if_false]
              exact ⟨hp, by trivial, by trivial⟩
            · rw [if_neg hlt]
              have hid := hidle hlt
              refine ⟨⟨hid, fun τ h1 h2' => ?_⟩, ⟨fun h => ok1 h _, fun h => by simp [isLoad, hop] at h⟩, by simp [effA, tokσ, hlt]⟩
              simp only [effEq] at h1
              have g3' : tokId τ els.length (ti P e).size tok = some id := by
                cases tok with
                | none => simp [tokId] at k3
                | full => simp only [tokId, Option.some.injEq] at k3 ⊢; omega
                | own i n k =>
                  exfalso
                  simp only [tokId] at k3
                  split at k3
                  · rename_i mm hmm
                    split at k3
                    · cases k3; exact hlt (some_lt hmm)
                    · cases k3
                  · cases k3
              have hlt' : ¬ id < τ.length := by omega
              simp only [aop, aopR, hop, hc, hnt, abuiltin, h2, h3, g1, g2, g3', k1, (hnl τ).trans k2, k4, effA, tokσ, if_neg hlt', Bool.false_eq_true, if_false]
              exact ⟨hp, by trivial, by trivial⟩
          · cases h
        · cases h
      · rename_i y z t t' h2 h3
        split at h
        · split at h
          · cases h
            have he : ∀ υ, effOf P md st σ o υ = .bar υ := fun υ => by simp only [effOf, hop, hc]
            rw [he]
            refine ⟨⟨by simp [effOk], fun τ h1 h2' => ?_⟩, ⟨fun h => ok1 h _, fun h => by simp [isLoad, hop] at h⟩, rfl⟩
            simp only [effEq] at h1
            subst h1
            unfold aop; rw [h0]; exact ⟨hp, rfl, rfl⟩
          · cases h
        · cases h
      · cases h
    · cases h
  all_goals first | (simp [plainOp, hop] at hpl; done) | (simp only [aopR, hop] at h; cases h)

end
end Go.Sal
