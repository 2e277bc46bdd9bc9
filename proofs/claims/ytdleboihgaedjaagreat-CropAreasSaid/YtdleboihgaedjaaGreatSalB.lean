/- SalB: the judgements on code and calls over abstract states, and the rules for what code is made of. -/
import Derived.Test.YtdleboihgaedjaaGreatSalA2
namespace Go.Sal
open Go.RowKit

/-- How a piece of code is left. -/
inductive AX where
  | normal
  | exit (id : Nat)
  | ret
def AX.to : AX → Exit
  | .normal => .normal
  | .exit id => .exit id
  | .ret => .ret

abbrev Tm := Nat → AV
def upd (st : Tm) (d : Option Nat) (x : AV) : Tm := match d with
  | none => st
  | some d => fun t => if t = d then x else st t

theorem upd_same (st : Tm) (d : Nat) (x : AV) : upd st (some d) x d = x := by simp [upd]
theorem upd_ne (st : Tm) (d t : Nat) (x : AV) (h : t ≠ d) : upd st (some d) x t = st t := by simp [upd, h]
theorem upd_none (st : Tm) (x : AV) : upd st none x = st := rfl

/-- The abstract state stands for the machine's. -/
structure St (N B : Nat) (w0 : World) (σ : AHeap) (ι : Inj) (w : World) (st : Tm) (a : Act) : Prop where
  rel : Rel B w0 σ ι w
  tm : ∀ t, V σ ι w (st t) (a.tmps.getD t undef)
  sz : a.tmps.size = N
  df : a.defers = []

def dOk (N : Nat) : Option Nat → Prop
  | none => True
  | some d => d < N

theorem St.put {N B w0 σ ι w st a σ' ι' w' x v} {d : Option Nat} (h : St N B w0 σ ι w st a) (hd : dOk N d) (hr : Rel B w0 σ' ι' w') (he : Ext σ ι w σ' ι' w') (hv : V σ' ι' w' x v) :
    St N B w0 σ' ι' w' (upd st d x) (a.put d v) := by
  cases d with
  | none => exact ⟨hr, fun t => he.2 _ _ (h.tm t), h.sz, h.df⟩
  | some d =>
    refine ⟨hr, fun t => ?_, by simp [Act.put, h.sz], h.df⟩
    have hd' : d < a.tmps.size := by rw [h.sz]; exact hd
    by_cases e : t = d
    · subst e; rw [upd_same]; simpa [Act.put, Array.getD_eq_getD_getElem?, hd'] using hv
    · rw [upd_ne _ _ _ _ e]
      have := he.2 _ _ (h.tm t)
      simp only [Act.put, Array.getD_eq_getD_getElem?]
      rw [Array.getElem?_setIfInBounds_ne (by omega)]
      rwa [Array.getD_eq_getD_getElem?] at this

theorem St.put_undef {N B w0 σ ι w st a} {d : Option Nat} (h : St N B w0 σ ι w st a) (hd : dOk N d) (v : Value) : St N B w0 σ ι w (upd st d .undef) (a.put d v) :=
  h.put hd h.rel (Ext.refl _ _ _) (by simp [V])

theorem St.put_skip {N B w0 σ ι w st a} {d : Option Nat} (h : St N B w0 σ ι w st a) (hd : dOk N d) : St N B w0 σ ι w (upd st d .skip) (a.put d undef) :=
  h.put hd h.rel (Ext.refl _ _ _) (by simp [V])

abbrev Post := AX → Tm → AHeap → Prop

/-- What the machine owes where the code is left. -/
def QC (N B : Nat) (w0 : World) (σ : AHeap) (ι : Inj) (w : World) (Q : Post) : Exit → Act → World → Prop :=
  fun e a' w' => ∃ e' st' σ' ι', e = AX.to e' ∧ Q e' st' σ' ∧ St N B w0 σ' ι' w' st' a' ∧ Ext σ ι w σ' ι' w'

def AW (P : Program) (N : Nat) (c : Code) (st : Tm) (σ : AHeap) (Q : Post) : Prop :=
  ∀ B w0 ι w a, St N B w0 σ ι w st a → c.wp P (QC N B w0 σ ι w Q) a w

/-- A function with a body, that the machine enters. -/
def Callable (P : Program) (f : FuncId) : Prop := ∃ fn, P.funcs[f]? = some fn ∧ fn.body.isSome = true ∧ (fn.name == "runtime.NumGoroutine") = false

/-- A call of `f` comes back with a result and a heap that meet `R`. -/
def ACalls (P : Program) (f : FuncId) (args : List AV) (σ : AHeap) (R : AV → AHeap → Prop) : Prop :=
  Callable P f ∧ ∀ B w0 ι w vs, Rel B w0 σ ι w → VT σ ι w args vs.toList → Calls P f vs w
    (fun e w' => ∃ r σ' ι' v, e = .returned v ∧ R r σ' ∧ Rel B w0 σ' ι' w' ∧ Ext σ ι w σ' ι' w' ∧ V σ' ι' w' r v)

theorem ACalls.mono {P f args σ} {R R' : AV → AHeap → Prop} (h : ACalls P f args σ R) (hr : ∀ r σ', R r σ' → R' r σ') : ACalls P f args σ R' :=
  ⟨h.1, fun B w0 ι w vs h1 h2 => (h.2 B w0 ι w vs h1 h2).mono fun _ _ ⟨r, σ', ι', v, e, q, k⟩ => ⟨r, σ', ι', v, e, hr _ _ q, k⟩⟩

theorem QC.mono {N B w0 σ ι w} {Q Q' : Post} (h : ∀ e st σ, Q e st σ → Q' e st σ) (e a w') (hq : QC N B w0 σ ι w Q e a w') : QC N B w0 σ ι w Q' e a w' := by
  obtain ⟨e', st', σ', ι', h1, h2, h3⟩ := hq
  exact ⟨e', st', σ', ι', h1, h _ _ _ h2, h3⟩

theorem AW.mono {P N c st σ} {Q Q' : Post} (h : AW P N c st σ Q) (hq : ∀ e st σ, Q e st σ → Q' e st σ) : AW P N c st σ Q' :=
  fun B w0 ι w a hs => wp_mono (h B w0 ι w a hs) (fun _ _ _ => QC.mono hq _ _ _)

theorem QC.ext {N B w0 σ ι w σ1 ι1 w1} {Q : Post} (he : Ext σ ι w σ1 ι1 w1) (e a w') (hq : QC N B w0 σ1 ι1 w1 Q e a w') : QC N B w0 σ ι w Q e a w' := by
  obtain ⟨e', st', σ', ι', h1, h2, h3, h4⟩ := hq
  exact ⟨e', st', σ', ι', h1, h2, h3, he.trans h4⟩

/-- Behind `x` what `K` says of the normal end. -/
def andThen (K : Tm → AHeap → Prop) (Q : Post) : Post
  | .normal, st, σ => K st σ
  | e, st, σ => Q e st σ

theorem AW_seq {P N x y st σ} {Q : Post} (h : AW P N x st σ (andThen (fun st σ => AW P N y st σ Q) Q)) : AW P N (.seq x y) st σ Q := by
  intro B w0 ι w a hs
  refine wp_seq (wp_mono (h B w0 ι w a hs) fun e a' w' hq => ?_)
  obtain ⟨e', st', σ', ι', rfl, h2, h3, h4⟩ := hq
  cases e' with
  | normal => exact wp_mono (h2 B w0 ι' w' a' h3) fun _ _ _ => QC.ext h4 _ _ _
  | exit id => exact ⟨.exit id, st', σ', ι', rfl, h2, h3, h4⟩
  | ret => exact ⟨.ret, st', σ', ι', rfl, h2, h3, h4⟩

theorem AW_skip {P N st σ} {Q : Post} (h : Q .normal st σ) : AW P N .skip st σ Q :=
  fun _ _ ι _ _ hs => wp_skip ⟨.normal, st, σ, ι, rfl, h, hs, Ext.refl _ _ _⟩
theorem AW_exit {P N id st σ} {Q : Post} (h : Q (.exit id) st σ) : AW P N (.exit id) st σ Q :=
  fun _ _ ι _ _ hs => wp_exit ⟨.exit id, st, σ, ι, rfl, h, hs, Ext.refl _ _ _⟩
theorem AW_ret {P N st σ} {Q : Post} (h : Q .ret st σ) : AW P N .ret st σ Q :=
  fun _ _ ι _ _ hs => wp_ret ⟨.ret, st, σ, ι, rfl, h, hs, Ext.refl _ _ _⟩

def ofConst : Value → AV
  | .int k n => .int k n
  | .bool b => .bool b
  | .string s => .str s
  | .pointer none => .nilp
  | .slice none 0 0 => .lst (some true) [] .full
  | .nilFunc => .nilfn
  | .map none => .nilmap
  | .nilIface => .nilif
  | .func (.func f) ⟨[]⟩ ⟨[]⟩ => .fn f []
  | _ => .undef

theorem V_ofConst (σ ι w) (v : Value) : V σ ι w (ofConst v) v := by
  unfold ofConst
  split <;> try (simp [V]; done)
  · simp only [V]
    refine ⟨none, 0, by simp, by simp, by simp, by simp [TokOk], by simp, by simp⟩
  · simp only [V]
    exact ⟨_, rfl, by simp [VT]⟩

def ofConstD : Value → AV
  | .agg cs => .agg (cs.toList.map ofConst)
  | v => ofConst v

theorem VT_ofConst (σ ι w) (vs : List Value) : VT σ ι w (vs.map ofConst) vs := by
  induction vs with
  | nil => simp [VT]
  | cons v vs ih => simp only [List.map_cons, VT]; exact ⟨v, vs, rfl, V_ofConst _ _ _ _, ih⟩

theorem V_ofConstD (σ ι w) (v : Value) : V σ ι w (ofConstD v) v := by
  unfold ofConstD
  split
  · simp only [V]; exact ⟨_, rfl, VT_ofConst _ _ _ _⟩
  · exact V_ofConst _ _ _ _

/-- An operand's abstract value. -/
def ev (st : Tm) : Operand → AV
  | .tmp t => st t
  | .const v => ofConstD v
  | .global _ => .undef
  | .func f => .fn f []

theorem St.ev {N B w0 σ ι w st a} (h : St N B w0 σ ι w st a) (x : Operand) : V σ ι w (ev st x) (a.eval x) := by
  cases x with
  | tmp t => exact h.tm t
  | const v => exact V_ofConstD _ _ _ _
  | global g => simp [Sal.ev, V]
  | func f => simp [Sal.ev, V, Act.eval, VT]

theorem St.evs {N B w0 σ ι w st a} (h : St N B w0 σ ι w st a) (xs : List Operand) : VT σ ι w (xs.map (Sal.ev st)) (xs.map a.eval) := by
  induction xs with
  | nil => simp [VT]
  | cons x xs ih => simp only [List.map_cons, VT]; exact ⟨_, _, rfl, h.ev x, ih⟩

theorem AW_cond {P N c x y st σ} {Q : Post} {t : Bool} (hc : ev st c = .bool t) (h1 : t = true → AW P N x st σ Q) (h2 : t = false → AW P N y st σ Q) : AW P N (.cond c x y) st σ Q := by
  intro B w0 ι w a hs
  have := hs.ev c
  rw [hc] at this
  simp only [V] at this
  exact wp_cond_split this (fun e => h1 e B w0 ι w a hs) (fun e => h2 e B w0 ι w a hs)

def inBlk (id : Nat) (Q : Post) : Post
  | .exit id', st, σ => if id' = id then Q .normal st σ else Q (.exit id') st σ
  | e, st, σ => Q e st σ

theorem AW_block {P N id c st σ} {Q : Post} (h : AW P N c st σ (inBlk id Q)) : AW P N (.block id c) st σ Q := by
  intro B w0 ι w a hs
  refine wp_block (wp_mono (h B w0 ι w a hs) fun e a' w' hq => ?_)
  obtain ⟨e', st', σ', ι', rfl, h2, h3, h4⟩ := hq
  cases e' with
  | normal => exact ⟨.normal, st', σ', ι', rfl, h2, h3, h4⟩
  | exit id' =>
    simp only [AX.to, Exit.inBlock, inBlk] at h2 ⊢
    split
    · rename_i hid; rw [if_pos hid] at h2; exact ⟨.normal, st', σ', ι', rfl, h2, h3, h4⟩
    · rename_i hid; rw [if_neg hid] at h2; exact ⟨.exit id', st', σ', ι', rfl, h2, h3, h4⟩
  | ret => exact ⟨.ret, st', σ', ι', rfl, h2, h3, h4⟩

/-- Weaker objects. -/
def WkO (σ : AHeap) : AObj → AObj → Prop
  | .cells cs, .cells ds => WkL σ cs ds
  | o, o' => o = o'
def WkH (σ' σ : AHeap) : Prop := σ.length = σ'.length ∧ ∀ (id : Nat) (o : AObj), σ[id]? = some o → ∃ o', σ'[id]? = some o' ∧ WkO σ' o o'

theorem WkO_refl (σ : AHeap) (o : AObj) : WkO σ o o := by
  cases o <;> first | exact WkL_refl σ _ | rfl
theorem WkH_refl (σ : AHeap) : WkH σ σ := ⟨rfl, fun id o h => ⟨o, h, WkO_refl _ _⟩⟩

def keepOk (n len : Nat) (keep : List Nat) : Prop := (∀ id ∈ keep, n ≤ id ∧ id < len) ∧ keep.Nodup
def Ghosts (gh : AHeap) : Prop := ∀ o ∈ gh, (∃ q, o = .tok q) ∨ o = .hole

/-- A state may be looked at anew: values say less; tokens are added; from number `n` (at least `m`) on objects are dropped, kept under other numbers, or seen by value. -/
inductive Less (m : Nat) (st : Tm) (σ : AHeap) : Tm → AHeap → Prop
  | wk (gh : AHeap) (st' : Tm) (σ' : AHeap) (hm : m ≤ σ.length) (hg : Ghosts gh) (hw : WkH σ' (σ ++ gh)) (ht : ∀ t, st' t = .undef ∨ Wk σ' (st t) (st' t)) : Less m st σ st' σ'
  | gc (n : Nat) (keep : List Nat) (f : Nat) (gh : AHeap) (st' : Tm) (σ' : AHeap) (hm : m ≤ n) (hn : n ≤ σ.length) (hk : keepOk n σ.length keep) (hg : Ghosts gh) (hw : WkH σ' (gcH σ n keep f ++ gh))
      (ht : ∀ t, st' t = .undef ∨ Wk σ' (frz σ n keep f (st t)) (st' t)) : Less m st σ st' σ'

/-- Tokens are added, objects say less. -/
theorem Rel.weak {B w0 σ ι w σ'} {gh : AHeap} (hr : Rel B w0 σ ι w) (hg : Ghosts gh) (hw : WkH σ' (σ ++ gh)) :
    ∃ ι', Rel B w0 σ' ι' w ∧ ∀ x v, V σ ι w x v → V σ' ι' w x v := by
  have hlen : σ'.length = σ.length + gh.length := by rw [← hw.1]; simp
  refine ⟨fun i => if i < σ.length then ι i else none, ?_, ?_⟩
  all_goals
    have hs : Step σ ι w σ' (fun i => if i < σ.length then ι i else none) w := by
      have hk : ∀ id o, σ[id]? = some o → id < σ.length ∧ ∃ o', σ'[id]? = some o' ∧ WkO σ' o o' := by
        intro id o h
        have hl := some_lt h
        exact ⟨hl, hw.2 id o (by rw [List.getElem?_append_left hl]; exact h)⟩
      refine ⟨Nat.le_refl _, fun id cs h => ?_, fun id es h => ?_, fun id q h => ?_, fun id o b x h1 h2 h3 => ?_, fun b j v h _ => h, fun id q b x h1 h2 h3 j _ h4 h5 => ⟨h4, h5⟩, fun id h b x h2 => ?_⟩
      · obtain ⟨hl, o', h1, h2⟩ := hk id _ h
        cases o' with
        | cells ds => exact ⟨if_pos hl, ds, h1, WkL_len h2⟩
        | _ => simp [WkO] at h2
      · obtain ⟨hl, o', h1, h2⟩ := hk id _ h
        cases o' with
        | map es => exact ⟨if_pos hl, es, h1⟩
        | _ => simp [WkO] at h2
      · obtain ⟨hl, o', h1, h2⟩ := hk id _ h
        cases o' with
        | tok q' =>
          have : q = q' := by simpa [WkO] using h2
          subst this
          exact ⟨q, h1, Nat.le_refl _, fun _ => if_pos hl, fun b x' hx => Or.inl ⟨x', by rwa [if_pos hl] at hx, Nat.le_refl _⟩⟩
        | _ => simp [WkO] at h2
      · rw [List.getElem?_eq_none_iff] at h1
        simp only [if_neg (show ¬ id < σ.length by omega)] at h3
        cases h3
      · obtain ⟨hl, _⟩ := hk id _ h
        rw [if_pos hl] at h2; exact Or.inl h2
  · refine ⟨hr.below, hr.hB, fun id o' ho => ?_, fun id o b x ho hi => ?_, fun i j oi oj b x y hi hj h1 h2 => ?_⟩
    · have hl' : id < σ.length + gh.length := by have := some_lt ho; omega
      obtain ⟨o, h1⟩ : ∃ o, (σ ++ gh)[id]? = some o := ⟨_, List.getElem?_eq_getElem (by simpa using hl')⟩
      obtain ⟨o'', h2, h3⟩ := hw.2 id o h1
      rw [ho] at h2; cases h2
      by_cases hl : id < σ.length
      · rw [List.getElem?_append_left hl] at h1
        have h4 := hr.obj id o h1
        simp only [if_pos hl]
        cases o with
        | cells cs =>
          cases o' with
          | cells ds =>
            obtain ⟨b, y, e, hv, hf⟩ := h4
            have : ∀ (xs : List AV) (b off : Nat), VL σ ι w b off xs → VL σ' (fun i => if i < σ.length then ι i else none) w b off xs := by
              intro xs b off hv
              have := VL_map (g := fun x => x) (fun x v hx => V_mono hs x v hx) xs b off hv
              simpa using this
            exact ⟨b, y, e, VL_wk _ _ _ _ h3 (this _ _ _ hv), by rw [WkL_len h3]; exact hf⟩
          | _ => simp [WkO] at h3
        | tok q => cases o' <;> simp [WkO] at h3; exact trivial
        | hole => cases o' <;> simp [WkO] at h3; exact h4
        | map es => exact h4.elim
      · rw [List.getElem?_append_right (by omega)] at h1
        rcases hg o (List.mem_of_getElem? h1) with ⟨q, rfl⟩ | rfl
        · cases o' <;> simp [WkO] at h3
          exact trivial
        · cases o' <;> simp [WkO] at h3
          simp only [if_neg hl]; rfl
    · by_cases hl : id < σ.length
      · simp only [if_pos hl] at hi
        obtain ⟨o2, h2⟩ : ∃ o, σ[id]? = some o := ⟨_, List.getElem?_eq_getElem hl⟩
        exact hr.blk id o2 b x h2 hi
      · simp only [if_neg hl] at hi; cases hi
    · by_cases hl : i < σ.length
      · by_cases hl2 : j < σ.length
        · simp only [if_pos hl, if_pos hl2] at h1 h2
          exact hr.inj i j _ _ b x y (List.getElem?_eq_getElem hl) (List.getElem?_eq_getElem hl2) h1 h2
        · simp only [if_neg hl2] at h2; cases h2
      · simp only [if_neg hl] at h1; cases h1
  · exact fun x v h => V_mono hs x v h

theorem WkH.len {σ' σ : AHeap} (h : WkH σ' σ) : σ'.length = σ.length := h.1.symm

theorem Less.sound {m st σ st' σ'} (hl : Less m st σ st' σ') {B w0 ι w} (hr : Rel B w0 σ ι w) : m ≤ σ'.length ∧ ∃ ι', Rel B w0 σ' ι' w ∧ (∀ t v, V σ ι w (st t) v → V σ' ι' w (st' t) v) ∧ ∀ σ0 ι0 w1, σ0.length ≤ m → Ext σ0 ι0 w1 σ ι w → Ext σ0 ι0 w1 σ' ι' w := by
  cases hl with
  | wk gh _ _ hm hg hw ht =>
    obtain ⟨ι', h1, h2⟩ := hr.weak hg hw
    have hlen := hw.len
    simp only [List.length_append] at hlen
    refine ⟨by omega, ι', h1, fun t v hv => ?_, fun σ0 ι0 w1 hn he => ⟨by omega, fun x v hx => h2 x v (he.2 x v hx)⟩⟩
    rcases ht t with e | e
    · rw [e]; simp [V]
    · exact V_wk _ _ _ e (h2 _ _ hv)
  | gc n keep f gh _ _ hm hn hk hg hw ht =>
    have hr' := hr.gc (f := f) hn hk.1 hk.2
    obtain ⟨ι', h1, h2⟩ := hr'.weak hg hw
    have hlen := hw.len
    rw [List.length_append, gcH_length hn] at hlen
    refine ⟨by omega, ι', h1, fun t v hv => ?_, fun σ0 ι0 w1 hn' he => ⟨by omega, fun x v hx => ?_⟩⟩
    · rcases ht t with e | e
      · rw [e]; simp [V]
      · exact V_wk _ _ _ e (h2 _ _ (V_frz hr hn hk.1 hk.2 f f _ _ hv))
    · have := V_frz hr hn hk.1 hk.2 f f _ _ (he.2 x v hx)
      rw [frz_clean (clean_le (by omega) x (V_clean x v hx))] at this
      exact h2 _ _ this

theorem St.less {N B w0 σ ι w st a st' σ' m} (h : St N B w0 σ ι w st a) (hl : Less m st σ st' σ') : m ≤ σ'.length ∧ ∃ ι', St N B w0 σ' ι' w st' a ∧ ∀ σ0 ι0 w1, σ0.length ≤ m → Ext σ0 ι0 w1 σ ι w → Ext σ0 ι0 w1 σ' ι' w := by
  obtain ⟨h0, ι', h1, h2, h3⟩ := hl.sound h.rel
  exact ⟨h0, ι', ⟨h1, fun t => h2 t _ (h.tm t), h.sz, h.df⟩, h3⟩

theorem wp_loop_rel {P : Program} {Q : Exit → Act → World → Prop} {c : Code} (I : Nat → Act → World → Prop)
    (round : ∀ n a w, I n a w → c.wp P (Exit.then (fun a' w' => ∃ m, m < n ∧ I m a' w') Q) a w) (n : Nat) (a : Act) (w : World) (h₀ : I n a w) : (Code.loop c).wp P Q a w := by
  intro b k cs
  have key : ∀ n a w, I n a w →
      ∃ e a' w', Q e a' w' ∧ Arrives P (lone (b.at a (.code c :: .inLoop c :: k)) cs w) b k cs e a' w' := by
    intro n
    induction n using Nat.strongRecOn with
    | _ n ih =>
      intro a w hI
      obtain ⟨e, a₁, w₁, hq, harr⟩ := round n a w hI b (.inLoop c :: k) cs
      cases e with
      | normal =>
        obtain ⟨m, hlt, hI₁⟩ := hq
        obtain ⟨e₂, a₂, w₂, hq₂, harr₂⟩ := ih m hlt a₁ w₁ hI₁
        exact ⟨e₂, a₂, w₂, hq₂, .of_steps (Steps.trans harr (.one step_inLoop)) harr₂⟩
      | exit id => exact ⟨_, a₁, w₁, hq, .pass (x := .inLoop c) rfl (fun _ _ => .inl (by simp)) harr⟩
      | goto l => exact ⟨_, a₁, w₁, hq, .pass (x := .inLoop c) rfl (fun _ _ => .inl (by simp)) harr⟩
      | ret => exact ⟨_, a₁, w₁, hq, .pass (x := .inLoop c) rfl (fun _ _ => .inl (by simp)) harr⟩
      | panic ch => exact ⟨_, a₁, w₁, hq, .pass (x := .inLoop c) rfl (fun _ _ => .inl (by simp)) harr⟩
      | outgrown => exact ⟨_, a₁, w₁, hq, .pass (x := .inLoop c) rfl (fun _ _ => .inl (by simp)) harr⟩
  obtain ⟨e, a', w', hq, harr⟩ := key n a w h₀
  exact ⟨e, a', w', hq, .of_steps (.one step_loop) harr⟩

/-- A loop, by a relation that holds at the head of each round; its number falls. At a round's end the state may be looked at anew. -/
theorem AW_loop {P N c st σ} {Q : Post} (I : Nat → Tm → AHeap → Prop) (n : Nat) (h0 : I n st σ)
    (hr : ∀ n st σ, I n st σ → AW P N c st σ (andThen (fun st' σ' => ∃ m st'' σ'', Less σ.length st' σ' st'' σ'' ∧ m < n ∧ I m st'' σ'') Q)) : AW P N (.loop c) st σ Q := by
  intro B w0 ι w a hs
  refine wp_loop_rel (fun n a' w' => ∃ st' σ' ι', I n st' σ' ∧ St N B w0 σ' ι' w' st' a' ∧ Ext σ ι w σ' ι' w') ?_ n a w ⟨st, σ, ι, h0, hs, Ext.refl _ _ _⟩
  rintro n a1 w1 ⟨st1, σ1, ι1, h1, hs1, he1⟩
  refine wp_mono (hr n st1 σ1 h1 B w0 ι1 w1 a1 hs1) fun e a' w' hq => ?_
  obtain ⟨e', st', σ', ι', rfl, h2, h3, h4⟩ := hq
  cases e' with
  | normal =>
    obtain ⟨m, st'', σ'', hl, hm, hI⟩ := h2
    obtain ⟨_, ι'', h5, h6⟩ := h3.less hl
    exact ⟨m, hm, st'', σ'', ι'', hI, h5, he1.trans (h6 _ _ _ (Nat.le_refl _) h4)⟩
  | exit id => exact ⟨.exit id, st', σ', ι', rfl, h2, h3, he1.trans h4⟩
  | ret => exact ⟨.ret, st', σ', ι', rfl, h2, h3, he1.trans h4⟩

theorem AW_less {P N c st σ st' σ'} {Q : Post} (hl : Less σ.length st σ st' σ') (h : AW P N c st' σ' Q) : AW P N c st σ Q := by
  intro B w0 ι w a hs
  obtain ⟨_, ι', h1, h2⟩ := hs.less hl
  exact wp_mono (h B w0 ι' w a h1) fun _ _ _ => QC.ext (h2 _ _ _ (Nat.le_refl _) (Ext.refl σ ι w)) _ _ _

/-- A call with arguments of which more is known. -/
theorem ACalls.wk {P f args args' σ} {R : AV → AHeap → Prop} (h : ACalls P f args' σ R) (hw : WkL σ args args') : ACalls P f args σ R :=
  ⟨h.1, fun B w0 ι w vs h1 h2 => h.2 B w0 ι w vs h1 (VT_wk _ _ _ hw h2)⟩

mutual
/-- Values without memory. -/
def flat : AV → Bool
  | .int .. => true
  | .bool _ => true
  | .str _ => true
  | .nilp => true
  | .nilfn => true
  | .nilmap => true
  | .nilif => true
  | .skip => true
  | .undef => true
  | .tup xs => flatL xs
  | .agg xs => flatL xs
  | .ref .. => false
  | .lst .. => false
  | .sl .. => false
  | .ipt .. => false
  | .fn .. => false
  | .map .. => false
  | .iface .. => false
def flatL : List AV → Bool
  | [] => true
  | x :: xs => flat x && flatL xs
end

mutual
theorem V_flat {σ ι w σ' ι' w'} : ∀ (x : AV) (v : Value), flat x = true → V σ ι w x v → V σ' ι' w' x v
  | .undef, _, _, _ => by simp [V]
  | .int .., v, _, h => by simpa [V] using h
  | .bool _, v, _, h => by simpa [V] using h
  | .str _, v, _, h => by simpa [V] using h
  | .nilp, v, _, h => by simpa [V] using h
  | .nilfn, v, _, h => by simpa [V] using h
  | .nilmap, v, _, h => by simpa [V] using h
  | .nilif, v, _, h => by simpa [V] using h
  | .skip, v, _, h => by simpa [V] using h
  | .tup xs, v, hf, h => by
    simp only [flat] at hf
    simp only [V] at h ⊢
    obtain ⟨vs, e, h⟩ := h
    exact ⟨vs, e, VT_flat xs _ hf h⟩
  | .agg xs, v, hf, h => by
    simp only [flat] at hf
    simp only [V] at h ⊢
    obtain ⟨vs, e, h⟩ := h
    exact ⟨vs, e, VT_flat xs _ hf h⟩
  | .ref .., v, hf, _ => by simp [flat] at hf
  | .lst .., v, hf, _ => by simp [flat] at hf
  | .sl .., v, hf, _ => by simp [flat] at hf
  | .ipt .., v, hf, _ => by simp [flat] at hf
  | .fn .., v, hf, _ => by simp [flat] at hf
  | .map .., v, hf, _ => by simp [flat] at hf
  | .iface .., v, hf, _ => by simp [flat] at hf
theorem VT_flat {σ ι w σ' ι' w'} : ∀ (xs : List AV) (vs : List Value), flatL xs = true → VT σ ι w xs vs → VT σ' ι' w' xs vs
  | [], vs, _, h => by simpa [VT] using h
  | x :: xs, vs, hf, h => by
    simp only [VT] at h ⊢
    obtain ⟨u, us, e, h1, h2⟩ := h
    simp only [flatL, Bool.and_eq_true] at hf
    exact ⟨u, us, e, V_flat x u hf.1 h1, VT_flat xs us hf.2 h2⟩
end

/-- A function that turns nothing may be given objects where it speaks of values. -/
theorem ACalls.borrow {P f args args' σ x} (h : ACalls P f args' [] (fun r τ => r = x ∧ τ = [])) (hw : WkL [] (args.map (frz σ 0 [] 8)) args') (hx : flat x = true) : ACalls P f args σ (fun r τ => r = x ∧ τ = σ) := by
  refine ⟨h.1, fun B w0 ι w vs hr hv => ?_⟩
  have hk : ∀ id ∈ ([] : List Nat), 0 ≤ id ∧ id < σ.length := by simp
  have hg : gcH σ 0 [] 8 = [] := by simp [gcH]
  have h1 := VT_map (V_frz hr (Nat.zero_le _) hk List.nodup_nil 8 8) _ _ hv
  rw [hg] at h1
  have h2 := VT_wk _ _ _ hw h1
  have hr0 : Rel w.heap.size w [] (gcI ι 0 []) w := ⟨Below.refl _ _, Nat.le_refl _, by simp, by simp, by simp⟩
  refine (h.2 w.heap.size w _ w vs hr0 h2).mono fun e w' hh => ?_
  obtain ⟨r, σ', ι', v, rfl, ⟨rfl, rfl⟩, g1, g2, g3⟩ := hh
  have hb := g1.below
  have hc : ∀ b j, b < w.heap.size → w'.cell? (at_ b j) = w.cell? (at_ b j) ∧ w'.frozen? (at_ b j) = w.frozen? (at_ b j) := fun b j hlt => ⟨hb.cell hlt, hb.frozen hlt⟩
  have hlt : ∀ {b j : Nat} {v : Value}, w.cell? (at_ b j) = some v → b < w.heap.size := fun h => World.block_lt_of_cell? w (at_ _ _) h
  have hs : Step σ ι w σ ι w' := {
    size := hb.size
    keepC := fun id cs h => ⟨rfl, cs, h, rfl⟩
    keepM := fun id es h => ⟨rfl, es, h⟩
    keepT := fun id n h => ⟨n, h, Nat.le_refl _, fun _ => rfl, fun b x hx => Or.inl ⟨x, hx, Nat.le_refl _⟩⟩
    fresh := fun id o b x h1 h2 => by rw [h1] at h2; cases h2
    cell := fun b j v h _ => by rw [(hc b j (hlt h)).1]; exact h
    spare := fun id n b x _ _ _ j _ h1 h2 => by
      obtain ⟨v, hv⟩ := h1
      have := hc b j (hlt hv)
      exact ⟨⟨v, by rw [this.1]; exact hv⟩, by rw [this.2]; exact h2⟩
    keepH := fun id h b x h2 => Or.inl h2 }
  refine ⟨_, σ, ι, v, rfl, ⟨rfl, rfl⟩, ⟨hr.below.trans (hb.mono hr.hB), Nat.le_trans hr.hB hb.size, fun id o ho => ?_, fun id o b x ho hi => ?_, hr.inj⟩, ⟨Nat.le_refl _, fun x v hx => V_mono hs x v hx⟩, V_flat _ _ hx g3⟩
  · have := hr.obj id o ho
    cases o with
    | cells cs =>
      obtain ⟨b, y, e, hl, hf⟩ := this
      have hbl := (hr.blk id _ b y ho e).2
      refine ⟨b, y, e, ?_, fun j hj => by rw [(hc b j hbl).2]; exact hf j hj⟩
      have key : ∀ (xs : List AV) (off : Nat), VL σ ι w b off xs → VL σ ι w' b off xs := by
        intro xs
        induction xs with
        | nil => intro off _; simp [VL]
        | cons x xs ih =>
          intro off h
          simp only [VL] at h ⊢
          obtain ⟨⟨v, h1, h2⟩, h3⟩ := h
          exact ⟨⟨v, by rw [(hc b off hbl).1]; exact h1, V_mono hs x v h2⟩, ih _ h3⟩
      exact key cs 0 hl
    | tok q => trivial
    | hole => exact this
    | map es => exact this.elim
  · have := hr.blk id o b x ho hi
    exact ⟨this.1, Nat.lt_of_lt_of_le this.2 hb.size⟩

end Go.Sal
