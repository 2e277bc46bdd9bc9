/- SalR: an account of code that is reckoned step by step: what is left to do is a list of items, not a continuation. -/
import Derived.Test.YtdleboihgaedjaaGreatSalQ
namespace Go.Sal
open Go.RowKit

/-- What is left to do. -/
inductive It where
  | code (c : Code)
  | ops (all r : List Oper)
  | pops (all pre suf : List Oper)
  | qops (all r : List Oper) (pend : List Pend)
  | dops (all r : List Oper) (done : List Eff) (L md : List (Nat × Nat))
  | blk (id : Nat)
  | lend (J : Tm → AHeap → Prop)

/-- A frame by its temporaries that are known. -/
def mk : List (Nat × AV) → Tm
  | [], _ => .undef
  | (k, v) :: r, t => if t = k then v else mk r t

theorem mk_cases : ∀ (kvs : List (Nat × AV)) (t : Nat), (∃ p ∈ kvs, p.1 = t ∧ mk kvs t = p.2) ∨ mk kvs t = .undef
  | [], _ => .inr rfl
  | (k, v) :: r, t => by
    simp only [mk]
    split
    · exact .inl ⟨(k, v), by simp, by simpa using (Eq.symm ‹_›), rfl⟩
    · rcases mk_cases r t with ⟨p, h1, h2⟩ | h
      · exact .inl ⟨p, by simp [h1], h2⟩
      · exact .inr h

theorem mk_wk {σ : AHeap} {g : AV → AV} {st : Tm} {kvs : List (Nat × AV)} (h : ∀ p ∈ kvs, Wk σ (g (st p.1)) p.2) : ∀ t, mk kvs t = .undef ∨ Wk σ (g (st t)) (mk kvs t) := by
  intro t
  rcases mk_cases kvs t with ⟨p, h1, h2, h3⟩ | h3
  · subst h2; rw [h3]; exact .inr (h p h1)
  · exact .inl h3

theorem gcH_closed {σ l : AHeap} {f : Nat} {keep : List Nat} (hc : Closed σ.length σ) : gcH (σ ++ l) σ.length keep f = σ ++ keep.map fun id => frzO (σ ++ l) σ.length keep f ((σ ++ l).getD id .hole) := by
  unfold gcH
  rw [List.take_left]
  congr 1
  apply List.ext_getElem?
  intro i
  rw [List.getElem?_map]
  cases h : σ[i]? with
  | none => rfl
  | some o =>
    have := hc i o h
    simp only [Option.map_some, Option.some.injEq]
    cases o with
    | cells cs => simp only [cleanO, AObj.cells.injEq] at this; simp only [frzO, frz_cleanL this]
    | tok q => rfl
    | hole => rfl
    | map es =>
      simp only [cleanO, AObj.map.injEq] at this
      simp only [frzO, AObj.map.injEq]
      clear h
      induction es with
      | nil => rfl
      | cons e es ih =>
        simp only [List.map_cons, List.cons.injEq] at this ⊢
        refine ⟨?_, ih this.2⟩
        have h2 := this.1
        cases e with | mk u v => simp only [Prod.mk.injEq, true_and] at h2 ⊢; exact frz_cleanL h2

/-- At a round's end: what came behind `σ` is dropped. -/
theorem Less.toMk' {m : Nat} {st : Tm} {σ0 σ l : AHeap} {kvs : List (Nat × AV)} (e : σ0 = σ ++ l) (hc : Closed σ.length σ) (hm : m ≤ σ.length) (h : ∀ p ∈ kvs, Wk σ (frz (σ ++ l) σ.length [] 8 (st p.1)) p.2) : Less m st σ0 (mk kvs) σ := by
  subst e
  refine .gc σ.length [] 8 [] _ _ hm (by simp) ⟨by simp, List.nodup_nil⟩ (by intro o h; cases h) ?_ (mk_wk h)
  rw [gcH_closed hc]; simpa using WkH_refl σ
/-- Nothing is dropped. -/
theorem Less.toMk0 {m : Nat} {st : Tm} {σ : AHeap} {kvs : List (Nat × AV)} (hm : m ≤ σ.length) (h : ∀ p ∈ kvs, Wk σ (st p.1) p.2) : Less m st σ (mk kvs) σ :=
  .wk [] _ _ hm (by intro o h; cases h) (by simpa using WkH_refl σ) (mk_wk (g := id) h)
/-- Tokens are added. -/
theorem Less.toMkG {m : Nat} {st : Tm} {σ : AHeap} {kvs : List (Nat × AV)} (gh : AHeap) (hg : Ghosts gh) (hm : m ≤ σ.length) (h : ∀ p ∈ kvs, Wk (σ ++ gh) (st p.1) p.2) : Less m st σ (mk kvs) (σ ++ gh) :=
  .wk gh _ _ hm hg (WkH_refl _) (mk_wk (g := id) h)
theorem Ghosts.one (n : Nat) : Ghosts [.tok n] := by intro o h; simp at h; exact .inl ⟨n, h⟩

def exitK (id : Nat) : List It → Option (List It)
  | [] => none
  | .blk i :: k => if i = id then some k else exitK id k
  | .code _ :: k => exitK id k
  | .ops _ _ :: k => exitK id k
  | .pops _ _ _ :: k => exitK id k
  | .qops _ _ _ :: k => exitK id k
  | .dops _ _ _ _ _ :: k => exitK id k
  | .lend _ :: k => exitK id k

section
variable (P : Program) (md : List (Nat × Nat)) (Q : Post)

/-- At a test. -/
def CondG (AG : List It → Tm → AHeap → Prop) (t : Bool) (a b : Code) (k : List It) (st : Tm) (σ : AHeap) : Prop :=
  (t = true → AG (.code a :: k) st σ) ∧ (t = false → AG (.code b :: k) st σ)

def LoopG (AG : List It → Tm → AHeap → Prop) (c : Code) (k : List It) (st : Tm) (σ : AHeap) : Prop :=
  ∃ (α : Type) (J : α → Prop) (m : α → Nat) (kv : α → List (Nat × AV)) (hp : α → AHeap), (∃ x, J x ∧ Less σ.length st σ (mk (kv x)) (hp x)) ∧
    ∀ x, J x → AG (.code c :: .lend (fun st' σ' => ∃ y, Less (hp x).length st' σ' (mk (kv y)) (hp y) ∧ m y < m x ∧ J y) :: k) (mk (kv x)) (hp x)

/-- Where the objects of slots `sl` will be made. -/
def holes (n : Nat) (sl : List Nat) : List (Nat × Nat) := sl.zipIdx.map fun p => (p.1, n + p.2 + 1)
/-- At a region whose order is drawn. -/
def DrawG (AG : List It → Tm → AHeap → Prop) (ops : List Oper) (k : List It) (st : Tm) (σ : AHeap) : Prop :=
  (drawOk ops (preLen md ops) = true ∧ AG (.pops ops (ops.take (preLen md ops)) (ops.drop (preLen md ops)) :: k) st σ) ∨
  (drawOk2 ops = true ∧ AG (.qops ops ops [] :: k) st σ) ∨
  (∃ (L : List (Nat × Nat)) (sl : List Nat), drawOk3 ops = true ∧ loose ops = L ∧ AG (.dops ops ops [] L (holes σ.length sl ++ md) :: k) st (σ ++ sl.map fun _ => .hole))

/-- At a store that is put off. -/
def StoreG (AG : List It → Tm → AHeap → Prop) (all r : List Oper) (pend : List Pend) (k : List It) (o : Oper) (st : Tm) (σ : AHeap) : Prop := match o.op with
  | .store t x y => match ev st x, vcells (ev st y) with
    | .ref id off, some ys => match σ[id]? with
      | some (.cells cs) => ((ti P t).size = ys.length ∧ 0 < ys.length ∧ ys.all one = true ∧ off + ys.length ≤ cs.length) ∧ AG (.qops all r (pend ++ [(id, off, ys)]) :: k) st σ
      | _ => False
    | _, _ => False
  | _ => False

def QCallG (AG : List It → Tm → AHeap → Prop) (g : FuncId) (args : List AV) (d : Option Nat) (all r : List Oper) (pend : List Pend) (k : List It) (st : Tm) (σ : AHeap) : Prop :=
  ∃ x, ACalls P g args σ (fun y σ' => y = x ∧ σ' = σ) ∧ AG (.qops all r pend :: k) (upd st d x) σ
def QResG (AG : List It → Tm → AHeap → Prop) (res : ARes) (d : Option Nat) (all r : List Oper) (pend : List Pend) (k : List It) (st : Tm) (σ : AHeap) : Prop := match res with
  | .val p x σ' => p ∧ σ' = σ ∧ AG (.qops all r pend :: k) (upd st d x) σ
  | .call g args => QCallG P AG g args d all r pend k st σ
  | .stuck => False
def QGuardG (AG : List It → Tm → AHeap → Prop) (t : Bool) (o : Oper) (all r : List Oper) (pend : List Pend) (k : List It) (st : Tm) (σ : AHeap) : Prop :=
  (t = true → QResG P AG (aopR P md st σ o) o.dst all r pend k st σ) ∧ (t = false → AG (.qops all r pend :: k) (upd st o.dst .skip) σ)

def DCallG (AG : List It → Tm → AHeap → Prop) (g : FuncId) (args : List AV) (d : Option Nat) (all r : List Oper) (done : List Eff) (L md : List (Nat × Nat)) (k : List It) (st : Tm) (σ : AHeap) : Prop :=
  ∃ x e, effOk σ e ∧ (∀ τ, effEq σ τ e → effOk τ e → ACalls P g args τ (fun y τ' => y = x ∧ τ' = effA τ e)) ∧ AG (.dops all r (done ++ [e]) L md :: k) (upd st d x) (effA σ e)
def DResG (AG : List It → Tm → AHeap → Prop) (res : ARes) (o : Oper) (all r : List Oper) (done : List Eff) (L md : List (Nat × Nat)) (k : List It) (st : Tm) (σ : AHeap) : Prop := match res with
  | .val p x σ' => p ∧ AG (.dops all r (done ++ [effOf P md st σ o σ']) L md :: k) (upd st o.dst x) σ'
  | .call g args => DCallG P AG g args o.dst all r done L md k st σ
  | .stuck => False
def DGuardG (AG : List It → Tm → AHeap → Prop) (t : Bool) (o : Oper) (all r : List Oper) (done : List Eff) (L md : List (Nat × Nat)) (k : List It) (st : Tm) (σ : AHeap) : Prop :=
  (t = true → DResG P AG (aopR P md st σ o) o all r done L md k st σ) ∧ (t = false → AG (.dops all r (done ++ [.none]) L md :: k) (upd st o.dst .skip) σ)

def CallG (AG : List It → Tm → AHeap → Prop) (g : FuncId) (args : List AV) (d : Option Nat) (all r : List Oper) (k : List It) (st : Tm) (σ : AHeap) : Prop :=
  ACalls P g args σ (fun x σ' => AG (.ops all r :: k) (upd st d x) σ')

def PCallG (AG : List It → Tm → AHeap → Prop) (g : FuncId) (args : List AV) (d : Option Nat) (all r suf : List Oper) (k : List It) (st : Tm) (σ : AHeap) : Prop :=
  ∃ x, ACalls P g args σ (fun y σ' => y = x ∧ σ' = σ) ∧ AG (.pops all r suf :: k) (upd st d x) σ

/-- Behind what an operation comes to. -/
def ResG (AG : List It → Tm → AHeap → Prop) (res : ARes) (d : Option Nat) (all r : List Oper) (k : List It) (st : Tm) (σ : AHeap) : Prop := match res with
  | .val p x σ' => p ∧ AG (.ops all r :: k) (upd st d x) σ'
  | .call g args => CallG P AG g args d all r k st σ
  | .stuck => False

def PResG (AG : List It → Tm → AHeap → Prop) (res : ARes) (d : Option Nat) (all r suf : List Oper) (k : List It) (st : Tm) (σ : AHeap) : Prop := match res with
  | .val p x σ' => p ∧ σ' = σ ∧ AG (.pops all r suf :: k) (upd st d x) σ
  | .call g args => PCallG P AG g args d all r suf k st σ
  | .stuck => False

/-- Behind a guard. -/
def GuardG (AG : List It → Tm → AHeap → Prop) (t : Bool) (o : Oper) (all r : List Oper) (k : List It) (st : Tm) (σ : AHeap) : Prop :=
  (t = true → ResG P AG (aopR P md st σ o) o.dst all r k st σ) ∧ (t = false → AG (.ops all r :: k) (upd st o.dst .skip) σ)

def PGuardG (AG : List It → Tm → AHeap → Prop) (t : Bool) (o : Oper) (all r suf : List Oper) (k : List It) (st : Tm) (σ : AHeap) : Prop :=
  (t = true → PResG P AG (aopR P md st σ o) o.dst all r suf k st σ) ∧ (t = false → AG (.pops all r suf :: k) (upd st o.dst .skip) σ)

def AG : Nat → List It → Tm → AHeap → Prop
  | 0, _, _, _ => False
  | _ + 1, [], st, σ => Q .normal st σ
  | n + 1, .code .skip :: k, st, σ => AG n k st σ
  | n + 1, .code (.region _ ops false) :: k, st, σ => AG n (.ops ops.toList ops.toList :: k) st σ
  | n + 1, .code (.region _ ops true) :: k, st, σ => DrawG md (AG n) ops.toList k st σ
  | n + 1, .code (.seq a b) :: k, st, σ => AG n (.code a :: .code b :: k) st σ
  | n + 1, .code (.cond c a b) :: k, st, σ => match ev st c with
    | .bool t => CondG (AG n) t a b k st σ
    | _ => False
  | n + 1, .code (.block id c) :: k, st, σ => AG n (.code c :: .blk id :: k) st σ
  | n + 1, .code (.loop c) :: k, st, σ => LoopG (AG n) c k st σ
  | n + 1, .code (.exit id) :: k, st, σ => match exitK id k with
    | some k' => AG n k' st σ
    | none => False
  | _ + 1, .code .ret :: _, st, σ => Q .ret st σ
  | _ + 1, .code _ :: _, _, _ => False
  | n + 1, .blk _ :: k, st, σ => AG n k st σ
  | _ + 1, .lend J :: _, st, σ => J st σ
  | n + 1, .ops _ [] :: k, st, σ => AG n k st σ
  | n + 1, .ops all (o :: r) :: k, st, σ => match o.guard with
    | none => ResG P (AG n) (aopR P md st σ o) o.dst all r k st σ
    | some (j, b) => match gval all st j b with
      | .bool t => GuardG P md (AG n) (t == b) o all r k st σ
      | _ => False
  | n + 1, .pops all [] suf :: k, st, σ => AG n (.ops all suf :: k) st σ
  | n + 1, .pops all (o :: r) suf :: k, st, σ => match o.guard with
    | none => PResG P (AG n) (aopR P md st σ o) o.dst all r suf k st σ
    | some (j, b) => match gval all st j b with
      | .bool t => PGuardG P md (AG n) (t == b) o all r suf k st σ
      | _ => False
  | n + 1, .qops _ [] pend :: k, st, σ => pend.Pairwise apart ∧ AG n k st (app σ pend)
  | n + 1, .qops all (o :: r) pend :: k, st, σ => if isStore o = true then StoreG P (AG n) all r pend k o st σ else match o.guard with
    | none => QResG P (AG n) (aopR P md st σ o) o.dst all r pend k st σ
    | some (j, b) => match gval all st j b with
      | .bool t => QGuardG P md (AG n) (t == b) o all r pend k st σ
      | _ => False
  | n + 1, .dops _ [] done L _ :: k, st, σ => (∀ p ∈ L, compat (done.getD p.1 .none) (done.getD p.2 .none)) ∧ AG n k st σ
  | n + 1, .dops all (o :: r) done L md' :: k, st, σ => match o.guard with
    | none => DResG P (AG n) (aopR P md' st σ o) o all r done L md' k st σ
    | some (j, b) => match gval all st j b with
      | .bool t => DGuardG P (AG n) (t == b) o all r done L md' k st σ
      | _ => False

end

section
variable {P : Program} {md : List (Nat × Nat)} {N : Nat} {Q : Post}

/-- What is to hold where a list of items is reached. -/
def Sem (P : Program) (N : Nat) (md : List (Nat × Nat)) (Q : Post) : List It → Post
  | [] => Q
  | .code c :: k => fun e st σ => match e with
    | .normal => AW P N c st σ (Sem P N md Q k)
    | e => Sem P N md Q k e st σ
  | .ops all r :: k => fun e st σ => match e with
    | .normal => swL P md all r st σ (fun st σ => Sem P N md Q k .normal st σ)
    | e => Sem P N md Q k e st σ
  | .pops all pre suf :: k => fun e st σ => match e with
    | .normal => swP P md all pre st σ (fun st' => swL P md all suf st' σ (fun st σ => Sem P N md Q k .normal st σ))
    | e => Sem P N md Q k e st σ
  | .qops all r pend :: k => fun e st σ => match e with
    | .normal => swQ P md all r st σ pend (fun st σ => Sem P N md Q k .normal st σ)
    | e => Sem P N md Q k e st σ
  | .dops all r done L md' :: k => fun e st σ => match e with
    | .normal => swD P md' all L r st σ done (fun st σ => Sem P N md Q k .normal st σ)
    | e => Sem P N md Q k e st σ
  | .blk id :: k => inBlk id (Sem P N md Q k)
  | .lend J :: k => fun e st σ => match e with
    | .normal => J st σ
    | e => Sem P N md Q k e st σ

def itsOk (N : Nat) : List It → Bool
  | [] => true
  | .code c :: k => codeOk N c && itsOk N k
  | .ops _ _ :: k => itsOk N k
  | .pops _ _ _ :: k => itsOk N k
  | .qops _ _ _ :: k => itsOk N k
  | .dops _ _ _ _ _ :: k => itsOk N k
  | .blk _ :: k => itsOk N k
  | .lend _ :: k => itsOk N k

theorem exitK_sem {id : Nat} {st : Tm} {σ : AHeap} : ∀ (k k' : List It), exitK id k = some k' → Sem P N md Q k' .normal st σ → Sem P N md Q k (.exit id) st σ
  | [], _, h, _ => by simp [exitK] at h
  | .blk i :: k, k', h, hs => by
    simp only [exitK] at h
    simp only [Sem, inBlk]
    split at h
    · rename_i e; subst e; cases h; rw [if_pos rfl]; exact hs
    · rename_i e; rw [if_neg (fun h => e h.symm)]; exact exitK_sem k k' h hs
  | .code _ :: k, k', h, hs => by simp only [exitK] at h; simp only [Sem]; exact exitK_sem k k' h hs
  | .ops _ _ :: k, k', h, hs => by simp only [exitK] at h; simp only [Sem]; exact exitK_sem k k' h hs
  | .pops _ _ _ :: k, k', h, hs => by simp only [exitK] at h; simp only [Sem]; exact exitK_sem k k' h hs
  | .qops _ _ _ :: k, k', h, hs => by simp only [exitK] at h; simp only [Sem]; exact exitK_sem k k' h hs
  | .dops _ _ _ _ _ :: k, k', h, hs => by simp only [exitK] at h; simp only [Sem]; exact exitK_sem k k' h hs
  | .lend _ :: k, k', h, hs => by simp only [exitK] at h; simp only [Sem]; exact exitK_sem k k' h hs

theorem exitK_ok {id : Nat} : ∀ (k k' : List It), exitK id k = some k' → itsOk N k = true → itsOk N k' = true
  | [], _, h, _ => by simp [exitK] at h
  | .blk i :: k, k', h, hs => by
    simp only [exitK] at h
    simp only [itsOk] at hs
    split at h
    · cases h; exact hs
    · exact exitK_ok k k' h hs
  | .code _ :: k, k', h, hs => by simp only [exitK] at h; simp only [itsOk, Bool.and_eq_true] at hs; exact exitK_ok k k' h hs.2
  | .ops _ _ :: k, k', h, hs => by simp only [exitK] at h; simp only [itsOk] at hs; exact exitK_ok k k' h hs
  | .pops _ _ _ :: k, k', h, hs => by simp only [exitK] at h; simp only [itsOk] at hs; exact exitK_ok k k' h hs
  | .qops _ _ _ :: k, k', h, hs => by simp only [exitK] at h; simp only [itsOk] at hs; exact exitK_ok k k' h hs
  | .dops _ _ _ _ _ :: k, k', h, hs => by simp only [exitK] at h; simp only [itsOk] at hs; exact exitK_ok k k' h hs
  | .lend _ :: k, k', h, hs => by simp only [exitK] at h; simp only [itsOk] at hs; exact exitK_ok k k' h hs

theorem callOf {nt : Bool} {st : Tm} {σ : AHeap} {o : Oper} {c : Call} {g : FuncId} {args : List AV} (h : (match c.callee with
    | .value f => match ev st f with
      | .fn g cap => ARes.call g (c.args.toList.map (ev st) ++ cap)
      | _ => .stuck
    | .builtin b => abuiltin P nt σ b (c.args.toList.map (ev st)) c.argTypes.toList
    | _ => .stuck) = .call g args) (ho : o.op = .call c) : ∃ c, o.op = .call c ∧ ∃ f, c.callee = .value f ∧ ∃ cap, ev st f = .fn g cap ∧ args = c.args.toList.map (ev st) ++ cap := by
  refine ⟨c, ho, ?_⟩
  split at h
  · rename_i f hc
    split at h
    · rename_i g' cap hf
      cases h
      exact ⟨f, hc, cap, hf, rfl⟩
    · cases h
  · unfold abuiltin at h
    split at h <;> (repeat' split at h) <;> cases h
  · cases h

theorem AG_sound (hm : P.follows .mixedOrders = true) : ∀ (n : Nat) (k : List It) (st : Tm) (σ : AHeap), itsOk N k = true → AG P md Q n k st σ → Sem P N md Q k .normal st σ := by
  intro n
  induction n with
  | zero => intro k st σ _ h; exact h.elim
  | succ n ih =>
    intro k st σ hok h
    match k, hok, h with
    | [], _, h => exact h
    | .blk _ :: k, hok, h => simp only [Sem, inBlk]; exact ih k st σ hok h
    | .lend J :: k, hok, h => exact h
    | .ops all [] :: k, hok, h => simp only [Sem, swL]; exact ih k st σ hok h
    | .ops all (o :: r) :: k, hok, h =>
      simp only [Sem, swL]
      have next : ∀ x σ', AG P md Q n (.ops all r :: k) (upd st o.dst x) σ' → swL P md all r (upd st o.dst x) σ' (fun st σ => Sem P N md Q k .normal st σ) := fun x σ' h => ih (.ops all r :: k) _ _ hok h
      have doit : ResG P (AG P md Q n) (aopR P md st σ o) o.dst all r k st σ → aop P md st σ o (fun x σ' => swL P md all r (upd st o.dst x) σ' (fun st σ => Sem P N md Q k .normal st σ)) := by
        intro h
        unfold aop
        generalize aopR P md st σ o = res at h ⊢
        cases res with
        | val p x σ' => exact ⟨h.1, next _ _ h.2⟩
        | call g args => exact ACalls.mono h next
        | stuck => exact h
      simp only [AG] at h
      cases hg : o.guard with
      | none => simp only [hg] at h ⊢; exact doit h
      | some jb =>
        obtain ⟨j, b⟩ := jb
        simp only [hg] at h ⊢
        generalize gval all st j b = gv at h ⊢
        cases gv with
        | bool t => exact ⟨fun e => doit (h.1 (by simp [e])), fun e => next _ _ (h.2 (by simp [e]))⟩
        | _ => exact h
    | .pops all [] suf :: k, hok, h => simp only [Sem, swP]; exact ih (.ops all suf :: k) st σ hok h
    | .pops all (o :: r) suf :: k, hok, h =>
      simp only [Sem, swP]
      have next : ∀ x, AG P md Q n (.pops all r suf :: k) (upd st o.dst x) σ → swP P md all r (upd st o.dst x) σ (fun st' => swL P md all suf st' σ (fun st σ => Sem P N md Q k .normal st σ)) := fun x h => ih (.pops all r suf :: k) _ _ hok h
      have doit : PResG P (AG P md Q n) (aopR P md st σ o) o.dst all r suf k st σ → ∃ x, aop P md st σ o (fun y σ' => y = x ∧ σ' = σ) ∧ swP P md all r (upd st o.dst x) σ (fun st' => swL P md all suf st' σ (fun st σ => Sem P N md Q k .normal st σ)) := by
        intro h
        unfold aop
        generalize aopR P md st σ o = res at h ⊢
        cases res with
        | val p x σ' => exact ⟨x, ⟨h.1, rfl, h.2.1⟩, next _ h.2.2⟩
        | call g args => obtain ⟨x, h1, h2⟩ := h; exact ⟨x, h1, next _ h2⟩
        | stuck => exact h.elim
      simp only [AG] at h
      cases hg : o.guard with
      | none => simp only [hg] at h ⊢; exact doit h
      | some jb =>
        obtain ⟨j, b⟩ := jb
        simp only [hg] at h ⊢
        generalize gval all st j b = gv at h ⊢
        cases gv with
        | bool t => exact ⟨fun e => doit (h.1 (by simp [e])), fun e => next _ (h.2 (by simp [e]))⟩
        | _ => exact h
    | .qops all [] pend :: k, hok, h =>
      simp only [Sem, swQ]
      exact ⟨h.1, ih k _ _ hok h.2⟩
    | .qops all (o :: r) pend :: k, hok, h =>
      simp only [Sem, swQ]
      have next : ∀ x, AG P md Q n (.qops all r pend :: k) (upd st o.dst x) σ → swQ P md all r (upd st o.dst x) σ pend (fun st σ => Sem P N md Q k .normal st σ) := fun x h => ih (.qops all r pend :: k) _ _ hok h
      have doit : QResG P (AG P md Q n) (aopR P md st σ o) o.dst all r pend k st σ → ∃ x, aop P md st σ o (fun y σ' => y = x ∧ σ' = σ) ∧ swQ P md all r (upd st o.dst x) σ pend (fun st σ => Sem P N md Q k .normal st σ) := by
        intro h
        unfold aop
        generalize aopR P md st σ o = res at h ⊢
        cases res with
        | val p x σ' => exact ⟨x, ⟨h.1, rfl, h.2.1⟩, next _ h.2.2⟩
        | call g args => obtain ⟨x, h1, h2⟩ := h; exact ⟨x, h1, next _ h2⟩
        | stuck => exact h.elim
      simp only [AG] at h
      by_cases hst : isStore o = true
      · rw [if_pos hst] at h ⊢
        unfold StoreG at h
        split at h
        · rename_i t x y ho
          split at h
          · rename_i id off ys hx hy
            split at h
            · rename_i cs hcs
              exact ⟨(id, off, ys), ⟨t, x, y, cs, ho, hx, hy, hcs, h.1⟩, ih (.qops all r (pend ++ [(id, off, ys)]) :: k) _ _ hok h.2⟩
            · exact h.elim
          · exact h.elim
        · exact h.elim
      rw [if_neg hst] at h ⊢
      cases hg : o.guard with
      | none => simp only [hg] at h ⊢; exact doit h
      | some jb =>
        obtain ⟨j, b⟩ := jb
        simp only [hg] at h ⊢
        generalize gval all st j b = gv at h ⊢
        cases gv with
        | bool t => exact ⟨fun e => doit (h.1 (by simp [e])), fun e => next _ (h.2 (by simp [e]))⟩
        | _ => exact h
    | .dops all [] done L md' :: k, hok, h =>
      simp only [Sem, swD]
      exact ⟨h.1, ih k _ _ hok h.2⟩
    | .dops all (o :: r) done L md' :: k, hok, h =>
      simp only [Sem, swD]
      have next : ∀ x σ' e, AG P md Q n (.dops all r (done ++ [e]) L md' :: k) (upd st o.dst x) σ' → swD P md' all L r (upd st o.dst x) σ' (done ++ [e]) (fun st σ => Sem P N md Q k .normal st σ) := fun x σ' e h => ih (.dops all r (done ++ [e]) L md' :: k) _ _ hok h
      have doit : DResG P (AG P md Q n) (aopR P md' st σ o) o all r done L md' k st σ → ∃ x e, ValE P md' st σ o x e ∧ okEff o e ∧ swD P md' all L r (upd st o.dst x) (effA σ e) (done ++ [e]) (fun st σ => Sem P N md Q k .normal st σ) := by
        intro h
        generalize hres : aopR P md' st σ o = res at h
        cases res with
        | val p x σ' =>
          obtain ⟨hp, h⟩ := h
          obtain ⟨h1, h2, h3⟩ := val_of hres hp
          refine ⟨x, _, h1, h2, ?_⟩
          rw [← h3]; exact next _ _ _ h
        | call g args =>
          obtain ⟨x, e, h1, h2, h3⟩ := h
          obtain ⟨c, hop, f, hc, cap, hf⟩ : ∃ c, o.op = .call c ∧ ∃ f, c.callee = .value f ∧ ∃ cap, ev st f = .fn g cap ∧ args = c.args.toList.map (ev st) ++ cap := by
            unfold aopR at hres
            split at hres <;> first | (rename_i c ho; exact callOf hres ho) | exact absurd hres (by (repeat' split) <;> simp)
          refine ⟨x, e, ⟨h1, fun τ h4 h5 => ?_⟩, ⟨fun h => by simp [plainOp, hop] at h, fun h => by simp [isLoad, hop] at h⟩, next _ _ _ h3⟩
          simp only [aop, aopR, hop, hc, hf.1]
          rw [← hf.2]; exact h2 τ h4 h5
        | stuck => exact h.elim
      simp only [AG] at h
      unfold ValG
      cases hg : o.guard with
      | none => simp only [hg] at h ⊢; exact doit h
      | some jb =>
        obtain ⟨j, b⟩ := jb
        simp only [hg] at h ⊢
        generalize hgv : gval all st j b = gv at h
        cases gv with
        | bool t =>
          by_cases e : t = b
          · obtain ⟨x, e', h1, h2, h3⟩ := doit (h.1 (by simp [e]))
            exact ⟨x, e', ⟨t, rfl, Or.inl ⟨e, h1⟩⟩, h2, h3⟩
          · refine ⟨.skip, .none, ⟨t, rfl, Or.inr ⟨by cases t <;> cases b <;> simp at e ⊢, rfl, rfl⟩⟩, ⟨fun _ => rfl, fun _ => trivial⟩, next _ _ _ (h.2 (by simp [e]))⟩
        | _ => exact h.elim
    | .code c :: k, hok, h =>
      simp only [itsOk, Bool.and_eq_true] at hok
      simp only [Sem]
      cases c with
      | skip => exact AW_skip (ih k st σ hok.2 h)
      | region id ops d =>
        cases d with
        | false => exact AW_region (md := md) hok.1 (ih (.ops ops.toList ops.toList :: k) st σ hok.2 h)
        | true =>
          rcases h with h | h | ⟨L, sl, hd, hL, h⟩
          · exact AW_draw (md := md) hm hok.1 h.1 (by have := preLen_le md ops.toList; simpa using this) (ih (.pops _ _ _ :: k) st σ hok.2 h.2)
          · exact AW_drawQ (md := md) hm hok.1 h.1 (ih (.qops _ _ _ :: k) st σ hok.2 h.2)
          · refine AW_less (.wk (sl.map fun _ => .hole) st _ (Nat.le_refl _) (fun o ho => ?_) (WkH_refl _) fun t => .inr (Wk_refl _ _)) (AW_dops (md := holes σ.length sl ++ md) hm hok.1 hd hL (ih (.dops _ _ _ _ _ :: k) st _ hok.2 h))
            simp only [List.mem_map] at ho
            obtain ⟨_, _, rfl⟩ := ho
            exact .inr rfl
      | seq a b =>
        obtain ⟨⟨h1, h2⟩, h3⟩ : (codeOk N a = true ∧ codeOk N b = true) ∧ itsOk N k = true := by simpa [codeOk] using hok
        have := ih (.code a :: .code b :: k) st σ (by simp [itsOk, h1, h2, h3]) h
        simp only [Sem] at this
        refine AW_seq (AW.mono this fun e st σ hh => ?_)
        cases e <;> exact hh
      | cond c a b =>
        obtain ⟨⟨h1, h2⟩, h3⟩ : (codeOk N a = true ∧ codeOk N b = true) ∧ itsOk N k = true := by simpa [codeOk] using hok
        simp only [AG] at h
        split at h
        · rename_i t ht
          refine AW_cond ht (fun e => ?_) (fun e => ?_)
          · have := ih (.code a :: k) st σ (by simp [itsOk, h1, h3]) (h.1 e); simpa only [Sem] using this
          · have := ih (.code b :: k) st σ (by simp [itsOk, h2, h3]) (h.2 e); simpa only [Sem] using this
        · exact h.elim
      | block id c =>
        have := ih (.code c :: .blk id :: k) st σ (by simp only [itsOk, Bool.and_eq_true]; exact hok) h
        simp only [Sem] at this
        exact AW_block this
      | loop c =>
        obtain ⟨α, J, m, kv, hp, ⟨x, h0, hl⟩, hr⟩ := h
        refine AW_less hl (AW_loop (fun n st σ => ∃ x, J x ∧ n = m x ∧ st = mk (kv x) ∧ σ = hp x) (m x) ⟨x, h0, rfl, rfl, rfl⟩ fun n st σ hI => ?_)
        obtain ⟨x, hJ, rfl, rfl, rfl⟩ := hI
        have := ih _ _ _ (by simp only [itsOk, Bool.and_eq_true]; exact hok) (hr x hJ)
        simp only [Sem] at this
        refine AW.mono this fun e st σ hh => ?_
        cases e with
        | normal =>
          obtain ⟨y, h1, h3, h4⟩ := hh
          exact ⟨m y, _, _, h1, h3, y, h4, rfl, rfl, rfl⟩
        | _ => exact hh
      | exit id =>
        simp only [AG] at h
        split at h
        · rename_i k' hk
          exact AW_exit (exitK_sem k k' hk (ih k' st σ (exitK_ok k k' hk hok.2) h))
        · exact h.elim
      | ret =>
        refine AW_ret ?_
        have key : ∀ k : List It, Sem P N md Q k .ret st σ = Q .ret st σ := by
          intro k
          induction k with
          | nil => rfl
          | cons x k ihk => cases x <;> simp only [Sem, inBlk] <;> exact ihk
        rw [key]; exact h
      | rangeFunc => exact h.elim
      | scope => exact h.elim
      | label => exact h.elim
      | goto => exact h.elim
      | refuse => exact h.elim

/-- How a function may end. -/
def FinG (P : Program) (rs : List ResultVar) (σ : AHeap) (R : AV → AHeap → Prop) : Post := fun e st' σ' => match e with
  | .exit _ => False
  | _ => match rvs P st' σ' rs with
    | some xs => Fin σ R (rres xs) σ'
    | none => False

/-- A function, by the step-by-step account. -/
theorem ACalls_fn {f : FuncId} {fn : Func} {c : Code} {args : List AV} {σ : AHeap} {R : AV → AHeap → Prop} {rs : List ResultVar} (md : List (Nat × Nat)) (hm : P.follows .mixedOrders = true) (hf : P.funcs[f]? = some fn) (hb : fn.body = some c) (hN : fn.ntmps = N)
    (hrs : fn.results.toList = rs) (hname : (fn.name == "runtime.NumGoroutine") = false) (hok : codeOk N c = true) (hargs : args.length ≤ N)
    (h : Closed σ.length σ → cleanL σ.length args = args → AG P md (FinG P rs σ R) 100000 [.code c] (ini args) σ) : ACalls P f args σ R := by
  refine ⟨⟨fn, hf, by rw [hb]; rfl, hname⟩, fun B w0 ι w vs hr hv => ?_⟩
  have key := AG_sound (N := N) hm 100000 [.code c] (ini args) σ (by simp [itsOk, hok]) (h hr.closed (VT_clean _ _ hv))
  simp only [Sem] at key
  refine calls_of_wp hf hb ?_
  have hlen : args.length = vs.size := by simpa using VT_length _ _ hv
  have hst : St N B w0 σ ι w (ini args) { tmps := vs ++ Array.replicate (fn.ntmps - vs.size) undef, defers := [] } := by
    refine ⟨hr, fun t => ?_, by simp [hN]; omega, rfl⟩
    unfold ini
    rw [List.getD_eq_getElem?_getD]
    cases ha : args[t]? with
    | none => simp [V]
    | some x =>
      obtain ⟨v, h1, h2⟩ := VT_get _ _ _ _ hv ha
      have ht := some_lt ha
      have e : (vs ++ Array.replicate (fn.ntmps - vs.size) undef).getD t undef = v := by
        rw [Array.getD_eq_getD_getElem?, Array.getElem?_append_left (by omega)]
        rw [Array.getElem?_toList] at h1; rw [h1]; rfl
      rw [e]; exact h2
  refine wp_mono (key B w0 ι w _ hst) fun e a' w' hq => ?_
  obtain ⟨e', st', σ', ι', rfl, h0, h4, h5⟩ := hq
  have main : (match rvs P st' σ' rs with | some xs => Fin σ R (rres xs) σ' | none => False) →
      a'.defers = [] ∧ ∃ v, (results fn a'.tmps).run P w' = .ok v w' ∧ ∃ r σ' ι' v', Ending.returned v = .returned v' ∧ R r σ' ∧ Rel B w0 σ' ι' w' ∧ Ext σ ι w σ' ι' w' ∧ V σ' ι' w' r v' := by
    intro hh
    split at hh
    case h_2 => exact hh.elim
    rename_i xs h2
    refine ⟨h4.df, ?_⟩
    rw [← hrs] at h2
    obtain ⟨us, g1, g2⟩ := rvs_run (P := P) h4 _ _ h2
    have hres : ∃ v, (results fn a'.tmps).run P w' = .ok v w' ∧ V σ' ι' w' (rres xs) v := by
      have hl := VT_length _ _ g2
      have hrun : (fn.results.mapM (rvRun a'.tmps)).run P w' = .ok us.toArray w' := by
        rw [Array.mapM_eq_mapM_toList]
        simp only [Sem.run_map, g1, Result.andThen_ok]
      refine ⟨if hh : us.toArray.size = 1 then us.toArray[0] else .tuple us.toArray, ?_, ?_⟩
      · have e : results fn a'.tmps = (do let vs ← fn.results.mapM (rvRun a'.tmps); pure (if h : vs.size = 1 then vs[0] else .tuple vs)) := by
          unfold results
          congr 2
        rw [e]
        simp only [Sem.run_bind]
        rw [hrun]
        simp
      · match xs, us, g2, hl with
        | [x], [u], g2, _ =>
          simp only [VT] at g2
          obtain ⟨_, _, e, g3, _⟩ := g2
          cases e
          simpa [rres] using g3
        | [], [], g2, _ => simp only [rres, V]; exact ⟨#[], by simp, by simpa using g2⟩
        | x :: y :: zs, u :: q :: us, g2, _ => simp only [rres, V]; exact ⟨_, by simp; rfl, by simpa using g2⟩
    obtain ⟨v, h6, h7⟩ := hres
    refine ⟨v, h6, ?_⟩
    obtain ⟨r', σ'', hl, hR⟩ := hh
    obtain ⟨_, ι'', g1, g2, g3⟩ := hl.sound h4.rel
    exact ⟨r', σ'', ι'', v, rfl, hR, g1, g3 _ _ _ (Nat.le_refl _) h5, g2 0 v h7⟩
  cases e' with
  | normal => exact main h0
  | exit id => exact h0.elim
  | ret => exact main h0

/-- The end, with nothing dropped. -/
theorem Fin_at {σ σ' : AHeap} {R : AV → AHeap → Prop} {r x : AV} (hn : σ.length ≤ σ'.length) (hw : Wk σ' r x) (h : R x σ') : Fin σ R r σ' :=
  ⟨x, σ', .wk [] _ _ hn (by intro o h; cases h) (by simpa using WkH_refl σ') (fun _ => .inr hw), h⟩
theorem Fin_pure0 {σ : AHeap} {r x : AV} (hw : Wk σ r x) : Fin σ (fun y τ => y = x ∧ τ = σ) r σ := Fin_at (Nat.le_refl _) hw ⟨rfl, rfl⟩
/-- The end, where some of what is new is kept. -/
theorem Fin_keep {σ l : AHeap} {R : AV → AHeap → Prop} {r x : AV} (keep : List Nat) (hc : Closed σ.length σ) (hk : keepOk σ.length (σ ++ l).length keep)
    (hw : Wk (σ ++ keep.map fun id => frzO (σ ++ l) σ.length keep 8 ((σ ++ l).getD id .hole)) (frz (σ ++ l) σ.length keep 8 r) x) (h : R x (σ ++ keep.map fun id => frzO (σ ++ l) σ.length keep 8 ((σ ++ l).getD id .hole))) : Fin σ R r (σ ++ l) :=
  ⟨x, _, .gc σ.length keep 8 [] _ _ (Nat.le_refl _) (by simp) hk (by intro o h; cases h) (by rw [gcH_closed hc]; simpa using WkH_refl _) (fun _ => .inr hw), h⟩
/-- The end, with all dropped that is new. -/
theorem Fin_drop {σ0 σ l : AHeap} {R : AV → AHeap → Prop} {r x : AV} (hn : σ0.length ≤ σ.length) (hc : Closed σ.length σ) (hw : Wk σ (frz (σ ++ l) σ.length [] 8 r) x) (h : R x σ) : Fin σ0 R r (σ ++ l) :=
  ⟨x, σ, .gc σ.length [] 8 [] _ _ hn (by simp) ⟨by simp, List.nodup_nil⟩ (by intro o h; cases h) (by rw [gcH_closed hc]; simpa using WkH_refl σ) (fun _ => .inr hw), h⟩
theorem Fin_pure {σ l : AHeap} {r x : AV} (hc : Closed σ.length σ) (hw : Wk σ (frz (σ ++ l) σ.length [] 8 r) x) : Fin σ (fun y τ => y = x ∧ τ = σ) r (σ ++ l) := Fin_drop (Nat.le_refl _) hc hw ⟨rfl, rfl⟩

section
variable {A : List It → Tm → AHeap → Prop} {d : Option Nat} {all r suf : List Oper} {k : List It} {st : Tm} {σ σ' : AHeap} {p : Prop} {x : AV} {g : FuncId} {args : List AV} {o : Oper} {a b : Code}
@[simp] theorem ResG_val : ResG P A (.val p x σ') d all r k st σ = (p ∧ A (.ops all r :: k) (upd st d x) σ') := rfl
@[simp] theorem ResG_call : ResG P A (.call g args) d all r k st σ = CallG P A g args d all r k st σ := rfl
@[simp] theorem PResG_val : PResG P A (.val p x σ') d all r suf k st σ = (p ∧ σ' = σ ∧ A (.pops all r suf :: k) (upd st d x) σ) := rfl
@[simp] theorem PResG_call : PResG P A (.call g args) d all r suf k st σ = PCallG P A g args d all r suf k st σ := rfl
@[simp] theorem GuardG_true : GuardG P md A true o all r k st σ = ResG P A (aopR P md st σ o) o.dst all r k st σ := by simp [GuardG]
@[simp] theorem GuardG_false : GuardG P md A false o all r k st σ = A (.ops all r :: k) (upd st o.dst .skip) σ := by simp [GuardG]
@[simp] theorem PGuardG_true : PGuardG P md A true o all r suf k st σ = PResG P A (aopR P md st σ o) o.dst all r suf k st σ := by simp [PGuardG]
@[simp] theorem PGuardG_false : PGuardG P md A false o all r suf k st σ = A (.pops all r suf :: k) (upd st o.dst .skip) σ := by simp [PGuardG]
@[simp] theorem CondG_true : CondG A true a b k st σ = A (.code a :: k) st σ := by simp [CondG]
@[simp] theorem CondG_false : CondG A false a b k st σ = A (.code b :: k) st σ := by simp [CondG]

@[simp] theorem QResG_val {pend : List Pend} : QResG P A (.val p x σ') d all r pend k st σ = (p ∧ σ' = σ ∧ A (.qops all r pend :: k) (upd st d x) σ) := rfl
@[simp] theorem QResG_call {pend : List Pend} : QResG P A (.call g args) d all r pend k st σ = QCallG P A g args d all r pend k st σ := rfl
@[simp] theorem QGuardG_true {pend : List Pend} : QGuardG P md A true o all r pend k st σ = QResG P A (aopR P md st σ o) o.dst all r pend k st σ := by simp [QGuardG]
@[simp] theorem QGuardG_false {pend : List Pend} : QGuardG P md A false o all r pend k st σ = A (.qops all r pend :: k) (upd st o.dst .skip) σ := by simp [QGuardG]
@[simp] theorem DResG_val {done : List Eff} {L md' : List (Nat × Nat)} : DResG P A (.val p x σ') o all r done L md' k st σ = (p ∧ A (.dops all r (done ++ [effOf P md' st σ o σ']) L md' :: k) (upd st o.dst x) σ') := rfl
@[simp] theorem DResG_call {done : List Eff} {L md' : List (Nat × Nat)} : DResG P A (.call g args) o all r done L md' k st σ = DCallG P A g args o.dst all r done L md' k st σ := rfl
@[simp] theorem DGuardG_true {done : List Eff} {L md' : List (Nat × Nat)} : DGuardG P A true o all r done L md' k st σ = DResG P A (aopR P md' st σ o) o all r done L md' k st σ := by simp [DGuardG]
@[simp] theorem DGuardG_false {done : List Eff} {L md' : List (Nat × Nat)} : DGuardG P A false o all r done L md' k st σ = A (.dops all r (done ++ [.none]) L md' :: k) (upd st o.dst .skip) σ := by simp [DGuardG]
theorem DGuardG_split {t : Bool} {done : List Eff} {L md' : List (Nat × Nat)} (h1 : t = true → DResG P A (aopR P md' st σ o) o all r done L md' k st σ) (h2 : t = false → A (.dops all r (done ++ [.none]) L md' :: k) (upd st o.dst .skip) σ) : DGuardG P A t o all r done L md' k st σ := ⟨h1, h2⟩
theorem DCallG_eq {done : List Eff} {L md' : List (Nat × Nat)} (h : ∀ τ, ACalls P g args τ (fun y τ' => y = x ∧ τ' = τ)) (hk : A (.dops all r (done ++ [.none]) L md' :: k) (upd st d x) σ) : DCallG P A g args d all r done L md' k st σ := ⟨x, .none, trivial, fun τ _ _ => h τ, hk⟩
theorem DCallG_bar {done : List Eff} {L md' : List (Nat × Nat)} (hn : σ.length ≤ σ'.length) (h : ACalls P g args σ (fun y τ' => y = x ∧ τ' = σ')) (hk : A (.dops all r (done ++ [.bar σ']) L md' :: k) (upd st d x) σ') : DCallG P A g args d all r done L md' k st σ :=
  ⟨x, .bar σ', hn, fun τ h1 _ => by simp only [effEq] at h1; subst h1; exact h, hk⟩
theorem QGuardG_split {t : Bool} {pend : List Pend} (h1 : t = true → QResG P A (aopR P md st σ o) o.dst all r pend k st σ) (h2 : t = false → A (.qops all r pend :: k) (upd st o.dst .skip) σ) : QGuardG P md A t o all r pend k st σ := ⟨h1, h2⟩
theorem QCallG_eq {pend : List Pend} (h : ACalls P g args σ (fun y σ' => y = x ∧ σ' = σ)) (hk : A (.qops all r pend :: k) (upd st d x) σ) : QCallG P A g args d all r pend k st σ := ⟨x, h, hk⟩
theorem CondG_split {t : Bool} (h1 : t = true → A (.code a :: k) st σ) (h2 : t = false → A (.code b :: k) st σ) : CondG A t a b k st σ := ⟨h1, h2⟩
theorem GuardG_split {t : Bool} (h1 : t = true → ResG P A (aopR P md st σ o) o.dst all r k st σ) (h2 : t = false → A (.ops all r :: k) (upd st o.dst .skip) σ) : GuardG P md A t o all r k st σ := ⟨h1, h2⟩
theorem PGuardG_split {t : Bool} (h1 : t = true → PResG P A (aopR P md st σ o) o.dst all r suf k st σ) (h2 : t = false → A (.pops all r suf :: k) (upd st o.dst .skip) σ) : PGuardG P md A t o all r suf k st σ := ⟨h1, h2⟩
theorem DrawG_by {ops : List Oper} (h : drawOk ops (preLen md ops) = true) (hk : A (.pops ops (ops.take (preLen md ops)) (ops.drop (preLen md ops)) :: k) st σ) : DrawG md A ops k st σ := .inl ⟨h, hk⟩
theorem DrawG_st {ops : List Oper} (h : drawOk2 ops = true) (hk : A (.qops ops ops [] :: k) st σ) : DrawG md A ops k st σ := .inr (.inl ⟨h, hk⟩)
theorem DrawG_x {ops : List Oper} (L : List (Nat × Nat)) (h : drawOk3 ops = true) (hL : loose ops = L) (hk : A (.dops ops ops [] L md :: k) st σ) : DrawG md A ops k st σ := .inr (.inr ⟨L, [], h, hL, by simpa [holes] using hk⟩)
theorem DrawG_h {ops : List Oper} (sl : List Nat) (L : List (Nat × Nat)) (h : drawOk3 ops = true) (hL : loose ops = L) (hk : A (.dops ops ops [] L (holes σ.length sl ++ md) :: k) st (σ ++ sl.map fun _ => .hole)) : DrawG md A ops k st σ := .inr (.inr ⟨L, sl, h, hL, hk⟩)
theorem CallG_by {R : AV → AHeap → Prop} (h : ACalls P g args σ R) (hk : ∀ x σ', R x σ' → A (.ops all r :: k) (upd st d x) σ') : CallG P A g args d all r k st σ := h.mono hk
/-- A call that turns nothing. -/
theorem CallG_eq (h : ACalls P g args σ (fun y σ' => y = x ∧ σ' = σ)) (hk : A (.ops all r :: k) (upd st d x) σ) : CallG P A g args d all r k st σ :=
  h.mono fun y σ' ⟨h1, h2⟩ => by subst h1; subst h2; exact hk
theorem PCallG_eq (h : ACalls P g args σ (fun y σ' => y = x ∧ σ' = σ)) (hk : A (.pops all r suf :: k) (upd st d x) σ) : PCallG P A g args d all r suf k st σ := ⟨x, h, hk⟩

theorem LoopG_by {α : Type} {c : Code} (J : α → Prop) (m : α → Nat) (kv : α → List (Nat × AV)) (hp : α → AHeap) (x : α) (h0 : J x) (hl : Less σ.length st σ (mk (kv x)) (hp x))
    (h : ∀ x, J x → A (.code c :: .lend (fun st' σ' => ∃ y, Less (hp x).length st' σ' (mk (kv y)) (hp y) ∧ m y < m x ∧ J y) :: k) (mk (kv x)) (hp x)) : LoopG A c k st σ := ⟨α, J, m, kv, hp, ⟨x, h0, hl⟩, h⟩
end

theorem hget {σ l : AHeap} {k : Nat} : (σ ++ l)[σ.length + k]? = l[k]? := by
  rw [List.getElem?_append_right (by omega)]; congr 1; omega
theorem hget0 {σ l : AHeap} : (σ ++ l)[σ.length]? = l[0]? := by
  rw [List.getElem?_append_right (by omega)]; congr 1; omega
theorem hset {σ l : AHeap} {k : Nat} {o : AObj} : (σ ++ l).set (σ.length + k) o = σ ++ l.set k o := by
  rw [List.set_append_right _ _ (by omega)]; congr 2; omega
theorem hset0 {σ l : AHeap} {o : AObj} : (σ ++ l).set σ.length o = σ ++ l.set 0 o := by
  rw [List.set_append_right _ _ (by omega)]; congr 2; omega

end

/-- A call leaves the abstract heap as it was and yields `x`. -/
def Pure (P : Program) (f : FuncId) (args : List AV) (x : AV) : Prop := ∀ σ, ACalls P f args σ (fun r σ' => r = x ∧ σ' = σ)

theorem wrap_id {n : Int} (h : -9223372036854775808 ≤ n ∧ n < 9223372036854775808) : IntKind.i64.wrap n = n := by
  simp [IntKind.wrap, IntKind.bits, IntKind.signed]
  split <;> omega

theorem reid_new {n k : Nat} : reid n [] (n + k) = none := by simp [reid]
theorem reid_new0 {n : Nat} : reid n [] n = none := by simp [reid]
@[simp] theorem frzT_none (n : Nat) (keep : List Nat) : frzT n keep .none = .none := rfl
@[simp] theorem frzT_full (n : Nat) (keep : List Nat) : frzT n keep .full = .full := rfl
theorem frzT_own (n : Nat) (keep : List Nat) (id m k : Nat) : frzT n keep (.own id m k) = match reid n keep id with | some id' => .own id' m k | none => .none := rfl
@[simp] theorem WkL_rf (σ : AHeap) (xs : List AV) : WkL σ xs xs = True := eq_true (WkL_refl σ xs)
@[simp] theorem WkLL_rf (σ : AHeap) (xs : List (List AV)) : WkLL σ xs xs = True := eq_true (WkLL_refl σ xs)
@[simp] theorem Wk_rf (σ : AHeap) (x : AV) : Wk σ x x = True := eq_true (Wk_refl σ x)
@[simp] theorem bne_dec (a b : Int) : (a != b) = !decide (a = b) := by by_cases h : a = b <;> simp [h]
@[simp] theorem beq_dec (a b : Int) : (a == b) = decide (a = b) := by by_cases h : a = b <;> simp [h]
@[simp] theorem cleanT_none (n : Nat) : cleanT n .none = .none := rfl
@[simp] theorem cleanT_full (n : Nat) : cleanT n .full = .full := rfl
@[simp] theorem cleanT_own (n id m k : Nat) : cleanT n (.own id m k) = if id < n then .own id m k else .none := rfl
@[simp] theorem mk_nil (t : Nat) : mk [] t = .undef := rfl
@[simp] theorem mk_cons (k : Nat) (v : AV) (r : List (Nat × AV)) (t : Nat) : mk ((k, v) :: r) t = if t = k then v else mk r t := rfl

attribute [simp] tokσ isStore StoreG app st1 apart aeqC aeq1 aflat List.range_succ preLen effOp AG aopR ev vcells ini ofConstD ofConst abin gval hget0 hget hset0 hset exitK FinG rvs rv1 rres clean cleanL cleanLL one splice afill abound alen abuiltin tokId acmp acmpB acmpP acmpS acmpF ckOf chunks napp frzT_own frz_ref frz_sl frz_mapv reid_new reid_new0 reid frzO Wk WkL WkLL WkTok effA effOk effEq compat effOf asrc isSrc zcells inMd holes List.lookup_cons List.lookup_nil

section
variable {P : Program} {md : List (Nat × Nat)} {A : List It → Tm → AHeap → Prop} {all r suf : List Oper} {k : List It} {st : Tm} {σ : AHeap} {o : Oper} {a b : Code} {p : Prop} [Decidable p]
theorem CondG_dec (h1 : p → A (.code a :: k) st σ) (h2 : ¬ p → A (.code b :: k) st σ) : CondG A (decide p) a b k st σ := ⟨fun h => h1 (by simpa using h), fun h => h2 (by simpa using h)⟩
theorem CondG_ndec (h1 : p → A (.code b :: k) st σ) (h2 : ¬ p → A (.code a :: k) st σ) : CondG A (!decide p) a b k st σ := ⟨fun h => h2 (by simpa using h), fun h => h1 (by simpa using h)⟩
theorem GuardG_dec (h1 : p → ResG P A (aopR P md st σ o) o.dst all r k st σ) (h2 : ¬ p → A (.ops all r :: k) (upd st o.dst .skip) σ) : GuardG P md A (decide p) o all r k st σ := ⟨fun h => h1 (by simpa using h), fun h => h2 (by simpa using h)⟩
theorem GuardG_ndec (h1 : p → A (.ops all r :: k) (upd st o.dst .skip) σ) (h2 : ¬ p → ResG P A (aopR P md st σ o) o.dst all r k st σ) : GuardG P md A (!decide p) o all r k st σ := ⟨fun h => h2 (by simpa using h), fun h => h1 (by simpa using h)⟩
theorem DGuardG_dec {done : List Eff} {L md' : List (Nat × Nat)} (h1 : p → DResG P A (aopR P md' st σ o) o all r done L md' k st σ) (h2 : ¬ p → A (.dops all r (done ++ [.none]) L md' :: k) (upd st o.dst .skip) σ) : DGuardG P A (decide p) o all r done L md' k st σ := ⟨fun h => h1 (by simpa using h), fun h => h2 (by simpa using h)⟩
theorem DGuardG_ndec {done : List Eff} {L md' : List (Nat × Nat)} (h1 : p → A (.dops all r (done ++ [.none]) L md' :: k) (upd st o.dst .skip) σ) (h2 : ¬ p → DResG P A (aopR P md' st σ o) o all r done L md' k st σ) : DGuardG P A (!decide p) o all r done L md' k st σ := ⟨fun h => h2 (by simpa using h), fun h => h1 (by simpa using h)⟩
theorem QGuardG_dec {pend : List Pend} (h1 : p → QResG P A (aopR P md st σ o) o.dst all r pend k st σ) (h2 : ¬ p → A (.qops all r pend :: k) (upd st o.dst .skip) σ) : QGuardG P md A (decide p) o all r pend k st σ := ⟨fun h => h1 (by simpa using h), fun h => h2 (by simpa using h)⟩
theorem QGuardG_ndec {pend : List Pend} (h1 : p → A (.qops all r pend :: k) (upd st o.dst .skip) σ) (h2 : ¬ p → QResG P A (aopR P md st σ o) o.dst all r pend k st σ) : QGuardG P md A (!decide p) o all r pend k st σ := ⟨fun h => h2 (by simpa using h), fun h => h1 (by simpa using h)⟩
theorem PGuardG_dec (h1 : p → PResG P A (aopR P md st σ o) o.dst all r suf k st σ) (h2 : ¬ p → A (.pops all r suf :: k) (upd st o.dst .skip) σ) : PGuardG P md A (decide p) o all r suf k st σ := ⟨fun h => h1 (by simpa using h), fun h => h2 (by simpa using h)⟩
theorem PGuardG_ndec (h1 : p → A (.pops all r suf :: k) (upd st o.dst .skip) σ) (h2 : ¬ p → PResG P A (aopR P md st σ o) o.dst all r suf k st σ) : PGuardG P md A (!decide p) o all r suf k st σ := ⟨fun h => h2 (by simpa using h), fun h => h1 (by simpa using h)⟩
end

section
variable {P : Program} {A : List It → Tm → AHeap → Prop} {all r suf : List Oper} {k : List It} {st : Tm} {σ : AHeap} {d : Option Nat} {g : FuncId} {args : List AV} {x : AV}
theorem CallG_pure (h : Pure P g args x) (hk : A (.ops all r :: k) (upd st d x) σ) : CallG P A g args d all r k st σ := CallG_eq (h σ) hk
theorem QCallG_pure {pend : List Pend} (h : Pure P g args x) (hk : A (.qops all r pend :: k) (upd st d x) σ) : QCallG P A g args d all r pend k st σ := QCallG_eq (h σ) hk
theorem DCallG_pure {done : List Eff} {L md' : List (Nat × Nat)} (h : Pure P g args x) (hk : A (.dops all r (done ++ [.none]) L md' :: k) (upd st d x) σ) : DCallG P A g args d all r done L md' k st σ := DCallG_eq (fun τ => h τ) hk
theorem CallG_wk {args' : List AV} (h : Pure P g args' x) (hw : WkL σ args args') (hk : A (.ops all r :: k) (upd st d x) σ) : CallG P A g args d all r k st σ := CallG_eq ((h σ).wk hw) hk
theorem QCallG_wk {args' : List AV} {pend : List Pend} (h : Pure P g args' x) (hw : WkL σ args args') (hk : A (.qops all r pend :: k) (upd st d x) σ) : QCallG P A g args d all r pend k st σ := QCallG_eq ((h σ).wk hw) hk
theorem PCallG_wk {args' : List AV} (h : Pure P g args' x) (hw : WkL σ args args') (hk : A (.pops all r suf :: k) (upd st d x) σ) : PCallG P A g args d all r suf k st σ := PCallG_eq ((h σ).wk hw) hk
theorem DCallG_wk {args' : List AV} {done : List Eff} {L md' : List (Nat × Nat)} (h : Pure P g args' x) (hw : ∀ τ, WkL τ args args') (hk : A (.dops all r (done ++ [.none]) L md' :: k) (upd st d x) σ) : DCallG P A g args d all r done L md' k st σ := DCallG_eq (fun τ => (h τ).wk (hw τ)) hk
theorem CallG_borrow {args' : List AV} (h : Pure P g args' x) (hw : WkL [] (args.map (frz σ 0 [] 8)) args') (hx : flat x = true) (hk : A (.ops all r :: k) (upd st d x) σ) : CallG P A g args d all r k st σ := CallG_eq ((h []).borrow hw hx) hk
theorem PCallG_pure (h : Pure P g args x) (hk : A (.pops all r suf :: k) (upd st d x) σ) : PCallG P A g args d all r suf k st σ := PCallG_eq (h σ) hk
theorem Closed.add {l : AHeap} (hc : Closed σ.length σ) (h : ∀ o ∈ l, cleanO σ.length o = o) : Closed (σ ++ l).length (σ ++ l) := by
  intro id o ho
  refine cleanO_le (show σ.length ≤ _ by simp) o ?_
  rcases Nat.lt_or_ge id σ.length with hlt | hge
  · rw [List.getElem?_append_left hlt] at ho; exact hc id o ho
  · rw [List.getElem?_append_right hge] at ho; exact h o (List.mem_of_getElem? ho)
end
theorem Pure.wk {P : Program} {f : FuncId} {args args' : List AV} {x : AV} (h : Pure P f args' x) (hw : ∀ σ, WkL σ args args') : Pure P f args x := fun σ => (h σ).wk (hw σ)
theorem Pure.nil {P : Program} {f : FuncId} {els : List (List AV)} {tok : Tok} {x : AV} (h : ∀ c, (c = true → els = []) → Pure P f [.lst (some c) els tok] x) : Pure P f [.lst none els tok] x := by
  intro σ
  refine ⟨(h false (by simp) σ).1, fun B w0 ι w vs hr hv => ?_⟩
  have hv' := hv
  simp only [VT] at hv
  obtain ⟨u, us, e, h1, h2⟩ := hv
  simp only [V] at h1
  obtain ⟨a, cap, g1, g2, g3⟩ := h1
  refine (h a.isNone (fun hh => g3.2.2.1 (by simpa using hh)) σ).2 B w0 ι w vs hr ?_
  simp only [VT]
  refine ⟨u, us, e, ?_, h2⟩
  simp only [V]
  exact ⟨a, cap, g1, by simp, g3⟩

theorem Pure.intro {P : Program} {f : FuncId} {args : List AV} {x : AV} (h : ∀ σ, ACalls P f args σ (fun r σ' => r = x ∧ σ' = σ)) : Pure P f args x := h
theorem Pure.at {P : Program} {f : FuncId} {args : List AV} {x : AV} (h : Pure P f args x) (σ : AHeap) : ACalls P f args σ (fun r σ' => r = x ∧ σ' = σ) := h σ

section
variable {P : Program} {md : List (Nat × Nat)} {Q : Post} {A : List It → Tm → AHeap → Prop} {n : Nat} {k : List It} {st : Tm} {σ σ' : AHeap} {t t' : Bool} {a b c : Code} {o : Oper} {all r suf : List Oper} {pend : List Pend} {done : List Eff} {L md' : List (Nat × Nat)} {g : FuncId} {args args' : List AV} {d : Option Nat}
@[congr] theorem AG_congr : AG P md Q n k st σ = AG P md Q n k st σ := rfl
@[congr] theorem CondG_congr (h : t = t') : CondG A t a b k st σ = CondG A t' a b k st σ := by rw [h]
@[congr] theorem GuardG_congr (h : t = t') : GuardG P md A t o all r k st σ = GuardG P md A t' o all r k st σ := by rw [h]
@[congr] theorem PGuardG_congr (h : t = t') : PGuardG P md A t o all r suf k st σ = PGuardG P md A t' o all r suf k st σ := by rw [h]
@[congr] theorem QGuardG_congr (h : t = t') : QGuardG P md A t o all r pend k st σ = QGuardG P md A t' o all r pend k st σ := by rw [h]
@[congr] theorem DGuardG_congr (h : t = t') : DGuardG P A t o all r done L md' k st σ = DGuardG P A t' o all r done L md' k st σ := by rw [h]
@[congr] theorem CallG_congr (h : args = args') : CallG P A g args d all r k st σ = CallG P A g args' d all r k st σ := by rw [h]
@[congr] theorem PCallG_congr (h : args = args') : PCallG P A g args d all r suf k st σ = PCallG P A g args' d all r suf k st σ := by rw [h]
@[congr] theorem QCallG_congr (h : args = args') : QCallG P A g args d all r pend k st σ = QCallG P A g args' d all r pend k st σ := by rw [h]
@[congr] theorem DCallG_congr (h : args = args') : DCallG P A g args d all r done L md' k st σ = DCallG P A g args' d all r done L md' k st σ := by rw [h]
@[congr] theorem LoopG_congr : LoopG A c k st σ = LoopG A c k st σ := rfl
@[congr] theorem DrawG_congr : DrawG md A all k st σ = DrawG md A all k st σ := rfl
end
@[simp] theorem upd_some {st : Tm} {d t : Nat} {x : AV} : upd st (some d) x t = if t = d then x else st t := rfl
@[simp] theorem upd_none' {st : Tm} {x : AV} : upd st none x = st := rfl
attribute [irreducible] CondG LoopG DrawG CallG PCallG QCallG DCallG GuardG PGuardG QGuardG DGuardG Pure

end Go.Sal
