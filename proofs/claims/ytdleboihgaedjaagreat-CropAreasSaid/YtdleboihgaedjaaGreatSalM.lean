/- SalM: a computed account of code: `sw` says what is to be shown of a piece of code; that it suffices. Functions. -/
import Derived.Test.YtdleboihgaedjaaGreatSalL2
namespace Go.Sal
open Go.RowKit

/-- What an operation comes to: a value and a heap, under a condition; a call; or it is not told. -/
inductive ARes where
  | val (p : Prop) (x : AV) (σ : AHeap)
  | call (g : FuncId) (args : List AV)
  | stuck

/-- Types of what may be appended or copied. -/
def isSrc : TypeDesc → Bool
  | .slice _ => true
  | .string => true
  | _ => false
theorem isSrc_notInt {d : TypeDesc} (h : isSrc d = true) : notInt d := by
  unfold isSrc at h
  split at h
  · exact Or.inr ⟨_, rfl⟩
  · exact Or.inl rfl
  · cases h

/-- The same of a builtin, over its arguments' values. -/
def abuiltin (P : Program) (nt : Bool) (σ : AHeap) (b : Builtin) (xs : List AV) (ts : List TypeId) : ARes := match b, xs, ts with
  | .len, [x], [t] => match (ti P t).desc with
    | some d => match alen d x with
      | some n => .val True (.int .i64 n) σ
      | none => .stuck
    | none => .stuck
  | .min, [x, y], _ => match x, y with
    | .int k a, .int _ b => .val True (.int k (if b < a then b else a)) σ
    | _, _ => .stuck
  | .max, [x, y], _ => match x, y with
    | .int k a, .int _ b => .val True (.int k (if a < b then b else a)) σ
    | _, _ => .stuck
  | .append, [x, y], [t, t'] => match (ti P t).desc, (ti P t').desc, x, y with
    | some (.slice e), some d', .lst nl els tok, y => if nt = true then (match isSrc d', asrc [] (ti P e).size y, tok, (ti P e).zero with
      | true, some els2, .full, some zc => .val ((zc.length = (ti P e).size ∧ 0 < (ti P e).size) ∧ (∀ el ∈ els, el.length = (ti P e).size) ∧
        (∀ el ∈ els2, el.length = (ti P e).size ∧ el.all one = true) ∧ els.length + els2.length ≤ maxLen ∧ (els.length + els2.length) * (ti P e).bytes ≤ 140737488355328)
        (.lst (napp nl els2) (els ++ els2) .none) σ
      | _, _, _, _ => .stuck) else (match isSrc d', asrc σ (ti P e).size y, tokId σ els.length (ti P e).size tok, (ti P e).zero with
      | true, some els2, some id, some zc => .val ((zc.length = (ti P e).size ∧ 0 < (ti P e).size) ∧ (∀ el ∈ els, el.length = (ti P e).size) ∧
        (∀ el ∈ els2, el.length = (ti P e).size ∧ el.all one = true) ∧ els.length + els2.length ≤ maxLen ∧ (els.length + els2.length) * (ti P e).bytes ≤ 140737488355328)
        (.lst (napp nl els2) (els ++ els2) (.own id (els.length + els2.length) (ti P e).size)) (tokσ σ id (els.length + els2.length))
      | _, _, _, _ => .stuck)
    | _, _, _, _ => .stuck
  | .copy, [x, y], [t, _] => match (ti P t).desc, x with
    | some (.slice e), .sl id off len k => match σ[id]?, asrc σ (ti P e).size y with
      | some (.cells cs), some els => .val (k = (ti P e).size ∧ 0 < (ti P e).size ∧ ∀ el ∈ els, el.length = (ti P e).size ∧ el.all one = true) (.int .i64 (min els.length len : Nat)) (σ.set id (.cells (splice cs off (els.take (min els.length len)).flatten)))
      | _, _ => .stuck
    | _, _ => .stuck
  | _, _, _ => .stuck

/-- How a type's values are held against nil. -/
def ckT (P : Program) (t : TypeId) : Option CK := (ti P t).desc.bind ckOf

/-- `md`: slots whose slices are made as objects, whose appends tell nothing of spare room, whose objects are made at a place that was kept (its number, plus one). -/
def inMd (md : List (Nat × Nat)) (d : Nat) : Bool := (md.lookup d).isSome

/-- What an operation comes to. -/
def aopR (P : Program) (md : List (Nat × Nat)) (st : Tm) (σ : AHeap) (o : Oper) : ARes := match o.op with
  | .move x => .val True (ev st x) σ
  | .assign x => .val True (ev st x) σ
  | .pick c x y => match ev st c with
    | .bool t => .val True (if t then ev st x else ev st y) σ
    | _ => .stuck
  | .alloc t => match (ti P t).zero with
    | some cs => match md.lookup (o.dst.getD 0) with
      | some (id + 1) => match σ[id]? with
        | some .hole => .val True (.ref id 0) (σ.set id (.cells cs))
        | _ => .stuck
      | _ => .val True (.ref σ.length 0) (σ ++ [.cells cs])
    | none => .stuck
  | .box _ x => match vcells (ev st x) with
    | some cs => .val True (.ref σ.length 0) (σ ++ [.cells cs])
    | none => .stuck
  | .build t parts => match abuild P t (parts.toList.map fun p => (p.1, ev st p.2)) with
    | some cs => .val True (.agg cs) σ
    | none => .stuck
  | .buildSlice t len parts => match (ti P t).desc with
    | some (.slice e) => if len = 0 then (match parts.toList with
      | [] => if inMd md (o.dst.getD 0) = true then .stuck else .val ((ti P e).desc.isSome = true) (.lst (some false) [] .full) σ
      | _ => .stuck) else match aflat P e len (parts.toList.map fun p => (p.1, ev st p.2)) with
      | some cs => if inMd md (o.dst.getD 0) = true then .val (0 < len) (.sl σ.length 0 len (ti P e).size) (σ ++ [.cells cs]) else .val (0 < len) (.lst (some false) (chunks (ti P e).size len cs) .full) σ
      | none => .stuck
    | _ => .stuck
  | .load t x => match ev st x with
    | .ref id off => match σ[id]? with
      | some (.cells cs) => match aload (ti P t) (cs.drop off) with
        | some r => .val True r σ
        | none => .stuck
      | _ => .stuck
    | .ipt cs => match aload (ti P t) cs with
      | some r => .val True r σ
      | none => .stuck
    | _ => .stuck
  | .store t x y => match ev st x, vcells (ev st y) with
    | .ref id off, some ys => match σ[id]? with
      | some (.cells cs) => .val ((ti P t).size = ys.length ∧ 0 < ys.length ∧ ys.all one = true ∧ off + ys.length ≤ cs.length) .undef (σ.set id (.cells (splice cs off ys)))
      | _ => .stuck
    | _, _ => .stuck
  | .nilCheck x => match ev st x with
    | .ref id off => .val True (.ref id off) σ
    | .ipt cs => .val True (.ipt cs) σ
    | .fn f c => .val True (.fn f c) σ
    | _ => .stuck
  | .binOp op t x y _ => match abin op (ev st x) (ev st y) with
    | some (p, r) => .val p r σ
    | none => match op with
      | .eql => match (ckT P t).bind fun ck => acmp ck (ev st x) (ev st y) with
        | some r => .val True (.bool r) σ
        | none => match ev st x, ev st y, eqOk P t with
          | .agg cs, .agg ds, some plan => match aeqC cs ds plan with
            | some r => .val (cs.length = (ti P t).size ∧ ds.length = (ti P t).size) (.bool r) σ
            | none => .stuck
          | _, _, _ => .stuck
      | .neq => match (ckT P t).bind fun ck => acmp ck (ev st x) (ev st y) with
        | some r => .val True (.bool (!r)) σ
        | none => match ev st x, ev st y, eqOk P t with
          | .agg cs, .agg ds, some plan => match aeqC cs ds plan with
            | some r => .val (cs.length = (ti P t).size ∧ ds.length = (ti P t).size) (.bool (!r)) σ
            | none => .stuck
          | _, _, _ => .stuck
      | _ => .stuck
  | .unOp op _ x => match op, ev st x with
    | .not, .bool b => .val True (.bool (!b)) σ
    | .neg, .int k n => .val True (.int k (k.wrap (0 - n))) σ
    | _, _ => .stuck
  | .convert s d x => match (ti P s).desc, (ti P d).desc, ev st x with
    | some _, some (.int k'), .int _ n => .val True (.int k' (k'.wrap n)) σ
    | some .string, some (.slice e), .str b => match (ti P e).desc with
      | some (.int .u8) => .val True (.lst (some false) (bels b.data.toList) .none) σ
      | _ => .stuck
    | some (.slice e), some .string, .str _ => .stuck
    | some (.slice e), some .string, y => match (ti P e).desc, asrc [] 1 y with
      | some (.int .u8), some els => .val (els = bels (bytesOf els)) (.str ⟨(bytesOf els).toArray⟩) σ
      | _, _ => .stuck
    | _, _, _ => .stuck
  | .makeSlice t x y => match (ti P t).desc, ev st x, ev st y with
    | some (.slice e), .int _ l, .int _ c => match (ti P e).zero with
      | some zc => if inMd md (o.dst.getD 0) = true then
          .val ((zc.length = (ti P e).size ∧ 0 < (ti P e).size) ∧ 0 ≤ l ∧ l ≤ c ∧ (ti P e).bytes * c.toNat ≤ 281474976710656 ∧ c ≤ 9223372036854775807) (.sl σ.length 0 l.toNat (ti P e).size) (σ ++ [.cells (zcells zc c.toNat)])
        else .val ((zc.length = (ti P e).size ∧ 0 < (ti P e).size) ∧ l = 0 ∧ 0 ≤ c ∧ (ti P e).bytes * c.toNat ≤ 281474976710656 ∧ c ≤ 9223372036854775807) (.lst (some false) [] (.own σ.length 0 (ti P e).size)) (σ ++ [.tok 0])
      | none => .stuck
    | _, _, _ => .stuck
  | .makeFunc fn first cap => match fn with
    | .func f => .val (first = #[]) (.fn f (cap.toList.map (ev st))) σ
    | _ => .stuck
  | .fieldAddr s x f => match fieldOf P s f, ev st x with
    | some (fo, ft), .ref id off => .val (0 < (ti P ft).size) (.ref id (off + fo)) σ
    | some (fo, ft), .ipt cs => .val (0 < (ti P ft).size ∧ fo ≤ cs.length) (.ipt (cs.drop fo)) σ
    | _, _ => .stuck
  | .field s x f => match fieldOf P s f, ev st x with
    | some (fo, ft), .agg cs => match aload (ti P ft) (cs.drop fo) with
      | some r => .val True r σ
      | none => .stuck
    | _, _ => .stuck
  | .indexAddr t x i => match (ti P t).desc, ev st x, ev st i with
    | some (.slice e), .lst _ els _, .int _ n => .val (0 ≤ n ∧ n < els.length ∧ 0 < (ti P e).size ∧ (els.getD n.toNat []).length = (ti P e).size) (.ipt (els.getD n.toNat [])) σ
    | some (.slice e), .sl id off len k, .int _ n => .val (0 ≤ n ∧ n < len ∧ 0 < (ti P e).size ∧ k = (ti P e).size) (.ref id (off + n.toNat * k)) σ
    | some (.array len e), .ref id off, .int _ n => .val (0 ≤ n ∧ n < len ∧ 0 < (ti P e).size) (.ref id (off + n.toNat * (ti P e).size)) σ
    | _, _, _ => .stuck
  | .index t x i => match (ti P t).desc, ev st x, ev st i with
    | some (.array len e), .agg cs, .int _ n => match aload (ti P e) (cs.drop (n.toNat * (ti P e).size)) with
      | some r => .val (0 ≤ n ∧ n < len ∧ 0 < (ti P e).size) r σ
      | none => .stuck
    | some .string, .str s, .int _ n => .val (0 ≤ n ∧ n < s.size) (.int .u8 (s.data.getD n.toNat 0).toNat) σ
    | _, _, _ => .stuck
  | .extract x i => match ev st x with
    | .tup xs => match xs[i]? with
      | some r => .val True r σ
      | none => .stuck
    | _ => .stuck
  | .slice t x lo hi mx => match (ti P t).desc, ev st x with
    | some (.slice e), .lst nl els _ => match abound st 0 lo, abound st els.length hi with
      | some l, some h => .val (0 ≤ l ∧ l ≤ h ∧ h ≤ els.length ∧ (mx = none ∨ (mx.isSome ∧ hi.isSome ∧ abound st 0 mx = some h)) ∧ 0 < (ti P e).size ∧ ∀ el ∈ els, el.length = (ti P e).size)
          (.lst nl ((els.take h.toNat).drop l.toNat) (if mx.isSome then .full else .none)) σ
      | _, _ => .stuck
    | some (.slice e), .sl id off len k => match abound st 0 lo, abound st len hi with
      | some l, some h => .val (0 ≤ l ∧ l ≤ h ∧ h ≤ len ∧ mx = none ∧ 0 < (ti P e).size ∧ k = (ti P e).size) (.sl id (off + l.toNat * k) (h.toNat - l.toNat) k) σ
      | _, _ => .stuck
    | some .string, .str s => match abound st 0 lo, abound st s.size hi with
      | some l, some h => .val (mx = none ∧ 0 ≤ l ∧ l ≤ h ∧ h ≤ s.size) (.str (s.extract l.toNat h.toNat)) σ
      | _, _ => .stuck
    | _, _ => .stuck
  | .call c => match c.callee with
    | .value f => match ev st f with
      | .fn g cap => .call g (c.args.toList.map (ev st) ++ cap)
      | _ => .stuck
    | .builtin b => abuiltin P (inMd md (o.dst.getD 0)) σ b (c.args.toList.map (ev st)) c.argTypes.toList
    | _ => .stuck
  | _ => .stuck

/-- What is to be shown of one operation: `K` of the value that it yields and of the heap behind it. -/
def aop (P : Program) (md : List (Nat × Nat)) (st : Tm) (σ : AHeap) (o : Oper) (K : AV → AHeap → Prop) : Prop := match aopR P md st σ o with
  | .val p x σ' => p ∧ K x σ'
  | .call g args => ACalls P g args σ K
  | .stuck => False

theorem map_one {α β : Type} {f : α → β} {l : List α} {y : β} (h : l.map f = [y]) : ∃ x, l = [x] ∧ f x = y := by
  match l, h with
  | [x], h => exact ⟨x, rfl, by simpa using h⟩
theorem map_two {α β : Type} {f : α → β} {l : List α} {y z : β} (h : l.map f = [y, z]) : ∃ x x', l = [x, x'] ∧ f x = y ∧ f x' = z := by
  match l, h with
  | [x, x'], h => exact ⟨x, x', rfl, by simpa using h⟩

theorem call_eta {c : Call} {b : Builtin} {xs : List Operand} {ts : List TypeId} (h1 : c.callee = .builtin b) (h2 : c.args.toList = xs) (h3 : c.argTypes.toList = ts) :
    c = { callee := .builtin b, args := xs.toArray, argTypes := ts.toArray } := by
  cases c; simp only at h1 h2 h3; subst h1; subst h2; subst h3; simp

theorem getD_some {α : Type} {l : List α} {i : Nat} {d : α} (h : i < l.length) : l[i]? = some (l.getD i d) := by
  simp [List.getD, h]

theorem aop_sound {P : Program} {N : Nat} {md : List (Nat × Nat)} {σ : AHeap} {st : Tm} {o : Oper} {K : AV → AHeap → Prop} (h : aop P md st σ o K) : AOp P N o st σ K := by
  unfold aop at h
  generalize hr : aopR P md st σ o = res at h
  unfold aopR at hr
  split at hr
  case h_1 ho => subst hr; exact rmove (.inl ho) h.2
  case h_2 ho => subst hr; exact rmove (.inr ho) h.2
  case h_3 ho =>
    split at hr <;> subst hr
    · exact rpick ho ‹_› h.2
    · exact h.elim
  case h_4 ho =>
    split at hr
    · split at hr
      · split at hr <;> subst hr
        · exact rallocH ho ‹_› ‹_› h.2
        · exact h.elim
      · subst hr; exact ralloc ho ‹_› h.2
    · subst hr; exact h.elim
  case h_5 ho =>
    split at hr <;> subst hr
    · exact rbox ho ‹_› h.2
    · exact h.elim
  case h_6 ho =>
    split at hr <;> subst hr
    · exact rbuild ho ‹_› h.2
    · exact h.elim
  case h_7 t len parts ho =>
    split at hr
    · split at hr
      · rename_i hz
        subst hz
        split at hr
        · rename_i hd _ hp
          split at hr <;> subst hr
          · exact h.elim
          · obtain ⟨i, hi, _⟩ := ti_desc (Option.some_get h.1).symm
            exact rbuildSlice0 ho (by simpa using hp) hd hi h.2
        · subst hr; exact h.elim
      · split at hr
        · split at hr <;> subst hr
          · exact rbuildSliceR ho ‹_› h.1 ‹_› h.2
          · exact rbuildSlice ho ‹_› h.1 ‹_› h.2
        · subst hr; exact h.elim
    · subst hr; exact h.elim
  case h_8 ho =>
    split at hr
    · split at hr
      · split at hr <;> subst hr
        · exact rload ho ‹_› ‹_› ‹_› h.2
        · exact h.elim
      · subst hr; exact h.elim
    · split at hr <;> subst hr
      · exact rloadi ho ‹_› ‹_› h.2
      · exact h.elim
    · subst hr; exact h.elim
  case h_9 ho =>
    split at hr
    · split at hr <;> subst hr
      · obtain ⟨⟨h1, h2, h3, h4⟩, h5⟩ := h
        exact rstore ho ‹_› ‹_› ‹_› h1 h2 h3 h4 h5
      · exact h.elim
    · subst hr; exact h.elim
  case h_10 ho =>
    split at hr <;> subst hr
    · exact rnilCheck ho ‹_› trivial h.2
    · exact rnilCheck ho ‹_› trivial h.2
    · exact rnilCheck ho ‹_› trivial h.2
    · exact h.elim
  case h_11 ho =>
    split at hr
    · subst hr; exact rbin ho ‹_› h.1 h.2
    · split at hr
      · split at hr
        · subst hr
          rename_i e
          simp only [ckT, Option.bind_eq_some_iff] at e
          obtain ⟨ck, ⟨d, h1, h2⟩, h3⟩ := e
          exact rcmp ho (.inl rfl) h1 h2 h3 (by simpa using h.2)
        · split at hr
          · split at hr <;> subst hr
            · exact rstructEq ho (.inl rfl) ‹_› ‹_› ‹_› h.1.1 h.1.2 ‹_› (by simpa using h.2)
            · exact h.elim
          · subst hr; exact h.elim
      · split at hr
        · subst hr
          rename_i e
          simp only [ckT, Option.bind_eq_some_iff] at e
          obtain ⟨ck, ⟨d, h1, h2⟩, h3⟩ := e
          exact rcmp ho (.inr rfl) h1 h2 h3 (by simpa using h.2)
        · split at hr
          · split at hr <;> subst hr
            · exact rstructEq ho (.inr rfl) ‹_› ‹_› ‹_› h.1.1 h.1.2 ‹_› (by simpa using h.2)
            · exact h.elim
          · subst hr; exact h.elim
      · subst hr; exact h.elim
  case h_12 ho =>
    split at hr <;> subst hr
    · exact rnot ho ‹_› h.2
    · exact rneg ho ‹_› h.2
    · exact h.elim
  case h_13 ho =>
    split at hr
    · subst hr; exact rconvInt ho ‹_› ‹_› ‹_› h.2
    · split at hr <;> subst hr
      · exact rconvSB ho ‹_› ‹_› ‹_› ‹_› h.2
      · exact h.elim
    · subst hr; exact h.elim
    · split at hr <;> subst hr
      · rename_i els h3 h4
        obtain ⟨h5, h6⟩ := h
        exact rconvBS ho ‹_› h3 ‹_› (by rw [asrc_nil h4, ← h5]) (fun b hb => by simp_all) h6
      · exact h.elim
    · subst hr; exact h.elim
  case h_14 ho =>
    split at hr
    · split at hr
      · split at hr <;> subst hr
        · obtain ⟨⟨⟨h1, h2⟩, h3, h4, h5, h6⟩, h7⟩ := h
          exact rmakeSliceR ho ‹_› ‹_› h1 h2 ‹_› ‹_› h3 h4 h5 h6 h7
        · obtain ⟨⟨⟨h1, h2⟩, h3, h4, h5, h6⟩, h7⟩ := h
          subst h3
          exact rmakeSlice0 ho ‹_› ‹_› h1 h2 ‹_› ‹_› h4 h5 h6 h7
      · subst hr; exact h.elim
    · subst hr; exact h.elim
  case h_15 ho =>
    split at hr <;> subst hr
    · obtain ⟨h1, h2⟩ := h
      subst h1
      exact rmakeFunc ho h2
    · exact h.elim
  case h_16 ho =>
    split at hr <;> subst hr
    · exact rfieldAddr ho ‹_› ‹_› h.1 h.2
    · exact rfieldAddri ho ‹_› ‹_› h.1.1 h.1.2 h.2
    · exact h.elim
  case h_17 ho =>
    split at hr
    · split at hr <;> subst hr
      · exact rfield ho ‹_› ‹_› ‹_› h.2
      · exact h.elim
    · subst hr; exact h.elim
  case h_18 ho =>
    split at hr <;> subst hr
    · obtain ⟨⟨h1, h2, h3, h4⟩, h5⟩ := h
      exact rindexAddr ho ‹_› ‹_› ‹_› h1 (getD_some (by omega)) h3 h4 h5
    · obtain ⟨⟨h1, h2, h3, h4⟩, h5⟩ := h
      exact rindexAddrS ho ‹_› ‹_› ‹_› h1 h2 h3 h4 h5
    · obtain ⟨⟨h1, h2, h3⟩, h5⟩ := h
      exact rindexAddrA ho ‹_› ‹_› ‹_› h1 h2 h3 h5
    · exact h.elim
  case h_19 ho =>
    split at hr
    · split at hr <;> subst hr
      · obtain ⟨⟨h1, h2, h3⟩, h5⟩ := h
        exact rindexAgg ho ‹_› ‹_› ‹_› h1 h2 h3 ‹_› h5
      · exact h.elim
    · subst hr
      rename_i s k n _ _ _
      obtain ⟨⟨h1, h2⟩, h5⟩ := h
      refine rindexStr ho ‹_› ‹_› ‹_› h1 ?_ h5
      have hlt : n.toNat < s.size := by omega
      rw [getElem?_pos s n.toNat hlt]
      have : s.data.getD n.toNat 0 = s[n.toNat] := by
        simp only [Array.getD]
        rw [dif_pos (show n.toNat < s.data.size from hlt)]; rfl
      rw [this]
    · subst hr; exact h.elim
  case h_20 ho =>
    split at hr
    · split at hr <;> subst hr
      · exact rextract ho ‹_› ‹_› h.2
      · exact h.elim
    · subst hr; exact h.elim
  case h_21 ho =>
    split at hr
    · split at hr <;> subst hr
      · obtain ⟨⟨h3, h4, h5, h6, h7, h8⟩, h9⟩ := h
        exact rslice ho ‹_› ‹_› ‹_› ‹_› h3 h4 h5 h6 h7 h8 h9
      · exact h.elim
    · split at hr <;> subst hr
      · obtain ⟨⟨h3, h4, h5, h6, h7, h8⟩, h9⟩ := h
        exact rsliceS ho ‹_› ‹_› ‹_› ‹_› h3 h4 h5 h6 h7 h8 h9
      · exact h.elim
    · split at hr <;> subst hr
      · obtain ⟨⟨h1, h3, h4, h5⟩, h9⟩ := h
        subst h1
        exact rsliceStr ho ‹_› ‹_› ‹_› ‹_› h3 h4 h5 h9
      · exact h.elim
    · subst hr; exact h.elim
  case h_22 c ho =>
    split at hr
    · rename_i f hc
      split at hr <;> subst hr
      · rename_i g cap hf
        have hcc : c = { callee := .value f, args := c.args, argTypes := c.argTypes } := by cases c; simp only at hc; subst hc; rfl
        rw [hcc] at ho
        exact rcall ho hf h
      · exact h.elim
    · rename_i b hc
      unfold abuiltin at hr
      split at hr
      · rename_i x t h2 h3
        obtain ⟨x', h2', rfl⟩ := map_one h2
        rw [call_eta hc h2' h3] at ho
        split at hr
        · split at hr <;> subst hr
          · exact rlen ho ‹_› ‹_› h.2
          · exact h.elim
        · subst hr; exact h.elim
      · rename_i x y h2
        obtain ⟨x', y', h2', rfl, rfl⟩ := map_two h2
        split at hr <;> subst hr
        · rw [call_eta hc h2' rfl] at ho
          exact rminmax (mx := false) (by simpa using ho) ‹_› ‹_› (by simpa using h.2)
        · exact h.elim
      · rename_i x y h2
        obtain ⟨x', y', h2', rfl, rfl⟩ := map_two h2
        split at hr <;> subst hr
        · rw [call_eta hc h2' rfl] at ho
          exact rminmax (mx := true) (by simpa using ho) ‹_› ‹_› (by simpa using h.2)
        · exact h.elim
      · rename_i x y t t' h2 h3
        obtain ⟨x', y', h2', rfl, rfl⟩ := map_two h2
        rw [call_eta hc h2' h3] at ho
        split at hr
        · rename_i e d' nl els tok yy g1 g2 g3
          split at hr
          · split at hr <;> subst hr
            · rename_i els2 zc k1 k2 k4
              obtain ⟨⟨⟨h5, h6⟩, h7, h8, h9, h10⟩, h12⟩ := h
              exact rappendN ho g1 g2 (isSrc_notInt k1) k4 h5 h6 g3 h7 (fun B w0 ι w a hs => asrc_Src (asrc_nil k2) (fun el he => (h8 el he).1) hs) h8 h9 h10 h12
            · exact h.elim
          · split at hr <;> subst hr
            · rename_i els2 id zc k1 k2 k3 k4
              obtain ⟨⟨⟨h5, h6⟩, h7, h8, h9, h10⟩, h12⟩ := h
              exact rappend ho g1 g2 (isSrc_notInt k1) k4 h5 h6 g3 h7 (fun B w0 ι w a hs => asrc_Src k2 (fun el he => (h8 el he).1) hs) h8 h9 h10 k3 h12
            · exact h.elim
        · subst hr; exact h.elim
      · rename_i x y t t' h2 h3
        obtain ⟨x', y', h2', rfl, rfl⟩ := map_two h2
        rw [call_eta hc h2' h3] at ho
        split at hr
        · split at hr <;> subst hr
          · obtain ⟨⟨h5, h6, h7⟩, h8⟩ := h
            exact rcopy ho ‹_› ‹_› h5 h6 ‹_› ‹_› h7 h8
          · exact h.elim
        · subst hr; exact h.elim
      · subst hr; exact h.elim
    · subst hr; exact h.elim
  case h_23 => subst hr; exact h.elim

end Go.Sal
