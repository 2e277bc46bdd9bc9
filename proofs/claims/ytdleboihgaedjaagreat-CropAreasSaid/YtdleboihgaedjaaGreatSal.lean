/- Sal: a logic over abstract values and an abstract heap, for walks through Go functions: what a state of the machine is related to, and that the relation survives what later operations do. -/
import Derived.Calls
import Derived.Orders
import Derived.Below
namespace Go.Sal
open Go.RowKit

/-- What is known of a slice's spare room: nothing; there is none; it is the call's own, as long as token `id` stands at `n` (elements of `k` cells). -/
inductive Tok where
  | none
  | full
  | own (id n k : Nat)

/-- Abstract values. `lst`: a slice by its elements (each a list of cells); whether it is nil, if that is known. `ipt`: a pointer to cells that nobody writes, by these cells. `ref`, `sl`: a pointer, a slice, into an object of the abstract heap. -/
inductive AV where
  | undef
  | int (k : IntKind) (n : Int)
  | bool (b : Bool)
  | str (s : ByteArray)
  | nilp
  | ref (id off : Nat)
  | lst (isnil : Option Bool) (els : List (List AV)) (tok : Tok)
  | sl (id off len k : Nat)
  | ipt (cells : List AV)
  | agg (cells : List AV)
  | tup (vs : List AV)
  | fn (f : FuncId) (captured : List AV)
  | nilfn
  | nilmap
  | map (id : Nat)
  | iface (t : TypeId) (x : AV)
  | nilif
  | skip

instance : Inhabited AV := ⟨.undef⟩

/-- Objects of the abstract heap: cells; a token (how many elements lie in front of the spare room); a map. -/
inductive AObj where
  | cells (cs : List AV)
  | tok (n : Nat)
  | map (es : List (Value × List AV))
  | hole

abbrev AHeap := List AObj
/-- Where an object lies: its block, and for a token the first cell behind what is in use. -/
abbrev Inj := Nat → Option (Nat × Nat)

@[reducible] def at_ (b o : Nat) : Addr := ⟨b, o, none⟩

/-- Nobody writes the first `hi` cells of block `b`. -/
def Safe (σ : AHeap) (ι : Inj) (b hi : Nat) : Prop :=
  ∀ id o x, σ[id]? = some o → ι id = some (b, x) → match o with | .tok _ => hi ≤ x | _ => False

def TokOk (σ : AHeap) (ι : Inj) (w : World) (a : Option Addr) (len cap : Nat) : Tok → Prop
  | .none => True
  | .full => cap = len
  | .own id n k => n = len ∧ (∃ m, σ[id]? = some (.tok m) ∧ n ≤ m) ∧ (σ[id]? = some (.tok n) → cap = len ∨
      ∃ b off, a = some (at_ b off) ∧ ι id = some (b, off + n * k) ∧
        ∀ j, off + n * k ≤ j → j < off + cap * k → (∃ v, w.cell? (at_ b j) = some v) ∧ w.frozen? (at_ b j) = false)

mutual
/-- Abstract value `x` stands for value `v`. -/
def V (σ : AHeap) (ι : Inj) (w : World) : AV → Value → Prop
  | .undef, _ => True
  | .int k n, v => v = .int k n
  | .bool b, v => v = .bool b
  | .str s, v => v = .string s
  | .nilp, v => v = .pointer none
  | .ref id off, v => ∃ cs b y, σ[id]? = some (.cells cs) ∧ ι id = some (b, y) ∧ v = .pointer (some (at_ b off))
  | .lst isnil els tok, v => ∃ a cap, v = .slice a els.length cap ∧ (∀ c, isnil = some c → c = a.isNone) ∧ els.length ≤ cap ∧ TokOk σ ι w a els.length cap tok ∧
      (a = none → els = []) ∧
      (∀ ad, a = some ad → ∃ b off k, ad = at_ b off ∧ b < w.heap.size ∧ Safe σ ι b (off + els.length * k) ∧ VLL σ ι w b off k els)
  | .sl id off len k, v => ∃ cs b y cap ad, σ[id]? = some (.cells cs) ∧ ι id = some (b, y) ∧ v = .slice (some (at_ b ad)) len cap ∧ len ≤ cap ∧ off + len * k ≤ cs.length ∧ (0 < len → ad = off)
  | .ipt cells, v => ∃ b off, v = .pointer (some (at_ b off)) ∧ b < w.heap.size ∧ Safe σ ι b (off + cells.length) ∧ VL σ ι w b off cells
  | .agg cells, v => ∃ vs, v = .agg vs ∧ VT σ ι w cells vs.toList
  | .tup xs, v => ∃ vs, v = .tuple vs ∧ VT σ ι w xs vs.toList
  | .fn f captured, v => ∃ vs, v = .func (.func f) #[] vs ∧ VT σ ι w captured vs.toList
  | .nilfn, v => v = .nilFunc
  | .nilmap, v => v = .map none
  | .map id, v => ∃ es b y, σ[id]? = some (.map es) ∧ ι id = some (b, y) ∧ v = .map (some b)
  | .iface t x, v => ∃ u, v = .iface t u ∧ V σ ι w x u
  | .nilif, v => v = .nilIface
  | .skip, v => v = undef
/-- Cells in a row. -/
def VL (σ : AHeap) (ι : Inj) (w : World) (b off : Nat) : List AV → Prop
  | [] => True
  | x :: xs => (∃ v, w.cell? (at_ b off) = some v ∧ V σ ι w x v) ∧ VL σ ι w b (off + 1) xs
/-- Elements of `k` cells in a row. -/
def VLL (σ : AHeap) (ι : Inj) (w : World) (b off k : Nat) : List (List AV) → Prop
  | [] => True
  | r :: rs => r.length = k ∧ VL σ ι w b off r ∧ VLL σ ι w b (off + k) k rs
/-- Values one by one. -/
def VT (σ : AHeap) (ι : Inj) (w : World) : List AV → List Value → Prop
  | [], vs => vs = []
  | x :: xs, vs => ∃ u us, vs = u :: us ∧ V σ ι w x u ∧ VT σ ι w xs us
end

/-- What later operations may do: new objects in new blocks; writes into objects; a token moves on. -/
structure Step (σ : AHeap) (ι : Inj) (w : World) (σ' : AHeap) (ι' : Inj) (w' : World) : Prop where
  size : w.heap.size ≤ w'.heap.size
  keepC : ∀ id cs, σ[id]? = some (.cells cs) → ι' id = ι id ∧ ∃ cs', σ'[id]? = some (.cells cs') ∧ cs'.length = cs.length
  keepM : ∀ id es, σ[id]? = some (.map es) → ι' id = ι id ∧ ∃ es', σ'[id]? = some (.map es')
  keepT : ∀ id n, σ[id]? = some (.tok n) → ∃ n', σ'[id]? = some (.tok n') ∧ n ≤ n' ∧ (n' = n → ι' id = ι id) ∧
    ∀ b x', ι' id = some (b, x') → (∃ x, ι id = some (b, x) ∧ x ≤ x') ∨ w.heap.size ≤ b
  fresh : ∀ id o b x, σ[id]? = none → σ'[id]? = some o → ι' id = some (b, x) → w.heap.size ≤ b
  cell : ∀ b j v, w.cell? (at_ b j) = some v → Safe σ ι b (j + 1) → w'.cell? (at_ b j) = some v
  spare : ∀ id n b x, σ[id]? = some (.tok n) → σ'[id]? = some (.tok n) → ι id = some (b, x) → ∀ j, x ≤ j →
    (∃ v, w.cell? (at_ b j) = some v) → w.frozen? (at_ b j) = false → (∃ v, w'.cell? (at_ b j) = some v) ∧ w'.frozen? (at_ b j) = false
  keepH : ∀ id, σ[id]? = some .hole → ∀ b x, ι' id = some (b, x) → ι id = some (b, x) ∨ w.heap.size ≤ b

theorem Safe.le {σ : AHeap} {ι : Inj} {b hi lo : Nat} (h : Safe σ ι b hi) (hl : lo ≤ hi) : Safe σ ι b lo := by
  intro id o x h1 h2
  have := h id o x h1 h2
  cases o <;> simp_all <;> omega

theorem Step.safe {σ ι w σ' ι' w'} (s : Step σ ι w σ' ι' w') {b hi : Nat} (hb : b < w.heap.size) (h : Safe σ ι b hi) : Safe σ' ι' b hi := by
  intro id o x h1 h2
  cases ho : σ[id]? with
  | none => have := s.fresh id o b x ho h1 h2; omega
  | some o0 =>
    cases o0 with
    | cells cs =>
      obtain ⟨e, _⟩ := s.keepC id cs ho
      exact (h id _ x ho (e ▸ h2)).elim
    | map es =>
      obtain ⟨e, _⟩ := s.keepM id es ho
      exact (h id _ x ho (e ▸ h2)).elim
    | hole =>
      rcases s.keepH id ho b x h2 with h3 | h3
      · exact (h id _ x ho h3).elim
      · omega
    | tok n =>
      obtain ⟨n', e, _, _, hx⟩ := s.keepT id n ho
      rw [h1] at e
      cases e
      rcases hx b x h2 with ⟨y, hy, hle⟩ | hx
      · have := h id _ y ho hy; simp at this ⊢; omega
      · omega

theorem Step.tok {σ ι w σ' ι' w'} (s : Step σ ι w σ' ι' w') {a : Option Addr} {len cap : Nat} {t : Tok} (h : TokOk σ ι w a len cap t) : TokOk σ' ι' w' a len cap t := by
  cases t with
  | none => trivial
  | full => exact h
  | own id n k =>
    obtain ⟨h1, ⟨m, hm, hnm⟩, h3⟩ := h
    obtain ⟨m', e, hle, heq, _⟩ := s.keepT id m hm
    refine ⟨h1, ⟨m', e, by omega⟩, fun hn => ?_⟩
    have he : m' = n := by rw [e] at hn; simpa using hn
    have hmn : m = n := by omega
    subst hmn
    rcases h3 hm with h | ⟨b, off, ha, hi, hs⟩
    · exact Or.inl h
    · exact Or.inr ⟨b, off, ha, (heq he).trans hi, fun j h1 h2 => s.spare id m b _ hm (he ▸ e) hi j h1 (hs j h1 h2).1 (hs j h1 h2).2⟩

mutual
theorem V_mono {σ ι w σ' ι' w'} (s : Step σ ι w σ' ι' w') : ∀ (x : AV) (v : Value), V σ ι w x v → V σ' ι' w' x v
  | .undef, _, _ => by simp [V]
  | .int k n, v, h => by simpa [V] using h
  | .bool b, v, h => by simpa [V] using h
  | .str b, v, h => by simpa [V] using h
  | .nilp, v, h => by simpa [V] using h
  | .ref id off, v, h => by
    simp only [V] at h ⊢
    obtain ⟨cs, b, y, h1, h2, h3⟩ := h
    obtain ⟨e, cs', h4, _⟩ := s.keepC id cs h1
    exact ⟨cs', b, y, h4, e.trans h2, h3⟩
  | .lst isnil els tok, v, h => by
    simp only [V] at h ⊢
    obtain ⟨a, cap, h1, h2, h3, h4, h5, h6⟩ := h
    refine ⟨a, cap, h1, h2, h3, s.tok h4, h5, fun ad had => ?_⟩
    obtain ⟨b, off, k, e, hb, hs, hl⟩ := h6 ad had
    exact ⟨b, off, k, e, Nat.lt_of_lt_of_le hb s.size, s.safe hb hs, VLL_mono s els b off k hs hl⟩
  | .sl id off len k, v, h => by
    simp only [V] at h ⊢
    obtain ⟨cs, b, y, cap, ad, h1, h2, h3, h4, h5, h8⟩ := h
    obtain ⟨e, cs', h6, h7⟩ := s.keepC id cs h1
    exact ⟨cs', b, y, cap, ad, h6, e.trans h2, h3, h4, by omega, h8⟩
  | .ipt cells, v, h => by
    simp only [V] at h ⊢
    obtain ⟨b, off, h1, hb, hs, hl⟩ := h
    exact ⟨b, off, h1, Nat.lt_of_lt_of_le hb s.size, s.safe hb hs, VL_mono s cells b off hs hl⟩
  | .agg cells, v, h => by
    simp only [V] at h ⊢
    obtain ⟨vs, h1, h2⟩ := h
    exact ⟨vs, h1, VT_mono s cells _ h2⟩
  | .tup cells, v, h => by
    simp only [V] at h ⊢
    obtain ⟨vs, h1, h2⟩ := h
    exact ⟨vs, h1, VT_mono s cells _ h2⟩
  | .fn f cells, v, h => by
    simp only [V] at h ⊢
    obtain ⟨vs, h1, h2⟩ := h
    exact ⟨vs, h1, VT_mono s cells _ h2⟩
  | .nilfn, v, h => by simpa [V] using h
  | .nilmap, v, h => by simpa [V] using h
  | .map id, v, h => by
    simp only [V] at h ⊢
    obtain ⟨es, b, y, h1, h2, h3⟩ := h
    obtain ⟨e, es', h4⟩ := s.keepM id es h1
    exact ⟨es', b, y, h4, e.trans h2, h3⟩
  | .iface t x, v, h => by
    simp only [V] at h ⊢
    obtain ⟨u, h1, h2⟩ := h
    exact ⟨u, h1, V_mono s x u h2⟩
  | .nilif, v, h => by simpa [V] using h
  | .skip, v, h => by simpa [V] using h
theorem VL_mono {σ ι w σ' ι' w'} (s : Step σ ι w σ' ι' w') : ∀ (xs : List AV) (b off : Nat), Safe σ ι b (off + xs.length) → VL σ ι w b off xs → VL σ' ι' w' b off xs
  | [], _, _, _, _ => by simp [VL]
  | x :: xs, b, off, hs, h => by
    simp only [VL] at h ⊢
    obtain ⟨⟨v, h1, h2⟩, h3⟩ := h
    simp only [List.length_cons] at hs
    exact ⟨⟨v, s.cell b off v h1 (hs.le (by omega)), V_mono s x v h2⟩, VL_mono s xs b (off + 1) (hs.le (by omega)) h3⟩
theorem VLL_mono {σ ι w σ' ι' w'} (s : Step σ ι w σ' ι' w') : ∀ (xs : List (List AV)) (b off k : Nat), Safe σ ι b (off + xs.length * k) → VLL σ ι w b off k xs → VLL σ' ι' w' b off k xs
  | [], _, _, _, _, _ => by simp [VLL]
  | x :: xs, b, off, k, hs, h => by
    simp only [VLL] at h ⊢
    obtain ⟨h1, h2, h3⟩ := h
    simp only [List.length_cons, Nat.succ_mul] at hs
    exact ⟨h1, VL_mono s x b off (hs.le (by omega)) h2, VLL_mono s xs b (off + k) k (hs.le (by omega)) h3⟩
theorem VT_mono {σ ι w σ' ι' w'} (s : Step σ ι w σ' ι' w') : ∀ (xs : List AV) (vs : List Value), VT σ ι w xs vs → VT σ' ι' w' xs vs
  | [], _, h => by simpa [VT] using h
  | x :: xs, vs, h => by
    simp only [VT] at h ⊢
    obtain ⟨u, us, h1, h2, h3⟩ := h
    exact ⟨u, us, h1, V_mono s x u h2, VT_mono s xs us h3⟩
end

end Go.Sal
