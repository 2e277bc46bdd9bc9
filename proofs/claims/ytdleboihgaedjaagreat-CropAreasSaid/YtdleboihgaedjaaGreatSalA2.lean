/- SalA2: weaker values; objects that are dropped, kept under other numbers, or seen by value from now on. -/
import Derived.Test.YtdleboihgaedjaaGreatSalA
namespace Go.Sal
open Go.RowKit

/-- Less may be told of spare room; what is full may be told as owned, where the token stands right. -/
def WkTok (σ : AHeap) (n : Nat) (t t' : Tok) : Prop := t' = .none ∨ t' = t ∨ (t = .full ∧ ∃ id k, t' = .own id n k ∧ ∃ m, σ[id]? = some (.tok m) ∧ n ≤ m)

mutual
/-- The second value says no more than the first. -/
def Wk (σ : AHeap) : AV → AV → Prop
  | _, .undef => True
  | .lst nl els tok, .lst nl' els' tok' => (nl' = none ∨ nl' = nl) ∧ WkTok σ els.length tok tok' ∧ WkLL σ els els'
  | .ipt xs, .ipt ys => WkL σ xs ys
  | .agg xs, .agg ys => WkL σ xs ys
  | .tup xs, .tup ys => WkL σ xs ys
  | .fn f xs, .fn g ys => f = g ∧ WkL σ xs ys
  | .iface t x, .iface u y => t = u ∧ Wk σ x y
  | x, y => x = y
def WkL (σ : AHeap) : List AV → List AV → Prop
  | [], [] => True
  | x :: xs, y :: ys => Wk σ x y ∧ WkL σ xs ys
  | _, _ => False
def WkLL (σ : AHeap) : List (List AV) → List (List AV) → Prop
  | [], [] => True
  | x :: xs, y :: ys => WkL σ x y ∧ WkLL σ xs ys
  | _, _ => False
end

theorem WkL_len {σ : AHeap} : ∀ {xs ys : List AV}, WkL σ xs ys → ys.length = xs.length
  | [], [], _ => rfl
  | x :: xs, y :: ys, h => by simp only [WkL] at h; simp [WkL_len h.2]
  | [], _ :: _, h => by simp [WkL] at h
  | _ :: _, [], h => by simp [WkL] at h
theorem WkLL_len {σ : AHeap} : ∀ {xs ys : List (List AV)}, WkLL σ xs ys → ys.length = xs.length
  | [], [], _ => rfl
  | x :: xs, y :: ys, h => by simp only [WkLL] at h; simp [WkLL_len h.2]
  | [], _ :: _, h => by simp [WkLL] at h
  | _ :: _, [], h => by simp [WkLL] at h

theorem WkTok.ok {σ ι w a len cap t t'} (h : WkTok σ len t t') (hv : TokOk σ ι w a len cap t) : TokOk σ ι w a len cap t' := by
  rcases h with rfl | rfl | ⟨rfl, id, k, rfl, m, h1, h2⟩
  · trivial
  · exact hv
  · exact ⟨rfl, ⟨m, h1, h2⟩, fun _ => Or.inl hv⟩

mutual
theorem V_wk {σ ι w} : ∀ (x y : AV) (v : Value), Wk σ x y → V σ ι w x v → V σ ι w y v
  | x, .undef, v, _, _ => by simp [V]
  | .lst nl els tok, .lst nl' els' tok', v, h, hv => by
    simp only [Wk] at h
    simp only [V] at hv ⊢
    obtain ⟨h1, h2, h3⟩ := h
    obtain ⟨a, cap, g1, g2, g3, g4, g5, g6⟩ := hv
    rw [WkLL_len h3]
    refine ⟨a, cap, g1, fun c hc => ?_, g3, h2.ok g4, fun ha => ?_, fun ad had => ?_⟩
    · rcases h1 with h1 | h1
      · rw [h1] at hc; cases hc
      · exact g2 c (h1 ▸ hc)
    · have := g5 ha; subst this
      exact List.eq_nil_of_length_eq_zero (WkLL_len h3)
    · obtain ⟨b, off, k, e1, e2, e3, e4⟩ := g6 ad had
      exact ⟨b, off, k, e1, e2, e3, VLL_wk els els' b off k h3 e4⟩
  | .ipt xs, .ipt ys, v, h, hv => by
    simp only [Wk] at h
    simp only [V] at hv ⊢
    obtain ⟨b, off, e1, e2, e3, e4⟩ := hv
    exact ⟨b, off, e1, e2, by rw [WkL_len h]; exact e3, VL_wk xs ys b off h e4⟩
  | .agg xs, .agg ys, v, h, hv => by
    simp only [Wk] at h
    simp only [V] at hv ⊢
    obtain ⟨vs, e1, e2⟩ := hv
    exact ⟨vs, e1, VT_wk xs ys _ h e2⟩
  | .tup xs, .tup ys, v, h, hv => by
    simp only [Wk] at h
    simp only [V] at hv ⊢
    obtain ⟨vs, e1, e2⟩ := hv
    exact ⟨vs, e1, VT_wk xs ys _ h e2⟩
  | .fn f xs, .fn g ys, v, h, hv => by
    simp only [Wk] at h
    simp only [V] at hv ⊢
    obtain ⟨vs, e1, e2⟩ := hv
    exact ⟨vs, by rw [← h.1]; exact e1, VT_wk xs ys _ h.2 e2⟩
  | .iface t x, .iface u y, v, h, hv => by
    simp only [Wk] at h
    simp only [V] at hv ⊢
    obtain ⟨v', e1, e2⟩ := hv
    exact ⟨v', by rw [← h.1]; exact e1, V_wk x y _ h.2 e2⟩
  | .undef, y, v, h, hv => by
    cases y <;> simp [Wk, V] at h ⊢
  | .int k n, y, v, h, hv => by
    cases y <;> simp [Wk] at h <;> first | (obtain ⟨rfl, rfl⟩ := h; exact hv) | simp [V]
  | .bool b, y, v, h, hv => by
    cases y <;> simp [Wk] at h <;> first | (subst h; exact hv) | simp [V]
  | .str b, y, v, h, hv => by
    cases y <;> simp [Wk] at h <;> first | (subst h; exact hv) | simp [V]
  | .nilp, y, v, h, hv => by
    cases y <;> simp [Wk] at h <;> first | exact hv | simp [V]
  | .ref id off, y, v, h, hv => by
    cases y <;> simp [Wk] at h <;> first | (obtain ⟨rfl, rfl⟩ := h; exact hv) | simp [V]
  | .sl id off len k, y, v, h, hv => by
    cases y <;> simp [Wk] at h <;> first | (obtain ⟨rfl, rfl, rfl, rfl⟩ := h; exact hv) | simp [V]
  | .nilfn, y, v, h, hv => by
    cases y <;> simp [Wk] at h <;> first | exact hv | simp [V]
  | .nilmap, y, v, h, hv => by
    cases y <;> simp [Wk] at h <;> first | exact hv | simp [V]
  | .map id, y, v, h, hv => by
    cases y <;> simp [Wk] at h <;> first | (subst h; exact hv) | simp [V]
  | .nilif, y, v, h, hv => by
    cases y <;> simp [Wk] at h <;> first | exact hv | simp [V]
  | .skip, y, v, h, hv => by
    cases y <;> simp [Wk] at h <;> first | exact hv | simp [V]
theorem VL_wk {σ ι w} : ∀ (xs ys : List AV) (b off : Nat), WkL σ xs ys → VL σ ι w b off xs → VL σ ι w b off ys
  | [], [], _, _, _, _ => by simp [VL]
  | x :: xs, y :: ys, b, off, h, hv => by
    simp only [WkL] at h
    simp only [VL] at hv ⊢
    obtain ⟨⟨v, h1, h2⟩, h3⟩ := hv
    exact ⟨⟨v, h1, V_wk x y v h.1 h2⟩, VL_wk xs ys b _ h.2 h3⟩
  | [], _ :: _, _, _, h, _ => by simp [WkL] at h
  | _ :: _, [], _, _, h, _ => by simp [WkL] at h
theorem VLL_wk {σ ι w} : ∀ (xs ys : List (List AV)) (b off k : Nat), WkLL σ xs ys → VLL σ ι w b off k xs → VLL σ ι w b off k ys
  | [], [], _, _, _, _, _ => by simp [VLL]
  | x :: xs, y :: ys, b, off, k, h, hv => by
    simp only [WkLL] at h
    simp only [VLL] at hv ⊢
    obtain ⟨h1, h2, h3⟩ := hv
    exact ⟨(WkL_len h.1).trans h1, VL_wk x y b off h.1 h2, VLL_wk xs ys b _ k h.2 h3⟩
  | [], _ :: _, _, _, _, h, _ => by simp [WkLL] at h
  | _ :: _, [], _, _, _, h, _ => by simp [WkLL] at h
theorem VT_wk {σ ι w} : ∀ (xs ys : List AV) (vs : List Value), WkL σ xs ys → VT σ ι w xs vs → VT σ ι w ys vs
  | [], [], _, _, h => h
  | x :: xs, y :: ys, vs, h, hv => by
    simp only [WkL] at h
    simp only [VT] at hv ⊢
    obtain ⟨u, us, e, h2, h3⟩ := hv
    exact ⟨u, us, e, V_wk x y u h.1 h2, VT_wk xs ys us h.2 h3⟩
  | [], _ :: _, _, h, _ => by simp [WkL] at h
  | _ :: _, [], _, h, _ => by simp [WkL] at h
end

mutual
theorem Wk_refl (σ : AHeap) : ∀ x : AV, Wk σ x x
  | .lst nl els tok => by unfold Wk; exact ⟨Or.inr rfl, Or.inr (Or.inl rfl), WkLL_refl σ els⟩
  | .ipt xs => by simp only [Wk]; exact WkL_refl σ xs
  | .agg xs => by simp only [Wk]; exact WkL_refl σ xs
  | .tup xs => by simp only [Wk]; exact WkL_refl σ xs
  | .fn f xs => by unfold Wk; exact ⟨rfl, WkL_refl σ xs⟩
  | .iface t x => by unfold Wk; exact ⟨rfl, Wk_refl σ x⟩
  | .undef => by simp [Wk]
  | .int .. => by simp [Wk]
  | .bool _ => by simp [Wk]
  | .str _ => by simp [Wk]
  | .nilp => by simp [Wk]
  | .ref .. => by simp [Wk]
  | .sl .. => by simp [Wk]
  | .nilfn => by simp [Wk]
  | .nilmap => by simp [Wk]
  | .map _ => by simp [Wk]
  | .nilif => by simp [Wk]
  | .skip => by simp [Wk]
theorem WkL_refl (σ : AHeap) : ∀ xs : List AV, WkL σ xs xs
  | [] => by simp [WkL]
  | x :: xs => by simp only [WkL]; exact ⟨Wk_refl σ x, WkL_refl σ xs⟩
theorem WkLL_refl (σ : AHeap) : ∀ xs : List (List AV), WkLL σ xs xs
  | [] => by simp [WkLL]
  | x :: xs => by simp only [WkLL]; exact ⟨WkL_refl σ x, WkLL_refl σ xs⟩
end

/-- Elements one behind the other. -/
def chunks (k : Nat) : Nat → List AV → List (List AV)
  | 0, _ => []
  | n + 1, l => l.take k :: chunks k n (l.drop k)

theorem chunks_length (k : Nat) : ∀ (n : Nat) (l : List AV), (chunks k n l).length = n
  | 0, _ => rfl
  | n + 1, l => by simp [chunks, chunks_length k n]

/-- The number of an object from now on: those among the first `n` keep theirs, those that are kept come behind. -/
def reid (n : Nat) (keep : List Nat) (id : Nat) : Option Nat := if id < n then some id else (keep.idxOf? id).map (n + ·)

def frzT (n : Nat) (keep : List Nat) : Tok → Tok
  | .own id m k => match reid n keep id with
    | some id' => .own id' m k
    | none => .none
  | .none => .none
  | .full => .full

mutual
/-- A value from now on; `g`, `h`: what becomes of a pointer, of a slice into an object that is not kept. -/
def frzS (n : Nat) (keep : List Nat) (g : Nat → Nat → AV) (h : Nat → Nat → Nat → Nat → AV) : AV → AV
  | .ref id off => match reid n keep id with
    | some id' => .ref id' off
    | none => g id off
  | .sl id off len k => match reid n keep id with
    | some id' => .sl id' off len k
    | none => h id off len k
  | .map id => match reid n keep id with
    | some id' => .map id'
    | none => .undef
  | .lst nl els tok => .lst nl (frzLL n keep g h els) (frzT n keep tok)
  | .ipt cs => .ipt (frzL n keep g h cs)
  | .agg cs => .agg (frzL n keep g h cs)
  | .tup cs => .tup (frzL n keep g h cs)
  | .fn f cs => .fn f (frzL n keep g h cs)
  | .iface t x => .iface t (frzS n keep g h x)
  | .undef => .undef
  | .int k i => .int k i
  | .bool b => .bool b
  | .str s => .str s
  | .nilp => .nilp
  | .nilfn => .nilfn
  | .nilmap => .nilmap
  | .nilif => .nilif
  | .skip => .skip
def frzL (n : Nat) (keep : List Nat) (g : Nat → Nat → AV) (h : Nat → Nat → Nat → Nat → AV) : List AV → List AV
  | [] => []
  | x :: xs => frzS n keep g h x :: frzL n keep g h xs
def frzLL (n : Nat) (keep : List Nat) (g : Nat → Nat → AV) (h : Nat → Nat → Nat → Nat → AV) : List (List AV) → List (List AV)
  | [] => []
  | x :: xs => frzL n keep g h x :: frzLL n keep g h xs
end

theorem frzL_map (n : Nat) (keep : List Nat) (g h) (xs : List AV) : frzL n keep g h xs = xs.map (frzS n keep g h) := by
  induction xs with
  | nil => rfl
  | cons x xs ih => simp [frzL, ih]
theorem frzLL_map (n : Nat) (keep : List Nat) (g h) (xs : List (List AV)) : frzLL n keep g h xs = xs.map (fun el => el.map (frzS n keep g h)) := by
  induction xs with
  | nil => rfl
  | cons x xs ih => simp [frzLL, ih, frzL_map]

/-- A value from now on: objects that are not kept are seen by value. -/
def frz (σ : AHeap) (n : Nat) (keep : List Nat) : Nat → AV → AV
  | 0 => frzS n keep (fun _ _ => .undef) (fun _ _ _ _ => .undef)
  | f + 1 => frzS n keep (fun id off => match σ[id]? with
      | some (.cells cs) => .ipt ((cs.drop off).map (frz σ n keep f))
      | _ => .undef) (fun id off len k => match σ[id]? with
      | some (.cells cs) => .lst (some false) (chunks k len ((cs.drop off).map (frz σ n keep f))) .none
      | _ => .undef)

section
variable {σ : AHeap} {n f : Nat} {keep : List Nat}
@[simp] theorem frz_undef : frz σ n keep f .undef = .undef := by cases f <;> rfl
@[simp] theorem frz_int {k : IntKind} {i : Int} : frz σ n keep f (.int k i) = .int k i := by cases f <;> rfl
@[simp] theorem frz_bool {b : Bool} : frz σ n keep f (.bool b) = .bool b := by cases f <;> rfl
@[simp] theorem frz_str {b : ByteArray} : frz σ n keep f (.str b) = .str b := by cases f <;> rfl
@[simp] theorem frz_nilp : frz σ n keep f .nilp = .nilp := by cases f <;> rfl
@[simp] theorem frz_nilfn : frz σ n keep f .nilfn = .nilfn := by cases f <;> rfl
@[simp] theorem frz_nilmap : frz σ n keep f .nilmap = .nilmap := by cases f <;> rfl
@[simp] theorem frz_nilif : frz σ n keep f .nilif = .nilif := by cases f <;> rfl
@[simp] theorem frz_skip : frz σ n keep f .skip = .skip := by cases f <;> rfl
/-- Elements from now on. -/
def frzE (σ : AHeap) (n : Nat) (keep : List Nat) (f : Nat) (els : List (List AV)) : List (List AV) := els.map fun el => el.map (frz σ n keep f)
theorem frz_lst' {nl : Option Bool} {els : List (List AV)} {tok : Tok} : frz σ n keep f (.lst nl els tok) = .lst nl (els.map fun el => el.map (frz σ n keep f)) (frzT n keep tok) := by
  cases f <;> simp only [frz, frzS, frzLL_map]
@[simp] theorem frz_lst {nl : Option Bool} {els : List (List AV)} {tok : Tok} : frz σ n keep f (.lst nl els tok) = .lst nl (frzE σ n keep f els) (frzT n keep tok) := frz_lst'
@[simp] theorem frzE_nil : frzE σ n keep f [] = [] := rfl
@[simp] theorem frzE_cons {x : List AV} {xs : List (List AV)} : frzE σ n keep f (x :: xs) = x.map (frz σ n keep f) :: frzE σ n keep f xs := rfl
@[simp] theorem frzE_append {xs ys : List (List AV)} : frzE σ n keep f (xs ++ ys) = frzE σ n keep f xs ++ frzE σ n keep f ys := by simp [frzE]
@[simp] theorem frzE_take {xs : List (List AV)} {i : Nat} : frzE σ n keep f (xs.take i) = (frzE σ n keep f xs).take i := by simp [frzE, List.map_take]
@[simp] theorem frzE_drop {xs : List (List AV)} {i : Nat} : frzE σ n keep f (xs.drop i) = (frzE σ n keep f xs).drop i := by simp [frzE, List.map_drop]
theorem frzE_map {α : Type} {g : α → List AV} {l : List α} (h : ∀ a, (g a).map (frz σ n keep f) = g a) : frzE σ n keep f (l.map g) = l.map g := by
  unfold frzE
  rw [List.map_map]
  exact List.map_congr_left fun a _ => h a
@[simp] theorem frz_ipt {cs : List AV} : frz σ n keep f (.ipt cs) = .ipt (cs.map (frz σ n keep f)) := by cases f <;> simp only [frz, frzS, frzL_map]
@[simp] theorem frz_agg {cs : List AV} : frz σ n keep f (.agg cs) = .agg (cs.map (frz σ n keep f)) := by cases f <;> simp only [frz, frzS, frzL_map]
@[simp] theorem frz_tup {cs : List AV} : frz σ n keep f (.tup cs) = .tup (cs.map (frz σ n keep f)) := by cases f <;> simp only [frz, frzS, frzL_map]
@[simp] theorem frz_fn {g : FuncId} {cs : List AV} : frz σ n keep f (.fn g cs) = .fn g (cs.map (frz σ n keep f)) := by cases f <;> simp only [frz, frzS, frzL_map]
@[simp] theorem frz_iface {t : TypeId} {x : AV} : frz σ n keep f (.iface t x) = .iface t (frz σ n keep f x) := by cases f <;> simp only [frz, frzS]
theorem frz_ref {id off : Nat} : frz σ n keep (f + 1) (.ref id off) = match reid n keep id with
    | some id' => .ref id' off
    | none => match σ[id]? with
      | some (.cells cs) => .ipt ((cs.drop off).map (frz σ n keep f))
      | _ => .undef := by simp only [frz, frzS]
theorem frz_sl {id off len k : Nat} : frz σ n keep (f + 1) (.sl id off len k) = match reid n keep id with
    | some id' => .sl id' off len k
    | none => match σ[id]? with
      | some (.cells cs) => .lst (some false) (chunks k len ((cs.drop off).map (frz σ n keep f))) .none
      | _ => .undef := by simp only [frz, frzS]
theorem frz_mapv {id : Nat} : frz σ n keep f (.map id) = match reid n keep id with
    | some id' => .map id'
    | none => .undef := by cases f <;> simp only [frz, frzS]
end

theorem frzT_clean {n : Nat} {keep : List Nat} {t : Tok} (h : cleanT n t = t) : frzT n keep t = t := by
  cases t with
  | own id m k =>
    simp only [cleanT] at h
    split at h
    · rename_i hlt; simp [frzT, reid, hlt]
    · cases h
  | _ => rfl

mutual
/-- A value that names old objects alone stays. -/
theorem frzS_clean {n : Nat} {keep : List Nat} {g h} : ∀ x : AV, clean n x = x → frzS n keep g h x = x
  | .ref id off, e => by
    simp only [clean] at e
    split at e
    · rename_i hlt; simp [frzS, reid, hlt]
    · cases e
  | .sl id off len k, e => by
    simp only [clean] at e
    split at e
    · rename_i hlt; simp [frzS, reid, hlt]
    · cases e
  | .map id, e => by
    simp only [clean] at e
    split at e
    · rename_i hlt; simp [frzS, reid, hlt]
    · cases e
  | .lst nl els tok, e => by
    simp only [clean, AV.lst.injEq, true_and] at e
    simp only [frzS, frzLL_clean els e.1, frzT_clean e.2]
  | .ipt cs, e => by simp only [clean, AV.ipt.injEq] at e; simp only [frzS, frzL_clean cs e]
  | .agg cs, e => by simp only [clean, AV.agg.injEq] at e; simp only [frzS, frzL_clean cs e]
  | .tup cs, e => by simp only [clean, AV.tup.injEq] at e; simp only [frzS, frzL_clean cs e]
  | .fn f cs, e => by simp only [clean, AV.fn.injEq, true_and] at e; simp only [frzS, frzL_clean cs e]
  | .iface t x, e => by simp only [clean, AV.iface.injEq, true_and] at e; simp only [frzS, frzS_clean x e]
  | .undef, _ => rfl
  | .int .., _ => rfl
  | .bool _, _ => rfl
  | .str _, _ => rfl
  | .nilp, _ => rfl
  | .nilfn, _ => rfl
  | .nilmap, _ => rfl
  | .nilif, _ => rfl
  | .skip, _ => rfl
theorem frzL_clean {n : Nat} {keep : List Nat} {g h} : ∀ xs : List AV, cleanL n xs = xs → frzL n keep g h xs = xs
  | [], _ => rfl
  | x :: xs, e => by
    simp only [cleanL, List.cons.injEq] at e
    simp only [frzL, frzS_clean x e.1, frzL_clean xs e.2]
theorem frzLL_clean {n : Nat} {keep : List Nat} {g h} : ∀ xs : List (List AV), cleanLL n xs = xs → frzLL n keep g h xs = xs
  | [], _ => rfl
  | x :: xs, e => by
    simp only [cleanLL, List.cons.injEq] at e
    simp only [frzLL, frzL_clean x e.1, frzLL_clean xs e.2]
end

theorem frz_clean {σ : AHeap} {n f : Nat} {keep : List Nat} {x : AV} (h : clean n x = x) : frz σ n keep f x = x := by
  cases f <;> exact frzS_clean x h
theorem frz_cleanL {σ : AHeap} {n f : Nat} {keep : List Nat} {xs : List AV} (h : cleanL n xs = xs) : xs.map (frz σ n keep f) = xs := by
  cases f <;> simp only [frz] <;> rw [← frzL_map] <;> exact frzL_clean xs h

def frzO (σ : AHeap) (n : Nat) (keep : List Nat) (f : Nat) : AObj → AObj
  | .cells cs => .cells (cs.map (frz σ n keep f))
  | .tok m => .tok m
  | .map es => .map (es.map fun e => (e.1, e.2.map (frz σ n keep f)))
  | .hole => .hole

theorem reid_lt {n : Nat} {keep : List Nat} {id : Nat} (h : id < n) : reid n keep id = some id := by simp [reid, h]

/-- The heap from now on. -/
def gcH (σ : AHeap) (n : Nat) (keep : List Nat) (f : Nat) : AHeap :=
  (σ.take n).map (frzO σ n keep f) ++ keep.map fun id => frzO σ n keep f (σ.getD id .hole)

/-- Where the objects lie from now on. -/
def gcI (ι : Inj) (n : Nat) (keep : List Nat) : Inj := fun j => if j < n then ι j else (keep[j - n]?).bind ι

section
variable {B : Nat} {w0 w : World} {σ : AHeap} {ι : Inj} {n f : Nat} {keep : List Nat}

theorem gcH_length (hn : n ≤ σ.length) : (gcH σ n keep f).length = n + keep.length := by simp [gcH, Nat.min_eq_left hn]

theorem idx_get {l : List Nat} {x j : Nat} (h : l.idxOf? x = some j) : l[j]? = some x := by
  induction l generalizing j with
  | nil => simp at h
  | cons y ys ih =>
    rw [List.idxOf?_cons] at h
    split at h
    · rename_i e
      cases h
      simp at e; simp [e]
    · cases hh : ys.idxOf? x with
      | none => rw [hh] at h; simp at h
      | some q =>
        rw [hh] at h
        simp only [Option.map_some, Option.some.injEq] at h
        subst h
        simpa using ih hh

theorem get_idx {l : List Nat} (hd : l.Nodup) {x j : Nat} (h : l[j]? = some x) : l.idxOf? x = some j := by
  induction l generalizing j with
  | nil => simp at h
  | cons y ys ih =>
    obtain ⟨h1, h2⟩ := List.nodup_cons.1 hd
    rw [List.idxOf?_cons]
    cases j with
    | zero => simp at h; simp [h]
    | succ j =>
      simp only [List.getElem?_cons_succ] at h
      have hne : ¬ (y == x) = true := by
        intro e
        have e' : y = x := by simpa using e
        exact h1 (e' ▸ List.mem_of_getElem? h)
      rw [if_neg hne, ih h2 h]
      rfl

/-- What is kept stands where it is said to stand. -/
theorem gc_fore (hn : n ≤ σ.length) (hk : ∀ id ∈ keep, id < σ.length) {id id' : Nat} {o : AObj} (h : σ[id]? = some o) (hr : reid n keep id = some id') : (gcH σ n keep f)[id']? = some (frzO σ n keep f o) ∧ gcI ι n keep id' = ι id := by
  unfold reid at hr
  split at hr
  · rename_i hlt
    cases hr
    refine ⟨?_, by simp [gcI, hlt]⟩
    unfold gcH
    rw [List.getElem?_append_left (by simp; omega), List.getElem?_map, List.getElem?_take, if_pos hlt, h]
    rfl
  · simp only [Option.map_eq_some_iff] at hr
    obtain ⟨j, h1, rfl⟩ := hr
    have h2 := idx_get h1
    refine ⟨?_, by simp only [gcI, if_neg (show ¬ n + j < n by omega), Nat.add_sub_cancel_left, h2, Option.bind_some]⟩
    unfold gcH
    rw [List.getElem?_append_right (by simp; omega)]
    simp only [List.length_map, List.length_take, Nat.min_eq_left hn, Nat.add_sub_cancel_left, List.getElem?_map, h2, Option.map_some]
    rw [List.getD_eq_getElem?_getD, h]
    rfl

theorem gc_back (hn : n ≤ σ.length) (hk : ∀ id ∈ keep, n ≤ id ∧ id < σ.length) (hd : keep.Nodup) {j : Nat} {o : AObj} (h : (gcH σ n keep f)[j]? = some o) : ∃ i o', σ[i]? = some o' ∧ o = frzO σ n keep f o' ∧ gcI ι n keep j = ι i ∧ reid n keep i = some j := by
  unfold gcH at h
  rcases Nat.lt_or_ge j n with hlt | hge
  · rw [List.getElem?_append_left (by simp; omega), List.getElem?_map, List.getElem?_take, if_pos hlt] at h
    simp only [Option.map_eq_some_iff] at h
    obtain ⟨o', h1, h2⟩ := h
    exact ⟨j, o', h1, h2.symm, by simp [gcI, hlt], reid_lt hlt⟩
  · rw [List.getElem?_append_right (by simp; omega)] at h
    simp only [List.length_map, List.length_take, Nat.min_eq_left hn, List.getElem?_map, Option.map_eq_some_iff] at h
    obtain ⟨i, h1, h2⟩ := h
    have hm := hk i (List.mem_of_getElem? h1)
    refine ⟨i, σ[i]'hm.2, List.getElem?_eq_getElem hm.2, ?_, ?_, ?_⟩
    · rw [← h2, List.getD_eq_getElem?_getD, List.getElem?_eq_getElem hm.2]; rfl
    · simp [gcI, show ¬ j < n by omega, h1]
    · simp only [reid, if_neg (show ¬ i < n by omega), get_idx hd h1, Option.map_some, Option.some.injEq]; omega

theorem gc_safe (hn : n ≤ σ.length) (hk : ∀ id ∈ keep, n ≤ id ∧ id < σ.length) (hd : keep.Nodup) {b hi : Nat} (h : Safe σ ι b hi) : Safe (gcH σ n keep f) (gcI ι n keep) b hi := by
  intro j o x h1 h2
  obtain ⟨i, o', g1, g2, g3, _⟩ := gc_back (ι := ι) hn hk hd h1
  have := h i o' x g1 (g3 ▸ h2)
  subst g2
  cases o' <;> simp_all [frzO]

/-- Nobody writes a block whose object is not kept. -/
theorem gc_safe' (hr : Rel B w0 σ ι w) (hn : n ≤ σ.length) (hk : ∀ id ∈ keep, n ≤ id ∧ id < σ.length) (hd : keep.Nodup) {id b y hi : Nat} {o : AObj} (h : σ[id]? = some o) (hi' : ι id = some (b, y)) (hnone : reid n keep id = none) : Safe (gcH σ n keep f) (gcI ι n keep) b hi := by
  intro j o' x h1 h2
  obtain ⟨i, o'', g1, g2, g3, g4⟩ := gc_back (ι := ι) hn hk hd h1
  have := hr.inj i id _ _ _ _ _ g1 h (g3 ▸ h2) hi'
  subst this
  rw [hnone] at g4; cases g4

theorem VLd {ι w} : ∀ (m : Nat) (xs : List AV) (b off : Nat), VL σ ι w b off xs → VL σ ι w b (off + m) (xs.drop m)
  | 0, _, _, _, h => h
  | m + 1, [], _, _, _ => by simp [VL]
  | m + 1, x :: xs, b, off, h => by
    simp only [VL] at h
    have := VLd m xs b (off + 1) h.2
    rwa [show off + 1 + m = off + (m + 1) by omega] at this

theorem VL_chunk {ι w} (k : Nat) : ∀ (m : Nat) (l : List AV) (b off : Nat), m * k ≤ l.length → VL σ ι w b off l → VLL σ ι w b off k (chunks k m l)
  | 0, _, _, _, _, _ => by simp [chunks, VLL]
  | m + 1, l, b, off, h, hv => by
    rw [Nat.succ_mul] at h
    simp only [chunks, VLL]
    refine ⟨by simp; omega, ?_, VL_chunk k m _ b (off + k) (by simp; omega) (VLd k l b off hv)⟩
    have key : ∀ (q : Nat) (l : List AV) (off : Nat), VL σ ι w b off l → VL σ ι w b off (l.take q) := by
      intro q
      induction q with
      | zero => intro l off _; simp [VL]
      | succ q ih =>
        intro l off h
        cases l with
        | nil => simp [VL]
        | cons x xs => simp only [VL] at h; simp only [List.take_succ_cons, VL]; exact ⟨h.1, ih xs _ h.2⟩
    exact key k l off hv

theorem VL_map {σ' : AHeap} {ι' : Inj} {g : AV → AV} (h : ∀ x v, V σ ι w x v → V σ' ι' w (g x) v) : ∀ (xs : List AV) (b off : Nat), VL σ ι w b off xs → VL σ' ι' w b off (xs.map g)
  | [], _, _, _ => by simp [VL]
  | x :: xs, b, off, hv => by
    simp only [VL] at hv
    obtain ⟨⟨v, h1, h2⟩, h3⟩ := hv
    simp only [List.map_cons, VL]
    exact ⟨⟨v, h1, h x v h2⟩, VL_map h xs b _ h3⟩
theorem VLL_map {σ' : AHeap} {ι' : Inj} {g : AV → AV} (h : ∀ x v, V σ ι w x v → V σ' ι' w (g x) v) : ∀ (xs : List (List AV)) (b off k : Nat), VLL σ ι w b off k xs → VLL σ' ι' w b off k (xs.map fun el => el.map g)
  | [], _, _, _, _ => by simp [VLL]
  | x :: xs, b, off, k, hv => by
    simp only [VLL] at hv
    simp only [List.map_cons, VLL]
    exact ⟨by simpa using hv.1, VL_map h x b off hv.2.1, VLL_map h xs b _ k hv.2.2⟩
theorem VT_map {σ' : AHeap} {ι' : Inj} {g : AV → AV} (h : ∀ x v, V σ ι w x v → V σ' ι' w (g x) v) : ∀ (xs : List AV) (vs : List Value), VT σ ι w xs vs → VT σ' ι' w (xs.map g) vs
  | [], _, hv => by simpa [VT] using hv
  | x :: xs, vs, hv => by
    simp only [VT] at hv
    obtain ⟨u, us, e, h2, h3⟩ := hv
    simp only [List.map_cons, VT]
    exact ⟨u, us, e, h x u h2, VT_map h xs us h3⟩

theorem gc_tok (hn : n ≤ σ.length) (hk : ∀ id ∈ keep, n ≤ id ∧ id < σ.length) {a : Option Addr} {len cap : Nat} {t : Tok} (h : TokOk σ ι w a len cap t) : TokOk (gcH σ n keep f) (gcI ι n keep) w a len cap (frzT n keep t) := by
  cases t with
  | none => trivial
  | full => exact h
  | own id m k =>
    obtain ⟨h1, ⟨q, h2, h3⟩, h4⟩ := h
    simp only [frzT]
    split
    · rename_i id' hr
      obtain ⟨g1, g2⟩ := gc_fore (ι := ι) (f := f) hn (fun id h => (hk id h).2) h2 hr
      refine ⟨h1, ⟨q, g1, h3⟩, fun hm => ?_⟩
      have hq : q = m := by rw [g1] at hm; simpa [frzO] using hm
      subst hq
      rcases h4 h2 with h5 | ⟨b, off, h5, h6, h7⟩
      · exact Or.inl h5
      · exact Or.inr ⟨b, off, h5, g2.trans h6, h7⟩
    · trivial

section
variable {σ' : AHeap} {ι' : Inj} {g : Nat → Nat → AV} {h : Nat → Nat → Nat → Nat → AV}
  (hg : ∀ id off v, reid n keep id = none → V σ ι w (.ref id off) v → V σ' ι' w (g id off) v)
  (hh : ∀ id off len k v, reid n keep id = none → V σ ι w (.sl id off len k) v → V σ' ι' w (h id off len k) v)
  (hf : ∀ id id' o, σ[id]? = some o → reid n keep id = some id' → ∃ f, σ'[id']? = some (frzO σ n keep f o) ∧ ι' id' = ι id)
  (hs : ∀ b hi, Safe σ ι b hi → Safe σ' ι' b hi)
  (ht : ∀ a len cap t, TokOk σ ι w a len cap t → TokOk σ' ι' w a len cap (frzT n keep t))
include hg hh hf hs ht
mutual
theorem V_frzS : ∀ (x : AV) (v : Value), V σ ι w x v → V σ' ι' w (frzS n keep g h x) v
  | .undef, v, hv => by simp [frzS, V]
  | .int .., v, hv => by simpa [frzS, V] using hv
  | .bool _, v, hv => by simpa [frzS, V] using hv
  | .str _, v, hv => by simpa [frzS, V] using hv
  | .nilp, v, hv => by simpa [frzS, V] using hv
  | .nilfn, v, hv => by simpa [frzS, V] using hv
  | .nilmap, v, hv => by simpa [frzS, V] using hv
  | .nilif, v, hv => by simpa [frzS, V] using hv
  | .skip, v, hv => by simpa [frzS, V] using hv
  | .ref id off, v, hv => by
    simp only [frzS]
    cases hre : reid n keep id with
    | none => exact hg id off v hre hv
    | some id' =>
      simp only [V] at hv ⊢
      obtain ⟨cs, b, y, h1, h2, h3⟩ := hv
      obtain ⟨f, g1, g2⟩ := hf id id' _ h1 hre
      exact ⟨_, b, y, g1, g2.trans h2, h3⟩
  | .sl id off len k, v, hv => by
    simp only [frzS]
    cases hre : reid n keep id with
    | none => exact hh id off len k v hre hv
    | some id' =>
      simp only [V] at hv ⊢
      obtain ⟨cs, b, y, cap, q, h1, h2, h3, h4, h5, h6⟩ := hv
      obtain ⟨f, g1, g2⟩ := hf id id' _ h1 hre
      exact ⟨_, b, y, cap, q, g1, g2.trans h2, h3, h4, by simpa using h5, h6⟩
  | .map id, v, hv => by
    simp only [frzS]
    cases hre : reid n keep id with
    | none => simp [V]
    | some id' =>
      simp only [V] at hv ⊢
      obtain ⟨es, b, y, h1, h2, h3⟩ := hv
      obtain ⟨f, g1, g2⟩ := hf id id' _ h1 hre
      exact ⟨_, b, y, g1, g2.trans h2, h3⟩
  | .lst nl els tok, v, hv => by
    simp only [V] at hv
    obtain ⟨a, cap, h1, h2, h3, h4, h5, h6⟩ := hv
    simp only [frzS, V]
    have hl : (frzLL n keep g h els).length = els.length := by rw [frzLL_map]; simp
    refine ⟨a, cap, by rw [hl]; exact h1, h2, by rw [hl]; exact h3, by rw [hl]; exact ht _ _ _ _ h4, fun ha => by rw [h5 ha]; rfl, fun ad had => ?_⟩
    obtain ⟨b, off, k, e1, e2, e3, e4⟩ := h6 ad had
    exact ⟨b, off, k, e1, e2, hs _ _ (by rw [hl]; exact e3), VLL_frzS els b off k e4⟩
  | .ipt cs, v, hv => by
    simp only [V] at hv
    obtain ⟨b, off, h1, h2, h3, h4⟩ := hv
    simp only [frzS, V]
    have hl : (frzL n keep g h cs).length = cs.length := by rw [frzL_map]; simp
    exact ⟨b, off, h1, h2, hs _ _ (by rw [hl]; exact h3), VL_frzS cs b off h4⟩
  | .agg cs, v, hv => by
    simp only [V] at hv
    obtain ⟨vs, h1, h2⟩ := hv
    simp only [frzS, V]
    exact ⟨vs, h1, VT_frzS cs _ h2⟩
  | .tup cs, v, hv => by
    simp only [V] at hv
    obtain ⟨vs, h1, h2⟩ := hv
    simp only [frzS, V]
    exact ⟨vs, h1, VT_frzS cs _ h2⟩
  | .fn f cs, v, hv => by
    simp only [V] at hv
    obtain ⟨vs, h1, h2⟩ := hv
    simp only [frzS, V]
    exact ⟨vs, h1, VT_frzS cs _ h2⟩
  | .iface t x, v, hv => by
    simp only [V] at hv
    obtain ⟨u, h1, h2⟩ := hv
    simp only [frzS, V]
    exact ⟨u, h1, V_frzS x u h2⟩
theorem VL_frzS : ∀ (xs : List AV) (b off : Nat), VL σ ι w b off xs → VL σ' ι' w b off (frzL n keep g h xs)
  | [], _, _, _ => by have _ := hg; have _ := hh; have _ := hf; have _ := hs; have _ := ht; simp [frzL, VL]
  | x :: xs, b, off, hv => by
    simp only [VL] at hv
    obtain ⟨⟨v, h1, h2⟩, h3⟩ := hv
    simp only [frzL, VL]
    exact ⟨⟨v, h1, V_frzS x v h2⟩, VL_frzS xs b _ h3⟩
theorem VLL_frzS : ∀ (xs : List (List AV)) (b off k : Nat), VLL σ ι w b off k xs → VLL σ' ι' w b off k (frzLL n keep g h xs)
  | [], _, _, _, _ => by have _ := hg; have _ := hh; have _ := hf; have _ := hs; have _ := ht; simp [frzLL, VLL]
  | x :: xs, b, off, k, hv => by
    simp only [VLL] at hv
    simp only [frzLL, VLL]
    exact ⟨by rw [frzL_map]; simpa using hv.1, VL_frzS x b off hv.2.1, VLL_frzS xs b _ k hv.2.2⟩
theorem VT_frzS : ∀ (xs : List AV) (vs : List Value), VT σ ι w xs vs → VT σ' ι' w (frzL n keep g h xs) vs
  | [], vs, hv => by have _ := hg; have _ := hh; have _ := hf; have _ := hs; have _ := ht; simpa [frzL, VT] using hv
  | x :: xs, vs, hv => by
    simp only [VT] at hv
    obtain ⟨u, us, e, h2, h3⟩ := hv
    simp only [frzL, VT]
    exact ⟨u, us, e, V_frzS x u h2, VT_frzS xs us h3⟩
end
end

/-- What stood for a value does so, seen anew. -/
theorem V_frz (hr : Rel B w0 σ ι w) (hn : n ≤ σ.length) (hk : ∀ id ∈ keep, n ≤ id ∧ id < σ.length) (hd : keep.Nodup) (F : Nat) : ∀ (f : Nat) (x : AV) (v : Value), V σ ι w x v → V (gcH σ n keep F) (gcI ι n keep) w (frz σ n keep f x) v := by
  have hk' : ∀ id ∈ keep, id < σ.length := fun id h => (hk id h).2
  have hf : ∀ id id' o, σ[id]? = some o → reid n keep id = some id' → ∃ f, (gcH σ n keep F)[id']? = some (frzO σ n keep f o) ∧ gcI ι n keep id' = ι id := fun id id' o h1 h2 => ⟨F, gc_fore hn hk' h1 h2⟩
  intro f
  induction f with
  | zero => exact V_frzS (fun _ _ _ _ _ => by simp [V]) (fun _ _ _ _ _ _ _ => by simp [V]) hf (fun _ _ => gc_safe hn hk hd) (fun _ _ _ _ => gc_tok hn hk)
  | succ f ih =>
    refine V_frzS (fun id off v hre hv => ?_) (fun id off len k v hre hv => ?_) hf (fun _ _ => gc_safe hn hk hd) (fun _ _ _ _ => gc_tok hn hk)
    · simp only [V] at hv
      obtain ⟨cs, b, y, h1, h2, h3⟩ := hv
      simp only [h1]
      obtain ⟨b', y', e, hl, _⟩ := hr.obj id _ h1
      rw [h2] at e; cases e
      simp only [V]
      have := VL_map ih _ _ _ (VLd off cs b 0 hl)
      rw [Nat.zero_add] at this
      exact ⟨b, off, h3, (hr.blk id _ b y h1 h2).2, gc_safe' hr hn hk hd h1 h2 hre, this⟩
    · simp only [V] at hv
      obtain ⟨cs, b, y, cap, q, h1, h2, h3, h4, h5, h6⟩ := hv
      simp only [h1]
      obtain ⟨b', y', e, hl, _⟩ := hr.obj id _ h1
      rw [h2] at e; cases e
      simp only [V]
      have hm := VL_map ih _ _ _ (VLd off cs b 0 hl)
      rw [Nat.zero_add] at hm
      refine ⟨some (at_ b q), cap, by rw [chunks_length]; exact h3, by simp, by rw [chunks_length]; exact h4, trivial, by simp, fun ad had => ?_⟩
      cases had
      refine ⟨b, q, k, rfl, (hr.blk id _ b y h1 h2).2, gc_safe' hr hn hk hd h1 h2 hre, ?_⟩
      cases len with
      | zero => simp [chunks, VLL]
      | succ len =>
        rw [h6 (by omega)]
        exact VL_chunk k _ _ _ _ (by simp; omega) hm

theorem Rel.gc (hr : Rel B w0 σ ι w) (hn : n ≤ σ.length) (hk : ∀ id ∈ keep, n ≤ id ∧ id < σ.length) (hd : keep.Nodup) : Rel B w0 (gcH σ n keep f) (gcI ι n keep) w where
  below := hr.below
  hB := hr.hB
  obj := fun id o ho => by
    obtain ⟨i, o', g1, rfl, g3, g4⟩ := gc_back (ι := ι) hn hk hd ho
    have h1 := hr.obj i o' g1
    rw [g3]
    cases o' with
    | cells cs =>
      obtain ⟨b, y, e, hl, hf⟩ := h1
      exact ⟨b, y, e, VL_map (V_frz hr hn hk hd f f) _ _ _ hl, by simpa using hf⟩
    | tok m => trivial
    | hole => exact h1
    | map es => exact h1.elim
  blk := fun id o b x ho hi => by
    obtain ⟨i, o', g1, _, g3, _⟩ := gc_back (ι := ι) hn hk hd ho
    exact hr.blk i o' b x g1 (g3 ▸ hi)
  inj := fun i j oi oj b x y hi hj h1 h2 => by
    obtain ⟨i', oi', g1, _, g3, g4⟩ := gc_back (ι := ι) hn hk hd hi
    obtain ⟨j', oj', k1, _, k3, k4⟩ := gc_back (ι := ι) hn hk hd hj
    have := hr.inj i' j' _ _ _ _ _ g1 k1 (g3 ▸ h1) (k3 ▸ h2)
    subst this
    rw [g4] at k4; cases k4; rfl

end
end Go.Sal
