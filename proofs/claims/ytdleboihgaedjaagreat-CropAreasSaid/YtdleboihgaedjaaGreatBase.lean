/- Base: tactics and small facts for the functions' texts. -/
import Derived.Test.YtdleboihgaedjaaGreatSalR
namespace Go.Sal
open Go

attribute [simp] cleanO
theorem cleanT_le {n m : Nat} {tok : Tok} (h : n ≤ m) (e : cleanT n tok = tok) : cleanT m tok = tok := by
  cases tok with
  | own id a b =>
    simp only [cleanT] at e ⊢
    split at e
    · rw [if_pos (by omega)]
    · cases e
  | _ => rfl
theorem all_take_succ {α : Type} {p : α → Prop} {l : List α} {i : Nat} (h : i < l.length) : (∀ x ∈ l.take (i + 1), p x) ↔ (∀ x ∈ l.take i, p x) ∧ p l[i] := by
  rw [List.take_succ_eq_append_getElem h]; simp only [List.mem_append, List.mem_singleton, or_imp, forall_and, forall_eq]

section
variable {α : Type} {g : α → List AV} {l l' : List α} {σ : AHeap} {n f i : Nat} {keep : List Nat}
@[simp] theorem els_nil : els g [] = [] := rfl
@[simp] theorem els_length : (els g l).length = l.length := by simp [els]
theorem els_cons {a : α} : els g (a :: l) = g a :: els g l := rfl
@[simp] theorem els_take : (els g l).take i = els g (l.take i) := by simp [els, List.map_take]
@[simp] theorem els_drop : (els g l).drop i = els g (l.drop i) := by simp [els, List.map_drop]
@[simp] theorem els_append : els g l ++ els g l' = els g (l ++ l') := by simp [els]
@[simp] theorem els_getD : (els g l).getD i [] = (l[i]?.map g).getD [] := by simp [els, List.getD_eq_getElem?_getD]
@[simp] theorem els_get? : (els g l)[i]? = l[i]?.map g := by simp [els]
@[simp] theorem els_forall {p : List AV → Prop} : (∀ el ∈ els g l, p el) ↔ ∀ a ∈ l, p (g a) := by simp [els]
theorem els_frz (h : ∀ a, (g a).map (frz σ n keep f) = g a) : frzE σ n keep f (els g l) = els g l := frzE_map h
theorem els_clean (h : ∀ a, cleanL n (g a) = g a) : cleanLL n (els g l) = els g l := by
  rw [cleanLL_map]; unfold els; rw [List.map_map]
  exact List.map_congr_left fun a _ => h a
theorem els_one {a : α} : els g [a] = [g a] := rfl
@[simp] theorem els_snoc {a : α} : els g l ++ [g a] = els g (l ++ [a]) := by simp [els]
end

attribute [simp] bels
@[simp] theorem els_getElem {α : Type} {g : α → List AV} {l : List α} {i : Nat} {h : i < (els g l).length} : (els g l)[i] = g (l[i]'(by simpa using h)) := by simp [els]
theorem drop_take' {α : Type} (l : List α) (a n : Nat) : (l.take (a + n)).drop a = (l.drop a).take n := by rw [List.drop_take]; congr 1; omega
theorem WkLL_of {σ : AHeap} {α : Type} {g : α → List AV} {l l' : List α} (h : l = l') : WkLL σ (els g l) (els g l') := h ▸ WkLL_refl σ _
theorem take_eq_succ {α : Type} {l m : List α} {i : Nat} (h1 : i < l.length) (h2 : i < m.length) (h : l.take i = m.take i) (e : l[i] = m[i]) : l.take (i + 1) = m.take (i + 1) := by
  rw [List.take_succ_eq_append_getElem h1, List.take_succ_eq_append_getElem h2, h, e]
theorem take_eq_all {α : Type} {l m : List α} {i : Nat} (hl : l.length = m.length) (hi : ¬ i < l.length) (h : l.take i = m.take i) : l = m := by
  rwa [List.take_of_length_le (by omega), List.take_of_length_le (by omega)] at h
theorem ne_of_get {α : Type} {l m : List α} {i : Nat} (h1 : i < l.length) (h2 : i < m.length) (e : l[i] ≠ m[i]) : l ≠ m := by
  rintro rfl; exact e rfl
def InR (lo hi a : Int) : Prop := lo ≤ a ∧ a ≤ hi
instance (lo hi a : Int) : Decidable (InR lo hi a) := by unfold InR; exact inferInstance
def InR2 (lo hi a b : Int) : Prop := InR lo hi a ∧ InR lo hi b
instance (lo hi a b : Int) : Decidable (InR2 lo hi a b) := by unfold InR2; exact inferInstance
def InRs (lo hi : Int) (ns : List Int) : Prop := ∀ n ∈ ns, InR lo hi n
instance (lo hi : Int) (ns : List Int) : Decidable (InRs lo hi ns) := by unfold InRs; exact inferInstance

/-- Division rounded up and down, as the code has it. -/
def ceilDiv (a b : Int) : Int := if b < 1 then 0 else if 0 < a.tmod b then IntKind.i64.wrap (IntKind.i64.wrap (a.tdiv b) + 1) else IntKind.i64.wrap (a.tdiv b)
def floorDiv (a b : Int) : Int := if b < 1 then 0 else if a.tmod b < 0 then IntKind.i64.wrap (IntKind.i64.wrap (a.tdiv b) - 1) else IntKind.i64.wrap (a.tdiv b)

structure Rect where
  (x0 y0 x1 y1 : Int)
deriving DecidableEq

abbrev i64 (n : Int) : AV := .int .i64 n
@[simp, reducible] def Rect.cells (r : Rect) : List AV := [i64 r.x0, i64 r.y0, i64 r.x1, i64 r.y1]
@[reducible] def Rect.av (r : Rect) : AV := .agg r.cells
def Rect.zero : Rect := ⟨0, 0, 0, 0⟩
def Rect.Valid (r : Rect) : Prop := 0 ≤ r.x0 ∧ r.x0 ≤ r.x1 ∧ r.x1 ≤ 4096 ∧ 0 ≤ r.y0 ∧ r.y0 ≤ r.y1 ∧ r.y1 ≤ 4096
instance (r : Rect) : Decidable r.Valid := by unfold Rect.Valid; exact inferInstance
def Rect.Empty (r : Rect) : Prop := r.x1 ≤ r.x0 ∨ r.y1 ≤ r.y0
instance (r : Rect) : Decidable r.Empty := by unfold Rect.Empty; exact inferInstance
def Rect.area (r : Rect) : Int := if r.Valid then IntKind.i64.wrap (IntKind.i64.wrap (r.x1 - r.x0) * IntKind.i64.wrap (r.y1 - r.y0)) else 0
def imax (a b : Int) : Int := if a < b then b else a
def imin (a b : Int) : Int := if b < a then b else a
def Rect.meet (r s : Rect) : Rect := ⟨imax r.x0 s.x0, imax r.y0 s.y0, imin r.x1 s.x1, imin r.y1 s.y1⟩
def Rect.inter (r s : Rect) : Rect := if (r.meet s).Empty then .zero else r.meet s
def Rect.reduce (r : Rect) (dx dy : Int) : Rect :=
  if ¬ r.Valid ∨ dx < 1 ∨ 4096 < dx ∨ dy < 1 ∨ 4096 < dy then .zero else ⟨ceilDiv r.x0 dx, ceilDiv r.y0 dy, ceilDiv r.x1 dx, ceilDiv r.y1 dy⟩

structure Comp where
  depth : Int
  signed : Bool
  (dx dy : Int)
deriving DecidableEq
@[simp, reducible] def Comp.cells (c : Comp) : List AV := [i64 c.depth, .bool c.signed, i64 c.dx, i64 c.dy]
@[reducible] def Comp.av (c : Comp) : AV := .agg c.cells
/-- A slice by its elements. -/
@[reducible] def lv (els : List (List AV)) : AV := .lst none els .none
/-- A header. -/
structure Hdr where
  area : Rect
  (tw th : Int)
  comps : List Comp
deriving DecidableEq
@[reducible] def Hdr.cells (h : Hdr) : List AV := h.area.cells ++ [i64 h.tw, i64 h.th, lv (els Comp.cells h.comps)]
@[reducible] def Hdr.av (h : Hdr) : AV := .agg h.cells
def Hdr.zero : Hdr := ⟨.zero, 0, 0, []⟩
def Comp.Bad (a : Rect) (c : Comp) : Prop := ¬ InR 1 16 c.depth ∨ ¬ InR 1 4 c.dx ∨ ¬ InR 1 4 c.dy ∨ (a.reduce c.dx c.dy).Empty
instance (a : Rect) (c : Comp) : Decidable (c.Bad a) := by unfold Comp.Bad; exact inferInstance
def Comp.Big (a : Rect) (c : Comp) : Prop := 1048576 < (a.reduce c.dx c.dy).area
instance (a : Rect) (c : Comp) : Decidable (c.Big a) := by unfold Comp.Big; exact inferInstance
/-- The number of tiles, as the code has it. -/
def Hdr.tiles (h : Hdr) : Int := IntKind.i64.wrap (IntKind.i64.wrap (ceilDiv h.area.x1 h.tw - floorDiv h.area.x0 h.tw) * IntKind.i64.wrap (ceilDiv h.area.y1 h.th - floorDiv h.area.y0 h.th))
def Hdr.Rough (h : Hdr) : Prop := ¬ h.area.Valid ∨ h.area.Empty ∨ ¬ InR 1 4096 h.tw ∨ ¬ InR 1 4096 h.th ∨ ¬ InR 1 4 h.comps.length
instance (h : Hdr) : Decidable h.Rough := by unfold Hdr.Rough; exact inferInstance
@[simp] theorem rect_beq (a b : Rect) : (decide (a.x0 = b.x0) && (decide (a.y0 = b.y0) && (decide (a.x1 = b.x1) && decide (a.y1 = b.y1)))) = decide (a = b) := by
  rw [Bool.eq_iff_iff]; cases a; cases b; simp
@[simp] theorem comp_beq (a b : Comp) : (decide (a.depth = b.depth) && (a.signed == b.signed && (decide (a.dx = b.dx) && decide (a.dy = b.dy)))) = decide (a = b) := by
  rw [Bool.eq_iff_iff]; cases a; cases b; simp
attribute [simp] Rect.zero Hdr.zero
/-- The error of a header. -/
def Hdr.err (h : Hdr) : Int := if h.Rough then 12 else if ∃ c ∈ h.comps, c.Bad h.area then 12 else if 1024 < h.tiles then 5 else if ∃ c ∈ h.comps, c.Big h.area then 5 else 0
theorem Hdr.err_rough {h : Hdr} (r : h.Rough) : h.err = 12 := by unfold Hdr.err; rw [if_pos r]
theorem Hdr.err_bad {h : Hdr} (r : ¬ h.Rough) {i : Nat} (hi : i < h.comps.length) (b : h.comps[i].Bad h.area) : h.err = 12 := by
  unfold Hdr.err; rw [if_neg r, if_pos ⟨_, List.getElem_mem hi, b⟩]
theorem Hdr.err_tiles {h : Hdr} (r : ¬ h.Rough) (b : ∀ c ∈ h.comps, ¬ c.Bad h.area) (t : 1024 < h.tiles) : h.err = 5 := by
  unfold Hdr.err; rw [if_neg r, if_neg (fun ⟨c, h1, h2⟩ => b c h1 h2), if_pos t]
theorem Hdr.err_big {h : Hdr} (r : ¬ h.Rough) (b : ∀ c ∈ h.comps, ¬ c.Bad h.area) (t : ¬ 1024 < h.tiles) {i : Nat} (hi : i < h.comps.length) (g : h.comps[i].Big h.area) : h.err = 5 := by
  unfold Hdr.err; rw [if_neg r, if_neg (fun ⟨c, h1, h2⟩ => b c h1 h2), if_neg t, if_pos ⟨_, List.getElem_mem hi, g⟩]
theorem Hdr.err_ok {h : Hdr} (r : ¬ h.Rough) (b : ∀ c ∈ h.comps, ¬ c.Bad h.area) (t : ¬ 1024 < h.tiles) (g : ∀ c ∈ h.comps, ¬ c.Big h.area) : h.err = 0 := by
  unfold Hdr.err; rw [if_neg r, if_neg (fun ⟨c, h1, h2⟩ => b c h1 h2), if_neg t, if_neg (fun ⟨c, h1, h2⟩ => g c h1 h2)]
theorem wrap_i {n : Int} (h1 : -9223372036854775808 ≤ n) (h2 : n < 9223372036854775808) : IntKind.i64.wrap n = n := wrap_id ⟨h1, h2⟩
theorem wrap_succ {i n : Nat} (h : i < n) (hn : n ≤ 4611686018427387904) : IntKind.i64.wrap ((i : Int) + 1) = ((i + 1 : Nat) : Int) := by
  rw [wrap_id (by omega)]; simp
/-- A number's cells, a point's cells. -/
@[simp] def icell (n : Int) : List AV := [i64 n]
@[simp] def pcell (p : Int × Int) : List AV := [i64 p.1, i64 p.2]
attribute [simp] bcell
abbrev ints (l : List Int) : List (List AV) := els icell l
abbrev pts (l : List (Int × Int)) : List (List AV) := els pcell l
attribute [simp] ints pts
/-- Parameters. -/
structure Prm where
  (kernel levels color bx by_ : Int)
  prec : List (Int × Int)
  (order layers : Int)
  (bypass restart reset causal symbols : Bool)
  (divide sync fence : Bool)
  steps : List Int
  (dead shift : Int)
deriving DecidableEq
@[reducible] def Prm.cells (p : Prm) : List AV := [i64 p.kernel, i64 p.levels, i64 p.color, i64 p.bx, i64 p.by_, lv (pts p.prec), i64 p.order, i64 p.layers,
  .bool p.bypass, .bool p.restart, .bool p.reset, .bool p.causal, .bool p.symbols, .bool p.divide, .bool p.sync, .bool p.fence, lv (ints p.steps), i64 p.dead, i64 p.shift]
@[reducible] def Prm.av (p : Prm) : AV := .agg p.cells
def Prm.zero : Prm := ⟨0, 0, 0, 0, 0, [], 0, 0, false, false, false, false, false, false, false, false, [], 0, 0⟩
attribute [simp] Prm.zero
theorem maxLen_ge : 4611686018427387904 ≤ maxLen := by unfold maxLen; omega
theorem le_maxLen {n : Nat} (h : n ≤ 4611686018427387904) : n ≤ maxLen := by unfold maxLen; omega
/-- What is yielded is weaker than what is known. -/
theorem Wk_eq {σ : AHeap} {x y : AV} (h : x = y) : Wk σ x y := h ▸ Wk_refl σ x
theorem WkL_eq {σ : AHeap} {x y : List AV} (h : x = y) : WkL σ x y := h ▸ WkL_refl σ x
theorem WkLL_eq {σ : AHeap} {x y : List (List AV)} (h : x = y) : WkLL σ x y := h ▸ WkLL_refl σ x
@[simp] theorem frzE_b {α : AHeap} {n f : Nat} {keep : List Nat} {l} : frzE α n keep f (els bcell l) = els bcell l := els_frz (by simp)
@[simp] theorem cleanLL_b {n : Nat} {l} : cleanLL n (els bcell l) = els bcell l := els_clean (by simp)
@[simp] theorem frzE_i {α : AHeap} {n f : Nat} {keep : List Nat} {l} : frzE α n keep f (els icell l) = els icell l := els_frz (by simp)
@[simp] theorem cleanLL_i {n : Nat} {l} : cleanLL n (els icell l) = els icell l := els_clean (by simp)
@[simp] theorem frzE_p {α : AHeap} {n f : Nat} {keep : List Nat} {l} : frzE α n keep f (els pcell l) = els pcell l := els_frz (by simp)
@[simp] theorem cleanLL_p {n : Nat} {l} : cleanLL n (els pcell l) = els pcell l := els_clean (by simp)
@[simp] theorem frzE_r {α : AHeap} {n f : Nat} {keep : List Nat} {l} : frzE α n keep f (els Rect.cells l) = els Rect.cells l := els_frz (by simp)
@[simp] theorem cleanLL_r {n : Nat} {l} : cleanLL n (els Rect.cells l) = els Rect.cells l := els_clean (by simp)
@[simp] theorem frzE_c {α : AHeap} {n f : Nat} {keep : List Nat} {l} : frzE α n keep f (els Comp.cells l) = els Comp.cells l := els_frz (by simp)
@[simp] theorem cleanLL_c {n : Nat} {l} : cleanLL n (els Comp.cells l) = els Comp.cells l := els_clean (by simp)
end Go.Sal
