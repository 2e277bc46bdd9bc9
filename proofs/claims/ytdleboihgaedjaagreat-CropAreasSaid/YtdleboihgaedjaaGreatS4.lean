import Derived.Test.YtdleboihgaedjaaGreatS3
namespace Go.Sal
open Go

/-- A point lies in a rectangle. -/
def Rect.Has (r : Rect) (x y : Int) : Prop := r.x0 ≤ x ∧ x < r.x1 ∧ r.y0 ≤ y ∧ y < r.y1
theorem Rect.inter_has {r s : Rect} {x y : Int} : (r.inter s).Has x y ↔ r.Has x y ∧ s.Has x y := by
  unfold inter; split
  · rename_i h; simp only [Empty, meet, imin, imax, Has, zero] at *
    constructor
    · intro k; omega
    · intro ⟨a, b⟩; exfalso; split at h <;> split at h <;> split at h <;> split at h <;> omega
  · simp only [Has, meet, imin, imax]
    constructor
    · intro k; split at k <;> split at k <;> split at k <;> split at k <;> omega
    · intro ⟨a, b⟩; split <;> split <;> split <;> split <;> omega
theorem Rect.full {r : Rect} : ¬ r.Empty ↔ ∃ x y, r.Has x y := by
  unfold Empty Has
  constructor
  · intro h; exact ⟨r.x0, r.y0, by omega⟩
  · rintro ⟨x, y, h⟩; omega
/-- The cells of a grid that a window touches. -/
def Rect.touched (l : List Rect) (win : Rect) : List Rect := l.filter fun r => !decide (r.inter win).Empty
theorem Rect.touched_nil {l : List Rect} {win : Rect} : Rect.touched l win = [] ↔ ∀ r ∈ l, (r.inter win).Empty := by
  simp [touched]
theorem ediv_in {x w : Int} (hw : 1 ≤ w) : x / w * w ≤ x ∧ x < (x / w + 1) * w := by
  have h3 := Int.emod_nonneg x (show w ≠ 0 by omega)
  have h6 := Int.emod_lt_of_pos x (show 0 < w by omega)
  have h7 := Int.mul_ediv_add_emod x w
  rw [Int.add_mul, Int.mul_comm (x / w) w]; omega
theorem Rect.grid_mem {r : Rect} {w h : Int} {s : Rect} : s ∈ r.grid w h ↔ ∃ i j : Nat, i < (up r.x1 w - r.x0 / w).toNat ∧ j < (up r.y1 h - r.y0 / h).toNat ∧ s = r.cell w h (r.x0 / w + i) (r.y0 / h + j) := by
  simp only [grid, rows, row, List.mem_flatMap, List.mem_range, List.mem_map]
  constructor
  · rintro ⟨j, hj, i, hi, rfl⟩; exact ⟨i, j, hi, hj, rfl⟩
  · rintro ⟨i, j, hi, hj, rfl⟩; exact ⟨j, hj, i, hi, rfl⟩
theorem lt_up {x b w : Int} (hx : x < b) (hw : 1 ≤ w) : x / w < up b w := by
  have h1 : x / w ≤ (b - 1) / w := Int.ediv_le_ediv (by omega) (by omega)
  have h2 : up b w = (b - 1) / w + 1 := by unfold up; rw [show b + w - 1 = (b - 1) + w * 1 by omega, Int.add_mul_ediv_left _ _ (by omega)]
  omega
/-- A window that touches the area touches a cell. -/
theorem Rect.touch {r win : Rect} {w h : Int} (hw : 1 ≤ w) (hh : 1 ≤ h) : Rect.touched (r.grid w h) win = [] ↔ (r.inter win).Empty := by
  rw [touched_nil]
  constructor
  · intro k
    apply Decidable.by_contra; intro he
    obtain ⟨x, y, hp⟩ := full.mp he
    obtain ⟨ha, hb⟩ := inter_has.mp hp
    have e1 : r.x0 / w ≤ x / w := Int.ediv_le_ediv (by omega) ha.1
    have e2 := lt_up ha.2.1 hw
    have e3 : r.y0 / h ≤ y / h := Int.ediv_le_ediv (by omega) ha.2.2.1
    have e4 := lt_up ha.2.2.2 hh
    refine full.mpr ?_ (k (r.cell w h (x / w) (y / h)) (grid_mem.mpr ⟨(x / w - r.x0 / w).toNat, (y / h - r.y0 / h).toNat, by omega, by omega, ?_⟩))
    · refine ⟨x, y, inter_has.mpr ⟨?_, hb⟩⟩
      have q1 := ediv_in (x := x) hw
      have q2 := ediv_in (x := y) hh
      exact inter_has.mpr ⟨ha, q1.1, q1.2, q2.1, q2.2⟩
    · congr 1 <;> omega
  · intro k s hs
    apply Decidable.by_contra; intro he
    obtain ⟨x, y, hp⟩ := full.mp he
    obtain ⟨ha, hb⟩ := inter_has.mp hp
    obtain ⟨i, j, _, _, rfl⟩ := grid_mem.mp hs
    exact full.mpr ⟨x, y, inter_has.mpr ⟨(inter_has.mp ha).1, hb⟩⟩ k
/-- The rectangle about two. -/
def Rect.join (a b : Rect) : Rect := ⟨imin a.x0 b.x0, imin a.y0 b.y0, imax a.x1 b.x1, imax a.y1 b.y1⟩
def Rect.bstep (a b : Rect) : Rect := if b.Empty then a else if a.Empty then b else a.join b
def Rect.bound (l : List Rect) : Rect := l.foldl Rect.bstep .zero
theorem Rect.bound_snoc (l : List Rect) (b : Rect) : bound (l ++ [b]) = (bound l).bstep b := by simp [bound]
theorem Rect.bound_take {l : List Rect} {i : Nat} (h : i < l.length) : bound (l.take (i + 1)) = (bound (l.take i)).bstep l[i] := by
  rw [List.take_succ_eq_append_getElem h, bound_snoc]
theorem Rect.bstep_e {a b : Rect} (h : b.Empty) : a.bstep b = a := by simp [bstep, h]
theorem Rect.bstep_s {a b : Rect} (h : ¬ b.Empty) (k : a.Empty) : a.bstep b = b := by simp [bstep, h, k]
theorem Rect.bstep_j {a b : Rect} (h : ¬ b.Empty) (k : ¬ a.Empty) : a.bstep b = a.join b := by simp [bstep, h, k]
theorem Rect.zero_empty : Rect.zero.Empty := by decide
theorem Rect.join_full {a b : Rect} (h : ¬ a.Empty) : ¬ (a.join b).Empty := by
  unfold Empty join imin imax at *; simp only; split <;> split <;> split <;> split <;> omega
theorem Rect.join_self (a : Rect) : a.join a = a := by simp [join, imin, imax]
end Go.Sal
