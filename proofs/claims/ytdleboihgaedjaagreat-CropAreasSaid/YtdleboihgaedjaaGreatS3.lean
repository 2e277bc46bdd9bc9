import Derived.Test.YtdleboihgaedjaaGreatBase
namespace Go.Sal
open Go

/-- Division rounded up. -/
def up (a b : Int) : Int := (a + b - 1) / b
theorem floorDiv_eq {a b : Int} (h0 : 0 ≤ a) (h1 : a ≤ 4096) (h2 : 1 ≤ b) : floorDiv a b = a / b := by
  have e1 : a.tdiv b = a / b := Int.tdiv_eq_ediv_of_nonneg h0
  have e2 : a.tmod b = a % b := Int.tmod_eq_emod_of_nonneg h0
  have h3 := Int.emod_nonneg a (show b ≠ 0 by omega)
  have h4 : a / b ≤ a := Int.ediv_le_self b h0
  have h5 : 0 ≤ a / b := Int.ediv_nonneg h0 (by omega)
  unfold floorDiv
  rw [if_neg (by omega), if_neg (by omega), e1, wrap_i (by omega) (by omega)]
theorem ceilDiv_eq {a b : Int} (h0 : 0 ≤ a) (h1 : a ≤ 4096) (h2 : 1 ≤ b) : ceilDiv a b = up a b := by
  have e1 : a.tdiv b = a / b := Int.tdiv_eq_ediv_of_nonneg h0
  have e2 : a.tmod b = a % b := Int.tmod_eq_emod_of_nonneg h0
  have h3 := Int.emod_nonneg a (show b ≠ 0 by omega)
  have h6 := Int.emod_lt_of_pos a (show 0 < b by omega)
  have h4 : a / b ≤ a := Int.ediv_le_self b h0
  have h5 : 0 ≤ a / b := Int.ediv_nonneg h0 (by omega)
  have h7 := Int.mul_ediv_add_emod a b
  unfold ceilDiv up
  rw [if_neg (by omega), e1, e2]
  split
  · rw [wrap_i (n := a / b) (by omega) (by omega), wrap_i (by omega) (by omega)]
    symm
    rw [show a + b - 1 = (a % b - 1) + b * (a / b + 1) by rw [Int.mul_add]; omega, Int.add_mul_ediv_left _ _ (by omega), Int.ediv_eq_zero_of_lt (by omega) (by omega)]; omega
  · rw [wrap_i (by omega) (by omega)]
    symm
    rw [show a + b - 1 = (b - 1) + b * (a / b) by omega, Int.add_mul_ediv_left _ _ (by omega), Int.ediv_eq_zero_of_lt (by omega) (by omega)]; omega
theorem up_le {a b : Int} (h0 : 0 ≤ a) (h1 : a ≤ 4096) (h2 : 1 ≤ b) : 0 ≤ up a b ∧ up a b ≤ 4097 := by
  have e := ceilDiv_eq h0 h1 h2
  have h4 : a / b ≤ a := Int.ediv_le_self b h0
  have h5 : 0 ≤ a / b := Int.ediv_nonneg h0 (by omega)
  unfold up
  constructor
  · exact Int.ediv_nonneg (by omega) (by omega)
  · have := Int.ediv_le_ediv (show 0 < b by omega) (show a + b - 1 ≤ a + b * 1 by omega)
    rw [Int.add_mul_ediv_left _ _ (by omega)] at this
    omega
theorem down_le {a b : Int} (h0 : 0 ≤ a) (h1 : a ≤ 4096) (_h2 : 1 ≤ b) : 0 ≤ a / b ∧ a / b ≤ 4096 :=
  ⟨Int.ediv_nonneg h0 (by omega), by have := Int.ediv_le_self b h0; omega⟩

theorem mul_ge {a b : Int} (h1 : -4097 ≤ a) (h2 : a ≤ 4097) (h3 : -4097 ≤ b) (h4 : b ≤ 4097) : -16785409 ≤ a * b := by
  have k1 := Int.mul_nonneg (show 0 ≤ a + 4097 by omega) (show 0 ≤ b + 4097 by omega)
  have k2 := Int.mul_nonneg (show 0 ≤ 4097 - a by omega) (show 0 ≤ 4097 - b by omega)
  rw [Int.add_mul, Int.mul_add, Int.mul_add] at k1
  rw [Int.sub_mul, Int.mul_sub, Int.mul_sub] at k2
  omega

theorem mul_in {a b : Int} (h1 : 0 ≤ a) (h2 : a ≤ 4098) (h3 : 0 ≤ b) (h4 : b ≤ 4096) : 0 ≤ a * b ∧ a * b ≤ 16785408 :=
  ⟨Int.mul_nonneg h1 h3, Int.le_trans (Int.mul_le_mul h2 h4 h3 (by omega)) (by omega)⟩

/-- A cell of a grid. -/
def Rect.cell (r : Rect) (w h i j : Int) : Rect := r.inter ⟨i * w, j * h, (i + 1) * w, (j + 1) * h⟩
/-- A row's first `n` cells. -/
def Rect.row (r : Rect) (w h left j : Int) (n : Nat) : List Rect := (List.range n).map fun i : Nat => r.cell w h (left + i) j
/-- The first `m` rows. -/
def Rect.rows (r : Rect) (w h left top : Int) (n m : Nat) : List Rect := (List.range m).flatMap fun j : Nat => r.row w h left (top + j) n
def Rect.grid (r : Rect) (w h : Int) : List Rect := r.rows w h (r.x0 / w) (r.y0 / h) (up r.x1 w - r.x0 / w).toNat (up r.y1 h - r.y0 / h).toNat
theorem Rect.row_succ (r : Rect) (w h left j : Int) (n : Nat) : r.row w h left j (n + 1) = r.row w h left j n ++ [r.cell w h (left + n) j] := by
  simp [row, List.range_succ]
theorem Rect.rows_succ (r : Rect) (w h left top : Int) (n m : Nat) : r.rows w h left top n (m + 1) = r.rows w h left top n m ++ r.row w h left (top + m) n := by
  simp [rows, List.range_succ]
@[simp] theorem Rect.row_zero (r : Rect) (w h left j : Int) : r.row w h left j 0 = [] := rfl
@[simp] theorem Rect.rows_zero (r : Rect) (w h left top : Int) (n : Nat) : r.rows w h left top n 0 = [] := rfl
@[simp] theorem Rect.row_length (r : Rect) (w h left j : Int) (n : Nat) : (r.row w h left j n).length = n := by simp [row]
theorem Rect.rows_length (r : Rect) (w h left top : Int) (n m : Nat) : (r.rows w h left top n m).length = m * n := by
  induction m with
  | zero => simp
  | succ m ih => rw [rows_succ, List.length_append, ih, row_length, Nat.succ_mul]
theorem Rect.rows_short (r : Rect) (w h left top : Int) (n m : Nat) (h1 : n ≤ 4097) (h2 : m ≤ 4097) : (r.rows w h left top n m).length ≤ 16785409 := by
  rw [rows_length]; exact Nat.mul_le_mul h2 h1
end Go.Sal
