import Derived.Test.YtdleboihgaedjaaGreatS4
namespace Go.Sal
open Go

/-- The tiles of an image. -/
def Hdr.grid (h : Hdr) : List Rect := if h.err = 0 then h.area.grid h.tw h.th else []
theorem Hdr.err_zero {h : Hdr} (e : h.err = 0) : ¬ h.Rough ∧ h.tiles ≤ 1024 := by
  unfold Hdr.err at e
  split at e
  · simp at e
  · split at e
    · simp at e
    · split at e
      · simp at e
      · exact ⟨by assumption, by omega⟩
theorem Hdr.grid_fit {h : Hdr} (e : h.err = 0) : h.area.Valid ∧ ¬ h.area.Empty ∧ (1 ≤ h.tw ∧ h.tw ≤ 4096) ∧ (1 ≤ h.th ∧ h.th ≤ 4096) ∧ (up h.area.x1 h.tw - h.area.x0 / h.tw) * (up h.area.y1 h.th - h.area.y0 / h.th) ≤ 65536 := by
  obtain ⟨h1, h2⟩ := Hdr.err_zero e
  have hv : h.area.Valid := Decidable.by_contra fun k => h1 (Or.inl k)
  have he : ¬ h.area.Empty := fun k => h1 (Or.inr (Or.inl k))
  have hw : InR 1 4096 h.tw := Decidable.by_contra fun k => h1 (Or.inr (Or.inr (Or.inl k)))
  have hh : InR 1 4096 h.th := Decidable.by_contra fun k => h1 (Or.inr (Or.inr (Or.inr (Or.inl k))))
  have hv' : 0 ≤ h.area.x0 ∧ h.area.x0 ≤ h.area.x1 ∧ h.area.x1 ≤ 4096 ∧ 0 ≤ h.area.y0 ∧ h.area.y0 ≤ h.area.y1 ∧ h.area.y1 ≤ 4096 := hv
  unfold InR at hw hh
  refine ⟨hv, he, hw, hh, ?_⟩
  have e1 := floorDiv_eq (a := h.area.x0) (b := h.tw) (by omega) (by omega) (by omega)
  have e2 := ceilDiv_eq (a := h.area.x1) (b := h.tw) (by omega) (by omega) (by omega)
  have e3 := floorDiv_eq (a := h.area.y0) (b := h.th) (by omega) (by omega) (by omega)
  have e4 := ceilDiv_eq (a := h.area.y1) (b := h.th) (by omega) (by omega) (by omega)
  have b1 := down_le (a := h.area.x0) (b := h.tw) (by omega) (by omega) (by omega)
  have b2 := up_le (a := h.area.x1) (b := h.tw) (by omega) (by omega) (by omega)
  have b3 := down_le (a := h.area.y0) (b := h.th) (by omega) (by omega) (by omega)
  have b4 := up_le (a := h.area.y1) (b := h.th) (by omega) (by omega) (by omega)
  unfold Hdr.tiles at h2
  rw [e1, e2, e3, e4] at h2
  have b5 := mul_ge (a := up h.area.x1 h.tw - h.area.x0 / h.tw) (b := up h.area.y1 h.th - h.area.y0 / h.th) (by omega) (by omega) (by omega) (by omega)
  have b6 := mul_ge (a := -(up h.area.x1 h.tw - h.area.x0 / h.tw)) (b := up h.area.y1 h.th - h.area.y0 / h.th) (by omega) (by omega) (by omega) (by omega)
  rw [Int.neg_mul] at b6
  rw [wrap_i (n := up h.area.x1 h.tw - h.area.x0 / h.tw) (by omega) (by omega), wrap_i (n := up h.area.y1 h.th - h.area.y0 / h.th) (by omega) (by omega), wrap_i (by omega) (by omega)] at h2
  omega
theorem Hdr.grid_short (h : Hdr) : h.grid.length ≤ 16785409 := by
  unfold Hdr.grid; split
  · rename_i e
    obtain ⟨hv, _, hw, hh, _⟩ := Hdr.grid_fit e
    have hv' : 0 ≤ h.area.x0 ∧ h.area.x0 ≤ h.area.x1 ∧ h.area.x1 ≤ 4096 ∧ 0 ≤ h.area.y0 ∧ h.area.y0 ≤ h.area.y1 ∧ h.area.y1 ≤ 4096 := hv
    have b1 := down_le (a := h.area.x0) (b := h.tw) (by omega) (by omega) (by omega)
    have b2 := up_le (a := h.area.x1) (b := h.tw) (by omega) (by omega) (by omega)
    have b3 := down_le (a := h.area.y0) (b := h.th) (by omega) (by omega) (by omega)
    have b4 := up_le (a := h.area.y1) (b := h.th) (by omega) (by omega) (by omega)
    exact Rect.rows_short _ _ _ _ _ _ _ (by omega) (by omega)
  · simp
/-- The area of the tiles that a window touches, and its error. -/
def Hdr.cropE (h : Hdr) (win : Rect) : Int := if h.err ≠ 0 then h.err else if ¬ win.Valid ∨ (h.area.inter win).Empty then 2 else 0
def Hdr.crop (h : Hdr) (win : Rect) : Rect := if h.cropE win = 0 then Rect.bound (Rect.touched h.grid win) else .zero
theorem Hdr.touched_nil {h : Hdr} {win : Rect} (e : h.err = 0) : Rect.touched h.grid win = [] ↔ (h.area.inter win).Empty := by
  obtain ⟨_, _, hw, hh, _⟩ := Hdr.grid_fit e
  unfold Hdr.grid; rw [if_pos e]; exact Rect.touch hw.1 hh.1
theorem Rect.touched_take {l : List Rect} {win : Rect} {i : Nat} (h : i < l.length) : touched (l.take (i + 1)) win = if (l[i].inter win).Empty then touched (l.take i) win else touched (l.take i) win ++ [l[i]] := by
  unfold touched; rw [List.take_succ_eq_append_getElem h, List.filter_append]
  by_cases k : (l[i].inter win).Empty <;> simp [k]
@[simp] theorem Rect.touched_none (win : Rect) : touched [] win = [] := rfl
theorem Rect.touched_no {l : List Rect} {win : Rect} {i : Nat} (h : i < l.length) (k : (l[i].inter win).Empty) : touched (l.take (i + 1)) win = touched (l.take i) win := by rw [touched_take h, if_pos k]
theorem Rect.touched_yes {l : List Rect} {win : Rect} {i : Nat} (h : i < l.length) (k : ¬ (l[i].inter win).Empty) : touched (l.take (i + 1)) win = touched (l.take i) win ++ [l[i]] := by rw [touched_take h, if_neg k]
theorem Rect.touched_short (l : List Rect) (win : Rect) : (touched l win).length ≤ l.length := List.length_filter_le _ _
theorem Rect.touched_short' (l : List Rect) (win : Rect) (i : Nat) : (touched (l.take i) win).length ≤ l.length := Nat.le_trans (touched_short _ _) (by simp; omega)
end Go.Sal
