/- S1: what the functions compute: headers without resolutions. -/
import Derived.Test.YtdleboihgaedjaaGreatBase
namespace Go.Sal
open Go

/-- The powers of two that occur. -/
def pow2 (n : Int) : Int := 2 ^ n.toNat
theorem pow2_shl {n : Int} (h0 : 0 ≤ n) (h1 : n ≤ 5) : IntKind.i64.wrap (2 ^ (min n.toNat IntKind.i64.bits)) = pow2 n := by
  have : n = 0 ∨ n = 1 ∨ n = 2 ∨ n = 3 ∨ n = 4 ∨ n = 5 := by omega
  rcases this with rfl | rfl | rfl | rfl | rfl | rfl <;> rfl
theorem pow2_pos (n : Int) : 0 < pow2 n := by unfold pow2; exact Int.pow_pos (by omega)
theorem pow2_succ (i : Nat) : pow2 ((i : Int) + 1) = 2 * pow2 i := by
  unfold pow2
  have : ((i : Int) + 1).toNat = i + 1 := by omega
  rw [this, Int.pow_succ, Int.mul_comm]; simp
theorem pow2_le {n : Int} (h1 : n ≤ 40) : pow2 n ≤ 1099511627776 := by
  unfold pow2
  have : n.toNat ≤ 40 := by omega
  have := Nat.pow_le_pow_right (n := 2) (by omega) this
  have e : ((2 ^ n.toNat : Nat) : Int) = (2 : Int) ^ n.toNat := by simp
  omega

/-- The header without the highest resolutions, or the error. -/
def Hdr.cut (h : Hdr) (drop : Int) : Hdr := { h with area := h.area.reduce (pow2 drop) (pow2 drop), tw := IntKind.i64.wrap (h.tw.tdiv (pow2 drop)), th := IntKind.i64.wrap (h.th.tdiv (pow2 drop)) }
def Hdr.trimE (h : Hdr) (drop : Int) : Int :=
  if h.err ≠ 0 then h.err else if drop < 0 ∨ 5 < drop then 2 else if h.tw.tmod (pow2 drop) ≠ 0 ∨ h.th.tmod (pow2 drop) ≠ 0 then 13 else (h.cut drop).err
def Hdr.trim (h : Hdr) (drop : Int) : Hdr := if h.trimE drop = 0 then h.cut drop else .zero

end Go.Sal
