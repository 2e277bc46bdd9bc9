/- S2: numbers in bytes, segments. -/
import Derived.Test.YtdleboihgaedjaaGreatS1
namespace Go.Sal
open Go

/-- The number in bytes, the highest first. -/
def beI (l : List UInt8) : Int := l.foldl (fun v x => v * 256 + x.toNat) 0
theorem beI_snoc (l : List UInt8) (x : UInt8) : beI (l ++ [x]) = beI l * 256 + x.toNat := by simp [beI]
theorem beI_bound : ∀ (l : List UInt8), 0 ≤ beI l ∧ beI l < 256 ^ l.length := by
  intro l
  have key : ∀ (l : List UInt8) (v : Int), 0 ≤ v → 0 ≤ l.foldl (fun v x => v * 256 + (x.toNat : Int)) v ∧ l.foldl (fun v x => v * 256 + (x.toNat : Int)) v < (v + 1) * 256 ^ l.length := by
    intro l
    induction l with
    | nil => intro v hv; simp; omega
    | cons x l ih =>
      intro v hv
      have hx := x.toNat_lt
      have := ih (v * 256 + x.toNat) (by omega)
      refine ⟨this.1, Int.lt_of_lt_of_le this.2 ?_⟩
      have h1 : v * 256 + (x.toNat : Int) + 1 ≤ (v + 1) * 256 := by omega
      have h2 : (0 : Int) ≤ 256 ^ l.length := Int.pow_nonneg (by omega)
      calc (v * 256 + (x.toNat : Int) + 1) * 256 ^ l.length ≤ (v + 1) * 256 * 256 ^ l.length := Int.mul_le_mul_of_nonneg_right h1 h2
        _ = (v + 1) * 256 ^ (l.length + 1) := by rw [Int.pow_succ, Int.mul_assoc, Int.mul_comm 256]
  have := key l 0 (by omega)
  simpa [beI] using this
theorem or_byte {v : Int} {x : UInt8} (h0 : 0 ≤ v) (h1 : v < 1099511627776) : bitsOf .or .i64 (v * 256) x.toNat = v * 256 + x.toNat := by
  obtain ⟨n, rfl⟩ : ∃ n : Nat, v = n := ⟨v.toNat, by omega⟩
  have hx := x.toNat_lt
  have hn : n * 256 < 2 ^ 64 := by omega
  have e1 : BitVec.ofInt 64 ((n : Int) * 256) = BitVec.ofNat 64 (n * 256) := by
    apply BitVec.eq_of_toNat_eq
    simp [BitVec.toNat_ofInt]; omega
  have e2 : BitVec.ofInt 64 ((x.toNat : Int)) = BitVec.ofNat 64 x.toNat := by
    apply BitVec.eq_of_toNat_eq
    simp [BitVec.toNat_ofInt]
  have h := Nat.shiftLeft_add_eq_or_of_lt (i := 8) (b := x.toNat) (by omega) n
  rw [Nat.shiftLeft_eq] at h
  show IntKind.i64.wrap ((BitVec.ofInt 64 ((n : Int) * 256) ||| BitVec.ofInt 64 (x.toNat : Int)).toNat : Int) = _
  rw [e1, e2, BitVec.toNat_or, BitVec.toNat_ofNat, BitVec.toNat_ofNat, Nat.mod_eq_of_lt hn, Nat.mod_eq_of_lt (by omega), show (256 : Nat) = 2 ^ 8 from rfl, ← h]
  rw [wrap_id (by omega)]; omega
def readU (b : List UInt8) (a n : Int) : Int × Int :=
  if n < 1 ∨ 4 < n ∨ a < 0 ∨ b.length < a then (0, 2) else if b.length - a < n then (0, 7) else (beI ((b.drop a.toNat).take n.toNat), 0)
/-- Marker codes; those without a segment. -/
def Known (c : Int) : Prop := 65440 ≤ c ∧ c ≤ 65445 ∨ c = 65455 ∨ 65456 ≤ c ∧ c ≤ 65458
instance (c : Int) : Decidable (Known c) := by unfold Known; exact inferInstance
def Bare (c : Int) : Prop := c = 65440 ∨ c = 65458 ∨ c = 65455
instance (c : Int) : Decidable (Bare c) := by unfold Bare; exact inferInstance
theorem pow256_le {m k : Nat} (h : m ≤ k) : (256 : Int) ^ m ≤ 256 ^ k := by
  obtain ⟨d, rfl⟩ := Nat.exists_eq_add_of_le h
  rw [Int.pow_add]
  have h1 : (0 : Int) < 256 ^ d := Int.pow_pos (by omega)
  have h2 : (0 : Int) < 256 ^ m := Int.pow_pos (by omega)
  have := Int.mul_le_mul_of_nonneg_left (show (1 : Int) ≤ 256 ^ d by omega) (Int.le_of_lt h2)
  simpa using this
theorem readU_bound {b : List UInt8} {a n : Int} {k : Nat} (hn : n ≤ k) : 0 ≤ (readU b a n).1 ∧ (readU b a n).1 < 256 ^ k := by
  have hp : (0 : Int) < 256 ^ k := Int.pow_pos (by omega)
  unfold readU
  split
  · exact ⟨by simp, hp⟩
  split
  · exact ⟨by simp, hp⟩
  · have := beI_bound ((b.drop a.toNat).take n.toNat)
    refine ⟨this.1, Int.lt_of_lt_of_le this.2 ?_⟩
    exact pow256_le (by simp; omega)
theorem readU2 (b : List UInt8) (a : Int) : 0 ≤ (readU b a 2).1 ∧ (readU b a 2).1 < 65536 := readU_bound (k := 2) (by omega)
/-- A segment. -/
structure Seg where
  code : Int
  payload : List UInt8
deriving DecidableEq
@[simp, reducible] def Seg.cells (s : Seg) : List AV := [i64 s.code, lv (bels s.payload)]
@[reducible] def Seg.av (s : Seg) : AV := .agg s.cells
def Seg.zero : Seg := ⟨0, []⟩
attribute [simp] Seg.zero
/-- The segment at an offset, the offset behind it, the error. -/
def readS (b : List UInt8) (a : Int) : Seg × Int × Int :=
  if (readU b a 2).2 ≠ 0 then (.zero, 0, (readU b a 2).2) else if ¬ Known (readU b a 2).1 then (.zero, 0, 11) else if Bare (readU b a 2).1 then (⟨(readU b a 2).1, []⟩, a + 2, 0)
  else if (readU b (a + 2) 2).2 ≠ 0 then (.zero, 0, (readU b (a + 2) 2).2) else if (readU b (a + 2) 2).1 < 2 then (.zero, 0, 4)
  else if b.length < a + 2 + (readU b (a + 2) 2).1 then (.zero, 0, 7) else (⟨(readU b a 2).1, (b.drop (a + 4).toNat).take ((readU b (a + 2) 2).1 - 2).toNat⟩, a + 2 + (readU b (a + 2) 2).1, 0)
end Go.Sal
