import Derived.Test.YtdleboihgaedjaaGreatT1
namespace Go.Proofs.YtdleboihgaedjaaGreat
open Go Go.Sal
set_option maxRecDepth 100000

theorem within_ok (lo hi : Int) (ns : List Int) (hlen : ns.length < 4611686018427387904) :
    Pure Tryz.prog 110 [i64 lo, i64 hi, lv (ints ns)] (.bool (decide (InRs lo hi ns))) := by
  refine Pure.intro fun σ => ?_
  refine ACalls_fn (N := _) [] follows_ok Tryz.func110 rfl Tryz.ntmps110 rfl (by kernel_rfl) (by kernel_rfl) (by simp) fun hσ hc => ?_
  simp
  refine LoopG_by (fun i => i ≤ ns.length ∧ ∀ n ∈ ns.take i, lo ≤ n ∧ n ≤ hi) (fun i => ns.length - i) (fun i => [(0, i64 lo), (1, i64 hi), (9, lv (ints ns)), (10, i64 ns.length), (11, i64 i)]) (fun _ => σ) 0 (by simp) (Less.toMk0 (by simp) (by simp)) ?_
  rintro i ⟨h0, hall⟩
  simp; repeat' ((first | refine CondG_dec (fun h => ?_) (fun h => ?_) | refine GuardG_dec (fun h => ?_) (fun h => ?_) | refine PGuardG_dec (fun h => ?_) (fun h => ?_) | refine DGuardG_dec (fun h => ?_) (fun h => ?_) | refine QGuardG_dec (fun h => ?_) (fun h => ?_) | refine CondG_ndec (fun h => ?_) (fun h => ?_) | refine GuardG_ndec (fun h => ?_) (fun h => ?_) | refine PGuardG_ndec (fun h => ?_) (fun h => ?_) | refine DGuardG_ndec (fun h => ?_) (fun h => ?_) | refine QGuardG_ndec (fun h => ?_) (fun h => ?_) | refine CondG_split (fun h => ?_) (fun h => ?_) | refine GuardG_split (fun h => ?_) (fun h => ?_) | refine PGuardG_split (fun h => ?_) (fun h => ?_) | refine DGuardG_split (fun h => ?_) (fun h => ?_) | refine QGuardG_split (fun h => ?_) (fun h => ?_)) <;> (first | (exfalso; first | omega | contradiction) | simp [*]))
  · (first | refine Fin_pure hσ ?_ | refine Fin_pure0 ?_); simp; simp [InRs, InR]; exact ⟨ns[i], by simp, by omega⟩
  · (first | refine Fin_pure hσ ?_ | refine Fin_pure0 ?_); simp; simp [InRs, InR]; exact ⟨ns[i], by simp, by omega⟩
  · exact ⟨i + 1, Less.toMk0 (by simp) (by simp [wrap_id (show -9223372036854775808 ≤ (i : Int) + 1 ∧ (i : Int) + 1 < 9223372036854775808 by omega)]), by omega, by omega, (all_take_succ (by omega)).2 ⟨hall, by omega⟩⟩
  · rw [List.take_of_length_le (by omega)] at hall
    (first | refine Fin_pure hσ ?_ | refine Fin_pure0 ?_); simp; simp [InRs, InR]; simpa using hall
theorem in_ok (n lo hi : Int) : Pure Tryz.prog 117 [i64 n, i64 lo, i64 hi] (.bool (decide (InR lo hi n))) := by
  refine Pure.intro fun σ => ?_
  refine ACalls_fn (N := _) [] follows_ok Tryz.func117 rfl Tryz.ntmps117 rfl (by kernel_rfl) (by kernel_rfl) (by simp) fun hσ hc => ?_
  simp; repeat' ((first | refine CondG_dec (fun h => ?_) (fun h => ?_) | refine GuardG_dec (fun h => ?_) (fun h => ?_) | refine PGuardG_dec (fun h => ?_) (fun h => ?_) | refine DGuardG_dec (fun h => ?_) (fun h => ?_) | refine QGuardG_dec (fun h => ?_) (fun h => ?_) | refine CondG_ndec (fun h => ?_) (fun h => ?_) | refine GuardG_ndec (fun h => ?_) (fun h => ?_) | refine PGuardG_ndec (fun h => ?_) (fun h => ?_) | refine DGuardG_ndec (fun h => ?_) (fun h => ?_) | refine QGuardG_ndec (fun h => ?_) (fun h => ?_) | refine CondG_split (fun h => ?_) (fun h => ?_) | refine GuardG_split (fun h => ?_) (fun h => ?_) | refine PGuardG_split (fun h => ?_) (fun h => ?_) | refine DGuardG_split (fun h => ?_) (fun h => ?_) | refine QGuardG_split (fun h => ?_) (fun h => ?_)) <;> (first | (exfalso; first | omega | contradiction) | simp [*]))
  all_goals ((first | refine Fin_pure hσ ?_ | refine Fin_pure0 ?_); simp [InR, *])
theorem within1_ok (lo hi a : Int) (nl : Option Bool) (tok : Tok) : Pure Tryz.prog 110 [i64 lo, i64 hi, .lst nl [[i64 a]] tok] (.bool (decide (InR lo hi a))) := by
  refine Pure.wk (args' := [i64 lo, i64 hi, lv [[i64 a]]]) ?_ (by simp)
  have := within_ok lo hi [a] (by simp)
  have e : decide (InRs lo hi [a]) = decide (InR lo hi a) := by simp only [decide_eq_decide]; simp [InRs]
  rw [e] at this; exact this
theorem within2_ok (lo hi a b : Int) (nl : Option Bool) (tok : Tok) : Pure Tryz.prog 110 [i64 lo, i64 hi, .lst nl [[i64 a], [i64 b]] tok] (.bool (decide (InR2 lo hi a b))) := by
  refine Pure.wk (args' := [i64 lo, i64 hi, lv [[i64 a], [i64 b]]]) ?_ (by simp)
  have := within_ok lo hi [a, b] (by simp)
  have e : decide (InRs lo hi [a, b]) = decide (InR2 lo hi a b) := by simp only [decide_eq_decide]; simp [InRs, InR2]
  rw [e] at this; exact this
end Go.Proofs.YtdleboihgaedjaaGreat
