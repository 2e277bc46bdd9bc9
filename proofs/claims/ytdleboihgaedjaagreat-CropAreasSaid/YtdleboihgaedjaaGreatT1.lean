import Derived.Test.YtdleboihgaedjaaGreatT
import Derived.Test.YtdleboihgaedjaaGreatBase
namespace Go.Proofs.YtdleboihgaedjaaGreat
open Go Go.Sal
set_option maxRecDepth 100000

theorem rectCeil_ok (a b : Int) : Pure Tryz.prog 111 [i64 a, i64 b] (i64 (ceilDiv a b)) := by
  refine Pure.intro fun σ => ?_
  refine ACalls_fn (N := _) [] follows_ok Tryz.func111 rfl Tryz.ntmps111 rfl (by kernel_rfl) (by kernel_rfl) (by simp) fun hσ hc => ?_
  simp; repeat' ((first | refine CondG_dec (fun h => ?_) (fun h => ?_) | refine GuardG_dec (fun h => ?_) (fun h => ?_) | refine PGuardG_dec (fun h => ?_) (fun h => ?_) | refine DGuardG_dec (fun h => ?_) (fun h => ?_) | refine QGuardG_dec (fun h => ?_) (fun h => ?_) | refine CondG_ndec (fun h => ?_) (fun h => ?_) | refine GuardG_ndec (fun h => ?_) (fun h => ?_) | refine PGuardG_ndec (fun h => ?_) (fun h => ?_) | refine DGuardG_ndec (fun h => ?_) (fun h => ?_) | refine QGuardG_ndec (fun h => ?_) (fun h => ?_) | refine CondG_split (fun h => ?_) (fun h => ?_) | refine GuardG_split (fun h => ?_) (fun h => ?_) | refine PGuardG_split (fun h => ?_) (fun h => ?_) | refine DGuardG_split (fun h => ?_) (fun h => ?_) | refine QGuardG_split (fun h => ?_) (fun h => ?_)) <;> (first | (exfalso; first | omega | contradiction) | simp [*]))
  · (first | refine Fin_pure hσ ?_ | refine Fin_pure0 ?_); simp [ceilDiv, *]
  · refine ⟨by omega, ?_⟩; repeat' ((first | refine CondG_dec (fun h => ?_) (fun h => ?_) | refine GuardG_dec (fun h => ?_) (fun h => ?_) | refine PGuardG_dec (fun h => ?_) (fun h => ?_) | refine DGuardG_dec (fun h => ?_) (fun h => ?_) | refine QGuardG_dec (fun h => ?_) (fun h => ?_) | refine CondG_ndec (fun h => ?_) (fun h => ?_) | refine GuardG_ndec (fun h => ?_) (fun h => ?_) | refine PGuardG_ndec (fun h => ?_) (fun h => ?_) | refine DGuardG_ndec (fun h => ?_) (fun h => ?_) | refine QGuardG_ndec (fun h => ?_) (fun h => ?_) | refine CondG_split (fun h => ?_) (fun h => ?_) | refine GuardG_split (fun h => ?_) (fun h => ?_) | refine PGuardG_split (fun h => ?_) (fun h => ?_) | refine DGuardG_split (fun h => ?_) (fun h => ?_) | refine QGuardG_split (fun h => ?_) (fun h => ?_)) <;> (first | (exfalso; first | omega | contradiction) | simp [*]))
    all_goals ((first | refine Fin_pure hσ ?_ | refine Fin_pure0 ?_); simp [ceilDiv, *])

theorem rectFloor_ok (a b : Int) : Pure Tryz.prog 112 [i64 a, i64 b] (i64 (floorDiv a b)) := by
  refine Pure.intro fun σ => ?_
  refine ACalls_fn (N := _) [] follows_ok Tryz.func112 rfl Tryz.ntmps112 rfl (by kernel_rfl) (by kernel_rfl) (by simp) fun hσ hc => ?_
  simp; repeat' ((first | refine CondG_dec (fun h => ?_) (fun h => ?_) | refine GuardG_dec (fun h => ?_) (fun h => ?_) | refine PGuardG_dec (fun h => ?_) (fun h => ?_) | refine DGuardG_dec (fun h => ?_) (fun h => ?_) | refine QGuardG_dec (fun h => ?_) (fun h => ?_) | refine CondG_ndec (fun h => ?_) (fun h => ?_) | refine GuardG_ndec (fun h => ?_) (fun h => ?_) | refine PGuardG_ndec (fun h => ?_) (fun h => ?_) | refine DGuardG_ndec (fun h => ?_) (fun h => ?_) | refine QGuardG_ndec (fun h => ?_) (fun h => ?_) | refine CondG_split (fun h => ?_) (fun h => ?_) | refine GuardG_split (fun h => ?_) (fun h => ?_) | refine PGuardG_split (fun h => ?_) (fun h => ?_) | refine DGuardG_split (fun h => ?_) (fun h => ?_) | refine QGuardG_split (fun h => ?_) (fun h => ?_)) <;> (first | (exfalso; first | omega | contradiction) | simp [*]))
  · (first | refine Fin_pure hσ ?_ | refine Fin_pure0 ?_); simp [floorDiv, *]
  · refine ⟨by omega, ?_⟩; repeat' ((first | refine CondG_dec (fun h => ?_) (fun h => ?_) | refine GuardG_dec (fun h => ?_) (fun h => ?_) | refine PGuardG_dec (fun h => ?_) (fun h => ?_) | refine DGuardG_dec (fun h => ?_) (fun h => ?_) | refine QGuardG_dec (fun h => ?_) (fun h => ?_) | refine CondG_ndec (fun h => ?_) (fun h => ?_) | refine GuardG_ndec (fun h => ?_) (fun h => ?_) | refine PGuardG_ndec (fun h => ?_) (fun h => ?_) | refine DGuardG_ndec (fun h => ?_) (fun h => ?_) | refine QGuardG_ndec (fun h => ?_) (fun h => ?_) | refine CondG_split (fun h => ?_) (fun h => ?_) | refine GuardG_split (fun h => ?_) (fun h => ?_) | refine PGuardG_split (fun h => ?_) (fun h => ?_) | refine DGuardG_split (fun h => ?_) (fun h => ?_) | refine QGuardG_split (fun h => ?_) (fun h => ?_)) <;> (first | (exfalso; first | omega | contradiction) | simp [*]))
    all_goals ((first | refine Fin_pure hσ ?_ | refine Fin_pure0 ?_); simp [floorDiv, *])

theorem rectEmpty_ok (r : Rect) : Pure Tryz.prog 41 [r.av] (.bool (decide r.Empty)) := by
  refine Pure.intro fun σ => ?_
  refine ACalls_fn (N := _) [] follows_ok Tryz.func41 rfl Tryz.ntmps41 rfl (by kernel_rfl) (by kernel_rfl) (by simp) fun hσ hc => ?_
  simp; repeat' ((first | refine CondG_dec (fun h => ?_) (fun h => ?_) | refine GuardG_dec (fun h => ?_) (fun h => ?_) | refine PGuardG_dec (fun h => ?_) (fun h => ?_) | refine DGuardG_dec (fun h => ?_) (fun h => ?_) | refine QGuardG_dec (fun h => ?_) (fun h => ?_) | refine CondG_ndec (fun h => ?_) (fun h => ?_) | refine GuardG_ndec (fun h => ?_) (fun h => ?_) | refine PGuardG_ndec (fun h => ?_) (fun h => ?_) | refine DGuardG_ndec (fun h => ?_) (fun h => ?_) | refine QGuardG_ndec (fun h => ?_) (fun h => ?_) | refine CondG_split (fun h => ?_) (fun h => ?_) | refine GuardG_split (fun h => ?_) (fun h => ?_) | refine PGuardG_split (fun h => ?_) (fun h => ?_) | refine DGuardG_split (fun h => ?_) (fun h => ?_) | refine QGuardG_split (fun h => ?_) (fun h => ?_)) <;> (first | (exfalso; first | omega | contradiction) | simp [*]))
  all_goals ((first | refine Fin_pure hσ ?_ | refine Fin_pure0 ?_); simp [Rect.Empty, *])

theorem rectValid_ok (r : Rect) : Pure Tryz.prog 77 [r.av] (.bool (decide r.Valid)) := by
  refine Pure.intro fun σ => ?_
  refine ACalls_fn (N := _) [] follows_ok Tryz.func77 rfl Tryz.ntmps77 rfl (by kernel_rfl) (by kernel_rfl) (by simp) fun hσ hc => ?_
  simp; repeat' ((first | refine CondG_dec (fun h => ?_) (fun h => ?_) | refine GuardG_dec (fun h => ?_) (fun h => ?_) | refine PGuardG_dec (fun h => ?_) (fun h => ?_) | refine DGuardG_dec (fun h => ?_) (fun h => ?_) | refine QGuardG_dec (fun h => ?_) (fun h => ?_) | refine CondG_ndec (fun h => ?_) (fun h => ?_) | refine GuardG_ndec (fun h => ?_) (fun h => ?_) | refine PGuardG_ndec (fun h => ?_) (fun h => ?_) | refine DGuardG_ndec (fun h => ?_) (fun h => ?_) | refine QGuardG_ndec (fun h => ?_) (fun h => ?_) | refine CondG_split (fun h => ?_) (fun h => ?_) | refine GuardG_split (fun h => ?_) (fun h => ?_) | refine PGuardG_split (fun h => ?_) (fun h => ?_) | refine DGuardG_split (fun h => ?_) (fun h => ?_) | refine QGuardG_split (fun h => ?_) (fun h => ?_)) <;> (first | (exfalso; first | omega | contradiction) | simp [*]))
  all_goals ((first | refine Fin_pure hσ ?_ | refine Fin_pure0 ?_); simp [Rect.Valid, *])

theorem rectArea_ok (r : Rect) : Pure Tryz.prog 113 [r.av] (i64 r.area) := by
  refine Pure.intro fun σ => ?_
  refine ACalls_fn (N := _) [] follows_ok Tryz.func113 rfl Tryz.ntmps113 rfl (by kernel_rfl) (by kernel_rfl) (by simp) fun hσ hc => ?_
  simp
  refine CallG_pure (rectValid_ok r) ?_
  simp; repeat' ((first | refine CondG_dec (fun h => ?_) (fun h => ?_) | refine GuardG_dec (fun h => ?_) (fun h => ?_) | refine PGuardG_dec (fun h => ?_) (fun h => ?_) | refine DGuardG_dec (fun h => ?_) (fun h => ?_) | refine QGuardG_dec (fun h => ?_) (fun h => ?_) | refine CondG_ndec (fun h => ?_) (fun h => ?_) | refine GuardG_ndec (fun h => ?_) (fun h => ?_) | refine PGuardG_ndec (fun h => ?_) (fun h => ?_) | refine DGuardG_ndec (fun h => ?_) (fun h => ?_) | refine QGuardG_ndec (fun h => ?_) (fun h => ?_) | refine CondG_split (fun h => ?_) (fun h => ?_) | refine GuardG_split (fun h => ?_) (fun h => ?_) | refine PGuardG_split (fun h => ?_) (fun h => ?_) | refine DGuardG_split (fun h => ?_) (fun h => ?_) | refine QGuardG_split (fun h => ?_) (fun h => ?_)) <;> (first | (exfalso; first | omega | contradiction) | simp [*]))
  all_goals ((first | refine Fin_pure hσ ?_ | refine Fin_pure0 ?_); simp [Rect.area, *])

theorem rectIntersect_ok (r s : Rect) : Pure Tryz.prog 39 [r.av, s.av] (r.inter s).av := by
  refine Pure.intro fun σ => ?_
  refine ACalls_fn (N := _) [] follows_ok Tryz.func39 rfl Tryz.ntmps39 rfl (by kernel_rfl) (by kernel_rfl) (by simp) fun hσ hc => ?_
  simp
  refine CallG_pure (rectEmpty_ok (r.meet s)) ?_
  simp; repeat' ((first | refine CondG_dec (fun h => ?_) (fun h => ?_) | refine GuardG_dec (fun h => ?_) (fun h => ?_) | refine PGuardG_dec (fun h => ?_) (fun h => ?_) | refine DGuardG_dec (fun h => ?_) (fun h => ?_) | refine QGuardG_dec (fun h => ?_) (fun h => ?_) | refine CondG_ndec (fun h => ?_) (fun h => ?_) | refine GuardG_ndec (fun h => ?_) (fun h => ?_) | refine PGuardG_ndec (fun h => ?_) (fun h => ?_) | refine DGuardG_ndec (fun h => ?_) (fun h => ?_) | refine QGuardG_ndec (fun h => ?_) (fun h => ?_) | refine CondG_split (fun h => ?_) (fun h => ?_) | refine GuardG_split (fun h => ?_) (fun h => ?_) | refine PGuardG_split (fun h => ?_) (fun h => ?_) | refine DGuardG_split (fun h => ?_) (fun h => ?_) | refine QGuardG_split (fun h => ?_) (fun h => ?_)) <;> (first | (exfalso; first | omega | contradiction) | simp [*]))
  all_goals ((first | refine Fin_pure hσ ?_ | refine Fin_pure0 ?_); simp [Rect.inter, *]; try simp [Rect.meet, imin, imax])

theorem rectReduce_ok (r : Rect) (dx dy : Int) : Pure Tryz.prog 55 [r.av, i64 dx, i64 dy] (r.reduce dx dy).av := by
  refine Pure.intro fun σ => ?_
  refine ACalls_fn (N := _) [] follows_ok Tryz.func55 rfl Tryz.ntmps55 rfl (by kernel_rfl) (by kernel_rfl) (by simp) fun hσ hc => ?_
  simp
  refine CallG_pure (rectValid_ok r) ?_
  simp; repeat' ((first | refine CondG_dec (fun h => ?_) (fun h => ?_) | refine GuardG_dec (fun h => ?_) (fun h => ?_) | refine PGuardG_dec (fun h => ?_) (fun h => ?_) | refine DGuardG_dec (fun h => ?_) (fun h => ?_) | refine QGuardG_dec (fun h => ?_) (fun h => ?_) | refine CondG_ndec (fun h => ?_) (fun h => ?_) | refine GuardG_ndec (fun h => ?_) (fun h => ?_) | refine PGuardG_ndec (fun h => ?_) (fun h => ?_) | refine DGuardG_ndec (fun h => ?_) (fun h => ?_) | refine QGuardG_ndec (fun h => ?_) (fun h => ?_) | refine CondG_split (fun h => ?_) (fun h => ?_) | refine GuardG_split (fun h => ?_) (fun h => ?_) | refine PGuardG_split (fun h => ?_) (fun h => ?_) | refine DGuardG_split (fun h => ?_) (fun h => ?_) | refine QGuardG_split (fun h => ?_) (fun h => ?_)) <;> (first | (exfalso; first | omega | contradiction) | simp [*]))
  all_goals (first | ((first | refine Fin_pure hσ ?_ | refine Fin_pure0 ?_); simp [Rect.reduce, Rect.zero, *]; done) | skip)
  ((first | refine DrawG_by (by decide +kernel) ?_ | refine DrawG_st (by decide +kernel) ?_ | refine DrawG_x [] (by decide +kernel) (by decide +kernel) ?_); simp; refine PCallG_pure (rectCeil_ok _ _) ?_; simp; refine PCallG_pure (rectCeil_ok _ _) ?_; simp; refine PCallG_pure (rectCeil_ok _ _) ?_; simp; refine PCallG_pure (rectCeil_ok _ _) ?_; simp)
  all_goals ((first | refine Fin_pure hσ ?_ | refine Fin_pure0 ?_); simp [Rect.reduce, Rect.zero, *])
theorem r01Ceil_ok (a b : Int) : Pure Tryz.prog 120 [i64 a, i64 b] (i64 (ceilDiv a b)) := by
  refine Pure.intro fun σ => ?_
  refine ACalls_fn (N := _) [] follows_ok Tryz.func120 rfl Tryz.ntmps120 rfl (by kernel_rfl) (by kernel_rfl) (by simp) fun hσ hc => ?_
  simp; repeat' ((first | refine CondG_dec (fun h => ?_) (fun h => ?_) | refine GuardG_dec (fun h => ?_) (fun h => ?_) | refine PGuardG_dec (fun h => ?_) (fun h => ?_) | refine DGuardG_dec (fun h => ?_) (fun h => ?_) | refine QGuardG_dec (fun h => ?_) (fun h => ?_) | refine CondG_ndec (fun h => ?_) (fun h => ?_) | refine GuardG_ndec (fun h => ?_) (fun h => ?_) | refine PGuardG_ndec (fun h => ?_) (fun h => ?_) | refine DGuardG_ndec (fun h => ?_) (fun h => ?_) | refine QGuardG_ndec (fun h => ?_) (fun h => ?_) | refine CondG_split (fun h => ?_) (fun h => ?_) | refine GuardG_split (fun h => ?_) (fun h => ?_) | refine PGuardG_split (fun h => ?_) (fun h => ?_) | refine DGuardG_split (fun h => ?_) (fun h => ?_) | refine QGuardG_split (fun h => ?_) (fun h => ?_)) <;> (first | (exfalso; first | omega | contradiction) | simp [*]))
  · (first | refine Fin_pure hσ ?_ | refine Fin_pure0 ?_); simp [ceilDiv, *]
  · refine ⟨by omega, ?_⟩; repeat' ((first | refine CondG_dec (fun h => ?_) (fun h => ?_) | refine GuardG_dec (fun h => ?_) (fun h => ?_) | refine PGuardG_dec (fun h => ?_) (fun h => ?_) | refine DGuardG_dec (fun h => ?_) (fun h => ?_) | refine QGuardG_dec (fun h => ?_) (fun h => ?_) | refine CondG_ndec (fun h => ?_) (fun h => ?_) | refine GuardG_ndec (fun h => ?_) (fun h => ?_) | refine PGuardG_ndec (fun h => ?_) (fun h => ?_) | refine DGuardG_ndec (fun h => ?_) (fun h => ?_) | refine QGuardG_ndec (fun h => ?_) (fun h => ?_) | refine CondG_split (fun h => ?_) (fun h => ?_) | refine GuardG_split (fun h => ?_) (fun h => ?_) | refine PGuardG_split (fun h => ?_) (fun h => ?_) | refine DGuardG_split (fun h => ?_) (fun h => ?_) | refine QGuardG_split (fun h => ?_) (fun h => ?_)) <;> (first | (exfalso; first | omega | contradiction) | simp [*]))
    all_goals ((first | refine Fin_pure hσ ?_ | refine Fin_pure0 ?_); simp [ceilDiv, *])

theorem r01Floor_ok (a b : Int) : Pure Tryz.prog 163 [i64 a, i64 b] (i64 (floorDiv a b)) := by
  refine Pure.intro fun σ => ?_
  refine ACalls_fn (N := _) [] follows_ok Tryz.func163 rfl Tryz.ntmps163 rfl (by kernel_rfl) (by kernel_rfl) (by simp) fun hσ hc => ?_
  simp; repeat' ((first | refine CondG_dec (fun h => ?_) (fun h => ?_) | refine GuardG_dec (fun h => ?_) (fun h => ?_) | refine PGuardG_dec (fun h => ?_) (fun h => ?_) | refine DGuardG_dec (fun h => ?_) (fun h => ?_) | refine QGuardG_dec (fun h => ?_) (fun h => ?_) | refine CondG_ndec (fun h => ?_) (fun h => ?_) | refine GuardG_ndec (fun h => ?_) (fun h => ?_) | refine PGuardG_ndec (fun h => ?_) (fun h => ?_) | refine DGuardG_ndec (fun h => ?_) (fun h => ?_) | refine QGuardG_ndec (fun h => ?_) (fun h => ?_) | refine CondG_split (fun h => ?_) (fun h => ?_) | refine GuardG_split (fun h => ?_) (fun h => ?_) | refine PGuardG_split (fun h => ?_) (fun h => ?_) | refine DGuardG_split (fun h => ?_) (fun h => ?_) | refine QGuardG_split (fun h => ?_) (fun h => ?_)) <;> (first | (exfalso; first | omega | contradiction) | simp [*]))
  · (first | refine Fin_pure hσ ?_ | refine Fin_pure0 ?_); simp [floorDiv, *]
  · refine ⟨by omega, ?_⟩; repeat' ((first | refine CondG_dec (fun h => ?_) (fun h => ?_) | refine GuardG_dec (fun h => ?_) (fun h => ?_) | refine PGuardG_dec (fun h => ?_) (fun h => ?_) | refine DGuardG_dec (fun h => ?_) (fun h => ?_) | refine QGuardG_dec (fun h => ?_) (fun h => ?_) | refine CondG_ndec (fun h => ?_) (fun h => ?_) | refine GuardG_ndec (fun h => ?_) (fun h => ?_) | refine PGuardG_ndec (fun h => ?_) (fun h => ?_) | refine DGuardG_ndec (fun h => ?_) (fun h => ?_) | refine QGuardG_ndec (fun h => ?_) (fun h => ?_) | refine CondG_split (fun h => ?_) (fun h => ?_) | refine GuardG_split (fun h => ?_) (fun h => ?_) | refine PGuardG_split (fun h => ?_) (fun h => ?_) | refine DGuardG_split (fun h => ?_) (fun h => ?_) | refine QGuardG_split (fun h => ?_) (fun h => ?_)) <;> (first | (exfalso; first | omega | contradiction) | simp [*]))
    all_goals ((first | refine Fin_pure hσ ?_ | refine Fin_pure0 ?_); simp [floorDiv, *])

theorem r01Empty_ok (r : Rect) : Pure Tryz.prog 70 [r.av] (.bool (decide r.Empty)) := by
  refine Pure.intro fun σ => ?_
  refine ACalls_fn (N := _) [] follows_ok Tryz.func70 rfl Tryz.ntmps70 rfl (by kernel_rfl) (by kernel_rfl) (by simp) fun hσ hc => ?_
  simp; repeat' ((first | refine CondG_dec (fun h => ?_) (fun h => ?_) | refine GuardG_dec (fun h => ?_) (fun h => ?_) | refine PGuardG_dec (fun h => ?_) (fun h => ?_) | refine DGuardG_dec (fun h => ?_) (fun h => ?_) | refine QGuardG_dec (fun h => ?_) (fun h => ?_) | refine CondG_ndec (fun h => ?_) (fun h => ?_) | refine GuardG_ndec (fun h => ?_) (fun h => ?_) | refine PGuardG_ndec (fun h => ?_) (fun h => ?_) | refine DGuardG_ndec (fun h => ?_) (fun h => ?_) | refine QGuardG_ndec (fun h => ?_) (fun h => ?_) | refine CondG_split (fun h => ?_) (fun h => ?_) | refine GuardG_split (fun h => ?_) (fun h => ?_) | refine PGuardG_split (fun h => ?_) (fun h => ?_) | refine DGuardG_split (fun h => ?_) (fun h => ?_) | refine QGuardG_split (fun h => ?_) (fun h => ?_)) <;> (first | (exfalso; first | omega | contradiction) | simp [*]))
  all_goals ((first | refine Fin_pure hσ ?_ | refine Fin_pure0 ?_); simp [Rect.Empty, *])

theorem r01Valid_ok (r : Rect) : Pure Tryz.prog 79 [r.av] (.bool (decide r.Valid)) := by
  refine Pure.intro fun σ => ?_
  refine ACalls_fn (N := _) [] follows_ok Tryz.func79 rfl Tryz.ntmps79 rfl (by kernel_rfl) (by kernel_rfl) (by simp) fun hσ hc => ?_
  simp; repeat' ((first | refine CondG_dec (fun h => ?_) (fun h => ?_) | refine GuardG_dec (fun h => ?_) (fun h => ?_) | refine PGuardG_dec (fun h => ?_) (fun h => ?_) | refine DGuardG_dec (fun h => ?_) (fun h => ?_) | refine QGuardG_dec (fun h => ?_) (fun h => ?_) | refine CondG_ndec (fun h => ?_) (fun h => ?_) | refine GuardG_ndec (fun h => ?_) (fun h => ?_) | refine PGuardG_ndec (fun h => ?_) (fun h => ?_) | refine DGuardG_ndec (fun h => ?_) (fun h => ?_) | refine QGuardG_ndec (fun h => ?_) (fun h => ?_) | refine CondG_split (fun h => ?_) (fun h => ?_) | refine GuardG_split (fun h => ?_) (fun h => ?_) | refine PGuardG_split (fun h => ?_) (fun h => ?_) | refine DGuardG_split (fun h => ?_) (fun h => ?_) | refine QGuardG_split (fun h => ?_) (fun h => ?_)) <;> (first | (exfalso; first | omega | contradiction) | simp [*]))
  all_goals ((first | refine Fin_pure hσ ?_ | refine Fin_pure0 ?_); simp [Rect.Valid, *])

theorem r01Area_ok (r : Rect) : Pure Tryz.prog 119 [r.av] (i64 r.area) := by
  refine Pure.intro fun σ => ?_
  refine ACalls_fn (N := _) [] follows_ok Tryz.func119 rfl Tryz.ntmps119 rfl (by kernel_rfl) (by kernel_rfl) (by simp) fun hσ hc => ?_
  simp
  refine CallG_pure (r01Valid_ok r) ?_
  simp; repeat' ((first | refine CondG_dec (fun h => ?_) (fun h => ?_) | refine GuardG_dec (fun h => ?_) (fun h => ?_) | refine PGuardG_dec (fun h => ?_) (fun h => ?_) | refine DGuardG_dec (fun h => ?_) (fun h => ?_) | refine QGuardG_dec (fun h => ?_) (fun h => ?_) | refine CondG_ndec (fun h => ?_) (fun h => ?_) | refine GuardG_ndec (fun h => ?_) (fun h => ?_) | refine PGuardG_ndec (fun h => ?_) (fun h => ?_) | refine DGuardG_ndec (fun h => ?_) (fun h => ?_) | refine QGuardG_ndec (fun h => ?_) (fun h => ?_) | refine CondG_split (fun h => ?_) (fun h => ?_) | refine GuardG_split (fun h => ?_) (fun h => ?_) | refine PGuardG_split (fun h => ?_) (fun h => ?_) | refine DGuardG_split (fun h => ?_) (fun h => ?_) | refine QGuardG_split (fun h => ?_) (fun h => ?_)) <;> (first | (exfalso; first | omega | contradiction) | simp [*]))
  all_goals ((first | refine Fin_pure hσ ?_ | refine Fin_pure0 ?_); simp [Rect.area, *])

theorem r01Intersect_ok (r s : Rect) : Pure Tryz.prog 80 [r.av, s.av] (r.inter s).av := by
  refine Pure.intro fun σ => ?_
  refine ACalls_fn (N := _) [] follows_ok Tryz.func80 rfl Tryz.ntmps80 rfl (by kernel_rfl) (by kernel_rfl) (by simp) fun hσ hc => ?_
  simp
  refine CallG_pure (r01Empty_ok (r.meet s)) ?_
  simp; repeat' ((first | refine CondG_dec (fun h => ?_) (fun h => ?_) | refine GuardG_dec (fun h => ?_) (fun h => ?_) | refine PGuardG_dec (fun h => ?_) (fun h => ?_) | refine DGuardG_dec (fun h => ?_) (fun h => ?_) | refine QGuardG_dec (fun h => ?_) (fun h => ?_) | refine CondG_ndec (fun h => ?_) (fun h => ?_) | refine GuardG_ndec (fun h => ?_) (fun h => ?_) | refine PGuardG_ndec (fun h => ?_) (fun h => ?_) | refine DGuardG_ndec (fun h => ?_) (fun h => ?_) | refine QGuardG_ndec (fun h => ?_) (fun h => ?_) | refine CondG_split (fun h => ?_) (fun h => ?_) | refine GuardG_split (fun h => ?_) (fun h => ?_) | refine PGuardG_split (fun h => ?_) (fun h => ?_) | refine DGuardG_split (fun h => ?_) (fun h => ?_) | refine QGuardG_split (fun h => ?_) (fun h => ?_)) <;> (first | (exfalso; first | omega | contradiction) | simp [*]))
  all_goals ((first | refine Fin_pure hσ ?_ | refine Fin_pure0 ?_); simp [Rect.inter, *]; try simp [Rect.meet, imin, imax])

theorem r01Reduce_ok (r : Rect) (dx dy : Int) : Pure Tryz.prog 59 [r.av, i64 dx, i64 dy] (r.reduce dx dy).av := by
  refine Pure.intro fun σ => ?_
  refine ACalls_fn (N := _) [] follows_ok Tryz.func59 rfl Tryz.ntmps59 rfl (by kernel_rfl) (by kernel_rfl) (by simp) fun hσ hc => ?_
  simp
  refine CallG_pure (r01Valid_ok r) ?_
  simp; repeat' ((first | refine CondG_dec (fun h => ?_) (fun h => ?_) | refine GuardG_dec (fun h => ?_) (fun h => ?_) | refine PGuardG_dec (fun h => ?_) (fun h => ?_) | refine DGuardG_dec (fun h => ?_) (fun h => ?_) | refine QGuardG_dec (fun h => ?_) (fun h => ?_) | refine CondG_ndec (fun h => ?_) (fun h => ?_) | refine GuardG_ndec (fun h => ?_) (fun h => ?_) | refine PGuardG_ndec (fun h => ?_) (fun h => ?_) | refine DGuardG_ndec (fun h => ?_) (fun h => ?_) | refine QGuardG_ndec (fun h => ?_) (fun h => ?_) | refine CondG_split (fun h => ?_) (fun h => ?_) | refine GuardG_split (fun h => ?_) (fun h => ?_) | refine PGuardG_split (fun h => ?_) (fun h => ?_) | refine DGuardG_split (fun h => ?_) (fun h => ?_) | refine QGuardG_split (fun h => ?_) (fun h => ?_)) <;> (first | (exfalso; first | omega | contradiction) | simp [*]))
  all_goals (first | ((first | refine Fin_pure hσ ?_ | refine Fin_pure0 ?_); simp [Rect.reduce, Rect.zero, *]; done) | skip)
  ((first | refine DrawG_by (by decide +kernel) ?_ | refine DrawG_st (by decide +kernel) ?_ | refine DrawG_x [] (by decide +kernel) (by decide +kernel) ?_); simp; refine PCallG_pure (r01Ceil_ok _ _) ?_; simp; refine PCallG_pure (r01Ceil_ok _ _) ?_; simp; refine PCallG_pure (r01Ceil_ok _ _) ?_; simp; refine PCallG_pure (r01Ceil_ok _ _) ?_; simp)
  all_goals ((first | refine Fin_pure hσ ?_ | refine Fin_pure0 ?_); simp [Rect.reduce, Rect.zero, *])
end Go.Proofs.YtdleboihgaedjaaGreat
