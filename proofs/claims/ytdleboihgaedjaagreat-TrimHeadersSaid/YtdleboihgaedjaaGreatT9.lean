import Derived.Test.YtdleboihgaedjaaGreatT8
namespace Go.Proofs.YtdleboihgaedjaaGreat
open Go Go.Sal
set_option maxRecDepth 100000
set_option maxHeartbeats 2000000
set_option pp.deepTerms false
set_option pp.deepTerms.threshold 6

/-- Bytes that do not begin with the first marker. -/
def NoMagic (b : List UInt8) : Prop := (readS b 0).2.2 ≠ 0 ∨ (readS b 0).1.code ≠ 65440
theorem readMain_bad (b : List UInt8) (hb : b.length ≤ 67108864) (hm : NoMagic b) : Pure Tryz.prog 71 [lv (bels b)] (.tup [.agg (Hdr.zero.cells ++ Prm.zero.cells ++ [lv [], lv [], i64 0]), i64 10]) := by
  unfold NoMagic at hm
  refine Pure.intro fun σ => ?_
  refine ACalls_fn (N := _) [] follows_ok Tryz.func71 rfl Tryz.ntmps71 rfl (by kernel_rfl) (by kernel_rfl) (by simp) fun hσ hc => ?_
  simp
  repeat' (first | (simp (disch := omega) only [wrap_i]; try simp) | ((first | refine CondG_dec (fun h => ?_) (fun h => ?_) | refine GuardG_dec (fun h => ?_) (fun h => ?_) | refine PGuardG_dec (fun h => ?_) (fun h => ?_) | refine DGuardG_dec (fun h => ?_) (fun h => ?_) | refine QGuardG_dec (fun h => ?_) (fun h => ?_) | refine CondG_ndec (fun h => ?_) (fun h => ?_) | refine GuardG_ndec (fun h => ?_) (fun h => ?_) | refine PGuardG_ndec (fun h => ?_) (fun h => ?_) | refine DGuardG_ndec (fun h => ?_) (fun h => ?_) | refine QGuardG_ndec (fun h => ?_) (fun h => ?_) | refine CondG_split (fun h => ?_) (fun h => ?_) | refine GuardG_split (fun h => ?_) (fun h => ?_) | refine PGuardG_split (fun h => ?_) (fun h => ?_) | refine DGuardG_split (fun h => ?_) (fun h => ?_) | refine QGuardG_split (fun h => ?_) (fun h => ?_)) <;> (first | (exfalso; omega) | simp [*])) | ((first | refine CallG_pure (read_ok b 0 _ _ (by omega) (by omega) (by omega)) ?_ | refine PCallG_pure (read_ok b 0 _ _ (by omega) (by omega) (by omega)) ?_ | refine QCallG_pure (read_ok b 0 _ _ (by omega) (by omega) (by omega)) ?_ | refine DCallG_pure (read_ok b 0 _ _ (by omega) (by omega) (by omega)) ?_ | (refine CallG_wk (read_ok b 0 _ _ (by omega) (by omega) (by omega)) ?_ ?_; focus (simp; done)) | (refine PCallG_wk (read_ok b 0 _ _ (by omega) (by omega) (by omega)) ?_ ?_; focus (simp; done)) | (refine QCallG_wk (read_ok b 0 _ _ (by omega) (by omega) (by omega)) ?_ ?_; focus (simp; done)) | (refine DCallG_wk (read_ok b 0 _ _ (by omega) (by omega) (by omega)) ?_ ?_; focus (simp; done))); simp) | (refine And.intro ?_ ?_; focus ((first | omega | (have := maxLen_ge; omega) | ((repeat' apply And.intro) <;> first | omega | (have := maxLen_ge; omega) | (intros; omega) | (rintro _ _ _ rfl; simp; done) | (rintro _ _ _ _ rfl; simp; done) | (intros; simp; done)) | (rintro _ _ _ rfl; simp; done)))) | ((first | refine DrawG_by (by decide +kernel) ?_ | refine DrawG_st (by decide +kernel) ?_ | refine DrawG_x [] (by decide +kernel) (by decide +kernel) ?_); simp))
  all_goals (first | (exfalso; simp_all; done) | skip)
  all_goals ((first | refine Fin_pure hσ ?_ | refine Fin_pure0 ?_); simp)
  all_goals trace_state
theorem parse_bad (b : List UInt8) (hb : b.length ≤ 67108864) (hm : NoMagic b) : Pure Tryz.prog 27 [lv (bels b)] (.tup [.agg (Hdr.zero.cells ++ Prm.zero.cells ++ [lv [], lv []]), i64 10]) := by
  refine Pure.intro fun σ => ?_
  refine ACalls_fn (N := _) [] follows_ok Tryz.func27 rfl Tryz.ntmps27 rfl (by kernel_rfl) (by kernel_rfl) (by simp) fun hσ hc => ?_
  simp
  repeat' (first | (simp (disch := omega) only [wrap_i]; try simp) | ((first | refine CondG_dec (fun h => ?_) (fun h => ?_) | refine GuardG_dec (fun h => ?_) (fun h => ?_) | refine PGuardG_dec (fun h => ?_) (fun h => ?_) | refine DGuardG_dec (fun h => ?_) (fun h => ?_) | refine QGuardG_dec (fun h => ?_) (fun h => ?_) | refine CondG_ndec (fun h => ?_) (fun h => ?_) | refine GuardG_ndec (fun h => ?_) (fun h => ?_) | refine PGuardG_ndec (fun h => ?_) (fun h => ?_) | refine DGuardG_ndec (fun h => ?_) (fun h => ?_) | refine QGuardG_ndec (fun h => ?_) (fun h => ?_) | refine CondG_split (fun h => ?_) (fun h => ?_) | refine GuardG_split (fun h => ?_) (fun h => ?_) | refine PGuardG_split (fun h => ?_) (fun h => ?_) | refine DGuardG_split (fun h => ?_) (fun h => ?_) | refine QGuardG_split (fun h => ?_) (fun h => ?_)) <;> (first | (exfalso; omega) | simp [*])) | ((first | refine CallG_pure (readMain_bad b hb hm) ?_ | refine PCallG_pure (readMain_bad b hb hm) ?_ | refine QCallG_pure (readMain_bad b hb hm) ?_ | refine DCallG_pure (readMain_bad b hb hm) ?_ | (refine CallG_wk (readMain_bad b hb hm) ?_ ?_; focus (simp; done)) | (refine PCallG_wk (readMain_bad b hb hm) ?_ ?_; focus (simp; done)) | (refine QCallG_wk (readMain_bad b hb hm) ?_ ?_; focus (simp; done)) | (refine DCallG_wk (readMain_bad b hb hm) ?_ ?_; focus (simp; done))); simp) | (refine And.intro ?_ ?_; focus ((first | omega | (have := maxLen_ge; omega) | ((repeat' apply And.intro) <;> first | omega | (have := maxLen_ge; omega) | (intros; omega) | (rintro _ _ _ rfl; simp; done) | (rintro _ _ _ _ rfl; simp; done) | (intros; simp; done)) | (rintro _ _ _ rfl; simp; done)))) | ((first | refine DrawG_by (by decide +kernel) ?_ | refine DrawG_st (by decide +kernel) ?_ | refine DrawG_x [(1,11),(3,11),(5,11),(7,11)] (by decide +kernel) (by decide +kernel) ?_ | refine DrawG_x [] (by decide +kernel) (by decide +kernel) ?_); simp))
  all_goals (first | (exfalso; simp_all; done) | skip)
  all_goals ((first | refine Fin_pure hσ ?_ | refine Fin_pure0 ?_); simp)
  all_goals trace_state
end Go.Proofs.YtdleboihgaedjaaGreat
