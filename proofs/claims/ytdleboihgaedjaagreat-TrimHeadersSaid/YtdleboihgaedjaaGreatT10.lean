import Derived.Test.YtdleboihgaedjaaGreatT9
namespace Go.Proofs.YtdleboihgaedjaaGreat
open Go Go.Sal
set_option maxRecDepth 100000
set_option maxHeartbeats 2000000

/-- What simp shall not use. -/
def Seal (p : Prop) : Prop := p
theorem Seal.out {p : Prop} (h : Seal p) : p := h

theorem sameHeader_ok (A B : Hdr) (h1 : A.comps.length ≤ 1000000) : Pure Tryz.prog 60 [A.av, B.av] (.bool (decide (A = B))) := by
  refine Pure.intro fun σ => ?_
  refine ACalls_fn (N := _) [] follows_ok Tryz.func60 rfl Tryz.ntmps60 rfl (by kernel_rfl) (by kernel_rfl) (by simp) fun hσ hc => ?_
  simp
  repeat' (first | (simp (disch := omega) only [wrap_i, List.getElem?_eq_getElem]; try simp) | ((first | refine CondG_dec (fun h => ?_) (fun h => ?_) | refine GuardG_dec (fun h => ?_) (fun h => ?_) | refine PGuardG_dec (fun h => ?_) (fun h => ?_) | refine DGuardG_dec (fun h => ?_) (fun h => ?_) | refine QGuardG_dec (fun h => ?_) (fun h => ?_) | refine CondG_ndec (fun h => ?_) (fun h => ?_) | refine GuardG_ndec (fun h => ?_) (fun h => ?_) | refine PGuardG_ndec (fun h => ?_) (fun h => ?_) | refine DGuardG_ndec (fun h => ?_) (fun h => ?_) | refine QGuardG_ndec (fun h => ?_) (fun h => ?_) | refine CondG_split (fun h => ?_) (fun h => ?_) | refine GuardG_split (fun h => ?_) (fun h => ?_) | refine PGuardG_split (fun h => ?_) (fun h => ?_) | refine DGuardG_split (fun h => ?_) (fun h => ?_) | refine QGuardG_split (fun h => ?_) (fun h => ?_)) <;> (first | (exfalso; first | omega | contradiction) | simp [*])) | (refine And.intro ?_ ?_; focus ((first | omega | (have := maxLen_ge; omega) | ((repeat' apply And.intro) <;> first | omega | (have := maxLen_ge; omega) | (intros; omega) | (rintro _ _ _ rfl; simp; done) | (rintro _ _ _ _ rfl; simp; done) | (intros; simp; done)) | (rintro _ _ _ rfl; simp; done)))) | ((first | refine DrawG_by (by decide +kernel) ?_ | refine DrawG_st (by decide +kernel) ?_ | refine DrawG_x [] (by decide +kernel) (by decide +kernel) ?_); simp))
  all_goals (first | ((first | refine Fin_pure hσ ?_ | refine Fin_pure0 ?_); simp [Hdr.mk.injEq]; grind [Hdr]; done) | skip)
  have hl1 : A.comps.length ≤ B.comps.length := by omega
  have hl2 : B.comps.length ≤ A.comps.length := by omega
  have hs : Seal (A.area = B.area ∧ A.tw = B.tw ∧ A.th = B.th) := ⟨by assumption, by assumption, by assumption⟩
  rename_i h3 h4 h5
  clear h3 h4 h5 h
  refine LoopG_by (fun i : Nat => i ≤ A.comps.length ∧ A.comps.take i = B.comps.take i) (fun i => A.comps.length - i) (fun i => [(2, .ref σ.length 0), (3, .ref (σ.length + 1) 0), (5, i64 i)]) (fun _ => σ ++ [.cells (⟨B.area, B.tw, B.th, A.comps⟩ : Hdr).cells, .cells B.cells]) 0 (by simp) (Less.toMk0 (by simp) (by simp)) ?_
  rintro i ⟨h0, hall⟩
  simp
  repeat' (first | (simp (disch := omega) only [wrap_i, List.getElem?_eq_getElem]; try simp) | ((first | refine CondG_dec (fun h => ?_) (fun h => ?_) | refine GuardG_dec (fun h => ?_) (fun h => ?_) | refine PGuardG_dec (fun h => ?_) (fun h => ?_) | refine DGuardG_dec (fun h => ?_) (fun h => ?_) | refine QGuardG_dec (fun h => ?_) (fun h => ?_) | refine CondG_ndec (fun h => ?_) (fun h => ?_) | refine GuardG_ndec (fun h => ?_) (fun h => ?_) | refine PGuardG_ndec (fun h => ?_) (fun h => ?_) | refine DGuardG_ndec (fun h => ?_) (fun h => ?_) | refine QGuardG_ndec (fun h => ?_) (fun h => ?_) | refine CondG_split (fun h => ?_) (fun h => ?_) | refine GuardG_split (fun h => ?_) (fun h => ?_) | refine PGuardG_split (fun h => ?_) (fun h => ?_) | refine DGuardG_split (fun h => ?_) (fun h => ?_) | refine QGuardG_split (fun h => ?_) (fun h => ?_)) <;> (first | (exfalso; first | omega | contradiction) | simp [*])) | (refine And.intro ?_ ?_; focus ((first | omega | (have := maxLen_ge; omega) | ((repeat' apply And.intro) <;> first | omega | (have := maxLen_ge; omega) | (intros; omega) | (rintro _ _ _ rfl; simp; done) | (rintro _ _ _ _ rfl; simp; done) | (intros; simp; done)) | (rintro _ _ _ rfl; simp; done)))) | ((first | refine DrawG_by (by decide +kernel) ?_ | refine DrawG_st (by decide +kernel) ?_ | refine DrawG_x [] (by decide +kernel) (by decide +kernel) ?_); simp))
  · exact ⟨i + 1, Less.toMk' (by rw [List.append_assoc]; rfl) (hσ.add (by simp)) (by simp) (by simp), by omega, by omega, take_eq_succ (by omega) (by omega) hall (by assumption)⟩
  · (first | refine Fin_pure hσ ?_ | refine Fin_pure0 ?_); simp; have := hs.out; have := ne_of_get (l := A.comps) (m := B.comps) (i := i) (by omega) (by omega) (by assumption); grind [Hdr]
  · (first | refine Fin_pure hσ ?_ | refine Fin_pure0 ?_); simp; have := hs.out; have := take_eq_all (by omega) (by omega) hall; grind [Hdr]

/-- The code block's modes are the same. -/
def _root_.Go.Sal.Prm.Mode (a b : Prm) : Prop := a.bypass = b.bypass ∧ a.restart = b.restart ∧ a.reset = b.reset ∧ a.causal = b.causal ∧ a.symbols = b.symbols
instance (a b : Prm) : Decidable (a.Mode b) := by unfold Prm.Mode; infer_instance
@[simp] theorem mode_beq (a b : Prm) : (a.bypass == b.bypass && (a.restart == b.restart && (a.reset == b.reset && (a.causal == b.causal && a.symbols == b.symbols)))) = decide (a.Mode b) := by
  rw [Bool.eq_iff_iff, decide_eq_true_eq]; simp [Prm.Mode]

@[simp] theorem pair_beq (a b : Int × Int) : (decide (a.1 = b.1) && decide (a.2 = b.2)) = decide (a = b) := by
  rw [Bool.eq_iff_iff]; cases a; cases b; simp

theorem sameParams_ok (A B : Prm) (h1 : A.prec.length ≤ 1000000) (h2 : A.steps.length ≤ 1000000) : Pure Tryz.prog 61 [A.av, B.av] (.bool (decide (A = B))) := by
  refine Pure.intro fun σ => ?_
  refine ACalls_fn (N := _) [] follows_ok Tryz.func61 rfl Tryz.ntmps61 rfl (by kernel_rfl) (by kernel_rfl) (by simp) fun hσ hc => ?_
  simp
  repeat' (first | (simp (disch := omega) only [wrap_i, List.getElem?_eq_getElem]; try simp) | ((first | refine CondG_dec (fun h => ?_) (fun h => ?_) | refine GuardG_dec (fun h => ?_) (fun h => ?_) | refine PGuardG_dec (fun h => ?_) (fun h => ?_) | refine DGuardG_dec (fun h => ?_) (fun h => ?_) | refine QGuardG_dec (fun h => ?_) (fun h => ?_) | refine CondG_ndec (fun h => ?_) (fun h => ?_) | refine GuardG_ndec (fun h => ?_) (fun h => ?_) | refine PGuardG_ndec (fun h => ?_) (fun h => ?_) | refine DGuardG_ndec (fun h => ?_) (fun h => ?_) | refine QGuardG_ndec (fun h => ?_) (fun h => ?_) | refine CondG_split (fun h => ?_) (fun h => ?_) | refine GuardG_split (fun h => ?_) (fun h => ?_) | refine PGuardG_split (fun h => ?_) (fun h => ?_) | refine DGuardG_split (fun h => ?_) (fun h => ?_) | refine QGuardG_split (fun h => ?_) (fun h => ?_)) <;> (first | (exfalso; first | omega | contradiction) | simp [*])) | (refine And.intro ?_ ?_; focus ((first | omega | (have := maxLen_ge; omega) | ((repeat' apply And.intro) <;> first | omega | (have := maxLen_ge; omega) | (intros; omega) | (rintro _ _ _ rfl; simp; done) | (rintro _ _ _ _ rfl; simp; done) | (intros; simp; done)) | (rintro _ _ _ rfl; simp; done)))) | ((first | refine DrawG_by (by decide +kernel) ?_ | refine DrawG_st (by decide +kernel) ?_ | refine DrawG_x [] (by decide +kernel) (by decide +kernel) ?_); simp))
  all_goals (first | ((first | refine Fin_pure hσ ?_ | refine Fin_pure0 ?_); simp [Prm.mk.injEq]; grind [Prm, Prm.Mode]; done) | skip)
  have hl1 : A.prec.length ≤ B.prec.length := by omega
  have hl2 : B.prec.length ≤ A.prec.length := by omega
  have hl3 : A.steps.length ≤ B.steps.length := by omega
  have hl4 : B.steps.length ≤ A.steps.length := by omega
  have hs : Seal (A.kernel = B.kernel ∧ A.levels = B.levels ∧ A.color = B.color ∧ A.bx = B.bx ∧ A.by_ = B.by_ ∧ A.order = B.order ∧ A.layers = B.layers ∧ A.Mode B ∧ A.divide = B.divide ∧ A.sync = B.sync ∧ A.fence = B.fence ∧ A.dead = B.dead ∧ A.shift = B.shift) := by refine ⟨?_, ?_, ?_, ?_, ?_, ?_, ?_, ?_, ?_, ?_, ?_, ?_, ?_⟩ <;> assumption
  rename_i k1 k2 k3 k4 k5 k6 k7 k8 k9 k10 k11 k12 k13 k14
  clear k1 k2 k3 k4 k5 k6 k7 k8 k9 k10 k11 k12 k13 k14 h
  refine LoopG_by (fun i : Nat => i ≤ A.prec.length ∧ A.prec.take i = B.prec.take i) (fun i => A.prec.length - i) (fun i => [(2, .ref σ.length 0), (3, .ref (σ.length + 1) 0), (5, i64 i)]) (fun _ => σ ++ [.cells A.cells, .cells B.cells]) 0 (by simp) (Less.toMk0 (by simp) (by simp)) ?_
  rintro i ⟨h0, hall⟩
  simp
  repeat' (first | (simp (disch := omega) only [wrap_i, List.getElem?_eq_getElem]; try simp) | ((first | refine CondG_dec (fun h => ?_) (fun h => ?_) | refine GuardG_dec (fun h => ?_) (fun h => ?_) | refine PGuardG_dec (fun h => ?_) (fun h => ?_) | refine DGuardG_dec (fun h => ?_) (fun h => ?_) | refine QGuardG_dec (fun h => ?_) (fun h => ?_) | refine CondG_ndec (fun h => ?_) (fun h => ?_) | refine GuardG_ndec (fun h => ?_) (fun h => ?_) | refine PGuardG_ndec (fun h => ?_) (fun h => ?_) | refine DGuardG_ndec (fun h => ?_) (fun h => ?_) | refine QGuardG_ndec (fun h => ?_) (fun h => ?_) | refine CondG_split (fun h => ?_) (fun h => ?_) | refine GuardG_split (fun h => ?_) (fun h => ?_) | refine PGuardG_split (fun h => ?_) (fun h => ?_) | refine DGuardG_split (fun h => ?_) (fun h => ?_) | refine QGuardG_split (fun h => ?_) (fun h => ?_)) <;> (first | (exfalso; first | omega | contradiction) | simp [*])) | (refine And.intro ?_ ?_; focus ((first | omega | (have := maxLen_ge; omega) | ((repeat' apply And.intro) <;> first | omega | (have := maxLen_ge; omega) | (intros; omega) | (rintro _ _ _ rfl; simp; done) | (rintro _ _ _ _ rfl; simp; done) | (intros; simp; done)) | (rintro _ _ _ rfl; simp; done)))) | ((first | refine DrawG_by (by decide +kernel) ?_ | refine DrawG_st (by decide +kernel) ?_ | refine DrawG_x [] (by decide +kernel) (by decide +kernel) ?_); simp))
  · exact ⟨i + 1, Less.toMk' (by rw [List.append_assoc]; rfl) (hσ.add (by simp)) (by simp) (by simp), by omega, by omega, take_eq_succ (by omega) (by omega) hall (by assumption)⟩
  · (first | refine Fin_pure hσ ?_ | refine Fin_pure0 ?_); simp; have := ne_of_get (l := A.prec) (m := B.prec) (i := i) (by omega) (by omega) (by assumption); grind [Prm]
  have hp : Seal (A.prec = B.prec) := take_eq_all (by omega) (by omega) hall
  clear hall h0
  refine LoopG_by (fun i : Nat => i ≤ A.steps.length ∧ A.steps.take i = B.steps.take i) (fun i => A.steps.length - i) (fun i => [(2, .ref σ.length 0), (3, .ref (σ.length + 1) 0), (6, i64 i)]) (fun _ => σ ++ [.cells A.cells, .cells B.cells]) 0 (by simp) (Less.toMk0 (by simp) (by simp)) ?_
  rintro i ⟨h0, hall⟩
  simp
  repeat' (first | (simp (disch := omega) only [wrap_i, List.getElem?_eq_getElem]; try simp) | ((first | refine CondG_dec (fun h => ?_) (fun h => ?_) | refine GuardG_dec (fun h => ?_) (fun h => ?_) | refine PGuardG_dec (fun h => ?_) (fun h => ?_) | refine DGuardG_dec (fun h => ?_) (fun h => ?_) | refine QGuardG_dec (fun h => ?_) (fun h => ?_) | refine CondG_ndec (fun h => ?_) (fun h => ?_) | refine GuardG_ndec (fun h => ?_) (fun h => ?_) | refine PGuardG_ndec (fun h => ?_) (fun h => ?_) | refine DGuardG_ndec (fun h => ?_) (fun h => ?_) | refine QGuardG_ndec (fun h => ?_) (fun h => ?_) | refine CondG_split (fun h => ?_) (fun h => ?_) | refine GuardG_split (fun h => ?_) (fun h => ?_) | refine PGuardG_split (fun h => ?_) (fun h => ?_) | refine DGuardG_split (fun h => ?_) (fun h => ?_) | refine QGuardG_split (fun h => ?_) (fun h => ?_)) <;> (first | (exfalso; first | omega | contradiction) | simp [*])) | (refine And.intro ?_ ?_; focus ((first | omega | (have := maxLen_ge; omega) | ((repeat' apply And.intro) <;> first | omega | (have := maxLen_ge; omega) | (intros; omega) | (rintro _ _ _ rfl; simp; done) | (rintro _ _ _ _ rfl; simp; done) | (intros; simp; done)) | (rintro _ _ _ rfl; simp; done)))) | ((first | refine DrawG_by (by decide +kernel) ?_ | refine DrawG_st (by decide +kernel) ?_ | refine DrawG_x [] (by decide +kernel) (by decide +kernel) ?_); simp))
  · exact ⟨i + 1, Less.toMk' (by rw [List.append_assoc]; rfl) (hσ.add (by simp)) (by simp) (by simp), by omega, by omega, take_eq_succ (by omega) (by omega) hall (by assumption)⟩
  · (first | refine Fin_pure hσ ?_ | refine Fin_pure0 ?_); simp; have := ne_of_get (l := A.steps) (m := B.steps) (i := i) (by omega) (by omega) (by assumption); grind [Prm]
  · (first | refine Fin_pure hσ ?_ | refine Fin_pure0 ?_); simp; have := hs.out; have := hp.out; have := take_eq_all (by omega) (by omega) hall; grind [Prm, Prm.Mode]
end Go.Proofs.YtdleboihgaedjaaGreat
