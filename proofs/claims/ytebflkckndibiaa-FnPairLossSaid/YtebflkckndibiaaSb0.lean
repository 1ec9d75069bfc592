/- The ghost answers as the shallow functions do, part 0. Written by program. -/
import Derived.Test.YtebflkckndibiaaSa
namespace Gh
open Go
set_option linter.unusedSimpArgs false
set_option linter.unusedVariables false
set_option maxRecDepth 100000
set_option maxHeartbeats 20000000

theorem ok_laws_vBig {cl : Callee} : K_laws_vBig (x_laws_vBig) (gbody F LL cl c_laws_vBig) := by
  intro code_ r hr
  unfold x_laws_vBig at hr
  try dsimp only at hr
  have hr_ := Option.some.inj hr; subst hr_
  refine RetF.scal (by
    simp only [c_laws_vBig, evA, evB, Int.reduceToNat, eq_self, reduceCtorEq, ↓reduceIte, Nat.reduceEqDiff, Nat.reduceAdd, Nat.reduceLT, Nat.reduceLeDiff, Nat.reduceMul, Nat.reduceSub, Nat.reduceBEq, impl_Job.cells, rz_impl_Job, pr_impl_Job, spec_l1Cur.cells, rz_spec_l1Cur, pr_spec_l1Cur, arr_2_int.cells, rz_arr_2_int, pr_arr_2_int, *]
    rfl) rfl rfl

theorem ok_impl_within {cl : Callee} : K_impl_within (x_impl_within) (gbody F LL cl c_impl_within) := by
  intro n_ low_ high_ r hr
  unfold x_impl_within at hr
  try dsimp only at hr
  by_cases h5 : low_ ≤ n_
  · rw [if_pos h5] at hr
    have e3 : (low_ ≤ n_) = True := eq_true h5
    clear h5
    have hr_ := Option.some.inj hr; subst hr_
    refine RetF.scal (by
      simp only [c_impl_within, evA, evB, Int.reduceToNat, eq_self, reduceCtorEq, ↓reduceIte, Nat.reduceEqDiff, Nat.reduceAdd, Nat.reduceLT, Nat.reduceLeDiff, Nat.reduceMul, Nat.reduceSub, Nat.reduceBEq, impl_Job.cells, rz_impl_Job, pr_impl_Job, spec_l1Cur.cells, rz_spec_l1Cur, pr_spec_l1Cur, arr_2_int.cells, rz_arr_2_int, pr_arr_2_int, *]
      rfl) rfl rfl
  · rw [if_neg h5] at hr
    have e4 : (low_ ≤ n_) = False := eq_false h5
    clear h5
    have hr_ := Option.some.inj hr; subst hr_
    refine RetF.scal (by
      simp only [c_impl_within, evA, evB, Int.reduceToNat, eq_self, reduceCtorEq, ↓reduceIte, Nat.reduceEqDiff, Nat.reduceAdd, Nat.reduceLT, Nat.reduceLeDiff, Nat.reduceMul, Nat.reduceSub, Nat.reduceBEq, impl_Job.cells, rz_impl_Job, pr_impl_Job, spec_l1Cur.cells, rz_spec_l1Cur, pr_spec_l1Cur, arr_2_int.cells, rz_arr_2_int, pr_arr_2_int, *]
      rfl) rfl rfl

theorem ok_impl_isDate {cl : Callee} (K_impl_within : K_impl_within x_impl_within (cl n_impl_within)) : K_impl_isDate (x_impl_isDate) (gbody F LL cl c_impl_isDate) := by
  intro n_ r hr
  unfold x_impl_isDate at hr
  try dsimp only at hr
  obtain ⟨r1, q3, hr⟩ := Option.bind_eq_some_iff.1 hr
  have e2 : ∀ H ng, gcall (shOf F) cl false n_impl_within [.int .i64 n_, .int .i64 0, .int .i64 500] H ng = some (.bool r1, H, ng, .inert) := fun H ng => call_far s_impl_within rfl (K_impl_within _ _ _ _ q3).ret
  have hr_ := Option.some.inj hr; subst hr_
  refine RetF.scal (by
    simp only [c_impl_isDate, evA, evB, Int.reduceToNat, eq_self, reduceCtorEq, ↓reduceIte, Nat.reduceEqDiff, Nat.reduceAdd, Nat.reduceLT, Nat.reduceLeDiff, Nat.reduceMul, Nat.reduceSub, Nat.reduceBEq, impl_Job.cells, rz_impl_Job, pr_impl_Job, spec_l1Cur.cells, rz_spec_l1Cur, pr_spec_l1Cur, arr_2_int.cells, rz_arr_2_int, pr_arr_2_int, *]
    rfl) rfl rfl

theorem st_impl_IsJobs_l0 {cl : Callee} (K_impl_within : K_impl_within x_impl_within (cl n_impl_within)) (K_impl_isDate : K_impl_isDate x_impl_isDate (cl n_impl_isDate)) (v : (List impl_Job)) (vz1 : Int) (st_ : (Int)) (c_ : Ctl (Int) (Unit ⊕ (Bool))) (hr : x_impl_IsJobs_l0 v vz1 st_ = some c_) (T_ : Tm) (H_ : List Blk) (ng : Nat) (hR_ : R_impl_IsJobs_l0 v vz1 st_ T_ H_) :
    ∃ e_ T1_ H1_ ng1_, gcode (shOf F) cl LL c_impl_IsJobs_l0 ⟨maskT (some [8, 9, 10]) T_, H_, ng⟩ = some (e_, ⟨T1_, H1_, ng1_⟩) ∧ TurnOK (R_impl_IsJobs_l0 v vz1) (Q_impl_IsJobs_l0 v vz1) 0 c_ e_ T1_ H1_ := by
  obtain ⟨vz2, hst_⟩ : ∃ x, x = st_ := ⟨_, rfl⟩; subst hst_
  obtain ⟨f0_, f1_, f2_, rfl⟩ := hR_
  unfold x_impl_IsJobs_l0 at hr
  try dsimp only at hr
  by_cases h5 : vz2 < vz1
  · rw [if_pos h5] at hr
    have e3 : (vz2 < vz1) = True := eq_true h5
    clear h5
    obtain ⟨y6, q10, hr⟩ := Option.bind_eq_some_iff.1 hr
    obtain ⟨e7, e8, e9⟩ := ix_some q10
    try simp only [Int.toNat_natCast, Int.toNat_zero, Int.reduceToNat] at e8
    clear q10
    obtain ⟨r11, q13, hr⟩ := Option.bind_eq_some_iff.1 hr
    have e12 : ∀ H ng, gcall (shOf F) cl false n_impl_within [.int .i64 y6.Time, .int .i64 1, .int .i64 50] H ng = some (.bool r11, H, ng, .inert) := fun H ng => call_far s_impl_within rfl (K_impl_within _ _ _ _ q13).ret
    by_cases h16 : r11 = true
    · rw [if_pos h16] at hr
      have e14 : r11 = true := h16
      clear h16
      obtain ⟨r17, q19, hr⟩ := Option.bind_eq_some_iff.1 hr
      have e18 : ∀ H ng, gcall (shOf F) cl false n_impl_within [.int .i64 y6.Weight, .int .i64 0, .int .i64 50] H ng = some (.bool r17, H, ng, .inert) := fun H ng => call_far s_impl_within rfl (K_impl_within _ _ _ _ q19).ret
      by_cases h22 : r17 = true
      · rw [if_pos h22] at hr
        have e20 : r17 = true := h22
        clear h22
        obtain ⟨r23, q25, hr⟩ := Option.bind_eq_some_iff.1 hr
        have e24 : ∀ H ng, gcall (shOf F) cl false n_impl_isDate [.int .i64 y6.Release] H ng = some (.bool r23, H, ng, .inert) := fun H ng => call_far s_impl_isDate rfl (K_impl_isDate _ _ q25).ret
        by_cases h28 : r23 = true
        · rw [if_pos h28] at hr
          have e26 : r23 = true := h28
          clear h28
          obtain ⟨r29, q31, hr⟩ := Option.bind_eq_some_iff.1 hr
          have e30 : ∀ H ng, gcall (shOf F) cl false n_impl_isDate [.int .i64 y6.Due] H ng = some (.bool r29, H, ng, .inert) := fun H ng => call_far s_impl_isDate rfl (K_impl_isDate _ _ q31).ret
          by_cases h34 : r29 = true
          · rw [if_pos h34] at hr
            have e32 : r29 = true := h34
            clear h34
            have hr_ := Option.some.inj hr; subst hr_
            refine turn (by
              simp only [c_impl_IsJobs_l0, evA, evB, Int.reduceToNat, eq_self, reduceCtorEq, ↓reduceIte, Nat.reduceEqDiff, Nat.reduceAdd, Nat.reduceLT, Nat.reduceLeDiff, Nat.reduceMul, Nat.reduceSub, Nat.reduceBEq, impl_Job.cells, rz_impl_Job, pr_impl_Job, spec_l1Cur.cells, rz_spec_l1Cur, pr_spec_l1Cur, arr_2_int.cells, rz_arr_2_int, pr_arr_2_int, *]
              rfl) ?_
            exact ⟨rfl, rfl, rfl, rfl, rfl⟩
          · rw [if_neg h34] at hr
            have e33 : r29 = false := Bool.eq_false_iff.2 h34
            clear h34
            have hr_ := Option.some.inj hr; subst hr_
            refine turn (by
              simp only [c_impl_IsJobs_l0, evA, evB, Int.reduceToNat, eq_self, reduceCtorEq, ↓reduceIte, Nat.reduceEqDiff, Nat.reduceAdd, Nat.reduceLT, Nat.reduceLeDiff, Nat.reduceMul, Nat.reduceSub, Nat.reduceBEq, impl_Job.cells, rz_impl_Job, pr_impl_Job, spec_l1Cur.cells, rz_spec_l1Cur, pr_spec_l1Cur, arr_2_int.cells, rz_arr_2_int, pr_arr_2_int, *]
              rfl) ?_
            exact ⟨by simp, rfl, rfl⟩
        · rw [if_neg h28] at hr
          have e27 : r23 = false := Bool.eq_false_iff.2 h28
          clear h28
          have hr_ := Option.some.inj hr; subst hr_
          refine turn (by
            simp only [c_impl_IsJobs_l0, evA, evB, Int.reduceToNat, eq_self, reduceCtorEq, ↓reduceIte, Nat.reduceEqDiff, Nat.reduceAdd, Nat.reduceLT, Nat.reduceLeDiff, Nat.reduceMul, Nat.reduceSub, Nat.reduceBEq, impl_Job.cells, rz_impl_Job, pr_impl_Job, spec_l1Cur.cells, rz_spec_l1Cur, pr_spec_l1Cur, arr_2_int.cells, rz_arr_2_int, pr_arr_2_int, *]
            rfl) ?_
          exact ⟨by simp, rfl, rfl⟩
      · rw [if_neg h22] at hr
        have e21 : r17 = false := Bool.eq_false_iff.2 h22
        clear h22
        have hr_ := Option.some.inj hr; subst hr_
        refine turn (by
          simp only [c_impl_IsJobs_l0, evA, evB, Int.reduceToNat, eq_self, reduceCtorEq, ↓reduceIte, Nat.reduceEqDiff, Nat.reduceAdd, Nat.reduceLT, Nat.reduceLeDiff, Nat.reduceMul, Nat.reduceSub, Nat.reduceBEq, impl_Job.cells, rz_impl_Job, pr_impl_Job, spec_l1Cur.cells, rz_spec_l1Cur, pr_spec_l1Cur, arr_2_int.cells, rz_arr_2_int, pr_arr_2_int, *]
          rfl) ?_
        exact ⟨by simp, rfl, rfl⟩
    · rw [if_neg h16] at hr
      have e15 : r11 = false := Bool.eq_false_iff.2 h16
      clear h16
      have hr_ := Option.some.inj hr; subst hr_
      refine turn (by
        simp only [c_impl_IsJobs_l0, evA, evB, Int.reduceToNat, eq_self, reduceCtorEq, ↓reduceIte, Nat.reduceEqDiff, Nat.reduceAdd, Nat.reduceLT, Nat.reduceLeDiff, Nat.reduceMul, Nat.reduceSub, Nat.reduceBEq, impl_Job.cells, rz_impl_Job, pr_impl_Job, spec_l1Cur.cells, rz_spec_l1Cur, pr_spec_l1Cur, arr_2_int.cells, rz_arr_2_int, pr_arr_2_int, *]
        rfl) ?_
      exact ⟨by simp, rfl, rfl⟩
  · rw [if_neg h5] at hr
    have e4 : (vz2 < vz1) = False := eq_false h5
    clear h5
    have hr_ := Option.some.inj hr; subst hr_
    refine turn (by
      simp only [c_impl_IsJobs_l0, evA, evB, Int.reduceToNat, eq_self, reduceCtorEq, ↓reduceIte, Nat.reduceEqDiff, Nat.reduceAdd, Nat.reduceLT, Nat.reduceLeDiff, Nat.reduceMul, Nat.reduceSub, Nat.reduceBEq, impl_Job.cells, rz_impl_Job, pr_impl_Job, spec_l1Cur.cells, rz_spec_l1Cur, pr_spec_l1Cur, arr_2_int.cells, rz_arr_2_int, pr_arr_2_int, *]
      rfl) ?_
    exact ⟨by simp, rfl, rfl⟩

theorem lp_impl_IsJobs_l0 {cl : Callee} (K_impl_within : K_impl_within x_impl_within (cl n_impl_within)) (K_impl_isDate : K_impl_isDate x_impl_isDate (cl n_impl_isDate)) (v : (List impl_Job)) (vz1 : Int) (st_ : (Int)) (p_ : (Unit ⊕ (Bool))) (hr : loopS (x_impl_IsJobs_l0 v vz1) LL st_ = some p_) (T_ : Tm) (H_ : List Blk) (ng : Nat) (hR_ : R_impl_IsJobs_l0 v vz1 st_ T_ H_) (hn_ : H_.length = 0) :
    ∃ e_ T1_ H1_ ng1_, gcode (shOf F) cl LL (.loop false (some [8, 9, 10]) c_impl_IsJobs_l0) ⟨T_, H_, ng⟩ = some (e_, ⟨T1_, H1_, ng1_⟩) ∧ Q_impl_IsJobs_l0 v vz1 p_ e_ T1_ H1_ :=
  sim_loop (n0 := 0) (R_impl_IsJobs_l0 v vz1) (Q_impl_IsJobs_l0 v vz1) (st_impl_IsJobs_l0 K_impl_within K_impl_isDate v vz1) st_ p_ hr T_ H_ ng hR_ hn_

theorem ok_impl_IsJobs {cl : Callee} (K_impl_within : K_impl_within x_impl_within (cl n_impl_within)) (K_impl_isDate : K_impl_isDate x_impl_isDate (cl n_impl_isDate)) : K_impl_IsJobs (x_impl_IsJobs) (gbody F LL cl c_impl_IsJobs) := by
  intro jobs_ r hr
  unfold x_impl_IsJobs at hr
  try dsimp only at hr
  by_cases h5 : 8 < (jobs_.length : Int)
  · rw [if_pos h5] at hr
    have e3 : (8 < (jobs_.length : Int)) = True := eq_true h5
    clear h5
    have hr_ := Option.some.inj hr; subst hr_
    refine RetF.scal (by
      simp only [c_impl_IsJobs, evA, evB, Int.reduceToNat, eq_self, reduceCtorEq, ↓reduceIte, Nat.reduceEqDiff, Nat.reduceAdd, Nat.reduceLT, Nat.reduceLeDiff, Nat.reduceMul, Nat.reduceSub, Nat.reduceBEq, impl_Job.cells, rz_impl_Job, pr_impl_Job, spec_l1Cur.cells, rz_spec_l1Cur, pr_spec_l1Cur, arr_2_int.cells, rz_arr_2_int, pr_arr_2_int, *]
      rfl) rfl rfl
  · rw [if_neg h5] at hr
    have e4 : (8 < (jobs_.length : Int)) = False := eq_false h5
    clear h5
    obtain ⟨p6, q15, hr⟩ := Option.bind_eq_some_iff.1 hr
    obtain ⟨ex12, T9, H10, ng11, l8, m7⟩ := lp_impl_IsJobs_l0 (cl := cl) K_impl_within K_impl_isDate  jobs_ (jobs_.length : Int) _ _ q15 [(8, .fs (jobs_.map impl_Job.cells)), (9, .int .i64 (jobs_.length : Int)), (10, .int .i64 0)] [] 0 (show R_impl_IsJobs_l0 jobs_ (jobs_.length : Int) 0 [(8, .fs (jobs_.map impl_Job.cells)), (9, .int .i64 (jobs_.length : Int)), (10, .int .i64 0)] [] from ⟨rfl, rfl, rfl, rfl⟩) rfl
    rcases p6 with p6 | p6
    · dsimp only at hr
      obtain ⟨rfl, e13⟩ := m7
      subst e13
      have hr_ := Option.some.inj hr; subst hr_
      refine RetF.scal (by
        simp only [c_impl_IsJobs, evA, evB, Int.reduceToNat, eq_self, reduceCtorEq, ↓reduceIte, Nat.reduceEqDiff, Nat.reduceAdd, Nat.reduceLT, Nat.reduceLeDiff, Nat.reduceMul, Nat.reduceSub, Nat.reduceBEq, impl_Job.cells, rz_impl_Job, pr_impl_Job, spec_l1Cur.cells, rz_spec_l1Cur, pr_spec_l1Cur, arr_2_int.cells, rz_arr_2_int, pr_arr_2_int, *]
        rfl) rfl rfl
    · dsimp only at hr
      obtain ⟨rfl, e14⟩ := m7
      have hr_ := Option.some.inj hr; subst hr_
      refine RetF.scal (by
        simp only [c_impl_IsJobs, evA, evB, Int.reduceToNat, eq_self, reduceCtorEq, ↓reduceIte, Nat.reduceEqDiff, Nat.reduceAdd, Nat.reduceLT, Nat.reduceLeDiff, Nat.reduceMul, Nat.reduceSub, Nat.reduceBEq, impl_Job.cells, rz_impl_Job, pr_impl_Job, spec_l1Cur.cells, rz_spec_l1Cur, pr_spec_l1Cur, arr_2_int.cells, rz_arr_2_int, pr_arr_2_int, *]
        rfl) rfl rfl

theorem st_impl_isPlain_l0 {cl : Callee} (v : (List impl_Job)) (vz1 : Int) (st_ : (Int)) (c_ : Ctl (Int) (Unit ⊕ (Bool))) (hr : x_impl_isPlain_l0 v vz1 st_ = some c_) (T_ : Tm) (H_ : List Blk) (ng : Nat) (hR_ : R_impl_isPlain_l0 v vz1 st_ T_ H_) :
    ∃ e_ T1_ H1_ ng1_, gcode (shOf F) cl LL c_impl_isPlain_l0 ⟨maskT (some [5, 6, 7]) T_, H_, ng⟩ = some (e_, ⟨T1_, H1_, ng1_⟩) ∧ TurnOK (R_impl_isPlain_l0 v vz1) (Q_impl_isPlain_l0 v vz1) 0 c_ e_ T1_ H1_ := by
  obtain ⟨vz2, hst_⟩ : ∃ x, x = st_ := ⟨_, rfl⟩; subst hst_
  obtain ⟨f0_, f1_, f2_, rfl⟩ := hR_
  unfold x_impl_isPlain_l0 at hr
  try dsimp only at hr
  by_cases h5 : vz2 < vz1
  · rw [if_pos h5] at hr
    have e3 : (vz2 < vz1) = True := eq_true h5
    clear h5
    obtain ⟨y6, q10, hr⟩ := Option.bind_eq_some_iff.1 hr
    obtain ⟨e7, e8, e9⟩ := ix_some q10
    try simp only [Int.toNat_natCast, Int.toNat_zero, Int.reduceToNat] at e8
    clear q10
    by_cases h15 : y6.Release = 0
    · rw [if_pos h15] at hr
      have e13 : (y6.Release = 0) = True := eq_true h15
      clear h15
      have hr_ := Option.some.inj hr; subst hr_
      refine turn (by
        simp only [c_impl_isPlain_l0, evA, evB, Int.reduceToNat, eq_self, reduceCtorEq, ↓reduceIte, Nat.reduceEqDiff, Nat.reduceAdd, Nat.reduceLT, Nat.reduceLeDiff, Nat.reduceMul, Nat.reduceSub, Nat.reduceBEq, impl_Job.cells, rz_impl_Job, pr_impl_Job, spec_l1Cur.cells, rz_spec_l1Cur, pr_spec_l1Cur, arr_2_int.cells, rz_arr_2_int, pr_arr_2_int, *]
        rfl) ?_
      exact ⟨rfl, rfl, rfl, rfl, rfl⟩
    · rw [if_neg h15] at hr
      have e14 : (y6.Release = 0) = False := eq_false h15
      clear h15
      have hr_ := Option.some.inj hr; subst hr_
      refine turn (by
        simp only [c_impl_isPlain_l0, evA, evB, Int.reduceToNat, eq_self, reduceCtorEq, ↓reduceIte, Nat.reduceEqDiff, Nat.reduceAdd, Nat.reduceLT, Nat.reduceLeDiff, Nat.reduceMul, Nat.reduceSub, Nat.reduceBEq, impl_Job.cells, rz_impl_Job, pr_impl_Job, spec_l1Cur.cells, rz_spec_l1Cur, pr_spec_l1Cur, arr_2_int.cells, rz_arr_2_int, pr_arr_2_int, *]
        rfl) ?_
      exact ⟨by simp, rfl, rfl⟩
  · rw [if_neg h5] at hr
    have e4 : (vz2 < vz1) = False := eq_false h5
    clear h5
    have hr_ := Option.some.inj hr; subst hr_
    refine turn (by
      simp only [c_impl_isPlain_l0, evA, evB, Int.reduceToNat, eq_self, reduceCtorEq, ↓reduceIte, Nat.reduceEqDiff, Nat.reduceAdd, Nat.reduceLT, Nat.reduceLeDiff, Nat.reduceMul, Nat.reduceSub, Nat.reduceBEq, impl_Job.cells, rz_impl_Job, pr_impl_Job, spec_l1Cur.cells, rz_spec_l1Cur, pr_spec_l1Cur, arr_2_int.cells, rz_arr_2_int, pr_arr_2_int, *]
      rfl) ?_
    exact ⟨by simp, rfl, rfl⟩

theorem lp_impl_isPlain_l0 {cl : Callee} (v : (List impl_Job)) (vz1 : Int) (st_ : (Int)) (p_ : (Unit ⊕ (Bool))) (hr : loopS (x_impl_isPlain_l0 v vz1) LL st_ = some p_) (T_ : Tm) (H_ : List Blk) (ng : Nat) (hR_ : R_impl_isPlain_l0 v vz1 st_ T_ H_) (hn_ : H_.length = 0) :
    ∃ e_ T1_ H1_ ng1_, gcode (shOf F) cl LL (.loop false (some [5, 6, 7]) c_impl_isPlain_l0) ⟨T_, H_, ng⟩ = some (e_, ⟨T1_, H1_, ng1_⟩) ∧ Q_impl_isPlain_l0 v vz1 p_ e_ T1_ H1_ :=
  sim_loop (n0 := 0) (R_impl_isPlain_l0 v vz1) (Q_impl_isPlain_l0 v vz1) (st_impl_isPlain_l0 v vz1) st_ p_ hr T_ H_ ng hR_ hn_

theorem ok_impl_isPlain {cl : Callee} : K_impl_isPlain (x_impl_isPlain) (gbody F LL cl c_impl_isPlain) := by
  intro jobs_ r hr
  unfold x_impl_isPlain at hr
  try dsimp only at hr
  obtain ⟨p1, q10, hr⟩ := Option.bind_eq_some_iff.1 hr
  obtain ⟨ex7, T4, H5, ng6, l3, m2⟩ := lp_impl_isPlain_l0 (cl := cl)  jobs_ (jobs_.length : Int) _ _ q10 [(5, .fs (jobs_.map impl_Job.cells)), (6, .int .i64 (jobs_.length : Int)), (7, .int .i64 0)] [] 0 (show R_impl_isPlain_l0 jobs_ (jobs_.length : Int) 0 [(5, .fs (jobs_.map impl_Job.cells)), (6, .int .i64 (jobs_.length : Int)), (7, .int .i64 0)] [] from ⟨rfl, rfl, rfl, rfl⟩) rfl
  rcases p1 with p1 | p1
  · dsimp only at hr
    obtain ⟨rfl, e8⟩ := m2
    subst e8
    have hr_ := Option.some.inj hr; subst hr_
    refine RetF.scal (by
      simp only [c_impl_isPlain, evA, evB, Int.reduceToNat, eq_self, reduceCtorEq, ↓reduceIte, Nat.reduceEqDiff, Nat.reduceAdd, Nat.reduceLT, Nat.reduceLeDiff, Nat.reduceMul, Nat.reduceSub, Nat.reduceBEq, impl_Job.cells, rz_impl_Job, pr_impl_Job, spec_l1Cur.cells, rz_spec_l1Cur, pr_spec_l1Cur, arr_2_int.cells, rz_arr_2_int, pr_arr_2_int, *]
      rfl) rfl rfl
  · dsimp only at hr
    obtain ⟨rfl, e9⟩ := m2
    have hr_ := Option.some.inj hr; subst hr_
    refine RetF.scal (by
      simp only [c_impl_isPlain, evA, evB, Int.reduceToNat, eq_self, reduceCtorEq, ↓reduceIte, Nat.reduceEqDiff, Nat.reduceAdd, Nat.reduceLT, Nat.reduceLeDiff, Nat.reduceMul, Nat.reduceSub, Nat.reduceBEq, impl_Job.cells, rz_impl_Job, pr_impl_Job, spec_l1Cur.cells, rz_spec_l1Cur, pr_spec_l1Cur, arr_2_int.cells, rz_arr_2_int, pr_arr_2_int, *]
      rfl) rfl rfl

theorem ok_impl_isRuled {cl : Callee} (K_impl_IsJobs : K_impl_IsJobs x_impl_IsJobs (cl n_impl_IsJobs)) (K_impl_isPlain : K_impl_isPlain x_impl_isPlain (cl n_impl_isPlain)) (K_impl_within : K_impl_within x_impl_within (cl n_impl_within)) : K_impl_isRuled (x_impl_isRuled) (gbody F LL cl c_impl_isRuled) := by
  intro jobs_ objective_ r hr
  unfold x_impl_isRuled at hr
  try dsimp only at hr
  obtain ⟨r1, q3, hr⟩ := Option.bind_eq_some_iff.1 hr
  have e2 : ∀ H ng, gcall (shOf F) cl false n_impl_IsJobs [.fs (jobs_.map impl_Job.cells)] H ng = some (.bool r1, H, ng, .inert) := fun H ng => call_far s_impl_IsJobs rfl (K_impl_IsJobs _ _ q3).ret
  by_cases h6 : r1 = true
  · rw [if_pos h6] at hr
    have e4 : r1 = true := h6
    clear h6
    by_cases h11 : objective_ = 1
    · rw [if_pos h11] at hr
      have e9 : (objective_ = 1) = True := eq_true h11
      clear h11
      have hr_ := Option.some.inj hr; subst hr_
      refine RetF.scal (by
        simp only [c_impl_isRuled, evA, evB, Int.reduceToNat, eq_self, reduceCtorEq, ↓reduceIte, Nat.reduceEqDiff, Nat.reduceAdd, Nat.reduceLT, Nat.reduceLeDiff, Nat.reduceMul, Nat.reduceSub, Nat.reduceBEq, impl_Job.cells, rz_impl_Job, pr_impl_Job, spec_l1Cur.cells, rz_spec_l1Cur, pr_spec_l1Cur, arr_2_int.cells, rz_arr_2_int, pr_arr_2_int, *]
        rfl) rfl rfl
    · rw [if_neg h11] at hr
      have e10 : (objective_ = 1) = False := eq_false h11
      clear h11
      obtain ⟨r12, q14, hr⟩ := Option.bind_eq_some_iff.1 hr
      have e13 : ∀ H ng, gcall (shOf F) cl false n_impl_within [.int .i64 objective_, .int .i64 2, .int .i64 4] H ng = some (.bool r12, H, ng, .inert) := fun H ng => call_far s_impl_within rfl (K_impl_within _ _ _ _ q14).ret
      by_cases h17 : r12 = true
      · rw [if_pos h17] at hr
        have e15 : r12 = true := h17
        clear h17
        obtain ⟨r18, q20, hr⟩ := Option.bind_eq_some_iff.1 hr
        have e19 : ∀ H ng, gcall (shOf F) cl false n_impl_isPlain [.fs (jobs_.map impl_Job.cells)] H ng = some (.bool r18, H, ng, .inert) := fun H ng => call_far s_impl_isPlain rfl (K_impl_isPlain _ _ q20).ret
        have hr_ := Option.some.inj hr; subst hr_
        refine RetF.scal (by
          simp only [c_impl_isRuled, evA, evB, Int.reduceToNat, eq_self, reduceCtorEq, ↓reduceIte, Nat.reduceEqDiff, Nat.reduceAdd, Nat.reduceLT, Nat.reduceLeDiff, Nat.reduceMul, Nat.reduceSub, Nat.reduceBEq, impl_Job.cells, rz_impl_Job, pr_impl_Job, spec_l1Cur.cells, rz_spec_l1Cur, pr_spec_l1Cur, arr_2_int.cells, rz_arr_2_int, pr_arr_2_int, *]
          rfl) rfl rfl
      · rw [if_neg h17] at hr
        have e16 : r12 = false := Bool.eq_false_iff.2 h17
        clear h17
        have hr_ := Option.some.inj hr; subst hr_
        refine RetF.scal (by
          simp only [c_impl_isRuled, evA, evB, Int.reduceToNat, eq_self, reduceCtorEq, ↓reduceIte, Nat.reduceEqDiff, Nat.reduceAdd, Nat.reduceLT, Nat.reduceLeDiff, Nat.reduceMul, Nat.reduceSub, Nat.reduceBEq, impl_Job.cells, rz_impl_Job, pr_impl_Job, spec_l1Cur.cells, rz_spec_l1Cur, pr_spec_l1Cur, arr_2_int.cells, rz_arr_2_int, pr_arr_2_int, *]
          rfl) rfl rfl
  · rw [if_neg h6] at hr
    have e5 : r1 = false := Bool.eq_false_iff.2 h6
    clear h6
    have hr_ := Option.some.inj hr; subst hr_
    refine RetF.scal (by
      simp only [c_impl_isRuled, evA, evB, Int.reduceToNat, eq_self, reduceCtorEq, ↓reduceIte, Nat.reduceEqDiff, Nat.reduceAdd, Nat.reduceLT, Nat.reduceLeDiff, Nat.reduceMul, Nat.reduceSub, Nat.reduceBEq, impl_Job.cells, rz_impl_Job, pr_impl_Job, spec_l1Cur.cells, rz_spec_l1Cur, pr_spec_l1Cur, arr_2_int.cells, rz_arr_2_int, pr_arr_2_int, *]
      rfl) rfl rfl

theorem ok_impl_isNumber {cl : Callee} (K_impl_within : K_impl_within x_impl_within (cl n_impl_within)) : K_impl_isNumber (x_impl_isNumber) (gbody F LL cl c_impl_isNumber) := by
  intro i_ n_ r hr
  unfold x_impl_isNumber at hr
  try dsimp only at hr
  obtain ⟨r1, q3, hr⟩ := Option.bind_eq_some_iff.1 hr
  have e2 : ∀ H ng, gcall (shOf F) cl false n_impl_within [.int .i64 i_, .int .i64 0, .int .i64 (subK .i64 n_ 1)] H ng = some (.bool r1, H, ng, .inert) := fun H ng => call_far s_impl_within rfl (K_impl_within _ _ _ _ q3).ret
  have hr_ := Option.some.inj hr; subst hr_
  refine RetF.scal (by
    simp only [c_impl_isNumber, evA, evB, Int.reduceToNat, eq_self, reduceCtorEq, ↓reduceIte, Nat.reduceEqDiff, Nat.reduceAdd, Nat.reduceLT, Nat.reduceLeDiff, Nat.reduceMul, Nat.reduceSub, Nat.reduceBEq, impl_Job.cells, rz_impl_Job, pr_impl_Job, spec_l1Cur.cells, rz_spec_l1Cur, pr_spec_l1Cur, arr_2_int.cells, rz_arr_2_int, pr_arr_2_int, *]
    rfl) rfl rfl

theorem st_impl_has_l0 {cl : Callee} (n_ : Int) (v : (List Int)) (vz1 : Int) (st_ : (Int)) (c_ : Ctl (Int) (Unit ⊕ (Bool))) (hr : x_impl_has_l0 n_ v vz1 st_ = some c_) (T_ : Tm) (H_ : List Blk) (ng : Nat) (hR_ : R_impl_has_l0 n_ v vz1 st_ T_ H_) :
    ∃ e_ T1_ H1_ ng1_, gcode (shOf F) cl LL c_impl_has_l0 ⟨maskT (some [1, 7, 8, 9]) T_, H_, ng⟩ = some (e_, ⟨T1_, H1_, ng1_⟩) ∧ TurnOK (R_impl_has_l0 n_ v vz1) (Q_impl_has_l0 n_ v vz1) 0 c_ e_ T1_ H1_ := by
  obtain ⟨vz2, hst_⟩ : ∃ x, x = st_ := ⟨_, rfl⟩; subst hst_
  obtain ⟨f0_, f1_, f2_, f3_, rfl⟩ := hR_
  unfold x_impl_has_l0 at hr
  try dsimp only at hr
  by_cases h5 : vz2 < vz1
  · rw [if_pos h5] at hr
    have e3 : (vz2 < vz1) = True := eq_true h5
    clear h5
    obtain ⟨y6, q10, hr⟩ := Option.bind_eq_some_iff.1 hr
    obtain ⟨e7, e8, e9⟩ := ix_some q10
    try simp only [Int.toNat_natCast, Int.toNat_zero, Int.reduceToNat] at e8
    clear q10
    by_cases h15 : y6 = n_
    · rw [if_pos h15] at hr
      have e13 : (y6 = n_) = True := eq_true h15
      clear h15
      have hr_ := Option.some.inj hr; subst hr_
      refine turn (by
        simp only [c_impl_has_l0, evA, evB, Int.reduceToNat, eq_self, reduceCtorEq, ↓reduceIte, Nat.reduceEqDiff, Nat.reduceAdd, Nat.reduceLT, Nat.reduceLeDiff, Nat.reduceMul, Nat.reduceSub, Nat.reduceBEq, impl_Job.cells, rz_impl_Job, pr_impl_Job, spec_l1Cur.cells, rz_spec_l1Cur, pr_spec_l1Cur, arr_2_int.cells, rz_arr_2_int, pr_arr_2_int, *]
        rfl) ?_
      exact ⟨by simp, rfl, rfl⟩
    · rw [if_neg h15] at hr
      have e14 : (y6 = n_) = False := eq_false h15
      clear h15
      have hr_ := Option.some.inj hr; subst hr_
      refine turn (by
        simp only [c_impl_has_l0, evA, evB, Int.reduceToNat, eq_self, reduceCtorEq, ↓reduceIte, Nat.reduceEqDiff, Nat.reduceAdd, Nat.reduceLT, Nat.reduceLeDiff, Nat.reduceMul, Nat.reduceSub, Nat.reduceBEq, impl_Job.cells, rz_impl_Job, pr_impl_Job, spec_l1Cur.cells, rz_spec_l1Cur, pr_spec_l1Cur, arr_2_int.cells, rz_arr_2_int, pr_arr_2_int, *]
        rfl) ?_
      exact ⟨rfl, rfl, rfl, rfl, rfl, rfl⟩
  · rw [if_neg h5] at hr
    have e4 : (vz2 < vz1) = False := eq_false h5
    clear h5
    have hr_ := Option.some.inj hr; subst hr_
    refine turn (by
      simp only [c_impl_has_l0, evA, evB, Int.reduceToNat, eq_self, reduceCtorEq, ↓reduceIte, Nat.reduceEqDiff, Nat.reduceAdd, Nat.reduceLT, Nat.reduceLeDiff, Nat.reduceMul, Nat.reduceSub, Nat.reduceBEq, impl_Job.cells, rz_impl_Job, pr_impl_Job, spec_l1Cur.cells, rz_spec_l1Cur, pr_spec_l1Cur, arr_2_int.cells, rz_arr_2_int, pr_arr_2_int, *]
      rfl) ?_
    exact ⟨by simp, rfl, rfl⟩

theorem lp_impl_has_l0 {cl : Callee} (n_ : Int) (v : (List Int)) (vz1 : Int) (st_ : (Int)) (p_ : (Unit ⊕ (Bool))) (hr : loopS (x_impl_has_l0 n_ v vz1) LL st_ = some p_) (T_ : Tm) (H_ : List Blk) (ng : Nat) (hR_ : R_impl_has_l0 n_ v vz1 st_ T_ H_) (hn_ : H_.length = 0) :
    ∃ e_ T1_ H1_ ng1_, gcode (shOf F) cl LL (.loop false (some [1, 7, 8, 9]) c_impl_has_l0) ⟨T_, H_, ng⟩ = some (e_, ⟨T1_, H1_, ng1_⟩) ∧ Q_impl_has_l0 n_ v vz1 p_ e_ T1_ H1_ :=
  sim_loop (n0 := 0) (R_impl_has_l0 n_ v vz1) (Q_impl_has_l0 n_ v vz1) (st_impl_has_l0 n_ v vz1) st_ p_ hr T_ H_ ng hR_ hn_

theorem ok_impl_has {cl : Callee} : K_impl_has (x_impl_has) (gbody F LL cl c_impl_has) := by
  intro list_ n_ r hr
  unfold x_impl_has at hr
  try dsimp only at hr
  obtain ⟨p1, q10, hr⟩ := Option.bind_eq_some_iff.1 hr
  obtain ⟨ex7, T4, H5, ng6, l3, m2⟩ := lp_impl_has_l0 (cl := cl)  n_ list_ (list_.length : Int) _ _ q10 [(1, .int .i64 n_), (7, .fs (list_.map (cI .i64))), (8, .int .i64 (list_.length : Int)), (9, .int .i64 0)] [] 0 (show R_impl_has_l0 n_ list_ (list_.length : Int) 0 [(1, .int .i64 n_), (7, .fs (list_.map (cI .i64))), (8, .int .i64 (list_.length : Int)), (9, .int .i64 0)] [] from ⟨rfl, rfl, rfl, rfl, rfl⟩) rfl
  rcases p1 with p1 | p1
  · dsimp only at hr
    obtain ⟨rfl, e8⟩ := m2
    subst e8
    have hr_ := Option.some.inj hr; subst hr_
    refine RetF.scal (by
      simp only [c_impl_has, evA, evB, Int.reduceToNat, eq_self, reduceCtorEq, ↓reduceIte, Nat.reduceEqDiff, Nat.reduceAdd, Nat.reduceLT, Nat.reduceLeDiff, Nat.reduceMul, Nat.reduceSub, Nat.reduceBEq, impl_Job.cells, rz_impl_Job, pr_impl_Job, spec_l1Cur.cells, rz_spec_l1Cur, pr_spec_l1Cur, arr_2_int.cells, rz_arr_2_int, pr_arr_2_int, *]
      rfl) rfl rfl
  · dsimp only at hr
    obtain ⟨rfl, e9⟩ := m2
    have hr_ := Option.some.inj hr; subst hr_
    refine RetF.scal (by
      simp only [c_impl_has, evA, evB, Int.reduceToNat, eq_self, reduceCtorEq, ↓reduceIte, Nat.reduceEqDiff, Nat.reduceAdd, Nat.reduceLT, Nat.reduceLeDiff, Nat.reduceMul, Nat.reduceSub, Nat.reduceBEq, impl_Job.cells, rz_impl_Job, pr_impl_Job, spec_l1Cur.cells, rz_spec_l1Cur, pr_spec_l1Cur, arr_2_int.cells, rz_arr_2_int, pr_arr_2_int, *]
      rfl) rfl rfl

theorem st_impl_areDifferent_l0 {cl : Callee} (K_impl_isNumber : K_impl_isNumber x_impl_isNumber (cl n_impl_isNumber)) (K_impl_has : K_impl_has x_impl_has (cl n_impl_has)) (n_ : Int) (list_ : (List Int)) (v : (List Int)) (vz1 : Int) (st_ : (Int)) (c_ : Ctl (Int) (Unit ⊕ (Bool))) (hr : x_impl_areDifferent_l0 n_ list_ v vz1 st_ = some c_) (T_ : Tm) (H_ : List Blk) (ng : Nat) (hR_ : R_impl_areDifferent_l0 n_ list_ v vz1 st_ T_ H_) :
    ∃ e_ T1_ H1_ ng1_, gcode (shOf F) cl LL c_impl_areDifferent_l0 ⟨maskT (some [0, 1, 7, 8, 9]) T_, H_, ng⟩ = some (e_, ⟨T1_, H1_, ng1_⟩) ∧ TurnOK (R_impl_areDifferent_l0 n_ list_ v vz1) (Q_impl_areDifferent_l0 n_ list_ v vz1) 0 c_ e_ T1_ H1_ := by
  obtain ⟨vz2, hst_⟩ : ∃ x, x = st_ := ⟨_, rfl⟩; subst hst_
  obtain ⟨f0_, f1_, f2_, f3_, f4_, rfl⟩ := hR_
  unfold x_impl_areDifferent_l0 at hr
  try dsimp only at hr
  by_cases h5 : vz2 < vz1
  · rw [if_pos h5] at hr
    have e3 : (vz2 < vz1) = True := eq_true h5
    clear h5
    obtain ⟨y6, q10, hr⟩ := Option.bind_eq_some_iff.1 hr
    obtain ⟨e7, e8, e9⟩ := ix_some q10
    try simp only [Int.toNat_natCast, Int.toNat_zero, Int.reduceToNat] at e8
    clear q10
    obtain ⟨r11, q13, hr⟩ := Option.bind_eq_some_iff.1 hr
    have e12 : ∀ H ng, gcall (shOf F) cl false n_impl_isNumber [.int .i64 y6, .int .i64 n_] H ng = some (.bool r11, H, ng, .inert) := fun H ng => call_far s_impl_isNumber rfl (K_impl_isNumber _ _ _ q13).ret
    by_cases h16 : r11 = true
    · rw [if_pos h16] at hr
      have e14 : r11 = true := h16
      clear h16
      obtain ⟨y17, q24, hr⟩ := Option.bind_eq_some_iff.1 hr
      obtain ⟨e18, e19, e20, e21, e22⟩ := cut_some q24
      try simp only [Int.toNat_natCast, Int.toNat_zero, Int.reduceToNat, List.drop_zero] at e21
      have e23 : List.take (Int.toNat vz2) (list_.map (cI .i64)) = y17.map (cI .i64) := by rw [← e21]; simp only [List.map_drop, List.map_take, take_map_len]
      clear q24 e22
      obtain ⟨r25, q27, hr⟩ := Option.bind_eq_some_iff.1 hr
      have e26 : ∀ H ng, gcall (shOf F) cl false n_impl_has [.fs (y17.map (cI .i64)), .int .i64 y6] H ng = some (.bool r25, H, ng, .inert) := fun H ng => call_far s_impl_has rfl (K_impl_has _ _ _ q27).ret
      by_cases h30 : r25 = true
      · rw [if_pos h30] at hr
        have e28 : r25 = true := h30
        clear h30
        have hr_ := Option.some.inj hr; subst hr_
        refine turn (by
          simp only [c_impl_areDifferent_l0, evA, evB, Int.reduceToNat, eq_self, reduceCtorEq, ↓reduceIte, Nat.reduceEqDiff, Nat.reduceAdd, Nat.reduceLT, Nat.reduceLeDiff, Nat.reduceMul, Nat.reduceSub, Nat.reduceBEq, impl_Job.cells, rz_impl_Job, pr_impl_Job, spec_l1Cur.cells, rz_spec_l1Cur, pr_spec_l1Cur, arr_2_int.cells, rz_arr_2_int, pr_arr_2_int, *]
          rfl) ?_
        exact ⟨by simp, rfl, rfl⟩
      · rw [if_neg h30] at hr
        have e29 : r25 = false := Bool.eq_false_iff.2 h30
        clear h30
        have hr_ := Option.some.inj hr; subst hr_
        refine turn (by
          simp only [c_impl_areDifferent_l0, evA, evB, Int.reduceToNat, eq_self, reduceCtorEq, ↓reduceIte, Nat.reduceEqDiff, Nat.reduceAdd, Nat.reduceLT, Nat.reduceLeDiff, Nat.reduceMul, Nat.reduceSub, Nat.reduceBEq, impl_Job.cells, rz_impl_Job, pr_impl_Job, spec_l1Cur.cells, rz_spec_l1Cur, pr_spec_l1Cur, arr_2_int.cells, rz_arr_2_int, pr_arr_2_int, *]
          rfl) ?_
        exact ⟨rfl, rfl, rfl, rfl, rfl, rfl, rfl⟩
    · rw [if_neg h16] at hr
      have e15 : r11 = false := Bool.eq_false_iff.2 h16
      clear h16
      have hr_ := Option.some.inj hr; subst hr_
      refine turn (by
        simp only [c_impl_areDifferent_l0, evA, evB, Int.reduceToNat, eq_self, reduceCtorEq, ↓reduceIte, Nat.reduceEqDiff, Nat.reduceAdd, Nat.reduceLT, Nat.reduceLeDiff, Nat.reduceMul, Nat.reduceSub, Nat.reduceBEq, impl_Job.cells, rz_impl_Job, pr_impl_Job, spec_l1Cur.cells, rz_spec_l1Cur, pr_spec_l1Cur, arr_2_int.cells, rz_arr_2_int, pr_arr_2_int, *]
        rfl) ?_
      exact ⟨by simp, rfl, rfl⟩
  · rw [if_neg h5] at hr
    have e4 : (vz2 < vz1) = False := eq_false h5
    clear h5
    have hr_ := Option.some.inj hr; subst hr_
    refine turn (by
      simp only [c_impl_areDifferent_l0, evA, evB, Int.reduceToNat, eq_self, reduceCtorEq, ↓reduceIte, Nat.reduceEqDiff, Nat.reduceAdd, Nat.reduceLT, Nat.reduceLeDiff, Nat.reduceMul, Nat.reduceSub, Nat.reduceBEq, impl_Job.cells, rz_impl_Job, pr_impl_Job, spec_l1Cur.cells, rz_spec_l1Cur, pr_spec_l1Cur, arr_2_int.cells, rz_arr_2_int, pr_arr_2_int, *]
      rfl) ?_
    exact ⟨by simp, rfl, rfl⟩

theorem lp_impl_areDifferent_l0 {cl : Callee} (K_impl_isNumber : K_impl_isNumber x_impl_isNumber (cl n_impl_isNumber)) (K_impl_has : K_impl_has x_impl_has (cl n_impl_has)) (n_ : Int) (list_ : (List Int)) (v : (List Int)) (vz1 : Int) (st_ : (Int)) (p_ : (Unit ⊕ (Bool))) (hr : loopS (x_impl_areDifferent_l0 n_ list_ v vz1) LL st_ = some p_) (T_ : Tm) (H_ : List Blk) (ng : Nat) (hR_ : R_impl_areDifferent_l0 n_ list_ v vz1 st_ T_ H_) (hn_ : H_.length = 0) :
    ∃ e_ T1_ H1_ ng1_, gcode (shOf F) cl LL (.loop false (some [0, 1, 7, 8, 9]) c_impl_areDifferent_l0) ⟨T_, H_, ng⟩ = some (e_, ⟨T1_, H1_, ng1_⟩) ∧ Q_impl_areDifferent_l0 n_ list_ v vz1 p_ e_ T1_ H1_ :=
  sim_loop (n0 := 0) (R_impl_areDifferent_l0 n_ list_ v vz1) (Q_impl_areDifferent_l0 n_ list_ v vz1) (st_impl_areDifferent_l0 K_impl_isNumber K_impl_has n_ list_ v vz1) st_ p_ hr T_ H_ ng hR_ hn_

theorem ok_impl_areDifferent {cl : Callee} (K_impl_isNumber : K_impl_isNumber x_impl_isNumber (cl n_impl_isNumber)) (K_impl_has : K_impl_has x_impl_has (cl n_impl_has)) : K_impl_areDifferent (x_impl_areDifferent) (gbody F LL cl c_impl_areDifferent) := by
  intro n_ list_ r hr
  unfold x_impl_areDifferent at hr
  try dsimp only at hr
  obtain ⟨p1, q10, hr⟩ := Option.bind_eq_some_iff.1 hr
  obtain ⟨ex7, T4, H5, ng6, l3, m2⟩ := lp_impl_areDifferent_l0 (cl := cl) K_impl_isNumber K_impl_has  n_ list_ list_ (list_.length : Int) _ _ q10 [(0, .int .i64 n_), (1, .fs (list_.map (cI .i64))), (7, .fs (list_.map (cI .i64))), (8, .int .i64 (list_.length : Int)), (9, .int .i64 0)] [] 0 (show R_impl_areDifferent_l0 n_ list_ list_ (list_.length : Int) 0 [(0, .int .i64 n_), (1, .fs (list_.map (cI .i64))), (7, .fs (list_.map (cI .i64))), (8, .int .i64 (list_.length : Int)), (9, .int .i64 0)] [] from ⟨rfl, rfl, rfl, rfl, rfl, rfl⟩) rfl
  rcases p1 with p1 | p1
  · dsimp only at hr
    obtain ⟨rfl, e8⟩ := m2
    subst e8
    have hr_ := Option.some.inj hr; subst hr_
    refine RetF.scal (by
      simp only [c_impl_areDifferent, evA, evB, Int.reduceToNat, eq_self, reduceCtorEq, ↓reduceIte, Nat.reduceEqDiff, Nat.reduceAdd, Nat.reduceLT, Nat.reduceLeDiff, Nat.reduceMul, Nat.reduceSub, Nat.reduceBEq, impl_Job.cells, rz_impl_Job, pr_impl_Job, spec_l1Cur.cells, rz_spec_l1Cur, pr_spec_l1Cur, arr_2_int.cells, rz_arr_2_int, pr_arr_2_int, *]
      rfl) rfl rfl
  · dsimp only at hr
    obtain ⟨rfl, e9⟩ := m2
    have hr_ := Option.some.inj hr; subst hr_
    refine RetF.scal (by
      simp only [c_impl_areDifferent, evA, evB, Int.reduceToNat, eq_self, reduceCtorEq, ↓reduceIte, Nat.reduceEqDiff, Nat.reduceAdd, Nat.reduceLT, Nat.reduceLeDiff, Nat.reduceMul, Nat.reduceSub, Nat.reduceBEq, impl_Job.cells, rz_impl_Job, pr_impl_Job, spec_l1Cur.cells, rz_spec_l1Cur, pr_spec_l1Cur, arr_2_int.cells, rz_arr_2_int, pr_arr_2_int, *]
      rfl) rfl rfl

theorem ok_impl_isOrder {cl : Callee} (K_impl_areDifferent : K_impl_areDifferent x_impl_areDifferent (cl n_impl_areDifferent)) : K_impl_isOrder (x_impl_isOrder) (gbody F LL cl c_impl_isOrder) := by
  intro n_ order_ r hr
  unfold x_impl_isOrder at hr
  try dsimp only at hr
  by_cases h5 : (order_.length : Int) = n_
  · rw [if_pos h5] at hr
    have e3 : ((order_.length : Int) = n_) = True := eq_true h5
    clear h5
    obtain ⟨r6, q8, hr⟩ := Option.bind_eq_some_iff.1 hr
    have e7 : ∀ H ng, gcall (shOf F) cl false n_impl_areDifferent [.int .i64 n_, .fs (order_.map (cI .i64))] H ng = some (.bool r6, H, ng, .inert) := fun H ng => call_far s_impl_areDifferent rfl (K_impl_areDifferent _ _ _ q8).ret
    have hr_ := Option.some.inj hr; subst hr_
    refine RetF.scal (by
      simp only [c_impl_isOrder, evA, evB, Int.reduceToNat, eq_self, reduceCtorEq, ↓reduceIte, Nat.reduceEqDiff, Nat.reduceAdd, Nat.reduceLT, Nat.reduceLeDiff, Nat.reduceMul, Nat.reduceSub, Nat.reduceBEq, impl_Job.cells, rz_impl_Job, pr_impl_Job, spec_l1Cur.cells, rz_spec_l1Cur, pr_spec_l1Cur, arr_2_int.cells, rz_arr_2_int, pr_arr_2_int, *]
      rfl) rfl rfl
  · rw [if_neg h5] at hr
    have e4 : ((order_.length : Int) = n_) = False := eq_false h5
    clear h5
    have hr_ := Option.some.inj hr; subst hr_
    refine RetF.scal (by
      simp only [c_impl_isOrder, evA, evB, Int.reduceToNat, eq_self, reduceCtorEq, ↓reduceIte, Nat.reduceEqDiff, Nat.reduceAdd, Nat.reduceLT, Nat.reduceLeDiff, Nat.reduceMul, Nat.reduceSub, Nat.reduceBEq, impl_Job.cells, rz_impl_Job, pr_impl_Job, spec_l1Cur.cells, rz_spec_l1Cur, pr_spec_l1Cur, arr_2_int.cells, rz_arr_2_int, pr_arr_2_int, *]
      rfl) rfl rfl

theorem ok_impl_isRuledAndOrdered {cl : Callee} (K_impl_isRuled : K_impl_isRuled x_impl_isRuled (cl n_impl_isRuled)) (K_impl_isOrder : K_impl_isOrder x_impl_isOrder (cl n_impl_isOrder)) : K_impl_isRuledAndOrdered (x_impl_isRuledAndOrdered) (gbody F LL cl c_impl_isRuledAndOrdered) := by
  intro jobs_ order_ objective_ r hr
  unfold x_impl_isRuledAndOrdered at hr
  try dsimp only at hr
  obtain ⟨r1, q3, hr⟩ := Option.bind_eq_some_iff.1 hr
  have e2 : ∀ H ng, gcall (shOf F) cl false n_impl_isRuled [.fs (jobs_.map impl_Job.cells), .int .i64 objective_] H ng = some (.bool r1, H, ng, .inert) := fun H ng => call_far s_impl_isRuled rfl (K_impl_isRuled _ _ _ q3).ret
  by_cases h6 : r1 = true
  · rw [if_pos h6] at hr
    have e4 : r1 = true := h6
    clear h6
    obtain ⟨r7, q9, hr⟩ := Option.bind_eq_some_iff.1 hr
    have e8 : ∀ H ng, gcall (shOf F) cl false n_impl_isOrder [.int .i64 (jobs_.length : Int), .fs (order_.map (cI .i64))] H ng = some (.bool r7, H, ng, .inert) := fun H ng => call_far s_impl_isOrder rfl (K_impl_isOrder _ _ _ q9).ret
    have hr_ := Option.some.inj hr; subst hr_
    refine RetF.scal (by
      simp only [c_impl_isRuledAndOrdered, evA, evB, Int.reduceToNat, eq_self, reduceCtorEq, ↓reduceIte, Nat.reduceEqDiff, Nat.reduceAdd, Nat.reduceLT, Nat.reduceLeDiff, Nat.reduceMul, Nat.reduceSub, Nat.reduceBEq, impl_Job.cells, rz_impl_Job, pr_impl_Job, spec_l1Cur.cells, rz_spec_l1Cur, pr_spec_l1Cur, arr_2_int.cells, rz_arr_2_int, pr_arr_2_int, *]
      rfl) rfl rfl
  · rw [if_neg h6] at hr
    have e5 : r1 = false := Bool.eq_false_iff.2 h6
    clear h6
    have hr_ := Option.some.inj hr; subst hr_
    refine RetF.scal (by
      simp only [c_impl_isRuledAndOrdered, evA, evB, Int.reduceToNat, eq_self, reduceCtorEq, ↓reduceIte, Nat.reduceEqDiff, Nat.reduceAdd, Nat.reduceLT, Nat.reduceLeDiff, Nat.reduceMul, Nat.reduceSub, Nat.reduceBEq, impl_Job.cells, rz_impl_Job, pr_impl_Job, spec_l1Cur.cells, rz_spec_l1Cur, pr_spec_l1Cur, arr_2_int.cells, rz_arr_2_int, pr_arr_2_int, *]
      rfl) rfl rfl

theorem ok_impl_difference {cl : Callee} : K_impl_difference (x_impl_difference) (gbody F LL cl c_impl_difference) := by
  intro a_ b_ objective_ r hr
  unfold x_impl_difference at hr
  try dsimp only at hr
  by_cases h5 : objective_ = 1
  · rw [if_pos h5] at hr
    have e3 : (objective_ = 1) = True := eq_true h5
    clear h5
    have hr_ := Option.some.inj hr; subst hr_
    refine RetF.scal (by
      simp only [c_impl_difference, evA, evB, Int.reduceToNat, eq_self, reduceCtorEq, ↓reduceIte, Nat.reduceEqDiff, Nat.reduceAdd, Nat.reduceLT, Nat.reduceLeDiff, Nat.reduceMul, Nat.reduceSub, Nat.reduceBEq, impl_Job.cells, rz_impl_Job, pr_impl_Job, spec_l1Cur.cells, rz_spec_l1Cur, pr_spec_l1Cur, arr_2_int.cells, rz_arr_2_int, pr_arr_2_int, *]
      rfl) rfl rfl
  · rw [if_neg h5] at hr
    have e4 : (objective_ = 1) = False := eq_false h5
    clear h5
    by_cases h10 : objective_ = 2
    · rw [if_pos h10] at hr
      have e8 : (objective_ = 2) = True := eq_true h10
      clear h10
      have hr_ := Option.some.inj hr; subst hr_
      refine RetF.scal (by
        simp only [c_impl_difference, evA, evB, Int.reduceToNat, eq_self, reduceCtorEq, ↓reduceIte, Nat.reduceEqDiff, Nat.reduceAdd, Nat.reduceLT, Nat.reduceLeDiff, Nat.reduceMul, Nat.reduceSub, Nat.reduceBEq, impl_Job.cells, rz_impl_Job, pr_impl_Job, spec_l1Cur.cells, rz_spec_l1Cur, pr_spec_l1Cur, arr_2_int.cells, rz_arr_2_int, pr_arr_2_int, *]
        rfl) rfl rfl
    · rw [if_neg h10] at hr
      have e9 : (objective_ = 2) = False := eq_false h10
      clear h10
      by_cases h15 : objective_ = 3
      · rw [if_pos h15] at hr
        have e13 : (objective_ = 3) = True := eq_true h15
        clear h15
        have hr_ := Option.some.inj hr; subst hr_
        refine RetF.scal (by
          simp only [c_impl_difference, evA, evB, Int.reduceToNat, eq_self, reduceCtorEq, ↓reduceIte, Nat.reduceEqDiff, Nat.reduceAdd, Nat.reduceLT, Nat.reduceLeDiff, Nat.reduceMul, Nat.reduceSub, Nat.reduceBEq, impl_Job.cells, rz_impl_Job, pr_impl_Job, spec_l1Cur.cells, rz_spec_l1Cur, pr_spec_l1Cur, arr_2_int.cells, rz_arr_2_int, pr_arr_2_int, *]
          rfl) rfl rfl
      · rw [if_neg h15] at hr
        have e14 : (objective_ = 3) = False := eq_false h15
        clear h15
        have hr_ := Option.some.inj hr; subst hr_
        refine RetF.scal (by
          simp only [c_impl_difference, evA, evB, Int.reduceToNat, eq_self, reduceCtorEq, ↓reduceIte, Nat.reduceEqDiff, Nat.reduceAdd, Nat.reduceLT, Nat.reduceLeDiff, Nat.reduceMul, Nat.reduceSub, Nat.reduceBEq, impl_Job.cells, rz_impl_Job, pr_impl_Job, spec_l1Cur.cells, rz_spec_l1Cur, pr_spec_l1Cur, arr_2_int.cells, rz_arr_2_int, pr_arr_2_int, *]
          rfl) rfl rfl

theorem st_impl_IsRuledOrder_l0 {cl : Callee} (K_impl_isRuledAndOrdered : K_impl_isRuledAndOrdered x_impl_isRuledAndOrdered (cl n_impl_isRuledAndOrdered)) (K_impl_difference : K_impl_difference x_impl_difference (cl n_impl_difference)) (jobs_ : (List impl_Job)) (order_ : (List Int)) (objective_ : Int) (st_ : (Int)) (c_ : Ctl (Int) (Unit ⊕ (Bool × Bool))) (hr : x_impl_IsRuledOrder_l0 jobs_ order_ objective_ st_ = some c_) (T_ : Tm) (H_ : List Blk) (ng : Nat) (hR_ : R_impl_IsRuledOrder_l0 jobs_ order_ objective_ st_ T_ H_) :
    ∃ e_ T1_ H1_ ng1_, gcode (shOf F) cl LL c_impl_IsRuledOrder_l0 ⟨maskT (some [0, 1, 2, 8]) T_, H_, ng⟩ = some (e_, ⟨T1_, H1_, ng1_⟩) ∧ TurnOK (R_impl_IsRuledOrder_l0 jobs_ order_ objective_) (Q_impl_IsRuledOrder_l0 jobs_ order_ objective_) 0 c_ e_ T1_ H1_ := by
  obtain ⟨k_, hst_⟩ : ∃ x, x = st_ := ⟨_, rfl⟩; subst hst_
  obtain ⟨f0_, f1_, f2_, f3_, rfl⟩ := hR_
  unfold x_impl_IsRuledOrder_l0 at hr
  try dsimp only at hr
  by_cases h5 : k_ < (order_.length : Int)
  · rw [if_pos h5] at hr
    have e3 : (k_ < (order_.length : Int)) = True := eq_true h5
    clear h5
    obtain ⟨y6, q10, hr⟩ := Option.bind_eq_some_iff.1 hr
    obtain ⟨e7, e8, e9⟩ := ix_some q10
    try simp only [Int.toNat_natCast, Int.toNat_zero, Int.reduceToNat] at e8
    clear q10
    obtain ⟨y11, q15, hr⟩ := Option.bind_eq_some_iff.1 hr
    obtain ⟨e12, e13, e14⟩ := ix_some q15
    try simp only [Int.toNat_natCast, Int.toNat_zero, Int.reduceToNat] at e13
    clear q15
    obtain ⟨y16, q20, hr⟩ := Option.bind_eq_some_iff.1 hr
    obtain ⟨e17, e18, e19⟩ := ix_some q20
    try simp only [Int.toNat_natCast, Int.toNat_zero, Int.reduceToNat] at e18
    clear q20
    obtain ⟨y21, q25, hr⟩ := Option.bind_eq_some_iff.1 hr
    obtain ⟨e22, e23, e24⟩ := ix_some q25
    try simp only [Int.toNat_natCast, Int.toNat_zero, Int.reduceToNat] at e23
    clear q25
    obtain ⟨r26, q28, hr⟩ := Option.bind_eq_some_iff.1 hr
    have e27 : ∀ H ng, gcall (shOf F) cl false n_impl_difference [.agg [.int .i64 y11.Time, .int .i64 y11.Weight, .int .i64 y11.Release, .int .i64 y11.Due], .agg [.int .i64 y21.Time, .int .i64 y21.Weight, .int .i64 y21.Release, .int .i64 y21.Due], .int .i64 objective_] H ng = some (.int .i64 r26, H, ng, .inert) := fun H ng => call_far s_impl_difference rfl (K_impl_difference _ _ _ _ q28).ret
    by_cases h33 : r26 < 0
    · rw [if_pos h33] at hr
      have e31 : (r26 < 0) = True := eq_true h33
      clear h33
      have hr_ := Option.some.inj hr; subst hr_
      refine turn (by
        simp only [c_impl_IsRuledOrder_l0, evA, evB, Int.reduceToNat, eq_self, reduceCtorEq, ↓reduceIte, Nat.reduceEqDiff, Nat.reduceAdd, Nat.reduceLT, Nat.reduceLeDiff, Nat.reduceMul, Nat.reduceSub, Nat.reduceBEq, impl_Job.cells, rz_impl_Job, pr_impl_Job, spec_l1Cur.cells, rz_spec_l1Cur, pr_spec_l1Cur, arr_2_int.cells, rz_arr_2_int, pr_arr_2_int, *]
        rfl) ?_
      exact ⟨by simp, rfl, rfl, rfl⟩
    · rw [if_neg h33] at hr
      have e32 : (r26 < 0) = False := eq_false h33
      clear h33
      have hr_ := Option.some.inj hr; subst hr_
      refine turn (by
        simp only [c_impl_IsRuledOrder_l0, evA, evB, Int.reduceToNat, eq_self, reduceCtorEq, ↓reduceIte, Nat.reduceEqDiff, Nat.reduceAdd, Nat.reduceLT, Nat.reduceLeDiff, Nat.reduceMul, Nat.reduceSub, Nat.reduceBEq, impl_Job.cells, rz_impl_Job, pr_impl_Job, spec_l1Cur.cells, rz_spec_l1Cur, pr_spec_l1Cur, arr_2_int.cells, rz_arr_2_int, pr_arr_2_int, *]
        rfl) ?_
      exact ⟨rfl, rfl, rfl, rfl, rfl, rfl⟩
  · rw [if_neg h5] at hr
    have e4 : (k_ < (order_.length : Int)) = False := eq_false h5
    clear h5
    have hr_ := Option.some.inj hr; subst hr_
    refine turn (by
      simp only [c_impl_IsRuledOrder_l0, evA, evB, Int.reduceToNat, eq_self, reduceCtorEq, ↓reduceIte, Nat.reduceEqDiff, Nat.reduceAdd, Nat.reduceLT, Nat.reduceLeDiff, Nat.reduceMul, Nat.reduceSub, Nat.reduceBEq, impl_Job.cells, rz_impl_Job, pr_impl_Job, spec_l1Cur.cells, rz_spec_l1Cur, pr_spec_l1Cur, arr_2_int.cells, rz_arr_2_int, pr_arr_2_int, *]
      rfl) ?_
    exact ⟨by simp, rfl, rfl⟩

theorem lp_impl_IsRuledOrder_l0 {cl : Callee} (K_impl_isRuledAndOrdered : K_impl_isRuledAndOrdered x_impl_isRuledAndOrdered (cl n_impl_isRuledAndOrdered)) (K_impl_difference : K_impl_difference x_impl_difference (cl n_impl_difference)) (jobs_ : (List impl_Job)) (order_ : (List Int)) (objective_ : Int) (st_ : (Int)) (p_ : (Unit ⊕ (Bool × Bool))) (hr : loopS (x_impl_IsRuledOrder_l0 jobs_ order_ objective_) LL st_ = some p_) (T_ : Tm) (H_ : List Blk) (ng : Nat) (hR_ : R_impl_IsRuledOrder_l0 jobs_ order_ objective_ st_ T_ H_) (hn_ : H_.length = 0) :
    ∃ e_ T1_ H1_ ng1_, gcode (shOf F) cl LL (.loop false (some [0, 1, 2, 8]) c_impl_IsRuledOrder_l0) ⟨T_, H_, ng⟩ = some (e_, ⟨T1_, H1_, ng1_⟩) ∧ Q_impl_IsRuledOrder_l0 jobs_ order_ objective_ p_ e_ T1_ H1_ :=
  sim_loop (n0 := 0) (R_impl_IsRuledOrder_l0 jobs_ order_ objective_) (Q_impl_IsRuledOrder_l0 jobs_ order_ objective_) (st_impl_IsRuledOrder_l0 K_impl_isRuledAndOrdered K_impl_difference jobs_ order_ objective_) st_ p_ hr T_ H_ ng hR_ hn_

theorem ok_impl_IsRuledOrder {cl : Callee} (K_impl_isRuledAndOrdered : K_impl_isRuledAndOrdered x_impl_isRuledAndOrdered (cl n_impl_isRuledAndOrdered)) (K_impl_difference : K_impl_difference x_impl_difference (cl n_impl_difference)) : K_impl_IsRuledOrder (x_impl_IsRuledOrder) (gbody F LL cl c_impl_IsRuledOrder) := by
  intro jobs_ order_ objective_ r hr
  unfold x_impl_IsRuledOrder at hr
  try dsimp only at hr
  obtain ⟨r1, q3, hr⟩ := Option.bind_eq_some_iff.1 hr
  have e2 : ∀ H ng, gcall (shOf F) cl false n_impl_isRuledAndOrdered [.fs (jobs_.map impl_Job.cells), .fs (order_.map (cI .i64)), .int .i64 objective_] H ng = some (.bool r1, H, ng, .inert) := fun H ng => call_far s_impl_isRuledAndOrdered rfl (K_impl_isRuledAndOrdered _ _ _ _ q3).ret
  by_cases h6 : r1 = true
  · rw [if_pos h6] at hr
    have e4 : r1 = true := h6
    clear h6
    obtain ⟨p7, q17, hr⟩ := Option.bind_eq_some_iff.1 hr
    obtain ⟨ex13, T10, H11, ng12, l9, m8⟩ := lp_impl_IsRuledOrder_l0 (cl := cl) K_impl_isRuledAndOrdered K_impl_difference  jobs_ order_ objective_ _ _ q17 [(0, .fs (jobs_.map impl_Job.cells)), (1, .fs (order_.map (cI .i64))), (2, .int .i64 objective_), (8, .int .i64 1)] [] 0 (show R_impl_IsRuledOrder_l0 jobs_ order_ objective_ 1 [(0, .fs (jobs_.map impl_Job.cells)), (1, .fs (order_.map (cI .i64))), (2, .int .i64 objective_), (8, .int .i64 1)] [] from ⟨rfl, rfl, rfl, rfl, rfl⟩) rfl
    rcases p7 with p7 | p7
    · dsimp only at hr
      obtain ⟨rfl, e14⟩ := m8
      subst e14
      have hr_ := Option.some.inj hr; subst hr_
      refine RetF.scal (by
        simp only [c_impl_IsRuledOrder, evA, evB, Int.reduceToNat, eq_self, reduceCtorEq, ↓reduceIte, Nat.reduceEqDiff, Nat.reduceAdd, Nat.reduceLT, Nat.reduceLeDiff, Nat.reduceMul, Nat.reduceSub, Nat.reduceBEq, impl_Job.cells, rz_impl_Job, pr_impl_Job, spec_l1Cur.cells, rz_spec_l1Cur, pr_spec_l1Cur, arr_2_int.cells, rz_arr_2_int, pr_arr_2_int, *]
        rfl) rfl rfl
    · dsimp only at hr
      obtain ⟨rfl, e15, e16⟩ := m8
      have hr_ := Option.some.inj hr; subst hr_
      refine RetF.scal (by
        simp only [c_impl_IsRuledOrder, evA, evB, Int.reduceToNat, eq_self, reduceCtorEq, ↓reduceIte, Nat.reduceEqDiff, Nat.reduceAdd, Nat.reduceLT, Nat.reduceLeDiff, Nat.reduceMul, Nat.reduceSub, Nat.reduceBEq, impl_Job.cells, rz_impl_Job, pr_impl_Job, spec_l1Cur.cells, rz_spec_l1Cur, pr_spec_l1Cur, arr_2_int.cells, rz_arr_2_int, pr_arr_2_int, *]
        rfl) rfl rfl
  · rw [if_neg h6] at hr
    have e5 : r1 = false := Bool.eq_false_iff.2 h6
    clear h6
    have hr_ := Option.some.inj hr; subst hr_
    refine RetF.scal (by
      simp only [c_impl_IsRuledOrder, evA, evB, Int.reduceToNat, eq_self, reduceCtorEq, ↓reduceIte, Nat.reduceEqDiff, Nat.reduceAdd, Nat.reduceLT, Nat.reduceLeDiff, Nat.reduceMul, Nat.reduceSub, Nat.reduceBEq, impl_Job.cells, rz_impl_Job, pr_impl_Job, spec_l1Cur.cells, rz_spec_l1Cur, pr_spec_l1Cur, arr_2_int.cells, rz_arr_2_int, pr_arr_2_int, *]
      rfl) rfl rfl

theorem ok_laws_vCut {cl : Callee} : K_laws_vCut (x_laws_vCut) (gbody F LL cl c_laws_vCut) := by
  intro code_ n_ r hr
  unfold x_laws_vCut at hr
  try dsimp only at hr
  by_cases h5 : (code_.length : Int) < n_
  · rw [if_pos h5] at hr
    have e3 : ((code_.length : Int) < n_) = True := eq_true h5
    clear h5
    obtain ⟨y6, q13, hr⟩ := Option.bind_eq_some_iff.1 hr
    obtain ⟨e7, e8, e9, e10, e11⟩ := cut_some q13
    try simp only [Int.toNat_natCast, Int.toNat_zero, Int.reduceToNat, List.drop_zero] at e10
    have e12 : List.drop code_.length ((code_.map (cI .u8))) = y6.map (cI .u8) := by rw [← e10]; simp only [List.map_drop, List.map_take, take_map_len]
    clear q13 e11
    by_cases h16 : fits y6.length 1
    · rw [if_pos h16] at hr
      have e14 : (y6.length * 1 ≤ room) = True := eq_true h16.1
      have e15 : (y6.length ≤ room) = True := eq_true h16.2
      clear h16
      obtain ⟨l17, q25, hr⟩ := Option.bind_eq_some_iff.1 hr
      obtain ⟨e18, e19, e20, e21⟩ := app_some q25
      try simp only [List.length_cons, List.length_nil, Nat.zero_add, Nat.reduceAdd] at e18 e19 e21
      have e22 : (y6.map (cI .u8)) ++ [[.int .u8 (convK .u8 (code_.length : Int))]] = l17.map (cI .u8) := by rw [← e20, List.map_append] <;> rfl
      have e23 := e18
      have e24 := e19
      rw [e21] at e23 e24
      clear e20 q25
      have hr_ := Option.some.inj hr; subst hr_
      refine ⟨0, 2, [(Blk.mk 2 false 1 (l17.map (cI .u8)))], 3, ?_, by simp [hget, hp], sc_cI _ _⟩
      simp only [c_laws_vCut, evA, evB, Int.reduceToNat, eq_self, reduceCtorEq, ↓reduceIte, Nat.reduceEqDiff, Nat.reduceAdd, Nat.reduceLT, Nat.reduceLeDiff, Nat.reduceMul, Nat.reduceSub, Nat.reduceBEq, impl_Job.cells, rz_impl_Job, pr_impl_Job, spec_l1Cur.cells, rz_spec_l1Cur, pr_spec_l1Cur, arr_2_int.cells, rz_arr_2_int, pr_arr_2_int, *]
    · rw [if_neg h16] at hr
      clear h16
      exact nomatch hr
  · rw [if_neg h5] at hr
    have e4 : ((code_.length : Int) < n_) = False := eq_false h5
    clear h5
    obtain ⟨y26, q33, hr⟩ := Option.bind_eq_some_iff.1 hr
    obtain ⟨e27, e28, e29, e30, e31⟩ := cut_some q33
    try simp only [Int.toNat_natCast, Int.toNat_zero, Int.reduceToNat, List.drop_zero] at e30
    have e32 : List.drop (Int.toNat n_) ((code_.map (cI .u8))) = y26.map (cI .u8) := by rw [← e30]; simp only [List.map_drop, List.map_take, take_map_len]
    clear q33 e31
    by_cases h36 : fits y26.length 1
    · rw [if_pos h36] at hr
      have e34 : (y26.length * 1 ≤ room) = True := eq_true h36.1
      have e35 : (y26.length ≤ room) = True := eq_true h36.2
      clear h36
      obtain ⟨l37, q45, hr⟩ := Option.bind_eq_some_iff.1 hr
      obtain ⟨e38, e39, e40, e41⟩ := app_some q45
      try simp only [List.length_cons, List.length_nil, Nat.zero_add, Nat.reduceAdd] at e38 e39 e41
      have e42 : (y26.map (cI .u8)) ++ [[.int .u8 (convK .u8 n_)]] = l37.map (cI .u8) := by rw [← e40, List.map_append] <;> rfl
      have e43 := e38
      have e44 := e39
      rw [e41] at e43 e44
      clear e40 q45
      have hr_ := Option.some.inj hr; subst hr_
      refine ⟨0, 2, [(Blk.mk 2 false 1 (l37.map (cI .u8)))], 3, ?_, by simp [hget, hp], sc_cI _ _⟩
      simp only [c_laws_vCut, evA, evB, Int.reduceToNat, eq_self, reduceCtorEq, ↓reduceIte, Nat.reduceEqDiff, Nat.reduceAdd, Nat.reduceLT, Nat.reduceLeDiff, Nat.reduceMul, Nat.reduceSub, Nat.reduceBEq, impl_Job.cells, rz_impl_Job, pr_impl_Job, spec_l1Cur.cells, rz_spec_l1Cur, pr_spec_l1Cur, arr_2_int.cells, rz_arr_2_int, pr_arr_2_int, *]
    · rw [if_neg h36] at hr
      clear h36
      exact nomatch hr

theorem ok_impl_RuleDifference {cl : Callee} (K_impl_difference : K_impl_difference x_impl_difference (cl n_impl_difference)) (K_impl_isRuled : K_impl_isRuled x_impl_isRuled (cl n_impl_isRuled)) (K_impl_isNumber : K_impl_isNumber x_impl_isNumber (cl n_impl_isNumber)) : K_impl_RuleDifference (x_impl_RuleDifference) (gbody F LL cl c_impl_RuleDifference) := by
  intro jobs_ objective_ i_ j_ r hr
  unfold x_impl_RuleDifference at hr
  try dsimp only at hr
  obtain ⟨r1, q3, hr⟩ := Option.bind_eq_some_iff.1 hr
  have e2 : ∀ H ng, gcall (shOf F) cl false n_impl_isRuled [.fs (jobs_.map impl_Job.cells), .int .i64 objective_] H ng = some (.bool r1, H, ng, .inert) := fun H ng => call_far s_impl_isRuled rfl (K_impl_isRuled _ _ _ q3).ret
  by_cases h6 : r1 = true
  · rw [if_pos h6] at hr
    have e4 : r1 = true := h6
    clear h6
    obtain ⟨r7, q9, hr⟩ := Option.bind_eq_some_iff.1 hr
    have e8 : ∀ H ng, gcall (shOf F) cl false n_impl_isNumber [.int .i64 i_, .int .i64 (jobs_.length : Int)] H ng = some (.bool r7, H, ng, .inert) := fun H ng => call_far s_impl_isNumber rfl (K_impl_isNumber _ _ _ q9).ret
    by_cases h12 : r7 = true
    · rw [if_pos h12] at hr
      have e10 : r7 = true := h12
      clear h12
      obtain ⟨r13, q15, hr⟩ := Option.bind_eq_some_iff.1 hr
      have e14 : ∀ H ng, gcall (shOf F) cl false n_impl_isNumber [.int .i64 j_, .int .i64 (jobs_.length : Int)] H ng = some (.bool r13, H, ng, .inert) := fun H ng => call_far s_impl_isNumber rfl (K_impl_isNumber _ _ _ q15).ret
      by_cases h18 : r13 = true
      · rw [if_pos h18] at hr
        have e16 : r13 = true := h18
        clear h18
        obtain ⟨y19, q23, hr⟩ := Option.bind_eq_some_iff.1 hr
        obtain ⟨e20, e21, e22⟩ := ix_some q23
        try simp only [Int.toNat_natCast, Int.toNat_zero, Int.reduceToNat] at e21
        clear q23
        obtain ⟨y24, q28, hr⟩ := Option.bind_eq_some_iff.1 hr
        obtain ⟨e25, e26, e27⟩ := ix_some q28
        try simp only [Int.toNat_natCast, Int.toNat_zero, Int.reduceToNat] at e26
        clear q28
        obtain ⟨r29, q31, hr⟩ := Option.bind_eq_some_iff.1 hr
        have e30 : ∀ H ng, gcall (shOf F) cl false n_impl_difference [.agg [.int .i64 y19.Time, .int .i64 y19.Weight, .int .i64 y19.Release, .int .i64 y19.Due], .agg [.int .i64 y24.Time, .int .i64 y24.Weight, .int .i64 y24.Release, .int .i64 y24.Due], .int .i64 objective_] H ng = some (.int .i64 r29, H, ng, .inert) := fun H ng => call_far s_impl_difference rfl (K_impl_difference _ _ _ _ q31).ret
        have hr_ := Option.some.inj hr; subst hr_
        refine RetF.scal (by
          simp only [c_impl_RuleDifference, evA, evB, Int.reduceToNat, eq_self, reduceCtorEq, ↓reduceIte, Nat.reduceEqDiff, Nat.reduceAdd, Nat.reduceLT, Nat.reduceLeDiff, Nat.reduceMul, Nat.reduceSub, Nat.reduceBEq, impl_Job.cells, rz_impl_Job, pr_impl_Job, spec_l1Cur.cells, rz_spec_l1Cur, pr_spec_l1Cur, arr_2_int.cells, rz_arr_2_int, pr_arr_2_int, *]
          rfl) rfl rfl
      · rw [if_neg h18] at hr
        have e17 : r13 = false := Bool.eq_false_iff.2 h18
        clear h18
        have hr_ := Option.some.inj hr; subst hr_
        refine RetF.scal (by
          simp only [c_impl_RuleDifference, evA, evB, Int.reduceToNat, eq_self, reduceCtorEq, ↓reduceIte, Nat.reduceEqDiff, Nat.reduceAdd, Nat.reduceLT, Nat.reduceLeDiff, Nat.reduceMul, Nat.reduceSub, Nat.reduceBEq, impl_Job.cells, rz_impl_Job, pr_impl_Job, spec_l1Cur.cells, rz_spec_l1Cur, pr_spec_l1Cur, arr_2_int.cells, rz_arr_2_int, pr_arr_2_int, *]
          rfl) rfl rfl
    · rw [if_neg h12] at hr
      have e11 : r7 = false := Bool.eq_false_iff.2 h12
      clear h12
      have hr_ := Option.some.inj hr; subst hr_
      refine RetF.scal (by
        simp only [c_impl_RuleDifference, evA, evB, Int.reduceToNat, eq_self, reduceCtorEq, ↓reduceIte, Nat.reduceEqDiff, Nat.reduceAdd, Nat.reduceLT, Nat.reduceLeDiff, Nat.reduceMul, Nat.reduceSub, Nat.reduceBEq, impl_Job.cells, rz_impl_Job, pr_impl_Job, spec_l1Cur.cells, rz_spec_l1Cur, pr_spec_l1Cur, arr_2_int.cells, rz_arr_2_int, pr_arr_2_int, *]
        rfl) rfl rfl
  · rw [if_neg h6] at hr
    have e5 : r1 = false := Bool.eq_false_iff.2 h6
    clear h6
    have hr_ := Option.some.inj hr; subst hr_
    refine RetF.scal (by
      simp only [c_impl_RuleDifference, evA, evB, Int.reduceToNat, eq_self, reduceCtorEq, ↓reduceIte, Nat.reduceEqDiff, Nat.reduceAdd, Nat.reduceLT, Nat.reduceLeDiff, Nat.reduceMul, Nat.reduceSub, Nat.reduceBEq, impl_Job.cells, rz_impl_Job, pr_impl_Job, spec_l1Cur.cells, rz_spec_l1Cur, pr_spec_l1Cur, arr_2_int.cells, rz_arr_2_int, pr_arr_2_int, *]
      rfl) rfl rfl

theorem st_impl_numbersTo_l0 {cl : Callee} (n_ : Int) (st_ : ((List Int) × Int)) (c_ : Ctl ((List Int) × Int) ((List Int))) (hr : x_impl_numbersTo_l0 n_ st_ = some c_) (T_ : Tm) (H_ : List Blk) (ng : Nat) (hR_ : R_impl_numbersTo_l0 n_ st_ T_ H_) :
    ∃ e_ T1_ H1_ ng1_, gcode (shOf F) cl LL c_impl_numbersTo_l0 ⟨maskT (some [0, 3, 4]) T_, H_, ng⟩ = some (e_, ⟨T1_, H1_, ng1_⟩) ∧ TurnOK (R_impl_numbersTo_l0 n_) (Q_impl_numbersTo_l0 n_) 2 c_ e_ T1_ H1_ := by
  obtain ⟨out_, i_⟩ := st_
  obtain ⟨b0, g1, f0_, f1_, f2_, rfl⟩ := hR_
  unfold x_impl_numbersTo_l0 at hr
  try dsimp only at hr
  by_cases h5 : i_ < n_
  · rw [if_pos h5] at hr
    have e3 : (i_ < n_) = True := eq_true h5
    clear h5
    obtain ⟨l6, q14, hr⟩ := Option.bind_eq_some_iff.1 hr
    obtain ⟨e7, e8, e9, e10⟩ := app_some q14
    try simp only [List.length_cons, List.length_nil, Nat.zero_add, Nat.reduceAdd] at e7 e8 e10
    have e11 : (out_.map (cI .i64)) ++ [[.int .i64 i_]] = l6.map (cI .i64) := by rw [← e9, List.map_append] <;> rfl
    have e12 := e7
    have e13 := e8
    rw [e10] at e12 e13
    clear e9 q14
    have hr_ := Option.some.inj hr; subst hr_
    refine turn (by
      simp only [c_impl_numbersTo_l0, evA, evB, Int.reduceToNat, eq_self, reduceCtorEq, ↓reduceIte, Nat.reduceEqDiff, Nat.reduceAdd, Nat.reduceLT, Nat.reduceLeDiff, Nat.reduceMul, Nat.reduceSub, Nat.reduceBEq, impl_Job.cells, rz_impl_Job, pr_impl_Job, spec_l1Cur.cells, rz_spec_l1Cur, pr_spec_l1Cur, arr_2_int.cells, rz_arr_2_int, pr_arr_2_int, *]
      rfl) ?_
    exact ⟨rfl, _, _, rfl, rfl, rfl, rfl⟩
  · rw [if_neg h5] at hr
    have e4 : (i_ < n_) = False := eq_false h5
    clear h5
    have hr_ := Option.some.inj hr; subst hr_
    refine turn (by
      simp only [c_impl_numbersTo_l0, evA, evB, Int.reduceToNat, eq_self, reduceCtorEq, ↓reduceIte, Nat.reduceEqDiff, Nat.reduceAdd, Nat.reduceLT, Nat.reduceLeDiff, Nat.reduceMul, Nat.reduceSub, Nat.reduceBEq, impl_Job.cells, rz_impl_Job, pr_impl_Job, spec_l1Cur.cells, rz_spec_l1Cur, pr_spec_l1Cur, arr_2_int.cells, rz_arr_2_int, pr_arr_2_int, *]
      rfl) ?_
    exact ⟨by simp, rfl, _, _, rfl, rfl⟩

theorem lp_impl_numbersTo_l0 {cl : Callee} (n_ : Int) (st_ : ((List Int) × Int)) (p_ : ((List Int))) (hr : loopS (x_impl_numbersTo_l0 n_) LL st_ = some p_) (T_ : Tm) (H_ : List Blk) (ng : Nat) (hR_ : R_impl_numbersTo_l0 n_ st_ T_ H_) (hn_ : H_.length = 2) :
    ∃ e_ T1_ H1_ ng1_, gcode (shOf F) cl LL (.loop false (some [0, 3, 4]) c_impl_numbersTo_l0) ⟨T_, H_, ng⟩ = some (e_, ⟨T1_, H1_, ng1_⟩) ∧ Q_impl_numbersTo_l0 n_ p_ e_ T1_ H1_ :=
  sim_loop (n0 := 2) (R_impl_numbersTo_l0 n_) (Q_impl_numbersTo_l0 n_) (st_impl_numbersTo_l0 n_) st_ p_ hr T_ H_ ng hR_ hn_

theorem ok_impl_numbersTo {cl : Callee} : K_impl_numbersTo (x_impl_numbersTo) (gbody F LL cl c_impl_numbersTo) := by
  intro n_ r hr
  unfold x_impl_numbersTo at hr
  try dsimp only at hr
  obtain ⟨p1, q12, hr⟩ := Option.bind_eq_some_iff.1 hr
  obtain ⟨ex7, T4, H5, ng6, l3, m2⟩ := lp_impl_numbersTo_l0 (cl := cl)  n_ _ _ q12 [(0, .int .i64 n_), (3, .os 1 1 1 0 0), (4, .int .i64 0)] [(Blk.mk 0 false 1 []), (Blk.mk 1 false 1 [])] 2 (show R_impl_numbersTo_l0 n_ (([] : List Int), 0) [(0, .int .i64 n_), (3, .os 1 1 1 0 0), (4, .int .i64 0)] [(Blk.mk 0 false 1 []), (Blk.mk 1 false 1 [])] from ⟨_, _, rfl, rfl, rfl, rfl⟩) rfl
  obtain ⟨rfl, b8, g9, e10, e11⟩ := m2
  subst e11
  have hr_ := Option.some.inj hr; subst hr_
  refine ⟨1, g9, [b8, (Blk.mk g9 false 1 (p1.map (cI .i64)))], ng6, ?_, by simp [hget, hp], sc_cI _ _⟩
  simp only [c_impl_numbersTo, evA, evB, Int.reduceToNat, eq_self, reduceCtorEq, ↓reduceIte, Nat.reduceEqDiff, Nat.reduceAdd, Nat.reduceLT, Nat.reduceLeDiff, Nat.reduceMul, Nat.reduceSub, Nat.reduceBEq, impl_Job.cells, rz_impl_Job, pr_impl_Job, spec_l1Cur.cells, rz_spec_l1Cur, pr_spec_l1Cur, arr_2_int.cells, rz_arr_2_int, pr_arr_2_int, *]

theorem st_impl_nextOrder_l0 {cl : Callee} (order_ : (List Int)) (H0 : List Blk) (id g : Nat) (hid : id < H0.length) (st_ : (Int)) (c_ : Ctl (Int) (Int)) (hr : x_impl_nextOrder_l0 order_ st_ = some c_) (T_ : Tm) (H_ : List Blk) (ng : Nat) (hR_ : R_impl_nextOrder_l0 H0 id g order_ st_ T_ H_) :
    ∃ e_ T1_ H1_ ng1_, gcode (shOf F) cl LL c_impl_nextOrder_l0 ⟨maskT (some [0, 3]) T_, H_, ng⟩ = some (e_, ⟨T1_, H1_, ng1_⟩) ∧ TurnOK (R_impl_nextOrder_l0 H0 id g order_) (Q_impl_nextOrder_l0 H0 id g order_) H0.length c_ e_ T1_ H1_ := by
  obtain ⟨i_, hst_⟩ : ∃ x, x = st_ := ⟨_, rfl⟩; subst hst_
  obtain ⟨f0_, f1_, rfl⟩ := hR_
  unfold x_impl_nextOrder_l0 at hr
  try dsimp only at hr
  have w1_ : ∀ b, (H0.set id b)[id]? = some b := fun b => hs_get b hid
  have w2_ : ∀ b B, (H0.set id b ++ B)[id]? = some b := fun b B => hs_getA b hid
  have w3_ : ∀ a b B, (H0.set id a ++ B).set id b = H0.set id b ++ B := fun a b B => hs_setA a b hid
  by_cases h5 : 0 ≤ i_
  · rw [if_pos h5] at hr
    have e3 : (0 ≤ i_) = True := eq_true h5
    clear h5
    obtain ⟨y6, q10, hr⟩ := Option.bind_eq_some_iff.1 hr
    obtain ⟨e7, e8, e9⟩ := ix_some q10
    try simp only [Int.toNat_natCast, Int.toNat_zero, Int.reduceToNat] at e8
    clear q10
    obtain ⟨y11, q15, hr⟩ := Option.bind_eq_some_iff.1 hr
    obtain ⟨e12, e13, e14⟩ := ix_some q15
    try simp only [Int.toNat_natCast, Int.toNat_zero, Int.reduceToNat] at e13
    clear q15
    by_cases h20 : y11 < y6
    · rw [if_pos h20] at hr
      have e18 : (y11 < y6) = True := eq_true h20
      clear h20
      have hr_ := Option.some.inj hr; subst hr_
      refine turn (by
        simp only [c_impl_nextOrder_l0, evA, evB, Int.reduceToNat, eq_self, reduceCtorEq, ↓reduceIte, Nat.reduceEqDiff, Nat.reduceAdd, Nat.reduceLT, Nat.reduceLeDiff, Nat.reduceMul, Nat.reduceSub, Nat.reduceBEq, impl_Job.cells, rz_impl_Job, pr_impl_Job, spec_l1Cur.cells, rz_spec_l1Cur, pr_spec_l1Cur, arr_2_int.cells, rz_arr_2_int, pr_arr_2_int, *]
        rfl) ?_
      exact ⟨rfl, rfl, rfl, (by simp only [hs_takek, hs_take0, hs_take, List.take_succ_cons, List.take_zero, List.append_nil] <;> rfl)⟩
    · rw [if_neg h20] at hr
      have e19 : (y11 < y6) = False := eq_false h20
      clear h20
      have hr_ := Option.some.inj hr; subst hr_
      refine turn (by
        simp only [c_impl_nextOrder_l0, evA, evB, Int.reduceToNat, eq_self, reduceCtorEq, ↓reduceIte, Nat.reduceEqDiff, Nat.reduceAdd, Nat.reduceLT, Nat.reduceLeDiff, Nat.reduceMul, Nat.reduceSub, Nat.reduceBEq, impl_Job.cells, rz_impl_Job, pr_impl_Job, spec_l1Cur.cells, rz_spec_l1Cur, pr_spec_l1Cur, arr_2_int.cells, rz_arr_2_int, pr_arr_2_int, *]
        rfl) ?_
      exact ⟨by simp, rfl, rfl, rfl, rfl⟩
  · rw [if_neg h5] at hr
    have e4 : (0 ≤ i_) = False := eq_false h5
    clear h5
    have hr_ := Option.some.inj hr; subst hr_
    refine turn (by
      simp only [c_impl_nextOrder_l0, evA, evB, Int.reduceToNat, eq_self, reduceCtorEq, ↓reduceIte, Nat.reduceEqDiff, Nat.reduceAdd, Nat.reduceLT, Nat.reduceLeDiff, Nat.reduceMul, Nat.reduceSub, Nat.reduceBEq, impl_Job.cells, rz_impl_Job, pr_impl_Job, spec_l1Cur.cells, rz_spec_l1Cur, pr_spec_l1Cur, arr_2_int.cells, rz_arr_2_int, pr_arr_2_int, *]
      rfl) ?_
    exact ⟨by simp, rfl, rfl, rfl, rfl⟩

theorem lp_impl_nextOrder_l0 {cl : Callee} (order_ : (List Int)) (H0 : List Blk) (id g : Nat) (hid : id < H0.length) (st_ : (Int)) (p_ : (Int)) (hr : loopS (x_impl_nextOrder_l0 order_) LL st_ = some p_) (T_ : Tm) (H_ : List Blk) (ng : Nat) (hR_ : R_impl_nextOrder_l0 H0 id g order_ st_ T_ H_) (hn_ : H_.length = H0.length) :
    ∃ e_ T1_ H1_ ng1_, gcode (shOf F) cl LL (.loop false (some [0, 3]) c_impl_nextOrder_l0) ⟨T_, H_, ng⟩ = some (e_, ⟨T1_, H1_, ng1_⟩) ∧ Q_impl_nextOrder_l0 H0 id g order_ p_ e_ T1_ H1_ :=
  sim_loop (n0 := H0.length) (R_impl_nextOrder_l0 H0 id g order_) (Q_impl_nextOrder_l0 H0 id g order_) (st_impl_nextOrder_l0 order_ H0 id g hid) st_ p_ hr T_ H_ ng hR_ hn_

theorem st_impl_nextOrder_l1 {cl : Callee} (order_ : (List Int)) (i_ : Int) (H0 : List Blk) (id g : Nat) (hid : id < H0.length) (st_ : (Int)) (c_ : Ctl (Int) (Int)) (hr : x_impl_nextOrder_l1 order_ i_ st_ = some c_) (T_ : Tm) (H_ : List Blk) (ng : Nat) (hR_ : R_impl_nextOrder_l1 H0 id g order_ i_ st_ T_ H_) :
    ∃ e_ T1_ H1_ ng1_, gcode (shOf F) cl LL c_impl_nextOrder_l1 ⟨maskT (some [0, 3, 4]) T_, H_, ng⟩ = some (e_, ⟨T1_, H1_, ng1_⟩) ∧ TurnOK (R_impl_nextOrder_l1 H0 id g order_ i_) (Q_impl_nextOrder_l1 H0 id g order_ i_) H0.length c_ e_ T1_ H1_ := by
  obtain ⟨k_, hst_⟩ : ∃ x, x = st_ := ⟨_, rfl⟩; subst hst_
  obtain ⟨f0_, f1_, f2_, rfl⟩ := hR_
  unfold x_impl_nextOrder_l1 at hr
  try dsimp only at hr
  have w1_ : ∀ b, (H0.set id b)[id]? = some b := fun b => hs_get b hid
  have w2_ : ∀ b B, (H0.set id b ++ B)[id]? = some b := fun b B => hs_getA b hid
  have w3_ : ∀ a b B, (H0.set id a ++ B).set id b = H0.set id b ++ B := fun a b B => hs_setA a b hid
  obtain ⟨y1, q5, hr⟩ := Option.bind_eq_some_iff.1 hr
  obtain ⟨e2, e3, e4⟩ := ix_some q5
  try simp only [Int.toNat_natCast, Int.toNat_zero, Int.reduceToNat] at e3
  clear q5
  obtain ⟨y6, q10, hr⟩ := Option.bind_eq_some_iff.1 hr
  obtain ⟨e7, e8, e9⟩ := ix_some q10
  try simp only [Int.toNat_natCast, Int.toNat_zero, Int.reduceToNat] at e8
  clear q10
  by_cases h15 : y1 < y6
  · rw [if_pos h15] at hr
    have e13 : (y1 < y6) = True := eq_true h15
    clear h15
    have hr_ := Option.some.inj hr; subst hr_
    refine turn (by
      simp only [c_impl_nextOrder_l1, evA, evB, Int.reduceToNat, eq_self, reduceCtorEq, ↓reduceIte, Nat.reduceEqDiff, Nat.reduceAdd, Nat.reduceLT, Nat.reduceLeDiff, Nat.reduceMul, Nat.reduceSub, Nat.reduceBEq, impl_Job.cells, rz_impl_Job, pr_impl_Job, spec_l1Cur.cells, rz_spec_l1Cur, pr_spec_l1Cur, arr_2_int.cells, rz_arr_2_int, pr_arr_2_int, *]
      rfl) ?_
    exact ⟨rfl, rfl, rfl, rfl, (by simp only [hs_takek, hs_take0, hs_take, List.take_succ_cons, List.take_zero, List.append_nil] <;> rfl)⟩
  · rw [if_neg h15] at hr
    have e14 : (y1 < y6) = False := eq_false h15
    clear h15
    have hr_ := Option.some.inj hr; subst hr_
    refine turn (by
      simp only [c_impl_nextOrder_l1, evA, evB, Int.reduceToNat, eq_self, reduceCtorEq, ↓reduceIte, Nat.reduceEqDiff, Nat.reduceAdd, Nat.reduceLT, Nat.reduceLeDiff, Nat.reduceMul, Nat.reduceSub, Nat.reduceBEq, impl_Job.cells, rz_impl_Job, pr_impl_Job, spec_l1Cur.cells, rz_spec_l1Cur, pr_spec_l1Cur, arr_2_int.cells, rz_arr_2_int, pr_arr_2_int, *]
      rfl) ?_
    exact ⟨by simp, rfl, rfl, rfl, rfl, rfl⟩

theorem lp_impl_nextOrder_l1 {cl : Callee} (order_ : (List Int)) (i_ : Int) (H0 : List Blk) (id g : Nat) (hid : id < H0.length) (st_ : (Int)) (p_ : (Int)) (hr : loopS (x_impl_nextOrder_l1 order_ i_) LL st_ = some p_) (T_ : Tm) (H_ : List Blk) (ng : Nat) (hR_ : R_impl_nextOrder_l1 H0 id g order_ i_ st_ T_ H_) (hn_ : H_.length = H0.length) :
    ∃ e_ T1_ H1_ ng1_, gcode (shOf F) cl LL (.loop false (some [0, 3, 4]) c_impl_nextOrder_l1) ⟨T_, H_, ng⟩ = some (e_, ⟨T1_, H1_, ng1_⟩) ∧ Q_impl_nextOrder_l1 H0 id g order_ i_ p_ e_ T1_ H1_ :=
  sim_loop (n0 := H0.length) (R_impl_nextOrder_l1 H0 id g order_ i_) (Q_impl_nextOrder_l1 H0 id g order_ i_) (st_impl_nextOrder_l1 order_ i_ H0 id g hid) st_ p_ hr T_ H_ ng hR_ hn_

theorem st_impl_nextOrder_l2 {cl : Callee} (H0 : List Blk) (id g : Nat) (hid : id < H0.length) (st_ : ((List Int) × Int × Int)) (c_ : Ctl ((List Int) × Int × Int) ((List Int))) (hr : x_impl_nextOrder_l2 st_ = some c_) (T_ : Tm) (H_ : List Blk) (ng : Nat) (hR_ : R_impl_nextOrder_l2 H0 id g st_ T_ H_) :
    ∃ e_ T1_ H1_ ng1_, gcode (shOf F) cl LL c_impl_nextOrder_l2 ⟨maskT (some [0, 5, 6]) T_, H_, ng⟩ = some (e_, ⟨T1_, H1_, ng1_⟩) ∧ TurnOK (R_impl_nextOrder_l2 H0 id g) (Q_impl_nextOrder_l2 H0 id g) H0.length c_ e_ T1_ H1_ := by
  obtain ⟨order_, a_, b_⟩ := st_
  obtain ⟨f0_, f1_, f2_, rfl⟩ := hR_
  unfold x_impl_nextOrder_l2 at hr
  try dsimp only at hr
  have w1_ : ∀ b, (H0.set id b)[id]? = some b := fun b => hs_get b hid
  have w2_ : ∀ b B, (H0.set id b ++ B)[id]? = some b := fun b B => hs_getA b hid
  have w3_ : ∀ a b B, (H0.set id a ++ B).set id b = H0.set id b ++ B := fun a b B => hs_setA a b hid
  by_cases h5 : a_ < b_
  · rw [if_pos h5] at hr
    have e3 : (a_ < b_) = True := eq_true h5
    clear h5
    obtain ⟨y6, q10, hr⟩ := Option.bind_eq_some_iff.1 hr
    obtain ⟨e7, e8, e9⟩ := ix_some q10
    try simp only [Int.toNat_natCast, Int.toNat_zero, Int.reduceToNat] at e8
    clear q10
    obtain ⟨y11, q15, hr⟩ := Option.bind_eq_some_iff.1 hr
    obtain ⟨e12, e13, e14⟩ := ix_some q15
    try simp only [Int.toNat_natCast, Int.toNat_zero, Int.reduceToNat] at e13
    clear q15
    obtain ⟨l16, q21, hr⟩ := Option.bind_eq_some_iff.1 hr
    obtain ⟨_, _, e17, e18, _⟩ := put_some q21
    try simp only [Int.toNat_natCast, Int.toNat_zero, Int.reduceToNat] at e17
    have e19 : (order_.map (cI .i64)).set (Int.toNat a_) [.int .i64 y6] = l16.map (cI .i64) := by rw [← e17, List.map_set] <;> rfl
    replace e18 : Keep (order_.length = l16.length) := e18
    clear e17 q21
    obtain ⟨y22, q27, hr⟩ := Option.bind_eq_some_iff.1 hr
    obtain ⟨e23, e24, e25⟩ := ix_some q27
    have e26 : (b_ < ((order_.length : Nat) : Int)) = True := by rw [show order_.length = _ from e18]; exact e25
    try simp only [Int.toNat_natCast, Int.toNat_zero, Int.reduceToNat] at e24
    clear q27
    obtain ⟨l28, q33, hr⟩ := Option.bind_eq_some_iff.1 hr
    obtain ⟨_, _, e29, e30, _⟩ := put_some q33
    try simp only [Int.toNat_natCast, Int.toNat_zero, Int.reduceToNat] at e29
    have e31 : (l16.map (cI .i64)).set (Int.toNat b_) [.int .i64 y11] = l28.map (cI .i64) := by rw [← e29, List.map_set] <;> rfl
    replace e30 : Keep (l16.length = l28.length) := e30
    clear e29 q33
    have hr_ := Option.some.inj hr; subst hr_
    refine turn (by
      simp only [c_impl_nextOrder_l2, evA, evB, Int.reduceToNat, eq_self, reduceCtorEq, ↓reduceIte, Nat.reduceEqDiff, Nat.reduceAdd, Nat.reduceLT, Nat.reduceLeDiff, Nat.reduceMul, Nat.reduceSub, Nat.reduceBEq, impl_Job.cells, rz_impl_Job, pr_impl_Job, spec_l1Cur.cells, rz_spec_l1Cur, pr_spec_l1Cur, arr_2_int.cells, rz_arr_2_int, pr_arr_2_int, *]
      rfl) ?_
    exact ⟨rfl, (congrArg (fun n_ => V.os id g 1 0 n_) (Eq.trans e18 e30)), rfl, rfl, (by simp only [hs_takek, hs_take0, hs_take, List.take_succ_cons, List.take_zero, List.append_nil] <;> rfl)⟩
  · rw [if_neg h5] at hr
    have e4 : (a_ < b_) = False := eq_false h5
    clear h5
    have hr_ := Option.some.inj hr; subst hr_
    refine turn (by
      simp only [c_impl_nextOrder_l2, evA, evB, Int.reduceToNat, eq_self, reduceCtorEq, ↓reduceIte, Nat.reduceEqDiff, Nat.reduceAdd, Nat.reduceLT, Nat.reduceLeDiff, Nat.reduceMul, Nat.reduceSub, Nat.reduceBEq, impl_Job.cells, rz_impl_Job, pr_impl_Job, spec_l1Cur.cells, rz_spec_l1Cur, pr_spec_l1Cur, arr_2_int.cells, rz_arr_2_int, pr_arr_2_int, *]
      rfl) ?_
    exact ⟨by simp, rfl, rfl⟩

theorem lp_impl_nextOrder_l2 {cl : Callee} (H0 : List Blk) (id g : Nat) (hid : id < H0.length) (st_ : ((List Int) × Int × Int)) (p_ : ((List Int))) (hr : loopS (x_impl_nextOrder_l2) LL st_ = some p_) (T_ : Tm) (H_ : List Blk) (ng : Nat) (hR_ : R_impl_nextOrder_l2 H0 id g st_ T_ H_) (hn_ : H_.length = H0.length) :
    ∃ e_ T1_ H1_ ng1_, gcode (shOf F) cl LL (.loop false (some [0, 5, 6]) c_impl_nextOrder_l2) ⟨T_, H_, ng⟩ = some (e_, ⟨T1_, H1_, ng1_⟩) ∧ Q_impl_nextOrder_l2 H0 id g p_ e_ T1_ H1_ :=
  sim_loop (n0 := H0.length) (R_impl_nextOrder_l2 H0 id g) (Q_impl_nextOrder_l2 H0 id g) (st_impl_nextOrder_l2 H0 id g hid) st_ p_ hr T_ H_ ng hR_ hn_

theorem ok_impl_nextOrder {cl : Callee} : K_impl_nextOrder (x_impl_nextOrder) (gbody F LL cl c_impl_nextOrder) := by
  intro order_ r hr
  intro H0 id g ng hid
  have w1_ : ∀ b, (H0.set id b)[id]? = some b := fun b => hs_get b hid
  have w2_ : ∀ b B, (H0.set id b ++ B)[id]? = some b := fun b B => hs_getA b hid
  have w3_ : ∀ a b B, (H0.set id a ++ B).set id b = H0.set id b ++ B := fun a b B => hs_setA a b hid
  unfold x_impl_nextOrder at hr
  try dsimp only at hr
  obtain ⟨p1, q65, hr⟩ := Option.bind_eq_some_iff.1 hr
  obtain ⟨ex7, T4, H5, ng6, l3, m2⟩ := lp_impl_nextOrder_l0 (cl := cl)  order_ H0 id g hid _ _ q65 [(0, .os id g 1 0 order_.length), (3, .int .i64 (subK .i64 ((order_.length : Nat) : Int) 2))] (H0.set id (Blk.mk g false 1 (order_.map (cI .i64)))) ng (show R_impl_nextOrder_l0 H0 id g order_ (subK .i64 ((order_.length : Nat) : Int) 2) [(0, .os id g 1 0 order_.length), (3, .int .i64 (subK .i64 ((order_.length : Nat) : Int) 2))] (H0.set id (Blk.mk g false 1 (order_.map (cI .i64)))) from ⟨rfl, rfl, rfl⟩) (by simp)
  obtain ⟨rfl, e8, e9, e10⟩ := m2
  subst e10
  by_cases h15 : p1 < 0
  · rw [if_pos h15] at hr
    have e13 : (p1 < 0) = True := eq_true h15
    clear h15
    have hr_ := Option.some.inj hr; subst hr_
    refine ⟨.bool false, [], ng6, ?_, ?_⟩
    · simp only [c_impl_nextOrder, evA, evB, Int.reduceToNat, eq_self, reduceCtorEq, ↓reduceIte, Nat.reduceEqDiff, Nat.reduceAdd, Nat.reduceLT, Nat.reduceLeDiff, Nat.reduceMul, Nat.reduceSub, Nat.reduceBEq, impl_Job.cells, rz_impl_Job, pr_impl_Job, spec_l1Cur.cells, rz_spec_l1Cur, pr_spec_l1Cur, arr_2_int.cells, rz_arr_2_int, pr_arr_2_int, *]
    · exact outR_flat rfl
  · rw [if_neg h15] at hr
    have e14 : (p1 < 0) = False := eq_false h15
    clear h15
    obtain ⟨p16, q64, hr⟩ := Option.bind_eq_some_iff.1 hr
    obtain ⟨ex22, T19, H20, ng21, l18, m17⟩ := lp_impl_nextOrder_l1 (cl := cl)  order_ p1 H0 id g hid _ _ q64 [(0, .os id g 1 0 order_.length), (3, .int .i64 p1), (4, .int .i64 (subK .i64 ((order_.length : Nat) : Int) 1))] (H0.set id (Blk.mk g false 1 (order_.map (cI .i64)))) ng6 (show R_impl_nextOrder_l1 H0 id g order_ p1 (subK .i64 ((order_.length : Nat) : Int) 1) [(0, .os id g 1 0 order_.length), (3, .int .i64 p1), (4, .int .i64 (subK .i64 ((order_.length : Nat) : Int) 1))] (H0.set id (Blk.mk g false 1 (order_.map (cI .i64)))) from ⟨rfl, rfl, rfl, rfl⟩) (by simp)
    obtain ⟨rfl, e23, e24, e25, e26⟩ := m17
    subst e26
    obtain ⟨y27, q31, hr⟩ := Option.bind_eq_some_iff.1 hr
    obtain ⟨e28, e29, e30⟩ := ix_some q31
    try simp only [Int.toNat_natCast, Int.toNat_zero, Int.reduceToNat] at e29
    clear q31
    obtain ⟨y32, q36, hr⟩ := Option.bind_eq_some_iff.1 hr
    obtain ⟨e33, e34, e35⟩ := ix_some q36
    try simp only [Int.toNat_natCast, Int.toNat_zero, Int.reduceToNat] at e34
    clear q36
    obtain ⟨l37, q42, hr⟩ := Option.bind_eq_some_iff.1 hr
    obtain ⟨_, _, e38, e39, _⟩ := put_some q42
    try simp only [Int.toNat_natCast, Int.toNat_zero, Int.reduceToNat] at e38
    have e40 : (order_.map (cI .i64)).set (Int.toNat p1) [.int .i64 y27] = l37.map (cI .i64) := by rw [← e38, List.map_set] <;> rfl
    replace e39 : Keep (order_.length = l37.length) := e39
    clear e38 q42
    obtain ⟨y43, q48, hr⟩ := Option.bind_eq_some_iff.1 hr
    obtain ⟨e44, e45, e46⟩ := ix_some q48
    have e47 : (p16 < ((order_.length : Nat) : Int)) = True := by rw [show order_.length = _ from e39]; exact e46
    try simp only [Int.toNat_natCast, Int.toNat_zero, Int.reduceToNat] at e45
    clear q48
    obtain ⟨l49, q54, hr⟩ := Option.bind_eq_some_iff.1 hr
    obtain ⟨_, _, e50, e51, _⟩ := put_some q54
    try simp only [Int.toNat_natCast, Int.toNat_zero, Int.reduceToNat] at e50
    have e52 : (l37.map (cI .i64)).set (Int.toNat p16) [.int .i64 y32] = l49.map (cI .i64) := by rw [← e50, List.map_set] <;> rfl
    replace e51 : Keep (l37.length = l49.length) := e51
    clear e50 q54
    obtain ⟨p55, q63, hr⟩ := Option.bind_eq_some_iff.1 hr
    obtain ⟨ex61, T58, H59, ng60, l57, m56⟩ := lp_impl_nextOrder_l2 (cl := cl)  H0 id g hid _ _ q63 [(0, .os id g 1 0 order_.length), (5, .int .i64 (addK .i64 p1 1)), (6, .int .i64 (subK .i64 ((order_.length : Nat) : Int) 1))] (H0.set id (Blk.mk g false 1 (l49.map (cI .i64)))) ng21 (show R_impl_nextOrder_l2 H0 id g (l49, (addK .i64 p1 1), (subK .i64 ((order_.length : Nat) : Int) 1)) [(0, .os id g 1 0 order_.length), (5, .int .i64 (addK .i64 p1 1)), (6, .int .i64 (subK .i64 ((order_.length : Nat) : Int) 1))] (H0.set id (Blk.mk g false 1 (l49.map (cI .i64)))) from ⟨(congrArg (fun n_ => V.os id g 1 0 n_) (Eq.trans e39 e51)), rfl, rfl, rfl⟩) (by simp)
    obtain ⟨rfl, e62⟩ := m56
    subst e62
    have hr_ := Option.some.inj hr; subst hr_
    refine ⟨.bool true, [], ng60, ?_, ?_⟩
    · simp only [c_impl_nextOrder, evA, evB, Int.reduceToNat, eq_self, reduceCtorEq, ↓reduceIte, Nat.reduceEqDiff, Nat.reduceAdd, Nat.reduceLT, Nat.reduceLeDiff, Nat.reduceMul, Nat.reduceSub, Nat.reduceBEq, impl_Job.cells, rz_impl_Job, pr_impl_Job, spec_l1Cur.cells, rz_spec_l1Cur, pr_spec_l1Cur, arr_2_int.cells, rz_arr_2_int, pr_arr_2_int, *]
    · exact outR_flat rfl

abbrev R_impl_eachOrder {σ : Type} (enc : σ → List Blk) (m nc : Nat) (cp : List V) (p : σ × List Int) (T : Tm) (H : List Blk) : Prop :=
  ∃ g, look T 1 = .fn nc cp ∧ look T 4 = .os m g 1 0 p.2.length ∧ H = enc p.1 ++ [⟨g, false, 1, p.2.map (cI .i64)⟩]

theorem ok_impl_eachOrder {cl : Callee} (K_nextOrder : K_impl_nextOrder x_impl_nextOrder (cl n_impl_nextOrder)) (K_numbersTo : K_impl_numbersTo x_impl_numbersTo (cl n_impl_numbersTo))
    {σ : Type} (enc : σ → List Blk) (m : Nat) (hm : ∀ s, (enc s).length = m) (nc : Nat) (cp : List V) (step : σ → List Int → Option σ)
    (hstep : ∀ s o s', step s o = some s' → ∀ g ng, ∃ ng', gcall (shOf F) cl false nc (.os m g 1 0 o.length :: cp) (enc s ++ [⟨g, false, 1, o.map (cI .i64)⟩]) ng = some (.tup [], enc s' ++ [⟨g, false, 1, o.map (cI .i64)⟩], ng', .all))
    (n : Int) (s s' : σ) (hr : x_impl_eachOrder n step s = some s') (ng : Nat) : ∃ X ng', gbody F LL cl c_impl_eachOrder [.int .i64 n, .fn nc cp] (enc s) ng = some (.tup [], enc s' ++ X, ng') := by
  unfold x_impl_eachOrder at hr
  obtain ⟨o, q1, hr⟩ := Option.bind_eq_some_iff.1 hr
  have e1 : ∀ H ng, gcall (shOf F) cl true n_impl_numbersTo [.int .i64 n] H ng = some (.os H.length ng 1 0 o.length, H ++ [⟨ng, false, 1, o.map (cI .i64)⟩], ng + 1, .touch [] []) := fun H ng => by
    have := call_far_own (H := H) (ng := ng) s_impl_numbersTo rfl (K_numbersTo _ _ q1)
    simp only [List.length_map] at this
    exact this
  have hl := sim_loop (sb := x_impl_eachOrder_l0 step) (sh := shOf F) (cl := cl) (lv := some [1, 4]) (b := c_impl_eachOrder_l0) (n0 := m + 1) (R_impl_eachOrder enc m nc cp) (fun p e T H => e = .ret ∧ ∃ X, H = enc p ++ X) (by
    rintro ⟨s1, o1⟩ c hb T H ng1 ⟨g, f1, f4, rfl⟩
    unfold x_impl_eachOrder_l0 at hb
    obtain ⟨s2, q2, hb⟩ := Option.bind_eq_some_iff.1 hb
    obtain ⟨r, q3, hb⟩ := Option.bind_eq_some_iff.1 hb
    obtain ⟨ng2, e2⟩ := hstep _ _ _ q2 g ng1
    have hS := K_nextOrder _ _ q3
    obtain ⟨ng3, e3⟩ := call_S s_impl_nextOrder hS (enc s2) [] g ng2
    by_cases hlen : r.2.length = o1.length
    case neg => rw [if_neg hlen] at hb; exact nomatch hb
    rw [if_pos hlen] at hb
    simp only [hm, List.length_map] at e3
    have hlen' : o1.length = r.2.length := hlen.symm
    simp only at f4
    cases h3 : r.1 with
    | true =>
      rw [h3] at e3
      simp only [h3, if_true, Option.some.injEq] at hb
      subst hb
      refine turn (by
        simp only [c_impl_eachOrder_l0, evA, evB, Int.reduceToNat, eq_self, reduceCtorEq, ↓reduceIte, Nat.reduceEqDiff, Nat.reduceAdd, Nat.reduceLT, Nat.reduceLeDiff, Nat.reduceMul, Nat.reduceSub, Nat.reduceBEq, impl_Job.cells, rz_impl_Job, pr_impl_Job, spec_l1Cur.cells, rz_spec_l1Cur, pr_spec_l1Cur, arr_2_int.cells, rz_arr_2_int, pr_arr_2_int, f1, f4, e2, e3, h3]
        rfl) ?_
      exact ⟨rfl, g, rfl, by simp [look, hlen'], by rw [List.take_of_length_le (by simp [hm])]⟩
    | false =>
      rw [h3] at e3
      simp only [h3, Bool.false_eq_true, if_false, Option.some.injEq] at hb
      subst hb
      refine turn (by
        simp only [c_impl_eachOrder_l0, evA, evB, Int.reduceToNat, eq_self, reduceCtorEq, ↓reduceIte, Nat.reduceEqDiff, Nat.reduceAdd, Nat.reduceLT, Nat.reduceLeDiff, Nat.reduceMul, Nat.reduceSub, Nat.reduceBEq, impl_Job.cells, rz_impl_Job, pr_impl_Job, spec_l1Cur.cells, rz_spec_l1Cur, pr_spec_l1Cur, arr_2_int.cells, rz_arr_2_int, pr_arr_2_int, f1, f4, e2, e3, h3]
        rfl) ?_
      exact ⟨by simp, rfl, _, rfl⟩)
  obtain ⟨e, T', H', ng', l1, rfl, X, rfl⟩ := hl (s, o) s' hr [(1, .fn nc cp), (4, .os m ng 1 0 o.length)] (enc s ++ [⟨ng, false, 1, o.map (cI .i64)⟩]) (ng + 1) ⟨ng, rfl, rfl, rfl⟩ (by simp [hm])
  refine ⟨X, ng', ?_⟩
  simp only [c_impl_eachOrder, evA, evB, Int.reduceToNat, eq_self, reduceCtorEq, ↓reduceIte, Nat.reduceEqDiff, Nat.reduceAdd, Nat.reduceLT, Nat.reduceLeDiff, Nat.reduceMul, Nat.reduceSub, Nat.reduceBEq, impl_Job.cells, rz_impl_Job, pr_impl_Job, spec_l1Cur.cells, rz_spec_l1Cur, pr_spec_l1Cur, arr_2_int.cells, rz_arr_2_int, pr_arr_2_int, e1, hm, l1]


theorem ok_impl_add {cl : Callee} : K_impl_add (x_impl_add) (gbody F LL cl c_impl_add) := by
  intro value_ j_ end_ objective_ first_ r hr
  unfold x_impl_add at hr
  try dsimp only at hr
  by_cases h5 : objective_ = 1
  · rw [if_pos h5] at hr
    have e3 : (objective_ = 1) = True := eq_true h5
    clear h5
    have hr_ := Option.some.inj hr; subst hr_
    refine RetF.scal (by
      simp only [c_impl_add, evA, evB, Int.reduceToNat, eq_self, reduceCtorEq, ↓reduceIte, Nat.reduceEqDiff, Nat.reduceAdd, Nat.reduceLT, Nat.reduceLeDiff, Nat.reduceMul, Nat.reduceSub, Nat.reduceBEq, impl_Job.cells, rz_impl_Job, pr_impl_Job, spec_l1Cur.cells, rz_spec_l1Cur, pr_spec_l1Cur, arr_2_int.cells, rz_arr_2_int, pr_arr_2_int, *]
      rfl) rfl rfl
  · rw [if_neg h5] at hr
    have e4 : (objective_ = 1) = False := eq_false h5
    clear h5
    by_cases h10 : objective_ = 2
    · rw [if_pos h10] at hr
      have e8 : (objective_ = 2) = True := eq_true h10
      clear h10
      have hr_ := Option.some.inj hr; subst hr_
      refine RetF.scal (by
        simp only [c_impl_add, evA, evB, Int.reduceToNat, eq_self, reduceCtorEq, ↓reduceIte, Nat.reduceEqDiff, Nat.reduceAdd, Nat.reduceLT, Nat.reduceLeDiff, Nat.reduceMul, Nat.reduceSub, Nat.reduceBEq, impl_Job.cells, rz_impl_Job, pr_impl_Job, spec_l1Cur.cells, rz_spec_l1Cur, pr_spec_l1Cur, arr_2_int.cells, rz_arr_2_int, pr_arr_2_int, *]
        rfl) rfl rfl
    · rw [if_neg h10] at hr
      have e9 : (objective_ = 2) = False := eq_false h10
      clear h10
      by_cases h15 : objective_ = 3
      · rw [if_pos h15] at hr
        have e13 : (objective_ = 3) = True := eq_true h15
        clear h15
        have hr_ := Option.some.inj hr; subst hr_
        refine RetF.scal (by
          simp only [c_impl_add, evA, evB, Int.reduceToNat, eq_self, reduceCtorEq, ↓reduceIte, Nat.reduceEqDiff, Nat.reduceAdd, Nat.reduceLT, Nat.reduceLeDiff, Nat.reduceMul, Nat.reduceSub, Nat.reduceBEq, impl_Job.cells, rz_impl_Job, pr_impl_Job, spec_l1Cur.cells, rz_spec_l1Cur, pr_spec_l1Cur, arr_2_int.cells, rz_arr_2_int, pr_arr_2_int, *]
          rfl) rfl rfl
      · rw [if_neg h15] at hr
        have e14 : (objective_ = 3) = False := eq_false h15
        clear h15
        by_cases h20 : objective_ = 4
        · rw [if_pos h20] at hr
          have e18 : (objective_ = 4) = True := eq_true h20
          clear h20
          by_cases h23 : first_ = true
          · rw [if_pos h23] at hr
            have e21 : first_ = true := h23
            clear h23
            have hr_ := Option.some.inj hr; subst hr_
            refine RetF.scal (by
              simp only [c_impl_add, evA, evB, Int.reduceToNat, eq_self, reduceCtorEq, ↓reduceIte, Nat.reduceEqDiff, Nat.reduceAdd, Nat.reduceLT, Nat.reduceLeDiff, Nat.reduceMul, Nat.reduceSub, Nat.reduceBEq, impl_Job.cells, rz_impl_Job, pr_impl_Job, spec_l1Cur.cells, rz_spec_l1Cur, pr_spec_l1Cur, arr_2_int.cells, rz_arr_2_int, pr_arr_2_int, *]
              rfl) rfl rfl
          · rw [if_neg h23] at hr
            have e22 : first_ = false := Bool.eq_false_iff.2 h23
            clear h23
            have hr_ := Option.some.inj hr; subst hr_
            refine RetF.scal (by
              simp only [c_impl_add, evA, evB, Int.reduceToNat, eq_self, reduceCtorEq, ↓reduceIte, Nat.reduceEqDiff, Nat.reduceAdd, Nat.reduceLT, Nat.reduceLeDiff, Nat.reduceMul, Nat.reduceSub, Nat.reduceBEq, impl_Job.cells, rz_impl_Job, pr_impl_Job, spec_l1Cur.cells, rz_spec_l1Cur, pr_spec_l1Cur, arr_2_int.cells, rz_arr_2_int, pr_arr_2_int, *]
              rfl) rfl rfl
        · rw [if_neg h20] at hr
          have e19 : (objective_ = 4) = False := eq_false h20
          clear h20
          by_cases h28 : objective_ = 5
          · rw [if_pos h28] at hr
            have e26 : (objective_ = 5) = True := eq_true h28
            clear h28
            have hr_ := Option.some.inj hr; subst hr_
            refine RetF.scal (by
              simp only [c_impl_add, evA, evB, Int.reduceToNat, eq_self, reduceCtorEq, ↓reduceIte, Nat.reduceEqDiff, Nat.reduceAdd, Nat.reduceLT, Nat.reduceLeDiff, Nat.reduceMul, Nat.reduceSub, Nat.reduceBEq, impl_Job.cells, rz_impl_Job, pr_impl_Job, spec_l1Cur.cells, rz_spec_l1Cur, pr_spec_l1Cur, arr_2_int.cells, rz_arr_2_int, pr_arr_2_int, *]
              rfl) rfl rfl
          · rw [if_neg h28] at hr
            have e27 : (objective_ = 5) = False := eq_false h28
            clear h28
            by_cases h33 : objective_ = 6
            · rw [if_pos h33] at hr
              have e31 : (objective_ = 6) = True := eq_true h33
              clear h33
              have hr_ := Option.some.inj hr; subst hr_
              refine RetF.scal (by
                simp only [c_impl_add, evA, evB, Int.reduceToNat, eq_self, reduceCtorEq, ↓reduceIte, Nat.reduceEqDiff, Nat.reduceAdd, Nat.reduceLT, Nat.reduceLeDiff, Nat.reduceMul, Nat.reduceSub, Nat.reduceBEq, impl_Job.cells, rz_impl_Job, pr_impl_Job, spec_l1Cur.cells, rz_spec_l1Cur, pr_spec_l1Cur, arr_2_int.cells, rz_arr_2_int, pr_arr_2_int, *]
                rfl) rfl rfl
            · rw [if_neg h33] at hr
              have e32 : (objective_ = 6) = False := eq_false h33
              clear h33
              by_cases h38 : (subK .i64 end_ j_.Due) ≤ 0
              · rw [if_pos h38] at hr
                have e36 : ((subK .i64 end_ j_.Due) ≤ 0) = True := eq_true h38
                clear h38
                have hr_ := Option.some.inj hr; subst hr_
                refine RetF.scal (by
                  simp only [c_impl_add, evA, evB, Int.reduceToNat, eq_self, reduceCtorEq, ↓reduceIte, Nat.reduceEqDiff, Nat.reduceAdd, Nat.reduceLT, Nat.reduceLeDiff, Nat.reduceMul, Nat.reduceSub, Nat.reduceBEq, impl_Job.cells, rz_impl_Job, pr_impl_Job, spec_l1Cur.cells, rz_spec_l1Cur, pr_spec_l1Cur, arr_2_int.cells, rz_arr_2_int, pr_arr_2_int, *]
                  rfl) rfl rfl
              · rw [if_neg h38] at hr
                have e37 : ((subK .i64 end_ j_.Due) ≤ 0) = False := eq_false h38
                clear h38
                by_cases h43 : objective_ = 7
                · rw [if_pos h43] at hr
                  have e41 : (objective_ = 7) = True := eq_true h43
                  clear h43
                  have hr_ := Option.some.inj hr; subst hr_
                  refine RetF.scal (by
                    simp only [c_impl_add, evA, evB, Int.reduceToNat, eq_self, reduceCtorEq, ↓reduceIte, Nat.reduceEqDiff, Nat.reduceAdd, Nat.reduceLT, Nat.reduceLeDiff, Nat.reduceMul, Nat.reduceSub, Nat.reduceBEq, impl_Job.cells, rz_impl_Job, pr_impl_Job, spec_l1Cur.cells, rz_spec_l1Cur, pr_spec_l1Cur, arr_2_int.cells, rz_arr_2_int, pr_arr_2_int, *]
                    rfl) rfl rfl
                · rw [if_neg h43] at hr
                  have e42 : (objective_ = 7) = False := eq_false h43
                  clear h43
                  have hr_ := Option.some.inj hr; subst hr_
                  refine RetF.scal (by
                    simp only [c_impl_add, evA, evB, Int.reduceToNat, eq_self, reduceCtorEq, ↓reduceIte, Nat.reduceEqDiff, Nat.reduceAdd, Nat.reduceLT, Nat.reduceLeDiff, Nat.reduceMul, Nat.reduceSub, Nat.reduceBEq, impl_Job.cells, rz_impl_Job, pr_impl_Job, spec_l1Cur.cells, rz_spec_l1Cur, pr_spec_l1Cur, arr_2_int.cells, rz_arr_2_int, pr_arr_2_int, *]
                    rfl) rfl rfl

theorem st_impl_valueOfEnds_l0 {cl : Callee} (K_impl_add : K_impl_add x_impl_add (cl n_impl_add)) (ends_ : (List Int)) (objective_ : Int) (v : (List impl_Job)) (vz1 : Int) (st_ : (Int × Int)) (c_ : Ctl (Int × Int) (Int)) (hr : x_impl_valueOfEnds_l0 ends_ objective_ v vz1 st_ = some c_) (T_ : Tm) (H_ : List Blk) (ng : Nat) (hR_ : R_impl_valueOfEnds_l0 ends_ objective_ v vz1 st_ T_ H_) :
    ∃ e_ T1_ H1_ ng1_, gcode (shOf F) cl LL c_impl_valueOfEnds_l0 ⟨maskT (some [1, 2, 7, 10, 11, 12]) T_, H_, ng⟩ = some (e_, ⟨T1_, H1_, ng1_⟩) ∧ TurnOK (R_impl_valueOfEnds_l0 ends_ objective_ v vz1) (Q_impl_valueOfEnds_l0 ends_ objective_ v vz1) 0 c_ e_ T1_ H1_ := by
  obtain ⟨value_, vz2⟩ := st_
  obtain ⟨f0_, f1_, f2_, f3_, f4_, f5_, rfl⟩ := hR_
  unfold x_impl_valueOfEnds_l0 at hr
  try dsimp only at hr
  by_cases h5 : vz2 < vz1
  · rw [if_pos h5] at hr
    have e3 : (vz2 < vz1) = True := eq_true h5
    clear h5
    obtain ⟨y6, q10, hr⟩ := Option.bind_eq_some_iff.1 hr
    obtain ⟨e7, e8, e9⟩ := ix_some q10
    try simp only [Int.toNat_natCast, Int.toNat_zero, Int.reduceToNat] at e8
    clear q10
    obtain ⟨y11, q15, hr⟩ := Option.bind_eq_some_iff.1 hr
    obtain ⟨e12, e13, e14⟩ := ix_some q15
    try simp only [Int.toNat_natCast, Int.toNat_zero, Int.reduceToNat] at e13
    clear q15
    obtain ⟨r16, q18, hr⟩ := Option.bind_eq_some_iff.1 hr
    have e17 : ∀ H ng, gcall (shOf F) cl false n_impl_add [.int .i64 value_, .agg [.int .i64 y6.Time, .int .i64 y6.Weight, .int .i64 y6.Release, .int .i64 y6.Due], .int .i64 y11, .int .i64 objective_, .bool (decide (vz2 = 0))] H ng = some (.int .i64 r16, H, ng, .inert) := fun H ng => call_far s_impl_add rfl (K_impl_add _ _ _ _ _ _ q18).ret
    have hr_ := Option.some.inj hr; subst hr_
    refine turn (by
      simp only [c_impl_valueOfEnds_l0, evA, evB, Int.reduceToNat, eq_self, reduceCtorEq, ↓reduceIte, Nat.reduceEqDiff, Nat.reduceAdd, Nat.reduceLT, Nat.reduceLeDiff, Nat.reduceMul, Nat.reduceSub, Nat.reduceBEq, impl_Job.cells, rz_impl_Job, pr_impl_Job, spec_l1Cur.cells, rz_spec_l1Cur, pr_spec_l1Cur, arr_2_int.cells, rz_arr_2_int, pr_arr_2_int, *]
      rfl) ?_
    exact ⟨rfl, rfl, rfl, rfl, rfl, rfl, rfl, rfl⟩
  · rw [if_neg h5] at hr
    have e4 : (vz2 < vz1) = False := eq_false h5
    clear h5
    have hr_ := Option.some.inj hr; subst hr_
    refine turn (by
      simp only [c_impl_valueOfEnds_l0, evA, evB, Int.reduceToNat, eq_self, reduceCtorEq, ↓reduceIte, Nat.reduceEqDiff, Nat.reduceAdd, Nat.reduceLT, Nat.reduceLeDiff, Nat.reduceMul, Nat.reduceSub, Nat.reduceBEq, impl_Job.cells, rz_impl_Job, pr_impl_Job, spec_l1Cur.cells, rz_spec_l1Cur, pr_spec_l1Cur, arr_2_int.cells, rz_arr_2_int, pr_arr_2_int, *]
      rfl) ?_
    exact ⟨by simp, rfl, rfl, rfl⟩

theorem lp_impl_valueOfEnds_l0 {cl : Callee} (K_impl_add : K_impl_add x_impl_add (cl n_impl_add)) (ends_ : (List Int)) (objective_ : Int) (v : (List impl_Job)) (vz1 : Int) (st_ : (Int × Int)) (p_ : (Int)) (hr : loopS (x_impl_valueOfEnds_l0 ends_ objective_ v vz1) LL st_ = some p_) (T_ : Tm) (H_ : List Blk) (ng : Nat) (hR_ : R_impl_valueOfEnds_l0 ends_ objective_ v vz1 st_ T_ H_) (hn_ : H_.length = 0) :
    ∃ e_ T1_ H1_ ng1_, gcode (shOf F) cl LL (.loop false (some [1, 2, 7, 10, 11, 12]) c_impl_valueOfEnds_l0) ⟨T_, H_, ng⟩ = some (e_, ⟨T1_, H1_, ng1_⟩) ∧ Q_impl_valueOfEnds_l0 ends_ objective_ v vz1 p_ e_ T1_ H1_ :=
  sim_loop (n0 := 0) (R_impl_valueOfEnds_l0 ends_ objective_ v vz1) (Q_impl_valueOfEnds_l0 ends_ objective_ v vz1) (st_impl_valueOfEnds_l0 K_impl_add ends_ objective_ v vz1) st_ p_ hr T_ H_ ng hR_ hn_

theorem ok_impl_valueOfEnds {cl : Callee} (K_impl_add : K_impl_add x_impl_add (cl n_impl_add)) : K_impl_valueOfEnds (x_impl_valueOfEnds) (gbody F LL cl c_impl_valueOfEnds) := by
  intro jobs_ ends_ objective_ r hr
  unfold x_impl_valueOfEnds at hr
  try dsimp only at hr
  obtain ⟨p1, q10, hr⟩ := Option.bind_eq_some_iff.1 hr
  obtain ⟨ex7, T4, H5, ng6, l3, m2⟩ := lp_impl_valueOfEnds_l0 (cl := cl) K_impl_add  ends_ objective_ jobs_ (jobs_.length : Int) _ _ q10 [(1, .fs (ends_.map (cI .i64))), (2, .int .i64 objective_), (7, .int .i64 0), (10, .fs (jobs_.map impl_Job.cells)), (11, .int .i64 (jobs_.length : Int)), (12, .int .i64 0)] [] 0 (show R_impl_valueOfEnds_l0 ends_ objective_ jobs_ (jobs_.length : Int) (0, 0) [(1, .fs (ends_.map (cI .i64))), (2, .int .i64 objective_), (7, .int .i64 0), (10, .fs (jobs_.map impl_Job.cells)), (11, .int .i64 (jobs_.length : Int)), (12, .int .i64 0)] [] from ⟨rfl, rfl, rfl, rfl, rfl, rfl, rfl⟩) rfl
  obtain ⟨rfl, e8, e9⟩ := m2
  subst e9
  have hr_ := Option.some.inj hr; subst hr_
  refine RetF.scal (by
    simp only [c_impl_valueOfEnds, evA, evB, Int.reduceToNat, eq_self, reduceCtorEq, ↓reduceIte, Nat.reduceEqDiff, Nat.reduceAdd, Nat.reduceLT, Nat.reduceLeDiff, Nat.reduceMul, Nat.reduceSub, Nat.reduceBEq, impl_Job.cells, rz_impl_Job, pr_impl_Job, spec_l1Cur.cells, rz_spec_l1Cur, pr_spec_l1Cur, arr_2_int.cells, rz_arr_2_int, pr_arr_2_int, *]
    rfl) rfl rfl

theorem st_impl_endsOf_l0 {cl : Callee} (jobs_ : (List impl_Job)) (v : (List Int)) (vz1 : Int) (st_ : ((List Int) × Int × Int)) (c_ : Ctl ((List Int) × Int × Int) ((List Int))) (hr : x_impl_endsOf_l0 jobs_ v vz1 st_ = some c_) (T_ : Tm) (H_ : List Blk) (ng : Nat) (hR_ : R_impl_endsOf_l0 jobs_ v vz1 st_ T_ H_) :
    ∃ e_ T1_ H1_ ng1_, gcode (shOf F) cl LL c_impl_endsOf_l0 ⟨maskT (some [0, 5, 6, 12, 13, 14]) T_, H_, ng⟩ = some (e_, ⟨T1_, H1_, ng1_⟩) ∧ TurnOK (R_impl_endsOf_l0 jobs_ v vz1) (Q_impl_endsOf_l0 jobs_ v vz1) 1 c_ e_ T1_ H1_ := by
  obtain ⟨out_, end_, vz2⟩ := st_
  obtain ⟨g0, f0_, f1_, f2_, f3_, f4_, f5_, rfl⟩ := hR_
  unfold x_impl_endsOf_l0 at hr
  try dsimp only at hr
  by_cases h5 : vz2 < vz1
  · rw [if_pos h5] at hr
    have e3 : (vz2 < vz1) = True := eq_true h5
    clear h5
    obtain ⟨y6, q10, hr⟩ := Option.bind_eq_some_iff.1 hr
    obtain ⟨e7, e8, e9⟩ := ix_some q10
    try simp only [Int.toNat_natCast, Int.toNat_zero, Int.reduceToNat] at e8
    clear q10
    obtain ⟨y11, q15, hr⟩ := Option.bind_eq_some_iff.1 hr
    obtain ⟨e12, e13, e14⟩ := ix_some q15
    try simp only [Int.toNat_natCast, Int.toNat_zero, Int.reduceToNat] at e13
    clear q15
    obtain ⟨y16, q20, hr⟩ := Option.bind_eq_some_iff.1 hr
    obtain ⟨e17, e18, e19⟩ := ix_some q20
    try simp only [Int.toNat_natCast, Int.toNat_zero, Int.reduceToNat] at e18
    clear q20
    obtain ⟨l21, q26, hr⟩ := Option.bind_eq_some_iff.1 hr
    obtain ⟨_, _, e22, e23, _⟩ := put_some q26
    try simp only [Int.toNat_natCast, Int.toNat_zero, Int.reduceToNat] at e22
    have e24 : (out_.map (cI .i64)).set (Int.toNat y6) [.int .i64 (addK .i64 (mxK end_ y11.Release) y11.Time)] = l21.map (cI .i64) := by rw [← e22, List.map_set] <;> rfl
    replace e23 : Keep (out_.length = l21.length) := e23
    clear e22 q26
    have hr_ := Option.some.inj hr; subst hr_
    refine turn (by
      simp only [c_impl_endsOf_l0, evA, evB, Int.reduceToNat, eq_self, reduceCtorEq, ↓reduceIte, Nat.reduceEqDiff, Nat.reduceAdd, Nat.reduceLT, Nat.reduceLeDiff, Nat.reduceMul, Nat.reduceSub, Nat.reduceBEq, impl_Job.cells, rz_impl_Job, pr_impl_Job, spec_l1Cur.cells, rz_spec_l1Cur, pr_spec_l1Cur, arr_2_int.cells, rz_arr_2_int, pr_arr_2_int, *]
      rfl) ?_
    exact ⟨rfl, _, rfl, (congrArg (fun n_ => V.os 0 g0 1 0 n_) e23), rfl, rfl, rfl, rfl, rfl⟩
  · rw [if_neg h5] at hr
    have e4 : (vz2 < vz1) = False := eq_false h5
    clear h5
    have hr_ := Option.some.inj hr; subst hr_
    refine turn (by
      simp only [c_impl_endsOf_l0, evA, evB, Int.reduceToNat, eq_self, reduceCtorEq, ↓reduceIte, Nat.reduceEqDiff, Nat.reduceAdd, Nat.reduceLT, Nat.reduceLeDiff, Nat.reduceMul, Nat.reduceSub, Nat.reduceBEq, impl_Job.cells, rz_impl_Job, pr_impl_Job, spec_l1Cur.cells, rz_spec_l1Cur, pr_spec_l1Cur, arr_2_int.cells, rz_arr_2_int, pr_arr_2_int, *]
      rfl) ?_
    exact ⟨by simp, rfl, _, rfl, rfl⟩

theorem lp_impl_endsOf_l0 {cl : Callee} (jobs_ : (List impl_Job)) (v : (List Int)) (vz1 : Int) (st_ : ((List Int) × Int × Int)) (p_ : ((List Int))) (hr : loopS (x_impl_endsOf_l0 jobs_ v vz1) LL st_ = some p_) (T_ : Tm) (H_ : List Blk) (ng : Nat) (hR_ : R_impl_endsOf_l0 jobs_ v vz1 st_ T_ H_) (hn_ : H_.length = 1) :
    ∃ e_ T1_ H1_ ng1_, gcode (shOf F) cl LL (.loop false (some [0, 5, 6, 12, 13, 14]) c_impl_endsOf_l0) ⟨T_, H_, ng⟩ = some (e_, ⟨T1_, H1_, ng1_⟩) ∧ Q_impl_endsOf_l0 jobs_ v vz1 p_ e_ T1_ H1_ :=
  sim_loop (n0 := 1) (R_impl_endsOf_l0 jobs_ v vz1) (Q_impl_endsOf_l0 jobs_ v vz1) (st_impl_endsOf_l0 jobs_ v vz1) st_ p_ hr T_ H_ ng hR_ hn_

theorem ok_impl_endsOf {cl : Callee} : K_impl_endsOf (x_impl_endsOf) (gbody F LL cl c_impl_endsOf) := by
  intro jobs_ order_ r hr
  unfold x_impl_endsOf at hr
  try dsimp only at hr
  obtain ⟨y1, q9, hr⟩ := Option.bind_eq_some_iff.1 hr
  obtain ⟨e2, e3, e4, e5, e6⟩ := mk_some q9
  try simp only [Int.toNat_natCast] at e5 e6
  have e7 : List.replicate jobs_.length [.int .i64 0] = y1.map (cI .i64) := by rw [← e5, List.map_replicate] <;> rfl
  have e8 : Keep (jobs_.length = y1.length) := e6.symm
  clear e5 e6 q9
  obtain ⟨p10, q20, hr⟩ := Option.bind_eq_some_iff.1 hr
  obtain ⟨ex16, T13, H14, ng15, l12, m11⟩ := lp_impl_endsOf_l0 (cl := cl)  jobs_ order_ (order_.length : Int) _ _ q20 [(0, .fs (jobs_.map impl_Job.cells)), (5, .os 0 0 1 0 jobs_.length), (6, .int .i64 0), (12, .fs (order_.map (cI .i64))), (13, .int .i64 (order_.length : Int)), (14, .int .i64 0)] [(Blk.mk 0 false 1 (y1.map (cI .i64)))] 1 (show R_impl_endsOf_l0 jobs_ order_ (order_.length : Int) (y1, 0, 0) [(0, .fs (jobs_.map impl_Job.cells)), (5, .os 0 0 1 0 jobs_.length), (6, .int .i64 0), (12, .fs (order_.map (cI .i64))), (13, .int .i64 (order_.length : Int)), (14, .int .i64 0)] [(Blk.mk 0 false 1 (y1.map (cI .i64)))] from ⟨_, rfl, (congrArg (fun n_ => V.os 0 0 1 0 n_) e8), rfl, rfl, rfl, rfl, rfl⟩) rfl
  obtain ⟨rfl, g17, e18, e19⟩ := m11
  subst e19
  have hr_ := Option.some.inj hr; subst hr_
  refine ⟨0, g17, [(Blk.mk g17 false 1 (p10.map (cI .i64)))], ng15, ?_, by simp [hget, hp], sc_cI _ _⟩
  simp only [c_impl_endsOf, evA, evB, Int.reduceToNat, eq_self, reduceCtorEq, ↓reduceIte, Nat.reduceEqDiff, Nat.reduceAdd, Nat.reduceLT, Nat.reduceLeDiff, Nat.reduceMul, Nat.reduceSub, Nat.reduceBEq, impl_Job.cells, rz_impl_Job, pr_impl_Job, spec_l1Cur.cells, rz_spec_l1Cur, pr_spec_l1Cur, arr_2_int.cells, rz_arr_2_int, pr_arr_2_int, *]

theorem ok_impl_valueOf {cl : Callee} (K_impl_valueOfEnds : K_impl_valueOfEnds x_impl_valueOfEnds (cl n_impl_valueOfEnds)) (K_impl_endsOf : K_impl_endsOf x_impl_endsOf (cl n_impl_endsOf)) : K_impl_valueOf (x_impl_valueOf) (gbody F LL cl c_impl_valueOf) := by
  intro jobs_ order_ objective_ r hr
  unfold x_impl_valueOf at hr
  try dsimp only at hr
  obtain ⟨r1, q3, hr⟩ := Option.bind_eq_some_iff.1 hr
  have e2 : ∀ H ng, gcall (shOf F) cl false n_impl_endsOf [.fs (jobs_.map impl_Job.cells), .fs (order_.map (cI .i64))] H ng = some (.fs (r1.map (cI .i64)), H, ng, .inert) := fun H ng => call_far s_impl_endsOf rfl (K_impl_endsOf _ _ _ q3).retF.ret
  obtain ⟨r4, q6, hr⟩ := Option.bind_eq_some_iff.1 hr
  have e5 : ∀ H ng, gcall (shOf F) cl false n_impl_valueOfEnds [.fs (jobs_.map impl_Job.cells), .fs (r1.map (cI .i64)), .int .i64 objective_] H ng = some (.int .i64 r4, H, ng, .inert) := fun H ng => call_far s_impl_valueOfEnds rfl (K_impl_valueOfEnds _ _ _ _ q6).ret
  have hr_ := Option.some.inj hr; subst hr_
  refine RetF.scal (by
    simp only [c_impl_valueOf, evA, evB, Int.reduceToNat, eq_self, reduceCtorEq, ↓reduceIte, Nat.reduceEqDiff, Nat.reduceAdd, Nat.reduceLT, Nat.reduceLeDiff, Nat.reduceMul, Nat.reduceSub, Nat.reduceBEq, impl_Job.cells, rz_impl_Job, pr_impl_Job, spec_l1Cur.cells, rz_spec_l1Cur, pr_spec_l1Cur, arr_2_int.cells, rz_arr_2_int, pr_arr_2_int, *]
    rfl) rfl rfl

theorem ok_impl_copyInts {cl : Callee} : K_impl_copyInts (x_impl_copyInts) (gbody F LL cl c_impl_copyInts) := by
  intro list_ r hr
  unfold x_impl_copyInts at hr
  try dsimp only at hr
  by_cases h3 : fits list_.length 8
  · rw [if_pos h3] at hr
    have e1 : (list_.length * 8 ≤ room) = True := eq_true h3.1
    have e2 : (list_.length ≤ room) = True := eq_true h3.2
    clear h3
    have hr_ := Option.some.inj hr; subst hr_
    refine ⟨1, 2, [(Blk.mk 0 false 1 []), (Blk.mk 2 false 1 (list_.map (cI .i64)))], 3, ?_, by simp [hget, hp], sc_cI _ _⟩
    simp only [c_impl_copyInts, evA, evB, Int.reduceToNat, eq_self, reduceCtorEq, ↓reduceIte, Nat.reduceEqDiff, Nat.reduceAdd, Nat.reduceLT, Nat.reduceLeDiff, Nat.reduceMul, Nat.reduceSub, Nat.reduceBEq, impl_Job.cells, rz_impl_Job, pr_impl_Job, spec_l1Cur.cells, rz_spec_l1Cur, pr_spec_l1Cur, arr_2_int.cells, rz_arr_2_int, pr_arr_2_int, *]
  · rw [if_neg h3] at hr
    clear h3
    exact nomatch hr

theorem ok_impl_best_c1 {cl : Callee} (K_impl_valueOf : K_impl_valueOf x_impl_valueOf (cl n_impl_valueOf)) (K_impl_copyInts : K_impl_copyInts x_impl_copyInts (cl n_impl_copyInts)) : K_impl_best_c1 x_impl_best_c1 (gbody F LL cl c_impl_best_c1) := by
  intro x0_0 x1_0 st_ order_ r hr g0 g1 g2 g3 g4 g ng
  obtain ⟨x2_0, x3_0, x4_0⟩ := st_
  unfold x_impl_best_c1 at hr
  try dsimp only at hr
  obtain ⟨r1, q5, hr⟩ := Option.bind_eq_some_iff.1 hr
  have x2 : expC (hp [(Blk.mk g0 false 1 [[.fs (x0_0.map impl_Job.cells)]]), (Blk.mk g1 false 1 [[.int .i64 x1_0]]), (Blk.mk g2 false 1 [[.fs (x2_0.map (cI .i64))]]), (Blk.mk g3 false 1 [[.int .i64 x3_0]]), (Blk.mk g4 false 1 [[.int .i64 x4_0]]), (Blk.mk g false 1 (order_.map (cI .i64)))]) 0 expDepth (.os 5 g 1 0 order_.length) = some (.fs (order_.map (cI .i64))) := (exp_win (b := (Blk.mk g false 1 (order_.map (cI .i64)))) (Nat.zero_le _) (by simp [hget, hp]) (by simp) (pr_cI _ _)).trans (by simp [take_map_len])
  have x3 : mapMV (expV (hp [(Blk.mk g0 false 1 [[.fs (x0_0.map impl_Job.cells)]]), (Blk.mk g1 false 1 [[.int .i64 x1_0]]), (Blk.mk g2 false 1 [[.fs (x2_0.map (cI .i64))]]), (Blk.mk g3 false 1 [[.int .i64 x3_0]]), (Blk.mk g4 false 1 [[.int .i64 x4_0]]), (Blk.mk g false 1 (order_.map (cI .i64)))]) 0) [.fs (x0_0.map impl_Job.cells), .os 5 g 1 0 order_.length, .int .i64 x1_0] = some [.fs (x0_0.map impl_Job.cells), .fs (order_.map (cI .i64)), .int .i64 x1_0] := by simp only [mapMV, ex_int, ex_bool, ex_fs, ex_agg, ex_os, pureCs, V.pureC, Bool.and_self, x2, Option.bind_some, Option.map_some]
  have e4 : gcall (shOf F) cl false n_impl_valueOf [.fs (x0_0.map impl_Job.cells), .os 5 g 1 0 order_.length, .int .i64 x1_0] [(Blk.mk g0 false 1 [[.fs (x0_0.map impl_Job.cells)]]), (Blk.mk g1 false 1 [[.int .i64 x1_0]]), (Blk.mk g2 false 1 [[.fs (x2_0.map (cI .i64))]]), (Blk.mk g3 false 1 [[.int .i64 x3_0]]), (Blk.mk g4 false 1 [[.int .i64 x4_0]]), (Blk.mk g false 1 (order_.map (cI .i64)))] ng = some (.int .i64 r1, [(Blk.mk g0 false 1 [[.fs (x0_0.map impl_Job.cells)]]), (Blk.mk g1 false 1 [[.int .i64 x1_0]]), (Blk.mk g2 false 1 [[.fs (x2_0.map (cI .i64))]]), (Blk.mk g3 false 1 [[.int .i64 x3_0]]), (Blk.mk g4 false 1 [[.int .i64 x4_0]]), (Blk.mk g false 1 (order_.map (cI .i64)))], ng, .touch (idsVs (hp [(Blk.mk g0 false 1 [[.fs (x0_0.map impl_Job.cells)]]), (Blk.mk g1 false 1 [[.int .i64 x1_0]]), (Blk.mk g2 false 1 [[.fs (x2_0.map (cI .i64))]]), (Blk.mk g3 false 1 [[.int .i64 x3_0]]), (Blk.mk g4 false 1 [[.int .i64 x4_0]]), (Blk.mk g false 1 (order_.map (cI .i64)))]) [.fs (x0_0.map impl_Job.cells), .os 5 g 1 0 order_.length, .int .i64 x1_0]) []) := call_near s_impl_valueOf x3 rfl (K_impl_valueOf _ _ _ _ q5)
  clear x2 x3
  by_cases h10 : x4_0 = 0
  · rw [if_pos h10] at hr
    have e8 : (x4_0 = 0) = True := eq_true h10
    clear h10
    obtain ⟨r11, q15, hr⟩ := Option.bind_eq_some_iff.1 hr
    have x12 : expC (hp [(Blk.mk g0 false 1 [[.fs (x0_0.map impl_Job.cells)]]), (Blk.mk g1 false 1 [[.int .i64 x1_0]]), (Blk.mk g2 false 1 [[.fs (x2_0.map (cI .i64))]]), (Blk.mk g3 false 1 [[.int .i64 x3_0]]), (Blk.mk g4 false 1 [[.int .i64 x4_0]]), (Blk.mk g false 1 (order_.map (cI .i64)))]) 0 expDepth (.os 5 g 1 0 order_.length) = some (.fs (order_.map (cI .i64))) := (exp_win (b := (Blk.mk g false 1 (order_.map (cI .i64)))) (Nat.zero_le _) (by simp [hget, hp]) (by simp) (pr_cI _ _)).trans (by simp [take_map_len])
    have x13 : mapMV (expV (hp [(Blk.mk g0 false 1 [[.fs (x0_0.map impl_Job.cells)]]), (Blk.mk g1 false 1 [[.int .i64 x1_0]]), (Blk.mk g2 false 1 [[.fs (x2_0.map (cI .i64))]]), (Blk.mk g3 false 1 [[.int .i64 x3_0]]), (Blk.mk g4 false 1 [[.int .i64 x4_0]]), (Blk.mk g false 1 (order_.map (cI .i64)))]) 0) [.os 5 g 1 0 order_.length] = some [.fs (order_.map (cI .i64))] := by simp only [mapMV, ex_int, ex_bool, ex_fs, ex_agg, ex_os, pureCs, V.pureC, Bool.and_self, x12, Option.bind_some, Option.map_some]
    have e14 : gcall (shOf F) cl false n_impl_copyInts [.os 5 g 1 0 order_.length] [(Blk.mk g0 false 1 [[.fs (x0_0.map impl_Job.cells)]]), (Blk.mk g1 false 1 [[.int .i64 x1_0]]), (Blk.mk g2 false 1 [[.fs (x2_0.map (cI .i64))]]), (Blk.mk g3 false 1 [[.int .i64 x3_0]]), (Blk.mk g4 false 1 [[.int .i64 x4_0]]), (Blk.mk g false 1 (order_.map (cI .i64)))] ng = some (.fs (r11.map (cI .i64)), [(Blk.mk g0 false 1 [[.fs (x0_0.map impl_Job.cells)]]), (Blk.mk g1 false 1 [[.int .i64 x1_0]]), (Blk.mk g2 false 1 [[.fs (x2_0.map (cI .i64))]]), (Blk.mk g3 false 1 [[.int .i64 x3_0]]), (Blk.mk g4 false 1 [[.int .i64 x4_0]]), (Blk.mk g false 1 (order_.map (cI .i64)))], ng, .touch (idsVs (hp [(Blk.mk g0 false 1 [[.fs (x0_0.map impl_Job.cells)]]), (Blk.mk g1 false 1 [[.int .i64 x1_0]]), (Blk.mk g2 false 1 [[.fs (x2_0.map (cI .i64))]]), (Blk.mk g3 false 1 [[.int .i64 x3_0]]), (Blk.mk g4 false 1 [[.int .i64 x4_0]]), (Blk.mk g false 1 (order_.map (cI .i64)))]) [.os 5 g 1 0 order_.length]) []) := call_near s_impl_copyInts x13 rfl (K_impl_copyInts _ _ q15).retF
    clear x12 x13
    have hr_ := Option.some.inj hr; subst hr_
    refine ⟨[], ng, ?_⟩
    simp only [c_impl_best_c1, evA, evB, Int.reduceToNat, eq_self, reduceCtorEq, ↓reduceIte, Nat.reduceEqDiff, Nat.reduceAdd, Nat.reduceLT, Nat.reduceLeDiff, Nat.reduceMul, Nat.reduceSub, Nat.reduceBEq, impl_Job.cells, rz_impl_Job, pr_impl_Job, spec_l1Cur.cells, rz_spec_l1Cur, pr_spec_l1Cur, arr_2_int.cells, rz_arr_2_int, pr_arr_2_int, *]
  · rw [if_neg h10] at hr
    have e9 : (x4_0 = 0) = False := eq_false h10
    clear h10
    by_cases h20 : r1 < x3_0
    · rw [if_pos h20] at hr
      have e18 : (r1 < x3_0) = True := eq_true h20
      clear h20
      obtain ⟨r21, q25, hr⟩ := Option.bind_eq_some_iff.1 hr
      have x22 : expC (hp [(Blk.mk g0 false 1 [[.fs (x0_0.map impl_Job.cells)]]), (Blk.mk g1 false 1 [[.int .i64 x1_0]]), (Blk.mk g2 false 1 [[.fs (x2_0.map (cI .i64))]]), (Blk.mk g3 false 1 [[.int .i64 x3_0]]), (Blk.mk g4 false 1 [[.int .i64 x4_0]]), (Blk.mk g false 1 (order_.map (cI .i64)))]) 0 expDepth (.os 5 g 1 0 order_.length) = some (.fs (order_.map (cI .i64))) := (exp_win (b := (Blk.mk g false 1 (order_.map (cI .i64)))) (Nat.zero_le _) (by simp [hget, hp]) (by simp) (pr_cI _ _)).trans (by simp [take_map_len])
      have x23 : mapMV (expV (hp [(Blk.mk g0 false 1 [[.fs (x0_0.map impl_Job.cells)]]), (Blk.mk g1 false 1 [[.int .i64 x1_0]]), (Blk.mk g2 false 1 [[.fs (x2_0.map (cI .i64))]]), (Blk.mk g3 false 1 [[.int .i64 x3_0]]), (Blk.mk g4 false 1 [[.int .i64 x4_0]]), (Blk.mk g false 1 (order_.map (cI .i64)))]) 0) [.os 5 g 1 0 order_.length] = some [.fs (order_.map (cI .i64))] := by simp only [mapMV, ex_int, ex_bool, ex_fs, ex_agg, ex_os, pureCs, V.pureC, Bool.and_self, x22, Option.bind_some, Option.map_some]
      have e24 : gcall (shOf F) cl false n_impl_copyInts [.os 5 g 1 0 order_.length] [(Blk.mk g0 false 1 [[.fs (x0_0.map impl_Job.cells)]]), (Blk.mk g1 false 1 [[.int .i64 x1_0]]), (Blk.mk g2 false 1 [[.fs (x2_0.map (cI .i64))]]), (Blk.mk g3 false 1 [[.int .i64 x3_0]]), (Blk.mk g4 false 1 [[.int .i64 x4_0]]), (Blk.mk g false 1 (order_.map (cI .i64)))] ng = some (.fs (r21.map (cI .i64)), [(Blk.mk g0 false 1 [[.fs (x0_0.map impl_Job.cells)]]), (Blk.mk g1 false 1 [[.int .i64 x1_0]]), (Blk.mk g2 false 1 [[.fs (x2_0.map (cI .i64))]]), (Blk.mk g3 false 1 [[.int .i64 x3_0]]), (Blk.mk g4 false 1 [[.int .i64 x4_0]]), (Blk.mk g false 1 (order_.map (cI .i64)))], ng, .touch (idsVs (hp [(Blk.mk g0 false 1 [[.fs (x0_0.map impl_Job.cells)]]), (Blk.mk g1 false 1 [[.int .i64 x1_0]]), (Blk.mk g2 false 1 [[.fs (x2_0.map (cI .i64))]]), (Blk.mk g3 false 1 [[.int .i64 x3_0]]), (Blk.mk g4 false 1 [[.int .i64 x4_0]]), (Blk.mk g false 1 (order_.map (cI .i64)))]) [.os 5 g 1 0 order_.length]) []) := call_near s_impl_copyInts x23 rfl (K_impl_copyInts _ _ q25).retF
      clear x22 x23
      have hr_ := Option.some.inj hr; subst hr_
      refine ⟨[], ng, ?_⟩
      simp only [c_impl_best_c1, evA, evB, Int.reduceToNat, eq_self, reduceCtorEq, ↓reduceIte, Nat.reduceEqDiff, Nat.reduceAdd, Nat.reduceLT, Nat.reduceLeDiff, Nat.reduceMul, Nat.reduceSub, Nat.reduceBEq, impl_Job.cells, rz_impl_Job, pr_impl_Job, spec_l1Cur.cells, rz_spec_l1Cur, pr_spec_l1Cur, arr_2_int.cells, rz_arr_2_int, pr_arr_2_int, *]
    · rw [if_neg h20] at hr
      have e19 : (r1 < x3_0) = False := eq_false h20
      clear h20
      by_cases h30 : r1 = x3_0
      · rw [if_pos h30] at hr
        have e28 : (r1 = x3_0) = True := eq_true h30
        clear h30
        have hr_ := Option.some.inj hr; subst hr_
        refine ⟨[], ng, ?_⟩
        simp only [c_impl_best_c1, evA, evB, Int.reduceToNat, eq_self, reduceCtorEq, ↓reduceIte, Nat.reduceEqDiff, Nat.reduceAdd, Nat.reduceLT, Nat.reduceLeDiff, Nat.reduceMul, Nat.reduceSub, Nat.reduceBEq, impl_Job.cells, rz_impl_Job, pr_impl_Job, spec_l1Cur.cells, rz_spec_l1Cur, pr_spec_l1Cur, arr_2_int.cells, rz_arr_2_int, pr_arr_2_int, *]
      · rw [if_neg h30] at hr
        have e29 : (r1 = x3_0) = False := eq_false h30
        clear h30
        have hr_ := Option.some.inj hr; subst hr_
        refine ⟨[], ng, ?_⟩
        simp only [c_impl_best_c1, evA, evB, Int.reduceToNat, eq_self, reduceCtorEq, ↓reduceIte, Nat.reduceEqDiff, Nat.reduceAdd, Nat.reduceLT, Nat.reduceLeDiff, Nat.reduceMul, Nat.reduceSub, Nat.reduceBEq, impl_Job.cells, rz_impl_Job, pr_impl_Job, spec_l1Cur.cells, rz_spec_l1Cur, pr_spec_l1Cur, arr_2_int.cells, rz_arr_2_int, pr_arr_2_int, *]

theorem ok_impl_best {cl : Callee} (K_impl_eachOrder__impl_best_c1 : K_impl_eachOrder__impl_best_c1 (cl n_impl_eachOrder)) : K_impl_best (x_impl_best) (gbody F LL cl c_impl_best) := by
  intro jobs_ objective_ r hr
  unfold x_impl_best at hr
  try dsimp only at hr
  obtain ⟨r3, q4, hr⟩ := Option.bind_eq_some_iff.1 hr
  obtain ⟨ng1, e2⟩ : ∃ ng', gcall (shOf F) cl false n_impl_eachOrder [.int .i64 (jobs_.length : Int), .fn n_impl_best_c1 [.ptr 0 0 0 0, .ptr 1 1 0 0, .ptr 4 4 0 0, .ptr 3 3 0 0, .ptr 2 2 0 0]] [(Blk.mk 0 false 1 [[.fs (jobs_.map impl_Job.cells)]]), (Blk.mk 1 false 1 [[.int .i64 objective_]]), (Blk.mk 2 false 1 [[.fs []]]), (Blk.mk 3 false 1 [[.int .i64 0]]), (Blk.mk 4 false 1 [[.int .i64 0]])] 5 = some (.tup [], [(Blk.mk 0 false 1 [[.fs (jobs_.map impl_Job.cells)]]), (Blk.mk 1 false 1 [[.int .i64 objective_]]), (Blk.mk 2 false 1 [[.fs (r3.1.map (cI .i64))]]), (Blk.mk 3 false 1 [[.int .i64 r3.2.1]]), (Blk.mk 4 false 1 [[.int .i64 r3.2.2]])], ng', .all) := call_P' s_impl_eachOrder (K_impl_eachOrder__impl_best_c1 _ _ _ _ _ q4 _ _ _ _ _ 5) rfl
  have hr_ := Option.some.inj hr; subst hr_
  refine Ret.flat (by
    simp only [c_impl_best, evA, evB, Int.reduceToNat, eq_self, reduceCtorEq, ↓reduceIte, Nat.reduceEqDiff, Nat.reduceAdd, Nat.reduceLT, Nat.reduceLeDiff, Nat.reduceMul, Nat.reduceSub, Nat.reduceBEq, impl_Job.cells, rz_impl_Job, pr_impl_Job, spec_l1Cur.cells, rz_spec_l1Cur, pr_spec_l1Cur, arr_2_int.cells, rz_arr_2_int, pr_arr_2_int, *]
    rfl) rfl

theorem ok_impl_isObjective {cl : Callee} (K_impl_within : K_impl_within x_impl_within (cl n_impl_within)) : K_impl_isObjective (x_impl_isObjective) (gbody F LL cl c_impl_isObjective) := by
  intro n_ r hr
  unfold x_impl_isObjective at hr
  try dsimp only at hr
  obtain ⟨r1, q3, hr⟩ := Option.bind_eq_some_iff.1 hr
  have e2 : ∀ H ng, gcall (shOf F) cl false n_impl_within [.int .i64 n_, .int .i64 1, .int .i64 8] H ng = some (.bool r1, H, ng, .inert) := fun H ng => call_far s_impl_within rfl (K_impl_within _ _ _ _ q3).ret
  have hr_ := Option.some.inj hr; subst hr_
  refine RetF.scal (by
    simp only [c_impl_isObjective, evA, evB, Int.reduceToNat, eq_self, reduceCtorEq, ↓reduceIte, Nat.reduceEqDiff, Nat.reduceAdd, Nat.reduceLT, Nat.reduceLeDiff, Nat.reduceMul, Nat.reduceSub, Nat.reduceBEq, impl_Job.cells, rz_impl_Job, pr_impl_Job, spec_l1Cur.cells, rz_spec_l1Cur, pr_spec_l1Cur, arr_2_int.cells, rz_arr_2_int, pr_arr_2_int, *]
    rfl) rfl rfl

theorem ok_impl_BestValue {cl : Callee} (K_impl_IsJobs : K_impl_IsJobs x_impl_IsJobs (cl n_impl_IsJobs)) (K_impl_best : K_impl_best x_impl_best (cl n_impl_best)) (K_impl_isObjective : K_impl_isObjective x_impl_isObjective (cl n_impl_isObjective)) : K_impl_BestValue (x_impl_BestValue) (gbody F LL cl c_impl_BestValue) := by
  intro jobs_ objective_ r hr
  unfold x_impl_BestValue at hr
  try dsimp only at hr
  obtain ⟨r1, q3, hr⟩ := Option.bind_eq_some_iff.1 hr
  have e2 : ∀ H ng, gcall (shOf F) cl false n_impl_IsJobs [.fs (jobs_.map impl_Job.cells)] H ng = some (.bool r1, H, ng, .inert) := fun H ng => call_far s_impl_IsJobs rfl (K_impl_IsJobs _ _ q3).ret
  by_cases h6 : r1 = true
  · rw [if_pos h6] at hr
    have e4 : r1 = true := h6
    clear h6
    obtain ⟨r7, q9, hr⟩ := Option.bind_eq_some_iff.1 hr
    have e8 : ∀ H ng, gcall (shOf F) cl false n_impl_isObjective [.int .i64 objective_] H ng = some (.bool r7, H, ng, .inert) := fun H ng => call_far s_impl_isObjective rfl (K_impl_isObjective _ _ q9).ret
    by_cases h12 : r7 = true
    · rw [if_pos h12] at hr
      have e10 : r7 = true := h12
      clear h12
      obtain ⟨r13, q15, hr⟩ := Option.bind_eq_some_iff.1 hr
      have e14 : ∀ H ng, gcall (shOf F) cl false n_impl_best [.fs (jobs_.map impl_Job.cells), .int .i64 objective_] H ng = some (.tup [.fs (r13.1.map (cI .i64)), .int .i64 r13.2.1, .int .i64 r13.2.2], H, ng, .inert) := fun H ng => call_far s_impl_best rfl (K_impl_best _ _ _ q15)
      have hr_ := Option.some.inj hr; subst hr_
      refine RetF.scal (by
        simp only [c_impl_BestValue, evA, evB, Int.reduceToNat, eq_self, reduceCtorEq, ↓reduceIte, Nat.reduceEqDiff, Nat.reduceAdd, Nat.reduceLT, Nat.reduceLeDiff, Nat.reduceMul, Nat.reduceSub, Nat.reduceBEq, impl_Job.cells, rz_impl_Job, pr_impl_Job, spec_l1Cur.cells, rz_spec_l1Cur, pr_spec_l1Cur, arr_2_int.cells, rz_arr_2_int, pr_arr_2_int, *]
        rfl) rfl rfl
    · rw [if_neg h12] at hr
      have e11 : r7 = false := Bool.eq_false_iff.2 h12
      clear h12
      have hr_ := Option.some.inj hr; subst hr_
      refine RetF.scal (by
        simp only [c_impl_BestValue, evA, evB, Int.reduceToNat, eq_self, reduceCtorEq, ↓reduceIte, Nat.reduceEqDiff, Nat.reduceAdd, Nat.reduceLT, Nat.reduceLeDiff, Nat.reduceMul, Nat.reduceSub, Nat.reduceBEq, impl_Job.cells, rz_impl_Job, pr_impl_Job, spec_l1Cur.cells, rz_spec_l1Cur, pr_spec_l1Cur, arr_2_int.cells, rz_arr_2_int, pr_arr_2_int, *]
        rfl) rfl rfl
  · rw [if_neg h6] at hr
    have e5 : r1 = false := Bool.eq_false_iff.2 h6
    clear h6
    have hr_ := Option.some.inj hr; subst hr_
    refine RetF.scal (by
      simp only [c_impl_BestValue, evA, evB, Int.reduceToNat, eq_self, reduceCtorEq, ↓reduceIte, Nat.reduceEqDiff, Nat.reduceAdd, Nat.reduceLT, Nat.reduceLeDiff, Nat.reduceMul, Nat.reduceSub, Nat.reduceBEq, impl_Job.cells, rz_impl_Job, pr_impl_Job, spec_l1Cur.cells, rz_spec_l1Cur, pr_spec_l1Cur, arr_2_int.cells, rz_arr_2_int, pr_arr_2_int, *]
      rfl) rfl rfl

theorem ok_impl_isScheduled {cl : Callee} (K_impl_IsJobs : K_impl_IsJobs x_impl_IsJobs (cl n_impl_IsJobs)) (K_impl_isOrder : K_impl_isOrder x_impl_isOrder (cl n_impl_isOrder)) : K_impl_isScheduled (x_impl_isScheduled) (gbody F LL cl c_impl_isScheduled) := by
  intro jobs_ order_ r hr
  unfold x_impl_isScheduled at hr
  try dsimp only at hr
  obtain ⟨r1, q3, hr⟩ := Option.bind_eq_some_iff.1 hr
  have e2 : ∀ H ng, gcall (shOf F) cl false n_impl_IsJobs [.fs (jobs_.map impl_Job.cells)] H ng = some (.bool r1, H, ng, .inert) := fun H ng => call_far s_impl_IsJobs rfl (K_impl_IsJobs _ _ q3).ret
  by_cases h6 : r1 = true
  · rw [if_pos h6] at hr
    have e4 : r1 = true := h6
    clear h6
    obtain ⟨r7, q9, hr⟩ := Option.bind_eq_some_iff.1 hr
    have e8 : ∀ H ng, gcall (shOf F) cl false n_impl_isOrder [.int .i64 (jobs_.length : Int), .fs (order_.map (cI .i64))] H ng = some (.bool r7, H, ng, .inert) := fun H ng => call_far s_impl_isOrder rfl (K_impl_isOrder _ _ _ q9).ret
    have hr_ := Option.some.inj hr; subst hr_
    refine RetF.scal (by
      simp only [c_impl_isScheduled, evA, evB, Int.reduceToNat, eq_self, reduceCtorEq, ↓reduceIte, Nat.reduceEqDiff, Nat.reduceAdd, Nat.reduceLT, Nat.reduceLeDiff, Nat.reduceMul, Nat.reduceSub, Nat.reduceBEq, impl_Job.cells, rz_impl_Job, pr_impl_Job, spec_l1Cur.cells, rz_spec_l1Cur, pr_spec_l1Cur, arr_2_int.cells, rz_arr_2_int, pr_arr_2_int, *]
      rfl) rfl rfl
  · rw [if_neg h6] at hr
    have e5 : r1 = false := Bool.eq_false_iff.2 h6
    clear h6
    have hr_ := Option.some.inj hr; subst hr_
    refine RetF.scal (by
      simp only [c_impl_isScheduled, evA, evB, Int.reduceToNat, eq_self, reduceCtorEq, ↓reduceIte, Nat.reduceEqDiff, Nat.reduceAdd, Nat.reduceLT, Nat.reduceLeDiff, Nat.reduceMul, Nat.reduceSub, Nat.reduceBEq, impl_Job.cells, rz_impl_Job, pr_impl_Job, spec_l1Cur.cells, rz_spec_l1Cur, pr_spec_l1Cur, arr_2_int.cells, rz_arr_2_int, pr_arr_2_int, *]
      rfl) rfl rfl

theorem ok_impl_isValued {cl : Callee} (K_impl_isObjective : K_impl_isObjective x_impl_isObjective (cl n_impl_isObjective)) (K_impl_isScheduled : K_impl_isScheduled x_impl_isScheduled (cl n_impl_isScheduled)) : K_impl_isValued (x_impl_isValued) (gbody F LL cl c_impl_isValued) := by
  intro jobs_ order_ objective_ r hr
  unfold x_impl_isValued at hr
  try dsimp only at hr
  obtain ⟨r1, q3, hr⟩ := Option.bind_eq_some_iff.1 hr
  have e2 : ∀ H ng, gcall (shOf F) cl false n_impl_isScheduled [.fs (jobs_.map impl_Job.cells), .fs (order_.map (cI .i64))] H ng = some (.bool r1, H, ng, .inert) := fun H ng => call_far s_impl_isScheduled rfl (K_impl_isScheduled _ _ _ q3).ret
  by_cases h6 : r1 = true
  · rw [if_pos h6] at hr
    have e4 : r1 = true := h6
    clear h6
    obtain ⟨r7, q9, hr⟩ := Option.bind_eq_some_iff.1 hr
    have e8 : ∀ H ng, gcall (shOf F) cl false n_impl_isObjective [.int .i64 objective_] H ng = some (.bool r7, H, ng, .inert) := fun H ng => call_far s_impl_isObjective rfl (K_impl_isObjective _ _ q9).ret
    have hr_ := Option.some.inj hr; subst hr_
    refine RetF.scal (by
      simp only [c_impl_isValued, evA, evB, Int.reduceToNat, eq_self, reduceCtorEq, ↓reduceIte, Nat.reduceEqDiff, Nat.reduceAdd, Nat.reduceLT, Nat.reduceLeDiff, Nat.reduceMul, Nat.reduceSub, Nat.reduceBEq, impl_Job.cells, rz_impl_Job, pr_impl_Job, spec_l1Cur.cells, rz_spec_l1Cur, pr_spec_l1Cur, arr_2_int.cells, rz_arr_2_int, pr_arr_2_int, *]
      rfl) rfl rfl
  · rw [if_neg h6] at hr
    have e5 : r1 = false := Bool.eq_false_iff.2 h6
    clear h6
    have hr_ := Option.some.inj hr; subst hr_
    refine RetF.scal (by
      simp only [c_impl_isValued, evA, evB, Int.reduceToNat, eq_self, reduceCtorEq, ↓reduceIte, Nat.reduceEqDiff, Nat.reduceAdd, Nat.reduceLT, Nat.reduceLeDiff, Nat.reduceMul, Nat.reduceSub, Nat.reduceBEq, impl_Job.cells, rz_impl_Job, pr_impl_Job, spec_l1Cur.cells, rz_spec_l1Cur, pr_spec_l1Cur, arr_2_int.cells, rz_arr_2_int, pr_arr_2_int, *]
      rfl) rfl rfl

end Gh
