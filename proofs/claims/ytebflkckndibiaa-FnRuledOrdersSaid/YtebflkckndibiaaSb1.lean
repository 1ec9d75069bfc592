/- The ghost answers as the shallow functions do, part 1. Written by program. -/
import Derived.Test.YtebflkckndibiaaSa
namespace Gh
open Go
set_option linter.unusedSimpArgs false
set_option linter.unusedVariables false
set_option maxRecDepth 100000
set_option maxHeartbeats 20000000

theorem ok_spec_l2Job {cl : Callee} (K_spec_l1In : K_spec_l1In x_spec_l1In (cl n_spec_l1In)) : K_spec_l2Job (x_spec_l2Job) (gbody F LL cl c_spec_l2Job) := by
  intro j_ r hr
  unfold x_spec_l2Job at hr
  try dsimp only at hr
  obtain ⟨r1, q3, hr⟩ := Option.bind_eq_some_iff.1 hr
  have e2 : ∀ H ng, gcall (shOf F) cl false n_spec_l1In [.int .i64 j_.Time, .int .i64 1, .int .i64 50] H ng = some (.bool r1, H, ng, .inert) := fun H ng => call_far s_spec_l1In rfl (K_spec_l1In _ _ _ _ q3).ret
  by_cases h6 : r1 = true
  · rw [if_pos h6] at hr
    have e4 : r1 = true := h6
    clear h6
    obtain ⟨r7, q9, hr⟩ := Option.bind_eq_some_iff.1 hr
    have e8 : ∀ H ng, gcall (shOf F) cl false n_spec_l1In [.int .i64 j_.Weight, .int .i64 0, .int .i64 50] H ng = some (.bool r7, H, ng, .inert) := fun H ng => call_far s_spec_l1In rfl (K_spec_l1In _ _ _ _ q9).ret
    by_cases h12 : r7 = true
    · rw [if_pos h12] at hr
      have e10 : r7 = true := h12
      clear h12
      obtain ⟨r13, q15, hr⟩ := Option.bind_eq_some_iff.1 hr
      have e14 : ∀ H ng, gcall (shOf F) cl false n_spec_l1In [.int .i64 j_.Release, .int .i64 0, .int .i64 500] H ng = some (.bool r13, H, ng, .inert) := fun H ng => call_far s_spec_l1In rfl (K_spec_l1In _ _ _ _ q15).ret
      by_cases h18 : r13 = true
      · rw [if_pos h18] at hr
        have e16 : r13 = true := h18
        clear h18
        obtain ⟨r19, q21, hr⟩ := Option.bind_eq_some_iff.1 hr
        have e20 : ∀ H ng, gcall (shOf F) cl false n_spec_l1In [.int .i64 j_.Due, .int .i64 0, .int .i64 500] H ng = some (.bool r19, H, ng, .inert) := fun H ng => call_far s_spec_l1In rfl (K_spec_l1In _ _ _ _ q21).ret
        have hr_ := Option.some.inj hr; subst hr_
        refine RetF.scal (by
          simp only [c_spec_l2Job, evA, evB, Int.reduceToNat, eq_self, reduceCtorEq, ↓reduceIte, Nat.reduceEqDiff, Nat.reduceAdd, Nat.reduceLT, Nat.reduceLeDiff, Nat.reduceMul, Nat.reduceSub, Nat.reduceBEq, spec_l1Cur.cells, rz_spec_l1Cur, pr_spec_l1Cur, impl_Job.cells, rz_impl_Job, pr_impl_Job, *]
          rfl) rfl rfl
      · rw [if_neg h18] at hr
        have e17 : r13 = false := Bool.eq_false_iff.2 h18
        clear h18
        have hr_ := Option.some.inj hr; subst hr_
        refine RetF.scal (by
          simp only [c_spec_l2Job, evA, evB, Int.reduceToNat, eq_self, reduceCtorEq, ↓reduceIte, Nat.reduceEqDiff, Nat.reduceAdd, Nat.reduceLT, Nat.reduceLeDiff, Nat.reduceMul, Nat.reduceSub, Nat.reduceBEq, spec_l1Cur.cells, rz_spec_l1Cur, pr_spec_l1Cur, impl_Job.cells, rz_impl_Job, pr_impl_Job, *]
          rfl) rfl rfl
    · rw [if_neg h12] at hr
      have e11 : r7 = false := Bool.eq_false_iff.2 h12
      clear h12
      have hr_ := Option.some.inj hr; subst hr_
      refine RetF.scal (by
        simp only [c_spec_l2Job, evA, evB, Int.reduceToNat, eq_self, reduceCtorEq, ↓reduceIte, Nat.reduceEqDiff, Nat.reduceAdd, Nat.reduceLT, Nat.reduceLeDiff, Nat.reduceMul, Nat.reduceSub, Nat.reduceBEq, spec_l1Cur.cells, rz_spec_l1Cur, pr_spec_l1Cur, impl_Job.cells, rz_impl_Job, pr_impl_Job, *]
        rfl) rfl rfl
  · rw [if_neg h6] at hr
    have e5 : r1 = false := Bool.eq_false_iff.2 h6
    clear h6
    have hr_ := Option.some.inj hr; subst hr_
    refine RetF.scal (by
      simp only [c_spec_l2Job, evA, evB, Int.reduceToNat, eq_self, reduceCtorEq, ↓reduceIte, Nat.reduceEqDiff, Nat.reduceAdd, Nat.reduceLT, Nat.reduceLeDiff, Nat.reduceMul, Nat.reduceSub, Nat.reduceBEq, spec_l1Cur.cells, rz_spec_l1Cur, pr_spec_l1Cur, impl_Job.cells, rz_impl_Job, pr_impl_Job, *]
      rfl) rfl rfl

theorem st_spec_l2Good_l0 {cl : Callee} (K_spec_l2Job : K_spec_l2Job x_spec_l2Job (cl n_spec_l2Job)) (jobs_ : (List impl_Job)) (st_ : (Int)) (c_ : Ctl (Int) (Unit ⊕ (Bool))) (hr : x_spec_l2Good_l0 jobs_ st_ = some c_) (T_ : Tm) (H_ : List Blk) (ng : Nat) (hR_ : R_spec_l2Good_l0 jobs_ st_ T_ H_) :
    ∃ e_ T1_ H1_ ng1_, gcode (shOf F) cl LL c_spec_l2Good_l0 ⟨maskT (some [0, 3]) T_, H_, ng⟩ = some (e_, ⟨T1_, H1_, ng1_⟩) ∧ TurnOK (R_spec_l2Good_l0 jobs_) (Q_spec_l2Good_l0 jobs_) 0 c_ e_ T1_ H1_ := by
  obtain ⟨i_, hst_⟩ : ∃ x, x = st_ := ⟨_, rfl⟩; subst hst_
  obtain ⟨f0_, f1_, rfl⟩ := hR_
  unfold x_spec_l2Good_l0 at hr
  try dsimp only at hr
  by_cases h5 : i_ < (jobs_.length : Int)
  · rw [if_pos h5] at hr
    have e3 : (i_ < (jobs_.length : Int)) = True := eq_true h5
    clear h5
    obtain ⟨y6, q10, hr⟩ := Option.bind_eq_some_iff.1 hr
    obtain ⟨e7, e8, e9⟩ := ix_some q10
    try simp only [Int.toNat_natCast, Int.toNat_zero, Int.reduceToNat] at e8
    clear q10
    obtain ⟨r11, q13, hr⟩ := Option.bind_eq_some_iff.1 hr
    have e12 : ∀ H ng, gcall (shOf F) cl false n_spec_l2Job [.agg [.int .i64 y6.Time, .int .i64 y6.Weight, .int .i64 y6.Release, .int .i64 y6.Due]] H ng = some (.bool r11, H, ng, .inert) := fun H ng => call_far s_spec_l2Job rfl (K_spec_l2Job _ _ q13).ret
    by_cases h16 : r11 = true
    · rw [if_pos h16] at hr
      have e14 : r11 = true := h16
      clear h16
      have hr_ := Option.some.inj hr; subst hr_
      refine turn (by
        simp only [c_spec_l2Good_l0, evA, evB, Int.reduceToNat, eq_self, reduceCtorEq, ↓reduceIte, Nat.reduceEqDiff, Nat.reduceAdd, Nat.reduceLT, Nat.reduceLeDiff, Nat.reduceMul, Nat.reduceSub, Nat.reduceBEq, spec_l1Cur.cells, rz_spec_l1Cur, pr_spec_l1Cur, impl_Job.cells, rz_impl_Job, pr_impl_Job, *]
        rfl) ?_
      exact ⟨rfl, rfl, rfl, rfl⟩
    · rw [if_neg h16] at hr
      have e15 : r11 = false := Bool.eq_false_iff.2 h16
      clear h16
      have hr_ := Option.some.inj hr; subst hr_
      refine turn (by
        simp only [c_spec_l2Good_l0, evA, evB, Int.reduceToNat, eq_self, reduceCtorEq, ↓reduceIte, Nat.reduceEqDiff, Nat.reduceAdd, Nat.reduceLT, Nat.reduceLeDiff, Nat.reduceMul, Nat.reduceSub, Nat.reduceBEq, spec_l1Cur.cells, rz_spec_l1Cur, pr_spec_l1Cur, impl_Job.cells, rz_impl_Job, pr_impl_Job, *]
        rfl) ?_
      exact ⟨by simp, rfl, rfl⟩
  · rw [if_neg h5] at hr
    have e4 : (i_ < (jobs_.length : Int)) = False := eq_false h5
    clear h5
    have hr_ := Option.some.inj hr; subst hr_
    refine turn (by
      simp only [c_spec_l2Good_l0, evA, evB, Int.reduceToNat, eq_self, reduceCtorEq, ↓reduceIte, Nat.reduceEqDiff, Nat.reduceAdd, Nat.reduceLT, Nat.reduceLeDiff, Nat.reduceMul, Nat.reduceSub, Nat.reduceBEq, spec_l1Cur.cells, rz_spec_l1Cur, pr_spec_l1Cur, impl_Job.cells, rz_impl_Job, pr_impl_Job, *]
      rfl) ?_
    exact ⟨by simp, rfl, rfl, rfl⟩

theorem lp_spec_l2Good_l0 {cl : Callee} (K_spec_l2Job : K_spec_l2Job x_spec_l2Job (cl n_spec_l2Job)) (jobs_ : (List impl_Job)) (st_ : (Int)) (p_ : (Unit ⊕ (Bool))) (hr : loopS (x_spec_l2Good_l0 jobs_) LL st_ = some p_) (T_ : Tm) (H_ : List Blk) (ng : Nat) (hR_ : R_spec_l2Good_l0 jobs_ st_ T_ H_) (hn_ : H_.length = 0) :
    ∃ e_ T1_ H1_ ng1_, gcode (shOf F) cl LL (.loop false (some [0, 3]) c_spec_l2Good_l0) ⟨T_, H_, ng⟩ = some (e_, ⟨T1_, H1_, ng1_⟩) ∧ Q_spec_l2Good_l0 jobs_ p_ e_ T1_ H1_ :=
  sim_loop (n0 := 0) (R_spec_l2Good_l0 jobs_) (Q_spec_l2Good_l0 jobs_) (st_spec_l2Good_l0 K_spec_l2Job jobs_) st_ p_ hr T_ H_ ng hR_ hn_

theorem ok_spec_l2Good {cl : Callee} (K_spec_l2Job : K_spec_l2Job x_spec_l2Job (cl n_spec_l2Job)) : K_spec_l2Good (x_spec_l2Good) (gbody F LL cl c_spec_l2Good) := by
  intro jobs_ r hr
  unfold x_spec_l2Good at hr
  try dsimp only at hr
  obtain ⟨p1, q11, hr⟩ := Option.bind_eq_some_iff.1 hr
  obtain ⟨ex7, T4, H5, ng6, l3, m2⟩ := lp_spec_l2Good_l0 (cl := cl) K_spec_l2Job  jobs_ _ _ q11 [(0, .fs (jobs_.map impl_Job.cells)), (3, .int .i64 0)] [] 0 (show R_spec_l2Good_l0 jobs_ 0 [(0, .fs (jobs_.map impl_Job.cells)), (3, .int .i64 0)] [] from ⟨rfl, rfl, rfl⟩) rfl
  rcases p1 with p1 | p1
  · dsimp only at hr
    obtain ⟨rfl, e8, e9⟩ := m2
    subst e9
    have hr_ := Option.some.inj hr; subst hr_
    refine RetF.scal (by
      simp only [c_spec_l2Good, evA, evB, Int.reduceToNat, eq_self, reduceCtorEq, ↓reduceIte, Nat.reduceEqDiff, Nat.reduceAdd, Nat.reduceLT, Nat.reduceLeDiff, Nat.reduceMul, Nat.reduceSub, Nat.reduceBEq, spec_l1Cur.cells, rz_spec_l1Cur, pr_spec_l1Cur, impl_Job.cells, rz_impl_Job, pr_impl_Job, *]
      rfl) rfl rfl
  · dsimp only at hr
    obtain ⟨rfl, e10⟩ := m2
    have hr_ := Option.some.inj hr; subst hr_
    refine RetF.scal (by
      simp only [c_spec_l2Good, evA, evB, Int.reduceToNat, eq_self, reduceCtorEq, ↓reduceIte, Nat.reduceEqDiff, Nat.reduceAdd, Nat.reduceLT, Nat.reduceLeDiff, Nat.reduceMul, Nat.reduceSub, Nat.reduceBEq, spec_l1Cur.cells, rz_spec_l1Cur, pr_spec_l1Cur, impl_Job.cells, rz_impl_Job, pr_impl_Job, *]
      rfl) rfl rfl

theorem st_spec_l3Plain_l0 {cl : Callee} (jobs_ : (List impl_Job)) (st_ : (Int)) (c_ : Ctl (Int) (Unit ⊕ (Bool))) (hr : x_spec_l3Plain_l0 jobs_ st_ = some c_) (T_ : Tm) (H_ : List Blk) (ng : Nat) (hR_ : R_spec_l3Plain_l0 jobs_ st_ T_ H_) :
    ∃ e_ T1_ H1_ ng1_, gcode (shOf F) cl LL c_spec_l3Plain_l0 ⟨maskT (some [0, 3]) T_, H_, ng⟩ = some (e_, ⟨T1_, H1_, ng1_⟩) ∧ TurnOK (R_spec_l3Plain_l0 jobs_) (Q_spec_l3Plain_l0 jobs_) 0 c_ e_ T1_ H1_ := by
  obtain ⟨i_, hst_⟩ : ∃ x, x = st_ := ⟨_, rfl⟩; subst hst_
  obtain ⟨f0_, f1_, rfl⟩ := hR_
  unfold x_spec_l3Plain_l0 at hr
  try dsimp only at hr
  by_cases h5 : i_ < (jobs_.length : Int)
  · rw [if_pos h5] at hr
    have e3 : (i_ < (jobs_.length : Int)) = True := eq_true h5
    clear h5
    obtain ⟨y6, q10, hr⟩ := Option.bind_eq_some_iff.1 hr
    obtain ⟨e7, e8, e9⟩ := ix_some q10
    try simp only [Int.toNat_natCast, Int.toNat_zero, Int.reduceToNat] at e8
    clear q10
    by_cases h15 : y6.Release = 0
    · rw [if_pos h15] at hr
      have e13 : (y6.Release = 0) = True := eq_true h15
      clear h15
      have hr_ := Option.some.inj hr; subst hr_
      refine turn (by
        simp only [c_spec_l3Plain_l0, evA, evB, Int.reduceToNat, eq_self, reduceCtorEq, ↓reduceIte, Nat.reduceEqDiff, Nat.reduceAdd, Nat.reduceLT, Nat.reduceLeDiff, Nat.reduceMul, Nat.reduceSub, Nat.reduceBEq, spec_l1Cur.cells, rz_spec_l1Cur, pr_spec_l1Cur, impl_Job.cells, rz_impl_Job, pr_impl_Job, *]
        rfl) ?_
      exact ⟨rfl, rfl, rfl, rfl⟩
    · rw [if_neg h15] at hr
      have e14 : (y6.Release = 0) = False := eq_false h15
      clear h15
      have hr_ := Option.some.inj hr; subst hr_
      refine turn (by
        simp only [c_spec_l3Plain_l0, evA, evB, Int.reduceToNat, eq_self, reduceCtorEq, ↓reduceIte, Nat.reduceEqDiff, Nat.reduceAdd, Nat.reduceLT, Nat.reduceLeDiff, Nat.reduceMul, Nat.reduceSub, Nat.reduceBEq, spec_l1Cur.cells, rz_spec_l1Cur, pr_spec_l1Cur, impl_Job.cells, rz_impl_Job, pr_impl_Job, *]
        rfl) ?_
      exact ⟨by simp, rfl, rfl⟩
  · rw [if_neg h5] at hr
    have e4 : (i_ < (jobs_.length : Int)) = False := eq_false h5
    clear h5
    have hr_ := Option.some.inj hr; subst hr_
    refine turn (by
      simp only [c_spec_l3Plain_l0, evA, evB, Int.reduceToNat, eq_self, reduceCtorEq, ↓reduceIte, Nat.reduceEqDiff, Nat.reduceAdd, Nat.reduceLT, Nat.reduceLeDiff, Nat.reduceMul, Nat.reduceSub, Nat.reduceBEq, spec_l1Cur.cells, rz_spec_l1Cur, pr_spec_l1Cur, impl_Job.cells, rz_impl_Job, pr_impl_Job, *]
      rfl) ?_
    exact ⟨by simp, rfl, rfl⟩

theorem lp_spec_l3Plain_l0 {cl : Callee} (jobs_ : (List impl_Job)) (st_ : (Int)) (p_ : (Unit ⊕ (Bool))) (hr : loopS (x_spec_l3Plain_l0 jobs_) LL st_ = some p_) (T_ : Tm) (H_ : List Blk) (ng : Nat) (hR_ : R_spec_l3Plain_l0 jobs_ st_ T_ H_) (hn_ : H_.length = 0) :
    ∃ e_ T1_ H1_ ng1_, gcode (shOf F) cl LL (.loop false (some [0, 3]) c_spec_l3Plain_l0) ⟨T_, H_, ng⟩ = some (e_, ⟨T1_, H1_, ng1_⟩) ∧ Q_spec_l3Plain_l0 jobs_ p_ e_ T1_ H1_ :=
  sim_loop (n0 := 0) (R_spec_l3Plain_l0 jobs_) (Q_spec_l3Plain_l0 jobs_) (st_spec_l3Plain_l0 jobs_) st_ p_ hr T_ H_ ng hR_ hn_

theorem ok_spec_l3Plain {cl : Callee} : K_spec_l3Plain (x_spec_l3Plain) (gbody F LL cl c_spec_l3Plain) := by
  intro jobs_ r hr
  unfold x_spec_l3Plain at hr
  try dsimp only at hr
  obtain ⟨p1, q10, hr⟩ := Option.bind_eq_some_iff.1 hr
  obtain ⟨ex7, T4, H5, ng6, l3, m2⟩ := lp_spec_l3Plain_l0 (cl := cl)  jobs_ _ _ q10 [(0, .fs (jobs_.map impl_Job.cells)), (3, .int .i64 0)] [] 0 (show R_spec_l3Plain_l0 jobs_ 0 [(0, .fs (jobs_.map impl_Job.cells)), (3, .int .i64 0)] [] from ⟨rfl, rfl, rfl⟩) rfl
  rcases p1 with p1 | p1
  · dsimp only at hr
    obtain ⟨rfl, e8⟩ := m2
    subst e8
    have hr_ := Option.some.inj hr; subst hr_
    refine RetF.scal (by
      simp only [c_spec_l3Plain, evA, evB, Int.reduceToNat, eq_self, reduceCtorEq, ↓reduceIte, Nat.reduceEqDiff, Nat.reduceAdd, Nat.reduceLT, Nat.reduceLeDiff, Nat.reduceMul, Nat.reduceSub, Nat.reduceBEq, spec_l1Cur.cells, rz_spec_l1Cur, pr_spec_l1Cur, impl_Job.cells, rz_impl_Job, pr_impl_Job, *]
      rfl) rfl rfl
  · dsimp only at hr
    obtain ⟨rfl, e9⟩ := m2
    have hr_ := Option.some.inj hr; subst hr_
    refine RetF.scal (by
      simp only [c_spec_l3Plain, evA, evB, Int.reduceToNat, eq_self, reduceCtorEq, ↓reduceIte, Nat.reduceEqDiff, Nat.reduceAdd, Nat.reduceLT, Nat.reduceLeDiff, Nat.reduceMul, Nat.reduceSub, Nat.reduceBEq, spec_l1Cur.cells, rz_spec_l1Cur, pr_spec_l1Cur, impl_Job.cells, rz_impl_Job, pr_impl_Job, *]
      rfl) rfl rfl

theorem ok_spec_l3Ruled {cl : Callee} (K_spec_l2Good : K_spec_l2Good x_spec_l2Good (cl n_spec_l2Good)) (K_spec_l3Plain : K_spec_l3Plain x_spec_l3Plain (cl n_spec_l3Plain)) (K_spec_l1In : K_spec_l1In x_spec_l1In (cl n_spec_l1In)) : K_spec_l3Ruled (x_spec_l3Ruled) (gbody F LL cl c_spec_l3Ruled) := by
  intro jobs_ objective_ r hr
  unfold x_spec_l3Ruled at hr
  try dsimp only at hr
  obtain ⟨r1, q3, hr⟩ := Option.bind_eq_some_iff.1 hr
  have e2 : ∀ H ng, gcall (shOf F) cl false n_spec_l2Good [.fs (jobs_.map impl_Job.cells)] H ng = some (.bool r1, H, ng, .inert) := fun H ng => call_far s_spec_l2Good rfl (K_spec_l2Good _ _ q3).ret
  by_cases h6 : r1 = true
  · rw [if_pos h6] at hr
    have e4 : r1 = true := h6
    clear h6
    obtain ⟨r7, q9, hr⟩ := Option.bind_eq_some_iff.1 hr
    have e8 : ∀ H ng, gcall (shOf F) cl false n_spec_l1In [.int .i64 objective_, .int .i64 1, .int .i64 4] H ng = some (.bool r7, H, ng, .inert) := fun H ng => call_far s_spec_l1In rfl (K_spec_l1In _ _ _ _ q9).ret
    by_cases h12 : r7 = true
    · rw [if_pos h12] at hr
      have e10 : r7 = true := h12
      clear h12
      by_cases h17 : objective_ = 1
      · rw [if_pos h17] at hr
        have e15 : (objective_ = 1) = True := eq_true h17
        clear h17
        have hr_ := Option.some.inj hr; subst hr_
        refine RetF.scal (by
          simp only [c_spec_l3Ruled, evA, evB, Int.reduceToNat, eq_self, reduceCtorEq, ↓reduceIte, Nat.reduceEqDiff, Nat.reduceAdd, Nat.reduceLT, Nat.reduceLeDiff, Nat.reduceMul, Nat.reduceSub, Nat.reduceBEq, spec_l1Cur.cells, rz_spec_l1Cur, pr_spec_l1Cur, impl_Job.cells, rz_impl_Job, pr_impl_Job, *]
          rfl) rfl rfl
      · rw [if_neg h17] at hr
        have e16 : (objective_ = 1) = False := eq_false h17
        clear h17
        obtain ⟨r18, q20, hr⟩ := Option.bind_eq_some_iff.1 hr
        have e19 : ∀ H ng, gcall (shOf F) cl false n_spec_l3Plain [.fs (jobs_.map impl_Job.cells)] H ng = some (.bool r18, H, ng, .inert) := fun H ng => call_far s_spec_l3Plain rfl (K_spec_l3Plain _ _ q20).ret
        have hr_ := Option.some.inj hr; subst hr_
        refine RetF.scal (by
          simp only [c_spec_l3Ruled, evA, evB, Int.reduceToNat, eq_self, reduceCtorEq, ↓reduceIte, Nat.reduceEqDiff, Nat.reduceAdd, Nat.reduceLT, Nat.reduceLeDiff, Nat.reduceMul, Nat.reduceSub, Nat.reduceBEq, spec_l1Cur.cells, rz_spec_l1Cur, pr_spec_l1Cur, impl_Job.cells, rz_impl_Job, pr_impl_Job, *]
          rfl) rfl rfl
    · rw [if_neg h12] at hr
      have e11 : r7 = false := Bool.eq_false_iff.2 h12
      clear h12
      have hr_ := Option.some.inj hr; subst hr_
      refine RetF.scal (by
        simp only [c_spec_l3Ruled, evA, evB, Int.reduceToNat, eq_self, reduceCtorEq, ↓reduceIte, Nat.reduceEqDiff, Nat.reduceAdd, Nat.reduceLT, Nat.reduceLeDiff, Nat.reduceMul, Nat.reduceSub, Nat.reduceBEq, spec_l1Cur.cells, rz_spec_l1Cur, pr_spec_l1Cur, impl_Job.cells, rz_impl_Job, pr_impl_Job, *]
        rfl) rfl rfl
  · rw [if_neg h6] at hr
    have e5 : r1 = false := Bool.eq_false_iff.2 h6
    clear h6
    have hr_ := Option.some.inj hr; subst hr_
    refine RetF.scal (by
      simp only [c_spec_l3Ruled, evA, evB, Int.reduceToNat, eq_self, reduceCtorEq, ↓reduceIte, Nat.reduceEqDiff, Nat.reduceAdd, Nat.reduceLT, Nat.reduceLeDiff, Nat.reduceMul, Nat.reduceSub, Nat.reduceBEq, spec_l1Cur.cells, rz_spec_l1Cur, pr_spec_l1Cur, impl_Job.cells, rz_impl_Job, pr_impl_Job, *]
      rfl) rfl rfl

theorem ok_spec_l3Gap {cl : Callee} : K_spec_l3Gap (x_spec_l3Gap) (gbody F LL cl c_spec_l3Gap) := by
  intro jobs_ objective_ i_ j_ r hr
  unfold x_spec_l3Gap at hr
  try dsimp only at hr
  obtain ⟨y1, q5, hr⟩ := Option.bind_eq_some_iff.1 hr
  obtain ⟨e2, e3, e4⟩ := ix_some q5
  try simp only [Int.toNat_natCast, Int.toNat_zero, Int.reduceToNat] at e3
  clear q5
  obtain ⟨y6, q10, hr⟩ := Option.bind_eq_some_iff.1 hr
  obtain ⟨e7, e8, e9⟩ := ix_some q10
  try simp only [Int.toNat_natCast, Int.toNat_zero, Int.reduceToNat] at e8
  clear q10
  by_cases h15 : objective_ = 1
  · rw [if_pos h15] at hr
    have e13 : (objective_ = 1) = True := eq_true h15
    clear h15
    have hr_ := Option.some.inj hr; subst hr_
    refine RetF.scal (by
      simp only [c_spec_l3Gap, evA, evB, Int.reduceToNat, eq_self, reduceCtorEq, ↓reduceIte, Nat.reduceEqDiff, Nat.reduceAdd, Nat.reduceLT, Nat.reduceLeDiff, Nat.reduceMul, Nat.reduceSub, Nat.reduceBEq, spec_l1Cur.cells, rz_spec_l1Cur, pr_spec_l1Cur, impl_Job.cells, rz_impl_Job, pr_impl_Job, *]
      rfl) rfl rfl
  · rw [if_neg h15] at hr
    have e14 : (objective_ = 1) = False := eq_false h15
    clear h15
    by_cases h20 : objective_ = 2
    · rw [if_pos h20] at hr
      have e18 : (objective_ = 2) = True := eq_true h20
      clear h20
      have hr_ := Option.some.inj hr; subst hr_
      refine RetF.scal (by
        simp only [c_spec_l3Gap, evA, evB, Int.reduceToNat, eq_self, reduceCtorEq, ↓reduceIte, Nat.reduceEqDiff, Nat.reduceAdd, Nat.reduceLT, Nat.reduceLeDiff, Nat.reduceMul, Nat.reduceSub, Nat.reduceBEq, spec_l1Cur.cells, rz_spec_l1Cur, pr_spec_l1Cur, impl_Job.cells, rz_impl_Job, pr_impl_Job, *]
        rfl) rfl rfl
    · rw [if_neg h20] at hr
      have e19 : (objective_ = 2) = False := eq_false h20
      clear h20
      by_cases h25 : objective_ = 3
      · rw [if_pos h25] at hr
        have e23 : (objective_ = 3) = True := eq_true h25
        clear h25
        have hr_ := Option.some.inj hr; subst hr_
        refine RetF.scal (by
          simp only [c_spec_l3Gap, evA, evB, Int.reduceToNat, eq_self, reduceCtorEq, ↓reduceIte, Nat.reduceEqDiff, Nat.reduceAdd, Nat.reduceLT, Nat.reduceLeDiff, Nat.reduceMul, Nat.reduceSub, Nat.reduceBEq, spec_l1Cur.cells, rz_spec_l1Cur, pr_spec_l1Cur, impl_Job.cells, rz_impl_Job, pr_impl_Job, *]
          rfl) rfl rfl
      · rw [if_neg h25] at hr
        have e24 : (objective_ = 3) = False := eq_false h25
        clear h25
        have hr_ := Option.some.inj hr; subst hr_
        refine RetF.scal (by
          simp only [c_spec_l3Gap, evA, evB, Int.reduceToNat, eq_self, reduceCtorEq, ↓reduceIte, Nat.reduceEqDiff, Nat.reduceAdd, Nat.reduceLT, Nat.reduceLeDiff, Nat.reduceMul, Nat.reduceSub, Nat.reduceBEq, spec_l1Cur.cells, rz_spec_l1Cur, pr_spec_l1Cur, impl_Job.cells, rz_impl_Job, pr_impl_Job, *]
          rfl) rfl rfl

theorem ok_spec_l1Own {cl : Callee} : K_spec_l1Own (x_spec_l1Own) (gbody F LL cl c_spec_l1Own) := by
  intro l_ r hr
  unfold x_spec_l1Own at hr
  try dsimp only at hr
  by_cases h3 : fits l_.length 8
  · rw [if_pos h3] at hr
    have e1 : (l_.length * 8 ≤ room) = True := eq_true h3.1
    have e2 : (l_.length ≤ room) = True := eq_true h3.2
    clear h3
    have hr_ := Option.some.inj hr; subst hr_
    refine ⟨1, 2, [(Blk.mk 0 false 1 []), (Blk.mk 2 false 1 (l_.map (cI .i64)))], 3, ?_, by simp [hget, hp], sc_cI _ _⟩
    simp only [c_spec_l1Own, evA, evB, Int.reduceToNat, eq_self, reduceCtorEq, ↓reduceIte, Nat.reduceEqDiff, Nat.reduceAdd, Nat.reduceLT, Nat.reduceLeDiff, Nat.reduceMul, Nat.reduceSub, Nat.reduceBEq, spec_l1Cur.cells, rz_spec_l1Cur, pr_spec_l1Cur, impl_Job.cells, rz_impl_Job, pr_impl_Job, *]
  · rw [if_neg h3] at hr
    clear h3
    exact nomatch hr

theorem st_spec_l3Order_l1 {cl : Callee} (K_spec_l3Gap : K_spec_l3Gap x_spec_l3Gap (cl n_spec_l3Gap)) (K_spec_l1Own : K_spec_l1Own x_spec_l1Own (cl n_spec_l1Own)) (jobs_ : (List impl_Job)) (objective_ : Int) (out_ : (List Int)) (i_ : Int) (st_ : (Int)) (c_ : Ctl (Int) (Int)) (hr : x_spec_l3Order_l1 jobs_ objective_ out_ i_ st_ = some c_) (T_ : Tm) (H_ : List Blk) (ng : Nat) (hR_ : R_spec_l3Order_l1 jobs_ objective_ out_ i_ st_ T_ H_) :
    ∃ e_ T1_ H1_ ng1_, gcode (shOf F) cl LL c_spec_l3Order_l1 ⟨maskT (some [0, 1, 5, 6, 7]) T_, H_, ng⟩ = some (e_, ⟨T1_, H1_, ng1_⟩) ∧ TurnOK (R_spec_l3Order_l1 jobs_ objective_ out_ i_) (Q_spec_l3Order_l1 jobs_ objective_ out_ i_) 0 c_ e_ T1_ H1_ := by
  obtain ⟨k_, hst_⟩ : ∃ x, x = st_ := ⟨_, rfl⟩; subst hst_
  obtain ⟨f0_, f1_, f2_, f3_, f4_, rfl⟩ := hR_
  unfold x_spec_l3Order_l1 at hr
  try dsimp only at hr
  by_cases h5 : k_ < (out_.length : Int)
  · rw [if_pos h5] at hr
    have e3 : (k_ < (out_.length : Int)) = True := eq_true h5
    clear h5
    obtain ⟨y6, q10, hr⟩ := Option.bind_eq_some_iff.1 hr
    obtain ⟨e7, e8, e9⟩ := ix_some q10
    try simp only [Int.toNat_natCast, Int.toNat_zero, Int.reduceToNat] at e8
    clear q10
    obtain ⟨r11, q13, hr⟩ := Option.bind_eq_some_iff.1 hr
    have e12 : ∀ H ng, gcall (shOf F) cl false n_spec_l3Gap [.fs (jobs_.map impl_Job.cells), .int .i64 objective_, .int .i64 y6, .int .i64 i_] H ng = some (.int .i64 r11, H, ng, .inert) := fun H ng => call_far s_spec_l3Gap rfl (K_spec_l3Gap _ _ _ _ _ q13).ret
    by_cases h18 : r11 ≤ 0
    · rw [if_pos h18] at hr
      have e16 : (r11 ≤ 0) = True := eq_true h18
      clear h18
      have hr_ := Option.some.inj hr; subst hr_
      refine turn (by
        simp only [c_spec_l3Order_l1, evA, evB, Int.reduceToNat, eq_self, reduceCtorEq, ↓reduceIte, Nat.reduceEqDiff, Nat.reduceAdd, Nat.reduceLT, Nat.reduceLeDiff, Nat.reduceMul, Nat.reduceSub, Nat.reduceBEq, spec_l1Cur.cells, rz_spec_l1Cur, pr_spec_l1Cur, impl_Job.cells, rz_impl_Job, pr_impl_Job, *]
        rfl) ?_
      exact ⟨rfl, rfl, rfl, rfl, rfl, rfl, rfl⟩
    · rw [if_neg h18] at hr
      have e17 : (r11 ≤ 0) = False := eq_false h18
      clear h18
      have hr_ := Option.some.inj hr; subst hr_
      refine turn (by
        simp only [c_spec_l3Order_l1, evA, evB, Int.reduceToNat, eq_self, reduceCtorEq, ↓reduceIte, Nat.reduceEqDiff, Nat.reduceAdd, Nat.reduceLT, Nat.reduceLeDiff, Nat.reduceMul, Nat.reduceSub, Nat.reduceBEq, spec_l1Cur.cells, rz_spec_l1Cur, pr_spec_l1Cur, impl_Job.cells, rz_impl_Job, pr_impl_Job, *]
        rfl) ?_
      exact ⟨by simp, rfl, rfl, rfl, rfl, rfl, rfl, rfl⟩
  · rw [if_neg h5] at hr
    have e4 : (k_ < (out_.length : Int)) = False := eq_false h5
    clear h5
    have hr_ := Option.some.inj hr; subst hr_
    refine turn (by
      simp only [c_spec_l3Order_l1, evA, evB, Int.reduceToNat, eq_self, reduceCtorEq, ↓reduceIte, Nat.reduceEqDiff, Nat.reduceAdd, Nat.reduceLT, Nat.reduceLeDiff, Nat.reduceMul, Nat.reduceSub, Nat.reduceBEq, spec_l1Cur.cells, rz_spec_l1Cur, pr_spec_l1Cur, impl_Job.cells, rz_impl_Job, pr_impl_Job, *]
      rfl) ?_
    exact ⟨by simp, rfl, rfl, rfl, rfl, rfl, rfl, rfl⟩

theorem lp_spec_l3Order_l1 {cl : Callee} (K_spec_l3Gap : K_spec_l3Gap x_spec_l3Gap (cl n_spec_l3Gap)) (K_spec_l1Own : K_spec_l1Own x_spec_l1Own (cl n_spec_l1Own)) (jobs_ : (List impl_Job)) (objective_ : Int) (out_ : (List Int)) (i_ : Int) (st_ : (Int)) (p_ : (Int)) (hr : loopS (x_spec_l3Order_l1 jobs_ objective_ out_ i_) LL st_ = some p_) (T_ : Tm) (H_ : List Blk) (ng : Nat) (hR_ : R_spec_l3Order_l1 jobs_ objective_ out_ i_ st_ T_ H_) (hn_ : H_.length = 0) :
    ∃ e_ T1_ H1_ ng1_, gcode (shOf F) cl LL (.loop false (some [0, 1, 5, 6, 7]) c_spec_l3Order_l1) ⟨T_, H_, ng⟩ = some (e_, ⟨T1_, H1_, ng1_⟩) ∧ Q_spec_l3Order_l1 jobs_ objective_ out_ i_ p_ e_ T1_ H1_ :=
  sim_loop (n0 := 0) (R_spec_l3Order_l1 jobs_ objective_ out_ i_) (Q_spec_l3Order_l1 jobs_ objective_ out_ i_) (st_spec_l3Order_l1 K_spec_l3Gap K_spec_l1Own jobs_ objective_ out_ i_) st_ p_ hr T_ H_ ng hR_ hn_

theorem st_spec_l3Order_l0 {cl : Callee} (K_spec_l3Gap : K_spec_l3Gap x_spec_l3Gap (cl n_spec_l3Gap)) (K_spec_l1Own : K_spec_l1Own x_spec_l1Own (cl n_spec_l1Own)) (jobs_ : (List impl_Job)) (objective_ : Int) (st_ : ((List Int) × Int)) (c_ : Ctl ((List Int) × Int) ((List Int))) (hr : x_spec_l3Order_l0 jobs_ objective_ st_ = some c_) (T_ : Tm) (H_ : List Blk) (ng : Nat) (hR_ : R_spec_l3Order_l0 jobs_ objective_ st_ T_ H_) :
    ∃ e_ T1_ H1_ ng1_, gcode (shOf F) cl LL c_spec_l3Order_l0 ⟨maskT (some [0, 1, 5, 6]) T_, H_, ng⟩ = some (e_, ⟨T1_, H1_, ng1_⟩) ∧ TurnOK (R_spec_l3Order_l0 jobs_ objective_) (Q_spec_l3Order_l0 jobs_ objective_) 0 c_ e_ T1_ H1_ := by
  obtain ⟨out_, i_⟩ := st_
  obtain ⟨f0_, f1_, f2_, f3_, rfl⟩ := hR_
  unfold x_spec_l3Order_l0 at hr
  try dsimp only at hr
  by_cases h5 : i_ < (jobs_.length : Int)
  · rw [if_pos h5] at hr
    have e3 : (i_ < (jobs_.length : Int)) = True := eq_true h5
    clear h5
    obtain ⟨p6, q56, hr⟩ := Option.bind_eq_some_iff.1 hr
    obtain ⟨ex12, T9, H10, ng11, l8, m7⟩ := lp_spec_l3Order_l1 (cl := cl) K_spec_l3Gap K_spec_l1Own  jobs_ objective_ out_ i_ _ _ q56 [(0, .fs (jobs_.map impl_Job.cells)), (1, .int .i64 objective_), (5, .fs (out_.map (cI .i64))), (6, .int .i64 i_), (7, .int .i64 0)] [] ng (show R_spec_l3Order_l1 jobs_ objective_ out_ i_ 0 [(0, .fs (jobs_.map impl_Job.cells)), (1, .int .i64 objective_), (5, .fs (out_.map (cI .i64))), (6, .int .i64 i_), (7, .int .i64 0)] [] from ⟨rfl, rfl, rfl, rfl, rfl, rfl⟩) rfl
    obtain ⟨rfl, e13, e14, e15, e16, e17, e18⟩ := m7
    subst e18
    obtain ⟨y19, q26, hr⟩ := Option.bind_eq_some_iff.1 hr
    obtain ⟨e20, e21, e22, e23, e24⟩ := cut_some q26
    try simp only [Int.toNat_natCast, Int.toNat_zero, Int.reduceToNat, List.drop_zero] at e23
    have e25 : List.take (Int.toNat p6) (out_.map (cI .i64)) = y19.map (cI .i64) := by rw [← e23]; simp only [List.map_drop, List.map_take, take_map_len]
    clear q26 e24
    obtain ⟨r27, q29, hr⟩ := Option.bind_eq_some_iff.1 hr
    have e28 : ∀ H ng, gcall (shOf F) cl true n_spec_l1Own [.fs (y19.map (cI .i64))] H ng = some (.os H.length ng 1 0 r27.length, H ++ [⟨ng, false, 1, (r27.map (cI .i64))⟩], ng + 1, .touch [] []) := fun H ng => by have := call_far_own (H := H) (ng := ng) s_spec_l1Own rfl (K_spec_l1Own _ _ q29); simp only [List.length_map] at this; exact this
    obtain ⟨l30, q38, hr⟩ := Option.bind_eq_some_iff.1 hr
    obtain ⟨e31, e32, e33, e34⟩ := app_some q38
    try simp only [List.length_cons, List.length_nil, Nat.zero_add, Nat.reduceAdd] at e31 e32 e34
    have e35 : (r27.map (cI .i64)) ++ [[.int .i64 i_]] = l30.map (cI .i64) := by rw [← e33, List.map_append] <;> rfl
    have e36 := e31
    have e37 := e32
    rw [e34] at e36 e37
    clear e33 q38
    obtain ⟨y39, q46, hr⟩ := Option.bind_eq_some_iff.1 hr
    obtain ⟨e40, e41, e42, e43, e44⟩ := cut_some q46
    try simp only [Int.toNat_natCast, Int.toNat_zero, Int.reduceToNat, List.drop_zero] at e43
    have e45 : List.drop (Int.toNat p6) ((out_.map (cI .i64))) = y39.map (cI .i64) := by rw [← e43]; simp only [List.map_drop, List.map_take, take_map_len]
    clear q46 e44
    obtain ⟨l47, q55, hr⟩ := Option.bind_eq_some_iff.1 hr
    obtain ⟨e48, e49, e50, e51⟩ := app_some q55
    try simp only [List.length_cons, List.length_nil, Nat.zero_add, Nat.reduceAdd] at e48 e49 e51
    have e52 : (l30.map (cI .i64)) ++ (y39.map (cI .i64)) = l47.map (cI .i64) := by rw [← e50, List.map_append] <;> rfl
    have e53 := e48
    have e54 := e49
    rw [e51] at e53 e54
    clear e50 q55
    have hr_ := Option.some.inj hr; subst hr_
    refine turn (by
      simp only [c_spec_l3Order_l0, evA, evB, Int.reduceToNat, eq_self, reduceCtorEq, ↓reduceIte, Nat.reduceEqDiff, Nat.reduceAdd, Nat.reduceLT, Nat.reduceLeDiff, Nat.reduceMul, Nat.reduceSub, Nat.reduceBEq, spec_l1Cur.cells, rz_spec_l1Cur, pr_spec_l1Cur, impl_Job.cells, rz_impl_Job, pr_impl_Job, *]
      rfl) ?_
    exact ⟨rfl, rfl, rfl, rfl, rfl, rfl⟩
  · rw [if_neg h5] at hr
    have e4 : (i_ < (jobs_.length : Int)) = False := eq_false h5
    clear h5
    have hr_ := Option.some.inj hr; subst hr_
    refine turn (by
      simp only [c_spec_l3Order_l0, evA, evB, Int.reduceToNat, eq_self, reduceCtorEq, ↓reduceIte, Nat.reduceEqDiff, Nat.reduceAdd, Nat.reduceLT, Nat.reduceLeDiff, Nat.reduceMul, Nat.reduceSub, Nat.reduceBEq, spec_l1Cur.cells, rz_spec_l1Cur, pr_spec_l1Cur, impl_Job.cells, rz_impl_Job, pr_impl_Job, *]
      rfl) ?_
    exact ⟨by simp, rfl, rfl, rfl⟩

theorem lp_spec_l3Order_l0 {cl : Callee} (K_spec_l3Gap : K_spec_l3Gap x_spec_l3Gap (cl n_spec_l3Gap)) (K_spec_l1Own : K_spec_l1Own x_spec_l1Own (cl n_spec_l1Own)) (jobs_ : (List impl_Job)) (objective_ : Int) (st_ : ((List Int) × Int)) (p_ : ((List Int))) (hr : loopS (x_spec_l3Order_l0 jobs_ objective_) LL st_ = some p_) (T_ : Tm) (H_ : List Blk) (ng : Nat) (hR_ : R_spec_l3Order_l0 jobs_ objective_ st_ T_ H_) (hn_ : H_.length = 0) :
    ∃ e_ T1_ H1_ ng1_, gcode (shOf F) cl LL (.loop false (some [0, 1, 5, 6]) c_spec_l3Order_l0) ⟨T_, H_, ng⟩ = some (e_, ⟨T1_, H1_, ng1_⟩) ∧ Q_spec_l3Order_l0 jobs_ objective_ p_ e_ T1_ H1_ :=
  sim_loop (n0 := 0) (R_spec_l3Order_l0 jobs_ objective_) (Q_spec_l3Order_l0 jobs_ objective_) (st_spec_l3Order_l0 K_spec_l3Gap K_spec_l1Own jobs_ objective_) st_ p_ hr T_ H_ ng hR_ hn_

theorem ok_spec_l3Order {cl : Callee} (K_spec_l3Gap : K_spec_l3Gap x_spec_l3Gap (cl n_spec_l3Gap)) (K_spec_l1Own : K_spec_l1Own x_spec_l1Own (cl n_spec_l1Own)) : K_spec_l3Order (x_spec_l3Order) (gbody F LL cl c_spec_l3Order) := by
  intro jobs_ objective_ r hr
  unfold x_spec_l3Order at hr
  try dsimp only at hr
  obtain ⟨p1, q10, hr⟩ := Option.bind_eq_some_iff.1 hr
  obtain ⟨ex7, T4, H5, ng6, l3, m2⟩ := lp_spec_l3Order_l0 (cl := cl) K_spec_l3Gap K_spec_l1Own  jobs_ objective_ _ _ q10 [(0, .fs (jobs_.map impl_Job.cells)), (1, .int .i64 objective_), (5, .fs []), (6, .int .i64 0)] [] 0 (show R_spec_l3Order_l0 jobs_ objective_ (([] : List Int), 0) [(0, .fs (jobs_.map impl_Job.cells)), (1, .int .i64 objective_), (5, .fs []), (6, .int .i64 0)] [] from ⟨rfl, rfl, rfl, rfl, rfl⟩) rfl
  obtain ⟨rfl, e8, e9⟩ := m2
  subst e9
  have hr_ := Option.some.inj hr; subst hr_
  refine Ret.flat (by
    simp only [c_spec_l3Order, evA, evB, Int.reduceToNat, eq_self, reduceCtorEq, ↓reduceIte, Nat.reduceEqDiff, Nat.reduceAdd, Nat.reduceLT, Nat.reduceLeDiff, Nat.reduceMul, Nat.reduceSub, Nat.reduceBEq, spec_l1Cur.cells, rz_spec_l1Cur, pr_spec_l1Cur, impl_Job.cells, rz_impl_Job, pr_impl_Job, *]
    rfl) rfl

theorem ok_spec_l2Swap {cl : Callee} (K_spec_l1Own : K_spec_l1Own x_spec_l1Own (cl n_spec_l1Own)) : K_spec_l2Swap (x_spec_l2Swap) (gbody F LL cl c_spec_l2Swap) := by
  intro order_ i_ r hr
  unfold x_spec_l2Swap at hr
  try dsimp only at hr
  obtain ⟨r1, q3, hr⟩ := Option.bind_eq_some_iff.1 hr
  have e2 : ∀ H ng, gcall (shOf F) cl true n_spec_l1Own [.fs (order_.map (cI .i64))] H ng = some (.os H.length ng 1 0 r1.length, H ++ [⟨ng, false, 1, (r1.map (cI .i64))⟩], ng + 1, .touch [] []) := fun H ng => by have := call_far_own (H := H) (ng := ng) s_spec_l1Own rfl (K_spec_l1Own _ _ q3); simp only [List.length_map] at this; exact this
  obtain ⟨y4, q8, hr⟩ := Option.bind_eq_some_iff.1 hr
  obtain ⟨e5, e6, e7⟩ := ix_some q8
  try simp only [Int.toNat_natCast, Int.toNat_zero, Int.reduceToNat] at e6
  clear q8
  obtain ⟨y9, q13, hr⟩ := Option.bind_eq_some_iff.1 hr
  obtain ⟨e10, e11, e12⟩ := ix_some q13
  try simp only [Int.toNat_natCast, Int.toNat_zero, Int.reduceToNat] at e11
  clear q13
  obtain ⟨l14, q19, hr⟩ := Option.bind_eq_some_iff.1 hr
  obtain ⟨_, _, e15, e16, _⟩ := put_some q19
  try simp only [Int.toNat_natCast, Int.toNat_zero, Int.reduceToNat] at e15
  have e17 : (r1.map (cI .i64)).set (Int.toNat i_) [.int .i64 y4] = l14.map (cI .i64) := by rw [← e15, List.map_set] <;> rfl
  replace e16 : Keep (r1.length = l14.length) := e16
  clear e15 q19
  obtain ⟨y20, q24, hr⟩ := Option.bind_eq_some_iff.1 hr
  obtain ⟨e21, e22, e23⟩ := ix_some q24
  try simp only [Int.toNat_natCast, Int.toNat_zero, Int.reduceToNat] at e22
  clear q24
  obtain ⟨y25, q30, hr⟩ := Option.bind_eq_some_iff.1 hr
  obtain ⟨e26, e27, e28⟩ := ix_some q30
  have e29 : ((addK .i64 i_ 1) < ((r1.length : Nat) : Int)) = True := by rw [show r1.length = _ from e16]; exact e28
  try simp only [Int.toNat_natCast, Int.toNat_zero, Int.reduceToNat] at e27
  clear q30
  obtain ⟨l31, q36, hr⟩ := Option.bind_eq_some_iff.1 hr
  obtain ⟨_, _, e32, e33, _⟩ := put_some q36
  try simp only [Int.toNat_natCast, Int.toNat_zero, Int.reduceToNat] at e32
  have e34 : (l14.map (cI .i64)).set (Int.toNat (addK .i64 i_ 1)) [.int .i64 y20] = l31.map (cI .i64) := by rw [← e32, List.map_set] <;> rfl
  replace e33 : Keep (l14.length = l31.length) := e33
  clear e32 q36
  have hr_ := Option.some.inj hr; subst hr_
  refine ⟨0, 0, [(Blk.mk 0 false 1 (l31.map (cI .i64)))], 1, ?_, by simp [hget, hp], sc_cI _ _⟩
  rw [List.length_map, ← show r1.length = _ from (Eq.trans e16 e33)]
  simp only [c_spec_l2Swap, evA, evB, Int.reduceToNat, eq_self, reduceCtorEq, ↓reduceIte, Nat.reduceEqDiff, Nat.reduceAdd, Nat.reduceLT, Nat.reduceLeDiff, Nat.reduceMul, Nat.reduceSub, Nat.reduceBEq, spec_l1Cur.cells, rz_spec_l1Cur, pr_spec_l1Cur, impl_Job.cells, rz_impl_Job, pr_impl_Job, *]

theorem ok_spec_DrawIsRuledOrder {cl : Callee} (K_spec_l1Cur_ruled3 : K_spec_l1Cur_ruled3 x_spec_l1Cur_ruled3 (cl n_spec_l1Cur_ruled3)) (K_spec_l1Cur_order : K_spec_l1Cur_order x_spec_l1Cur_order (cl n_spec_l1Cur_order)) (K_spec_l3Ruled : K_spec_l3Ruled x_spec_l3Ruled (cl n_spec_l3Ruled)) (K_spec_l1Cur_one : K_spec_l1Cur_one x_spec_l1Cur_one (cl n_spec_l1Cur_one)) (K_spec_l3Order : K_spec_l3Order x_spec_l3Order (cl n_spec_l3Order)) (K_spec_l2Swap : K_spec_l2Swap x_spec_l2Swap (cl n_spec_l2Swap)) (K_spec_l1Cur_pick : K_spec_l1Cur_pick x_spec_l1Cur_pick (cl n_spec_l1Cur_pick)) : K_spec_DrawIsRuledOrder (x_spec_DrawIsRuledOrder) (gbody F LL cl c_spec_DrawIsRuledOrder) := by
  intro code_ r hr
  unfold x_spec_DrawIsRuledOrder at hr
  try dsimp only at hr
  obtain ⟨r1, q4, hr⟩ := Option.bind_eq_some_iff.1 hr
  obtain ⟨ng2, e3⟩ : ∃ ng', gcall (shOf F) cl false n_spec_l1Cur_ruled3 [.ptr 0 0 0 0] [(Blk.mk 0 false 3 [[.fs (code_.map (cI .u8)), .int .i64 0, .int .u64 0]])] 1 = some (.tup [.fs (r1.1.1.map impl_Job.cells), .int .i64 r1.1.2], [(Blk.mk 0 false 3 [[.fs (r1.2.code.map (cI .u8)), .int .i64 r1.2.at_, .int .u64 r1.2.seed]])], ng', .all) := call_cur s_spec_l1Cur_ruled3 (K_spec_l1Cur_ruled3 _ _ q4) [(Blk.mk 0 false 3 [[.fs (code_.map (cI .u8)), .int .i64 0, .int .u64 0]])] 0 _ 1 (by simp)
  obtain ⟨r5, q8, hr⟩ := Option.bind_eq_some_iff.1 hr
  obtain ⟨ng6, e7⟩ : ∃ ng', gcall (shOf F) cl false n_spec_l1Cur_order [.ptr 0 0 0 0, .int .i64 (r1.1.1.length : Int)] [(Blk.mk 0 false 3 [[.fs (r1.2.code.map (cI .u8)), .int .i64 r1.2.at_, .int .u64 r1.2.seed]])] ng2 = some (.fs (r5.1.map (cI .i64)), [(Blk.mk 0 false 3 [[.fs (r5.2.code.map (cI .u8)), .int .i64 r5.2.at_, .int .u64 r5.2.seed]])], ng', .all) := call_cur s_spec_l1Cur_order (RetCO.ret (K_spec_l1Cur_order _ _ _ q8)) [(Blk.mk 0 false 3 [[.fs (r1.2.code.map (cI .u8)), .int .i64 r1.2.at_, .int .u64 r1.2.seed]])] 0 _ ng2 (by simp)
  obtain ⟨r9, q11, hr⟩ := Option.bind_eq_some_iff.1 hr
  have e10 : ∀ H ng, gcall (shOf F) cl false n_spec_l3Ruled [.fs (r1.1.1.map impl_Job.cells), .int .i64 r1.1.2] H ng = some (.bool r9, H, ng, .inert) := fun H ng => call_far s_spec_l3Ruled rfl (K_spec_l3Ruled _ _ _ q11).ret
  by_cases h14 : r9 = true
  · rw [if_pos h14] at hr
    have e12 : r9 = true := h14
    clear h14
    obtain ⟨r15, q18, hr⟩ := Option.bind_eq_some_iff.1 hr
    obtain ⟨ng16, e17⟩ : ∃ ng', gcall (shOf F) cl false n_spec_l1Cur_one [.ptr 0 0 0 0, .int .i64 2] [(Blk.mk 0 false 3 [[.fs (r5.2.code.map (cI .u8)), .int .i64 r5.2.at_, .int .u64 r5.2.seed]])] ng6 = some (.bool r15.1, [(Blk.mk 0 false 3 [[.fs (r15.2.code.map (cI .u8)), .int .i64 r15.2.at_, .int .u64 r15.2.seed]])], ng', .all) := call_cur s_spec_l1Cur_one (K_spec_l1Cur_one _ _ _ q18) [(Blk.mk 0 false 3 [[.fs (r5.2.code.map (cI .u8)), .int .i64 r5.2.at_, .int .u64 r5.2.seed]])] 0 _ ng6 (by simp)
    by_cases h21 : r15.1 = true
    · rw [if_pos h21] at hr
      have e19 : r15.1 = true := h21
      clear h21
      obtain ⟨r22, q24, hr⟩ := Option.bind_eq_some_iff.1 hr
      have e23 : ∀ H ng, gcall (shOf F) cl false n_spec_l3Order [.fs (r1.1.1.map impl_Job.cells), .int .i64 r1.1.2] H ng = some (.fs (r22.map (cI .i64)), H, ng, .inert) := fun H ng => call_far s_spec_l3Order rfl (K_spec_l3Order _ _ _ q24)
      by_cases h29 : 1 < (r22.length : Int)
      · rw [if_pos h29] at hr
        have e27 : (1 < (r22.length : Int)) = True := eq_true h29
        clear h29
        obtain ⟨r30, q33, hr⟩ := Option.bind_eq_some_iff.1 hr
        obtain ⟨ng31, e32⟩ : ∃ ng', gcall (shOf F) cl false n_spec_l1Cur_one [.ptr 0 0 0 0, .int .i64 2] [(Blk.mk 0 false 3 [[.fs (r15.2.code.map (cI .u8)), .int .i64 r15.2.at_, .int .u64 r15.2.seed]])] ng16 = some (.bool r30.1, [(Blk.mk 0 false 3 [[.fs (r30.2.code.map (cI .u8)), .int .i64 r30.2.at_, .int .u64 r30.2.seed]])], ng', .all) := call_cur s_spec_l1Cur_one (K_spec_l1Cur_one _ _ _ q33) [(Blk.mk 0 false 3 [[.fs (r15.2.code.map (cI .u8)), .int .i64 r15.2.at_, .int .u64 r15.2.seed]])] 0 _ ng16 (by simp)
        by_cases h36 : r30.1 = true
        · rw [if_pos h36] at hr
          have e34 : r30.1 = true := h36
          clear h36
          obtain ⟨r37, q40, hr⟩ := Option.bind_eq_some_iff.1 hr
          obtain ⟨ng38, e39⟩ : ∃ ng', gcall (shOf F) cl false n_spec_l1Cur_pick [.ptr 0 0 0 0, .int .i64 (subK .i64 (r22.length : Int) 1)] [(Blk.mk 0 false 3 [[.fs (r30.2.code.map (cI .u8)), .int .i64 r30.2.at_, .int .u64 r30.2.seed]])] ng31 = some (.int .i64 r37.1, [(Blk.mk 0 false 3 [[.fs (r37.2.code.map (cI .u8)), .int .i64 r37.2.at_, .int .u64 r37.2.seed]])], ng', .all) := call_cur s_spec_l1Cur_pick (K_spec_l1Cur_pick _ _ _ q40) [(Blk.mk 0 false 3 [[.fs (r30.2.code.map (cI .u8)), .int .i64 r30.2.at_, .int .u64 r30.2.seed]])] 0 _ ng31 (by simp)
          obtain ⟨r41, q43, hr⟩ := Option.bind_eq_some_iff.1 hr
          have e42 : ∀ H ng, gcall (shOf F) cl false n_spec_l2Swap [.fs (r22.map (cI .i64)), .int .i64 r37.1] H ng = some (.fs (r41.map (cI .i64)), H, ng, .inert) := fun H ng => call_far s_spec_l2Swap rfl (K_spec_l2Swap _ _ _ q43).retF.ret
          have hr_ := Option.some.inj hr; subst hr_
          refine Ret.flat (by
            simp only [c_spec_DrawIsRuledOrder, evA, evB, Int.reduceToNat, eq_self, reduceCtorEq, ↓reduceIte, Nat.reduceEqDiff, Nat.reduceAdd, Nat.reduceLT, Nat.reduceLeDiff, Nat.reduceMul, Nat.reduceSub, Nat.reduceBEq, spec_l1Cur.cells, rz_spec_l1Cur, pr_spec_l1Cur, impl_Job.cells, rz_impl_Job, pr_impl_Job, *]
            rfl) rfl
        · rw [if_neg h36] at hr
          have e35 : r30.1 = false := Bool.eq_false_iff.2 h36
          clear h36
          have hr_ := Option.some.inj hr; subst hr_
          refine Ret.flat (by
            simp only [c_spec_DrawIsRuledOrder, evA, evB, Int.reduceToNat, eq_self, reduceCtorEq, ↓reduceIte, Nat.reduceEqDiff, Nat.reduceAdd, Nat.reduceLT, Nat.reduceLeDiff, Nat.reduceMul, Nat.reduceSub, Nat.reduceBEq, spec_l1Cur.cells, rz_spec_l1Cur, pr_spec_l1Cur, impl_Job.cells, rz_impl_Job, pr_impl_Job, *]
            rfl) rfl
      · rw [if_neg h29] at hr
        have e28 : (1 < (r22.length : Int)) = False := eq_false h29
        clear h29
        have hr_ := Option.some.inj hr; subst hr_
        refine Ret.flat (by
          simp only [c_spec_DrawIsRuledOrder, evA, evB, Int.reduceToNat, eq_self, reduceCtorEq, ↓reduceIte, Nat.reduceEqDiff, Nat.reduceAdd, Nat.reduceLT, Nat.reduceLeDiff, Nat.reduceMul, Nat.reduceSub, Nat.reduceBEq, spec_l1Cur.cells, rz_spec_l1Cur, pr_spec_l1Cur, impl_Job.cells, rz_impl_Job, pr_impl_Job, *]
          rfl) rfl
    · rw [if_neg h21] at hr
      have e20 : r15.1 = false := Bool.eq_false_iff.2 h21
      clear h21
      have hr_ := Option.some.inj hr; subst hr_
      refine Ret.flat (by
        simp only [c_spec_DrawIsRuledOrder, evA, evB, Int.reduceToNat, eq_self, reduceCtorEq, ↓reduceIte, Nat.reduceEqDiff, Nat.reduceAdd, Nat.reduceLT, Nat.reduceLeDiff, Nat.reduceMul, Nat.reduceSub, Nat.reduceBEq, spec_l1Cur.cells, rz_spec_l1Cur, pr_spec_l1Cur, impl_Job.cells, rz_impl_Job, pr_impl_Job, *]
        rfl) rfl
  · rw [if_neg h14] at hr
    have e13 : r9 = false := Bool.eq_false_iff.2 h14
    clear h14
    have hr_ := Option.some.inj hr; subst hr_
    refine Ret.flat (by
      simp only [c_spec_DrawIsRuledOrder, evA, evB, Int.reduceToNat, eq_self, reduceCtorEq, ↓reduceIte, Nat.reduceEqDiff, Nat.reduceAdd, Nat.reduceLT, Nat.reduceLeDiff, Nat.reduceMul, Nat.reduceSub, Nat.reduceBEq, spec_l1Cur.cells, rz_spec_l1Cur, pr_spec_l1Cur, impl_Job.cells, rz_impl_Job, pr_impl_Job, *]
      rfl) rfl

theorem ok_impl_within {cl : Callee} : K_impl_within (x_impl_within) (gbody F LL cl c_impl_within) := by
  intro n_ low_ high_ r hr
  unfold x_impl_within at hr
  try dsimp only at hr
  by_cases h5 : low_ ≤ n_
  · rw [if_pos h5] at hr
    have e3 : (low_ ≤ n_) = True := eq_true h5
    clear h5
    have hr_ := Option.some.inj hr; subst hr_
    refine RetF.scal (by
      simp only [c_impl_within, evA, evB, Int.reduceToNat, eq_self, reduceCtorEq, ↓reduceIte, Nat.reduceEqDiff, Nat.reduceAdd, Nat.reduceLT, Nat.reduceLeDiff, Nat.reduceMul, Nat.reduceSub, Nat.reduceBEq, spec_l1Cur.cells, rz_spec_l1Cur, pr_spec_l1Cur, impl_Job.cells, rz_impl_Job, pr_impl_Job, *]
      rfl) rfl rfl
  · rw [if_neg h5] at hr
    have e4 : (low_ ≤ n_) = False := eq_false h5
    clear h5
    have hr_ := Option.some.inj hr; subst hr_
    refine RetF.scal (by
      simp only [c_impl_within, evA, evB, Int.reduceToNat, eq_self, reduceCtorEq, ↓reduceIte, Nat.reduceEqDiff, Nat.reduceAdd, Nat.reduceLT, Nat.reduceLeDiff, Nat.reduceMul, Nat.reduceSub, Nat.reduceBEq, spec_l1Cur.cells, rz_spec_l1Cur, pr_spec_l1Cur, impl_Job.cells, rz_impl_Job, pr_impl_Job, *]
      rfl) rfl rfl

theorem ok_impl_isDate {cl : Callee} (K_impl_within : K_impl_within x_impl_within (cl n_impl_within)) : K_impl_isDate (x_impl_isDate) (gbody F LL cl c_impl_isDate) := by
  intro n_ r hr
  unfold x_impl_isDate at hr
  try dsimp only at hr
  obtain ⟨r1, q3, hr⟩ := Option.bind_eq_some_iff.1 hr
  have e2 : ∀ H ng, gcall (shOf F) cl false n_impl_within [.int .i64 n_, .int .i64 0, .int .i64 500] H ng = some (.bool r1, H, ng, .inert) := fun H ng => call_far s_impl_within rfl (K_impl_within _ _ _ _ q3).ret
  have hr_ := Option.some.inj hr; subst hr_
  refine RetF.scal (by
    simp only [c_impl_isDate, evA, evB, Int.reduceToNat, eq_self, reduceCtorEq, ↓reduceIte, Nat.reduceEqDiff, Nat.reduceAdd, Nat.reduceLT, Nat.reduceLeDiff, Nat.reduceMul, Nat.reduceSub, Nat.reduceBEq, spec_l1Cur.cells, rz_spec_l1Cur, pr_spec_l1Cur, impl_Job.cells, rz_impl_Job, pr_impl_Job, *]
    rfl) rfl rfl

theorem st_impl_IsJobs_l0 {cl : Callee} (K_impl_within : K_impl_within x_impl_within (cl n_impl_within)) (K_impl_isDate : K_impl_isDate x_impl_isDate (cl n_impl_isDate)) (v : (List impl_Job)) (vz1 : Int) (st_ : (Int)) (c_ : Ctl (Int) (Unit ⊕ (Bool))) (hr : x_impl_IsJobs_l0 v vz1 st_ = some c_) (T_ : Tm) (H_ : List Blk) (ng : Nat) (hR_ : R_impl_IsJobs_l0 v vz1 st_ T_ H_) :
    ∃ e_ T1_ H1_ ng1_, gcode (shOf F) cl LL c_impl_IsJobs_l0 ⟨maskT (some [8, 9, 10]) T_, H_, ng⟩ = some (e_, ⟨T1_, H1_, ng1_⟩) ∧ TurnOK (R_impl_IsJobs_l0 v vz1) (Q_impl_IsJobs_l0 v vz1) 0 c_ e_ T1_ H1_ := by
  obtain ⟨vz2, hst_⟩ : ∃ x, x = st_ := ⟨_, rfl⟩; subst hst_
  obtain ⟨f0_, f1_, f2_, rfl⟩ := hR_
  unfold x_impl_IsJobs_l0 at hr
  try dsimp only at hr
  by_cases h5 : vz2 < vz1
  · rw [if_pos h5] at hr
    have e3 : (vz2 < vz1) = True := eq_true h5
    clear h5
    obtain ⟨y6, q10, hr⟩ := Option.bind_eq_some_iff.1 hr
    obtain ⟨e7, e8, e9⟩ := ix_some q10
    try simp only [Int.toNat_natCast, Int.toNat_zero, Int.reduceToNat] at e8
    clear q10
    obtain ⟨r11, q13, hr⟩ := Option.bind_eq_some_iff.1 hr
    have e12 : ∀ H ng, gcall (shOf F) cl false n_impl_within [.int .i64 y6.Time, .int .i64 1, .int .i64 50] H ng = some (.bool r11, H, ng, .inert) := fun H ng => call_far s_impl_within rfl (K_impl_within _ _ _ _ q13).ret
    by_cases h16 : r11 = true
    · rw [if_pos h16] at hr
      have e14 : r11 = true := h16
      clear h16
      obtain ⟨r17, q19, hr⟩ := Option.bind_eq_some_iff.1 hr
      have e18 : ∀ H ng, gcall (shOf F) cl false n_impl_within [.int .i64 y6.Weight, .int .i64 0, .int .i64 50] H ng = some (.bool r17, H, ng, .inert) := fun H ng => call_far s_impl_within rfl (K_impl_within _ _ _ _ q19).ret
      by_cases h22 : r17 = true
      · rw [if_pos h22] at hr
        have e20 : r17 = true := h22
        clear h22
        obtain ⟨r23, q25, hr⟩ := Option.bind_eq_some_iff.1 hr
        have e24 : ∀ H ng, gcall (shOf F) cl false n_impl_isDate [.int .i64 y6.Release] H ng = some (.bool r23, H, ng, .inert) := fun H ng => call_far s_impl_isDate rfl (K_impl_isDate _ _ q25).ret
        by_cases h28 : r23 = true
        · rw [if_pos h28] at hr
          have e26 : r23 = true := h28
          clear h28
          obtain ⟨r29, q31, hr⟩ := Option.bind_eq_some_iff.1 hr
          have e30 : ∀ H ng, gcall (shOf F) cl false n_impl_isDate [.int .i64 y6.Due] H ng = some (.bool r29, H, ng, .inert) := fun H ng => call_far s_impl_isDate rfl (K_impl_isDate _ _ q31).ret
          by_cases h34 : r29 = true
          · rw [if_pos h34] at hr
            have e32 : r29 = true := h34
            clear h34
            have hr_ := Option.some.inj hr; subst hr_
            refine turn (by
              simp only [c_impl_IsJobs_l0, evA, evB, Int.reduceToNat, eq_self, reduceCtorEq, ↓reduceIte, Nat.reduceEqDiff, Nat.reduceAdd, Nat.reduceLT, Nat.reduceLeDiff, Nat.reduceMul, Nat.reduceSub, Nat.reduceBEq, spec_l1Cur.cells, rz_spec_l1Cur, pr_spec_l1Cur, impl_Job.cells, rz_impl_Job, pr_impl_Job, *]
              rfl) ?_
            exact ⟨rfl, rfl, rfl, rfl, rfl⟩
          · rw [if_neg h34] at hr
            have e33 : r29 = false := Bool.eq_false_iff.2 h34
            clear h34
            have hr_ := Option.some.inj hr; subst hr_
            refine turn (by
              simp only [c_impl_IsJobs_l0, evA, evB, Int.reduceToNat, eq_self, reduceCtorEq, ↓reduceIte, Nat.reduceEqDiff, Nat.reduceAdd, Nat.reduceLT, Nat.reduceLeDiff, Nat.reduceMul, Nat.reduceSub, Nat.reduceBEq, spec_l1Cur.cells, rz_spec_l1Cur, pr_spec_l1Cur, impl_Job.cells, rz_impl_Job, pr_impl_Job, *]
              rfl) ?_
            exact ⟨by simp, rfl, rfl⟩
        · rw [if_neg h28] at hr
          have e27 : r23 = false := Bool.eq_false_iff.2 h28
          clear h28
          have hr_ := Option.some.inj hr; subst hr_
          refine turn (by
            simp only [c_impl_IsJobs_l0, evA, evB, Int.reduceToNat, eq_self, reduceCtorEq, ↓reduceIte, Nat.reduceEqDiff, Nat.reduceAdd, Nat.reduceLT, Nat.reduceLeDiff, Nat.reduceMul, Nat.reduceSub, Nat.reduceBEq, spec_l1Cur.cells, rz_spec_l1Cur, pr_spec_l1Cur, impl_Job.cells, rz_impl_Job, pr_impl_Job, *]
            rfl) ?_
          exact ⟨by simp, rfl, rfl⟩
      · rw [if_neg h22] at hr
        have e21 : r17 = false := Bool.eq_false_iff.2 h22
        clear h22
        have hr_ := Option.some.inj hr; subst hr_
        refine turn (by
          simp only [c_impl_IsJobs_l0, evA, evB, Int.reduceToNat, eq_self, reduceCtorEq, ↓reduceIte, Nat.reduceEqDiff, Nat.reduceAdd, Nat.reduceLT, Nat.reduceLeDiff, Nat.reduceMul, Nat.reduceSub, Nat.reduceBEq, spec_l1Cur.cells, rz_spec_l1Cur, pr_spec_l1Cur, impl_Job.cells, rz_impl_Job, pr_impl_Job, *]
          rfl) ?_
        exact ⟨by simp, rfl, rfl⟩
    · rw [if_neg h16] at hr
      have e15 : r11 = false := Bool.eq_false_iff.2 h16
      clear h16
      have hr_ := Option.some.inj hr; subst hr_
      refine turn (by
        simp only [c_impl_IsJobs_l0, evA, evB, Int.reduceToNat, eq_self, reduceCtorEq, ↓reduceIte, Nat.reduceEqDiff, Nat.reduceAdd, Nat.reduceLT, Nat.reduceLeDiff, Nat.reduceMul, Nat.reduceSub, Nat.reduceBEq, spec_l1Cur.cells, rz_spec_l1Cur, pr_spec_l1Cur, impl_Job.cells, rz_impl_Job, pr_impl_Job, *]
        rfl) ?_
      exact ⟨by simp, rfl, rfl⟩
  · rw [if_neg h5] at hr
    have e4 : (vz2 < vz1) = False := eq_false h5
    clear h5
    have hr_ := Option.some.inj hr; subst hr_
    refine turn (by
      simp only [c_impl_IsJobs_l0, evA, evB, Int.reduceToNat, eq_self, reduceCtorEq, ↓reduceIte, Nat.reduceEqDiff, Nat.reduceAdd, Nat.reduceLT, Nat.reduceLeDiff, Nat.reduceMul, Nat.reduceSub, Nat.reduceBEq, spec_l1Cur.cells, rz_spec_l1Cur, pr_spec_l1Cur, impl_Job.cells, rz_impl_Job, pr_impl_Job, *]
      rfl) ?_
    exact ⟨by simp, rfl, rfl⟩

theorem lp_impl_IsJobs_l0 {cl : Callee} (K_impl_within : K_impl_within x_impl_within (cl n_impl_within)) (K_impl_isDate : K_impl_isDate x_impl_isDate (cl n_impl_isDate)) (v : (List impl_Job)) (vz1 : Int) (st_ : (Int)) (p_ : (Unit ⊕ (Bool))) (hr : loopS (x_impl_IsJobs_l0 v vz1) LL st_ = some p_) (T_ : Tm) (H_ : List Blk) (ng : Nat) (hR_ : R_impl_IsJobs_l0 v vz1 st_ T_ H_) (hn_ : H_.length = 0) :
    ∃ e_ T1_ H1_ ng1_, gcode (shOf F) cl LL (.loop false (some [8, 9, 10]) c_impl_IsJobs_l0) ⟨T_, H_, ng⟩ = some (e_, ⟨T1_, H1_, ng1_⟩) ∧ Q_impl_IsJobs_l0 v vz1 p_ e_ T1_ H1_ :=
  sim_loop (n0 := 0) (R_impl_IsJobs_l0 v vz1) (Q_impl_IsJobs_l0 v vz1) (st_impl_IsJobs_l0 K_impl_within K_impl_isDate v vz1) st_ p_ hr T_ H_ ng hR_ hn_

theorem ok_impl_IsJobs {cl : Callee} (K_impl_within : K_impl_within x_impl_within (cl n_impl_within)) (K_impl_isDate : K_impl_isDate x_impl_isDate (cl n_impl_isDate)) : K_impl_IsJobs (x_impl_IsJobs) (gbody F LL cl c_impl_IsJobs) := by
  intro jobs_ r hr
  unfold x_impl_IsJobs at hr
  try dsimp only at hr
  by_cases h5 : 8 < (jobs_.length : Int)
  · rw [if_pos h5] at hr
    have e3 : (8 < (jobs_.length : Int)) = True := eq_true h5
    clear h5
    have hr_ := Option.some.inj hr; subst hr_
    refine RetF.scal (by
      simp only [c_impl_IsJobs, evA, evB, Int.reduceToNat, eq_self, reduceCtorEq, ↓reduceIte, Nat.reduceEqDiff, Nat.reduceAdd, Nat.reduceLT, Nat.reduceLeDiff, Nat.reduceMul, Nat.reduceSub, Nat.reduceBEq, spec_l1Cur.cells, rz_spec_l1Cur, pr_spec_l1Cur, impl_Job.cells, rz_impl_Job, pr_impl_Job, *]
      rfl) rfl rfl
  · rw [if_neg h5] at hr
    have e4 : (8 < (jobs_.length : Int)) = False := eq_false h5
    clear h5
    obtain ⟨p6, q15, hr⟩ := Option.bind_eq_some_iff.1 hr
    obtain ⟨ex12, T9, H10, ng11, l8, m7⟩ := lp_impl_IsJobs_l0 (cl := cl) K_impl_within K_impl_isDate  jobs_ (jobs_.length : Int) _ _ q15 [(8, .fs (jobs_.map impl_Job.cells)), (9, .int .i64 (jobs_.length : Int)), (10, .int .i64 0)] [] 0 (show R_impl_IsJobs_l0 jobs_ (jobs_.length : Int) 0 [(8, .fs (jobs_.map impl_Job.cells)), (9, .int .i64 (jobs_.length : Int)), (10, .int .i64 0)] [] from ⟨rfl, rfl, rfl, rfl⟩) rfl
    rcases p6 with p6 | p6
    · dsimp only at hr
      obtain ⟨rfl, e13⟩ := m7
      subst e13
      have hr_ := Option.some.inj hr; subst hr_
      refine RetF.scal (by
        simp only [c_impl_IsJobs, evA, evB, Int.reduceToNat, eq_self, reduceCtorEq, ↓reduceIte, Nat.reduceEqDiff, Nat.reduceAdd, Nat.reduceLT, Nat.reduceLeDiff, Nat.reduceMul, Nat.reduceSub, Nat.reduceBEq, spec_l1Cur.cells, rz_spec_l1Cur, pr_spec_l1Cur, impl_Job.cells, rz_impl_Job, pr_impl_Job, *]
        rfl) rfl rfl
    · dsimp only at hr
      obtain ⟨rfl, e14⟩ := m7
      have hr_ := Option.some.inj hr; subst hr_
      refine RetF.scal (by
        simp only [c_impl_IsJobs, evA, evB, Int.reduceToNat, eq_self, reduceCtorEq, ↓reduceIte, Nat.reduceEqDiff, Nat.reduceAdd, Nat.reduceLT, Nat.reduceLeDiff, Nat.reduceMul, Nat.reduceSub, Nat.reduceBEq, spec_l1Cur.cells, rz_spec_l1Cur, pr_spec_l1Cur, impl_Job.cells, rz_impl_Job, pr_impl_Job, *]
        rfl) rfl rfl

theorem st_impl_isPlain_l0 {cl : Callee} (v : (List impl_Job)) (vz1 : Int) (st_ : (Int)) (c_ : Ctl (Int) (Unit ⊕ (Bool))) (hr : x_impl_isPlain_l0 v vz1 st_ = some c_) (T_ : Tm) (H_ : List Blk) (ng : Nat) (hR_ : R_impl_isPlain_l0 v vz1 st_ T_ H_) :
    ∃ e_ T1_ H1_ ng1_, gcode (shOf F) cl LL c_impl_isPlain_l0 ⟨maskT (some [5, 6, 7]) T_, H_, ng⟩ = some (e_, ⟨T1_, H1_, ng1_⟩) ∧ TurnOK (R_impl_isPlain_l0 v vz1) (Q_impl_isPlain_l0 v vz1) 0 c_ e_ T1_ H1_ := by
  obtain ⟨vz2, hst_⟩ : ∃ x, x = st_ := ⟨_, rfl⟩; subst hst_
  obtain ⟨f0_, f1_, f2_, rfl⟩ := hR_
  unfold x_impl_isPlain_l0 at hr
  try dsimp only at hr
  by_cases h5 : vz2 < vz1
  · rw [if_pos h5] at hr
    have e3 : (vz2 < vz1) = True := eq_true h5
    clear h5
    obtain ⟨y6, q10, hr⟩ := Option.bind_eq_some_iff.1 hr
    obtain ⟨e7, e8, e9⟩ := ix_some q10
    try simp only [Int.toNat_natCast, Int.toNat_zero, Int.reduceToNat] at e8
    clear q10
    by_cases h15 : y6.Release = 0
    · rw [if_pos h15] at hr
      have e13 : (y6.Release = 0) = True := eq_true h15
      clear h15
      have hr_ := Option.some.inj hr; subst hr_
      refine turn (by
        simp only [c_impl_isPlain_l0, evA, evB, Int.reduceToNat, eq_self, reduceCtorEq, ↓reduceIte, Nat.reduceEqDiff, Nat.reduceAdd, Nat.reduceLT, Nat.reduceLeDiff, Nat.reduceMul, Nat.reduceSub, Nat.reduceBEq, spec_l1Cur.cells, rz_spec_l1Cur, pr_spec_l1Cur, impl_Job.cells, rz_impl_Job, pr_impl_Job, *]
        rfl) ?_
      exact ⟨rfl, rfl, rfl, rfl, rfl⟩
    · rw [if_neg h15] at hr
      have e14 : (y6.Release = 0) = False := eq_false h15
      clear h15
      have hr_ := Option.some.inj hr; subst hr_
      refine turn (by
        simp only [c_impl_isPlain_l0, evA, evB, Int.reduceToNat, eq_self, reduceCtorEq, ↓reduceIte, Nat.reduceEqDiff, Nat.reduceAdd, Nat.reduceLT, Nat.reduceLeDiff, Nat.reduceMul, Nat.reduceSub, Nat.reduceBEq, spec_l1Cur.cells, rz_spec_l1Cur, pr_spec_l1Cur, impl_Job.cells, rz_impl_Job, pr_impl_Job, *]
        rfl) ?_
      exact ⟨by simp, rfl, rfl⟩
  · rw [if_neg h5] at hr
    have e4 : (vz2 < vz1) = False := eq_false h5
    clear h5
    have hr_ := Option.some.inj hr; subst hr_
    refine turn (by
      simp only [c_impl_isPlain_l0, evA, evB, Int.reduceToNat, eq_self, reduceCtorEq, ↓reduceIte, Nat.reduceEqDiff, Nat.reduceAdd, Nat.reduceLT, Nat.reduceLeDiff, Nat.reduceMul, Nat.reduceSub, Nat.reduceBEq, spec_l1Cur.cells, rz_spec_l1Cur, pr_spec_l1Cur, impl_Job.cells, rz_impl_Job, pr_impl_Job, *]
      rfl) ?_
    exact ⟨by simp, rfl, rfl⟩

theorem lp_impl_isPlain_l0 {cl : Callee} (v : (List impl_Job)) (vz1 : Int) (st_ : (Int)) (p_ : (Unit ⊕ (Bool))) (hr : loopS (x_impl_isPlain_l0 v vz1) LL st_ = some p_) (T_ : Tm) (H_ : List Blk) (ng : Nat) (hR_ : R_impl_isPlain_l0 v vz1 st_ T_ H_) (hn_ : H_.length = 0) :
    ∃ e_ T1_ H1_ ng1_, gcode (shOf F) cl LL (.loop false (some [5, 6, 7]) c_impl_isPlain_l0) ⟨T_, H_, ng⟩ = some (e_, ⟨T1_, H1_, ng1_⟩) ∧ Q_impl_isPlain_l0 v vz1 p_ e_ T1_ H1_ :=
  sim_loop (n0 := 0) (R_impl_isPlain_l0 v vz1) (Q_impl_isPlain_l0 v vz1) (st_impl_isPlain_l0 v vz1) st_ p_ hr T_ H_ ng hR_ hn_

theorem ok_impl_isPlain {cl : Callee} : K_impl_isPlain (x_impl_isPlain) (gbody F LL cl c_impl_isPlain) := by
  intro jobs_ r hr
  unfold x_impl_isPlain at hr
  try dsimp only at hr
  obtain ⟨p1, q10, hr⟩ := Option.bind_eq_some_iff.1 hr
  obtain ⟨ex7, T4, H5, ng6, l3, m2⟩ := lp_impl_isPlain_l0 (cl := cl)  jobs_ (jobs_.length : Int) _ _ q10 [(5, .fs (jobs_.map impl_Job.cells)), (6, .int .i64 (jobs_.length : Int)), (7, .int .i64 0)] [] 0 (show R_impl_isPlain_l0 jobs_ (jobs_.length : Int) 0 [(5, .fs (jobs_.map impl_Job.cells)), (6, .int .i64 (jobs_.length : Int)), (7, .int .i64 0)] [] from ⟨rfl, rfl, rfl, rfl⟩) rfl
  rcases p1 with p1 | p1
  · dsimp only at hr
    obtain ⟨rfl, e8⟩ := m2
    subst e8
    have hr_ := Option.some.inj hr; subst hr_
    refine RetF.scal (by
      simp only [c_impl_isPlain, evA, evB, Int.reduceToNat, eq_self, reduceCtorEq, ↓reduceIte, Nat.reduceEqDiff, Nat.reduceAdd, Nat.reduceLT, Nat.reduceLeDiff, Nat.reduceMul, Nat.reduceSub, Nat.reduceBEq, spec_l1Cur.cells, rz_spec_l1Cur, pr_spec_l1Cur, impl_Job.cells, rz_impl_Job, pr_impl_Job, *]
      rfl) rfl rfl
  · dsimp only at hr
    obtain ⟨rfl, e9⟩ := m2
    have hr_ := Option.some.inj hr; subst hr_
    refine RetF.scal (by
      simp only [c_impl_isPlain, evA, evB, Int.reduceToNat, eq_self, reduceCtorEq, ↓reduceIte, Nat.reduceEqDiff, Nat.reduceAdd, Nat.reduceLT, Nat.reduceLeDiff, Nat.reduceMul, Nat.reduceSub, Nat.reduceBEq, spec_l1Cur.cells, rz_spec_l1Cur, pr_spec_l1Cur, impl_Job.cells, rz_impl_Job, pr_impl_Job, *]
      rfl) rfl rfl

theorem ok_impl_isRuled {cl : Callee} (K_impl_IsJobs : K_impl_IsJobs x_impl_IsJobs (cl n_impl_IsJobs)) (K_impl_isPlain : K_impl_isPlain x_impl_isPlain (cl n_impl_isPlain)) (K_impl_within : K_impl_within x_impl_within (cl n_impl_within)) : K_impl_isRuled (x_impl_isRuled) (gbody F LL cl c_impl_isRuled) := by
  intro jobs_ objective_ r hr
  unfold x_impl_isRuled at hr
  try dsimp only at hr
  obtain ⟨r1, q3, hr⟩ := Option.bind_eq_some_iff.1 hr
  have e2 : ∀ H ng, gcall (shOf F) cl false n_impl_IsJobs [.fs (jobs_.map impl_Job.cells)] H ng = some (.bool r1, H, ng, .inert) := fun H ng => call_far s_impl_IsJobs rfl (K_impl_IsJobs _ _ q3).ret
  by_cases h6 : r1 = true
  · rw [if_pos h6] at hr
    have e4 : r1 = true := h6
    clear h6
    by_cases h11 : objective_ = 1
    · rw [if_pos h11] at hr
      have e9 : (objective_ = 1) = True := eq_true h11
      clear h11
      have hr_ := Option.some.inj hr; subst hr_
      refine RetF.scal (by
        simp only [c_impl_isRuled, evA, evB, Int.reduceToNat, eq_self, reduceCtorEq, ↓reduceIte, Nat.reduceEqDiff, Nat.reduceAdd, Nat.reduceLT, Nat.reduceLeDiff, Nat.reduceMul, Nat.reduceSub, Nat.reduceBEq, spec_l1Cur.cells, rz_spec_l1Cur, pr_spec_l1Cur, impl_Job.cells, rz_impl_Job, pr_impl_Job, *]
        rfl) rfl rfl
    · rw [if_neg h11] at hr
      have e10 : (objective_ = 1) = False := eq_false h11
      clear h11
      obtain ⟨r12, q14, hr⟩ := Option.bind_eq_some_iff.1 hr
      have e13 : ∀ H ng, gcall (shOf F) cl false n_impl_within [.int .i64 objective_, .int .i64 2, .int .i64 4] H ng = some (.bool r12, H, ng, .inert) := fun H ng => call_far s_impl_within rfl (K_impl_within _ _ _ _ q14).ret
      by_cases h17 : r12 = true
      · rw [if_pos h17] at hr
        have e15 : r12 = true := h17
        clear h17
        obtain ⟨r18, q20, hr⟩ := Option.bind_eq_some_iff.1 hr
        have e19 : ∀ H ng, gcall (shOf F) cl false n_impl_isPlain [.fs (jobs_.map impl_Job.cells)] H ng = some (.bool r18, H, ng, .inert) := fun H ng => call_far s_impl_isPlain rfl (K_impl_isPlain _ _ q20).ret
        have hr_ := Option.some.inj hr; subst hr_
        refine RetF.scal (by
          simp only [c_impl_isRuled, evA, evB, Int.reduceToNat, eq_self, reduceCtorEq, ↓reduceIte, Nat.reduceEqDiff, Nat.reduceAdd, Nat.reduceLT, Nat.reduceLeDiff, Nat.reduceMul, Nat.reduceSub, Nat.reduceBEq, spec_l1Cur.cells, rz_spec_l1Cur, pr_spec_l1Cur, impl_Job.cells, rz_impl_Job, pr_impl_Job, *]
          rfl) rfl rfl
      · rw [if_neg h17] at hr
        have e16 : r12 = false := Bool.eq_false_iff.2 h17
        clear h17
        have hr_ := Option.some.inj hr; subst hr_
        refine RetF.scal (by
          simp only [c_impl_isRuled, evA, evB, Int.reduceToNat, eq_self, reduceCtorEq, ↓reduceIte, Nat.reduceEqDiff, Nat.reduceAdd, Nat.reduceLT, Nat.reduceLeDiff, Nat.reduceMul, Nat.reduceSub, Nat.reduceBEq, spec_l1Cur.cells, rz_spec_l1Cur, pr_spec_l1Cur, impl_Job.cells, rz_impl_Job, pr_impl_Job, *]
          rfl) rfl rfl
  · rw [if_neg h6] at hr
    have e5 : r1 = false := Bool.eq_false_iff.2 h6
    clear h6
    have hr_ := Option.some.inj hr; subst hr_
    refine RetF.scal (by
      simp only [c_impl_isRuled, evA, evB, Int.reduceToNat, eq_self, reduceCtorEq, ↓reduceIte, Nat.reduceEqDiff, Nat.reduceAdd, Nat.reduceLT, Nat.reduceLeDiff, Nat.reduceMul, Nat.reduceSub, Nat.reduceBEq, spec_l1Cur.cells, rz_spec_l1Cur, pr_spec_l1Cur, impl_Job.cells, rz_impl_Job, pr_impl_Job, *]
      rfl) rfl rfl

theorem ok_impl_isNumber {cl : Callee} (K_impl_within : K_impl_within x_impl_within (cl n_impl_within)) : K_impl_isNumber (x_impl_isNumber) (gbody F LL cl c_impl_isNumber) := by
  intro i_ n_ r hr
  unfold x_impl_isNumber at hr
  try dsimp only at hr
  obtain ⟨r1, q3, hr⟩ := Option.bind_eq_some_iff.1 hr
  have e2 : ∀ H ng, gcall (shOf F) cl false n_impl_within [.int .i64 i_, .int .i64 0, .int .i64 (subK .i64 n_ 1)] H ng = some (.bool r1, H, ng, .inert) := fun H ng => call_far s_impl_within rfl (K_impl_within _ _ _ _ q3).ret
  have hr_ := Option.some.inj hr; subst hr_
  refine RetF.scal (by
    simp only [c_impl_isNumber, evA, evB, Int.reduceToNat, eq_self, reduceCtorEq, ↓reduceIte, Nat.reduceEqDiff, Nat.reduceAdd, Nat.reduceLT, Nat.reduceLeDiff, Nat.reduceMul, Nat.reduceSub, Nat.reduceBEq, spec_l1Cur.cells, rz_spec_l1Cur, pr_spec_l1Cur, impl_Job.cells, rz_impl_Job, pr_impl_Job, *]
    rfl) rfl rfl

theorem st_impl_has_l0 {cl : Callee} (n_ : Int) (v : (List Int)) (vz1 : Int) (st_ : (Int)) (c_ : Ctl (Int) (Unit ⊕ (Bool))) (hr : x_impl_has_l0 n_ v vz1 st_ = some c_) (T_ : Tm) (H_ : List Blk) (ng : Nat) (hR_ : R_impl_has_l0 n_ v vz1 st_ T_ H_) :
    ∃ e_ T1_ H1_ ng1_, gcode (shOf F) cl LL c_impl_has_l0 ⟨maskT (some [1, 7, 8, 9]) T_, H_, ng⟩ = some (e_, ⟨T1_, H1_, ng1_⟩) ∧ TurnOK (R_impl_has_l0 n_ v vz1) (Q_impl_has_l0 n_ v vz1) 0 c_ e_ T1_ H1_ := by
  obtain ⟨vz2, hst_⟩ : ∃ x, x = st_ := ⟨_, rfl⟩; subst hst_
  obtain ⟨f0_, f1_, f2_, f3_, rfl⟩ := hR_
  unfold x_impl_has_l0 at hr
  try dsimp only at hr
  by_cases h5 : vz2 < vz1
  · rw [if_pos h5] at hr
    have e3 : (vz2 < vz1) = True := eq_true h5
    clear h5
    obtain ⟨y6, q10, hr⟩ := Option.bind_eq_some_iff.1 hr
    obtain ⟨e7, e8, e9⟩ := ix_some q10
    try simp only [Int.toNat_natCast, Int.toNat_zero, Int.reduceToNat] at e8
    clear q10
    by_cases h15 : y6 = n_
    · rw [if_pos h15] at hr
      have e13 : (y6 = n_) = True := eq_true h15
      clear h15
      have hr_ := Option.some.inj hr; subst hr_
      refine turn (by
        simp only [c_impl_has_l0, evA, evB, Int.reduceToNat, eq_self, reduceCtorEq, ↓reduceIte, Nat.reduceEqDiff, Nat.reduceAdd, Nat.reduceLT, Nat.reduceLeDiff, Nat.reduceMul, Nat.reduceSub, Nat.reduceBEq, spec_l1Cur.cells, rz_spec_l1Cur, pr_spec_l1Cur, impl_Job.cells, rz_impl_Job, pr_impl_Job, *]
        rfl) ?_
      exact ⟨by simp, rfl, rfl⟩
    · rw [if_neg h15] at hr
      have e14 : (y6 = n_) = False := eq_false h15
      clear h15
      have hr_ := Option.some.inj hr; subst hr_
      refine turn (by
        simp only [c_impl_has_l0, evA, evB, Int.reduceToNat, eq_self, reduceCtorEq, ↓reduceIte, Nat.reduceEqDiff, Nat.reduceAdd, Nat.reduceLT, Nat.reduceLeDiff, Nat.reduceMul, Nat.reduceSub, Nat.reduceBEq, spec_l1Cur.cells, rz_spec_l1Cur, pr_spec_l1Cur, impl_Job.cells, rz_impl_Job, pr_impl_Job, *]
        rfl) ?_
      exact ⟨rfl, rfl, rfl, rfl, rfl, rfl⟩
  · rw [if_neg h5] at hr
    have e4 : (vz2 < vz1) = False := eq_false h5
    clear h5
    have hr_ := Option.some.inj hr; subst hr_
    refine turn (by
      simp only [c_impl_has_l0, evA, evB, Int.reduceToNat, eq_self, reduceCtorEq, ↓reduceIte, Nat.reduceEqDiff, Nat.reduceAdd, Nat.reduceLT, Nat.reduceLeDiff, Nat.reduceMul, Nat.reduceSub, Nat.reduceBEq, spec_l1Cur.cells, rz_spec_l1Cur, pr_spec_l1Cur, impl_Job.cells, rz_impl_Job, pr_impl_Job, *]
      rfl) ?_
    exact ⟨by simp, rfl, rfl⟩

theorem lp_impl_has_l0 {cl : Callee} (n_ : Int) (v : (List Int)) (vz1 : Int) (st_ : (Int)) (p_ : (Unit ⊕ (Bool))) (hr : loopS (x_impl_has_l0 n_ v vz1) LL st_ = some p_) (T_ : Tm) (H_ : List Blk) (ng : Nat) (hR_ : R_impl_has_l0 n_ v vz1 st_ T_ H_) (hn_ : H_.length = 0) :
    ∃ e_ T1_ H1_ ng1_, gcode (shOf F) cl LL (.loop false (some [1, 7, 8, 9]) c_impl_has_l0) ⟨T_, H_, ng⟩ = some (e_, ⟨T1_, H1_, ng1_⟩) ∧ Q_impl_has_l0 n_ v vz1 p_ e_ T1_ H1_ :=
  sim_loop (n0 := 0) (R_impl_has_l0 n_ v vz1) (Q_impl_has_l0 n_ v vz1) (st_impl_has_l0 n_ v vz1) st_ p_ hr T_ H_ ng hR_ hn_

theorem ok_impl_has {cl : Callee} : K_impl_has (x_impl_has) (gbody F LL cl c_impl_has) := by
  intro list_ n_ r hr
  unfold x_impl_has at hr
  try dsimp only at hr
  obtain ⟨p1, q10, hr⟩ := Option.bind_eq_some_iff.1 hr
  obtain ⟨ex7, T4, H5, ng6, l3, m2⟩ := lp_impl_has_l0 (cl := cl)  n_ list_ (list_.length : Int) _ _ q10 [(1, .int .i64 n_), (7, .fs (list_.map (cI .i64))), (8, .int .i64 (list_.length : Int)), (9, .int .i64 0)] [] 0 (show R_impl_has_l0 n_ list_ (list_.length : Int) 0 [(1, .int .i64 n_), (7, .fs (list_.map (cI .i64))), (8, .int .i64 (list_.length : Int)), (9, .int .i64 0)] [] from ⟨rfl, rfl, rfl, rfl, rfl⟩) rfl
  rcases p1 with p1 | p1
  · dsimp only at hr
    obtain ⟨rfl, e8⟩ := m2
    subst e8
    have hr_ := Option.some.inj hr; subst hr_
    refine RetF.scal (by
      simp only [c_impl_has, evA, evB, Int.reduceToNat, eq_self, reduceCtorEq, ↓reduceIte, Nat.reduceEqDiff, Nat.reduceAdd, Nat.reduceLT, Nat.reduceLeDiff, Nat.reduceMul, Nat.reduceSub, Nat.reduceBEq, spec_l1Cur.cells, rz_spec_l1Cur, pr_spec_l1Cur, impl_Job.cells, rz_impl_Job, pr_impl_Job, *]
      rfl) rfl rfl
  · dsimp only at hr
    obtain ⟨rfl, e9⟩ := m2
    have hr_ := Option.some.inj hr; subst hr_
    refine RetF.scal (by
      simp only [c_impl_has, evA, evB, Int.reduceToNat, eq_self, reduceCtorEq, ↓reduceIte, Nat.reduceEqDiff, Nat.reduceAdd, Nat.reduceLT, Nat.reduceLeDiff, Nat.reduceMul, Nat.reduceSub, Nat.reduceBEq, spec_l1Cur.cells, rz_spec_l1Cur, pr_spec_l1Cur, impl_Job.cells, rz_impl_Job, pr_impl_Job, *]
      rfl) rfl rfl

theorem st_impl_areDifferent_l0 {cl : Callee} (K_impl_isNumber : K_impl_isNumber x_impl_isNumber (cl n_impl_isNumber)) (K_impl_has : K_impl_has x_impl_has (cl n_impl_has)) (n_ : Int) (list_ : (List Int)) (v : (List Int)) (vz1 : Int) (st_ : (Int)) (c_ : Ctl (Int) (Unit ⊕ (Bool))) (hr : x_impl_areDifferent_l0 n_ list_ v vz1 st_ = some c_) (T_ : Tm) (H_ : List Blk) (ng : Nat) (hR_ : R_impl_areDifferent_l0 n_ list_ v vz1 st_ T_ H_) :
    ∃ e_ T1_ H1_ ng1_, gcode (shOf F) cl LL c_impl_areDifferent_l0 ⟨maskT (some [0, 1, 7, 8, 9]) T_, H_, ng⟩ = some (e_, ⟨T1_, H1_, ng1_⟩) ∧ TurnOK (R_impl_areDifferent_l0 n_ list_ v vz1) (Q_impl_areDifferent_l0 n_ list_ v vz1) 0 c_ e_ T1_ H1_ := by
  obtain ⟨vz2, hst_⟩ : ∃ x, x = st_ := ⟨_, rfl⟩; subst hst_
  obtain ⟨f0_, f1_, f2_, f3_, f4_, rfl⟩ := hR_
  unfold x_impl_areDifferent_l0 at hr
  try dsimp only at hr
  by_cases h5 : vz2 < vz1
  · rw [if_pos h5] at hr
    have e3 : (vz2 < vz1) = True := eq_true h5
    clear h5
    obtain ⟨y6, q10, hr⟩ := Option.bind_eq_some_iff.1 hr
    obtain ⟨e7, e8, e9⟩ := ix_some q10
    try simp only [Int.toNat_natCast, Int.toNat_zero, Int.reduceToNat] at e8
    clear q10
    obtain ⟨r11, q13, hr⟩ := Option.bind_eq_some_iff.1 hr
    have e12 : ∀ H ng, gcall (shOf F) cl false n_impl_isNumber [.int .i64 y6, .int .i64 n_] H ng = some (.bool r11, H, ng, .inert) := fun H ng => call_far s_impl_isNumber rfl (K_impl_isNumber _ _ _ q13).ret
    by_cases h16 : r11 = true
    · rw [if_pos h16] at hr
      have e14 : r11 = true := h16
      clear h16
      obtain ⟨y17, q24, hr⟩ := Option.bind_eq_some_iff.1 hr
      obtain ⟨e18, e19, e20, e21, e22⟩ := cut_some q24
      try simp only [Int.toNat_natCast, Int.toNat_zero, Int.reduceToNat, List.drop_zero] at e21
      have e23 : List.take (Int.toNat vz2) (list_.map (cI .i64)) = y17.map (cI .i64) := by rw [← e21]; simp only [List.map_drop, List.map_take, take_map_len]
      clear q24 e22
      obtain ⟨r25, q27, hr⟩ := Option.bind_eq_some_iff.1 hr
      have e26 : ∀ H ng, gcall (shOf F) cl false n_impl_has [.fs (y17.map (cI .i64)), .int .i64 y6] H ng = some (.bool r25, H, ng, .inert) := fun H ng => call_far s_impl_has rfl (K_impl_has _ _ _ q27).ret
      by_cases h30 : r25 = true
      · rw [if_pos h30] at hr
        have e28 : r25 = true := h30
        clear h30
        have hr_ := Option.some.inj hr; subst hr_
        refine turn (by
          simp only [c_impl_areDifferent_l0, evA, evB, Int.reduceToNat, eq_self, reduceCtorEq, ↓reduceIte, Nat.reduceEqDiff, Nat.reduceAdd, Nat.reduceLT, Nat.reduceLeDiff, Nat.reduceMul, Nat.reduceSub, Nat.reduceBEq, spec_l1Cur.cells, rz_spec_l1Cur, pr_spec_l1Cur, impl_Job.cells, rz_impl_Job, pr_impl_Job, *]
          rfl) ?_
        exact ⟨by simp, rfl, rfl⟩
      · rw [if_neg h30] at hr
        have e29 : r25 = false := Bool.eq_false_iff.2 h30
        clear h30
        have hr_ := Option.some.inj hr; subst hr_
        refine turn (by
          simp only [c_impl_areDifferent_l0, evA, evB, Int.reduceToNat, eq_self, reduceCtorEq, ↓reduceIte, Nat.reduceEqDiff, Nat.reduceAdd, Nat.reduceLT, Nat.reduceLeDiff, Nat.reduceMul, Nat.reduceSub, Nat.reduceBEq, spec_l1Cur.cells, rz_spec_l1Cur, pr_spec_l1Cur, impl_Job.cells, rz_impl_Job, pr_impl_Job, *]
          rfl) ?_
        exact ⟨rfl, rfl, rfl, rfl, rfl, rfl, rfl⟩
    · rw [if_neg h16] at hr
      have e15 : r11 = false := Bool.eq_false_iff.2 h16
      clear h16
      have hr_ := Option.some.inj hr; subst hr_
      refine turn (by
        simp only [c_impl_areDifferent_l0, evA, evB, Int.reduceToNat, eq_self, reduceCtorEq, ↓reduceIte, Nat.reduceEqDiff, Nat.reduceAdd, Nat.reduceLT, Nat.reduceLeDiff, Nat.reduceMul, Nat.reduceSub, Nat.reduceBEq, spec_l1Cur.cells, rz_spec_l1Cur, pr_spec_l1Cur, impl_Job.cells, rz_impl_Job, pr_impl_Job, *]
        rfl) ?_
      exact ⟨by simp, rfl, rfl⟩
  · rw [if_neg h5] at hr
    have e4 : (vz2 < vz1) = False := eq_false h5
    clear h5
    have hr_ := Option.some.inj hr; subst hr_
    refine turn (by
      simp only [c_impl_areDifferent_l0, evA, evB, Int.reduceToNat, eq_self, reduceCtorEq, ↓reduceIte, Nat.reduceEqDiff, Nat.reduceAdd, Nat.reduceLT, Nat.reduceLeDiff, Nat.reduceMul, Nat.reduceSub, Nat.reduceBEq, spec_l1Cur.cells, rz_spec_l1Cur, pr_spec_l1Cur, impl_Job.cells, rz_impl_Job, pr_impl_Job, *]
      rfl) ?_
    exact ⟨by simp, rfl, rfl⟩

theorem lp_impl_areDifferent_l0 {cl : Callee} (K_impl_isNumber : K_impl_isNumber x_impl_isNumber (cl n_impl_isNumber)) (K_impl_has : K_impl_has x_impl_has (cl n_impl_has)) (n_ : Int) (list_ : (List Int)) (v : (List Int)) (vz1 : Int) (st_ : (Int)) (p_ : (Unit ⊕ (Bool))) (hr : loopS (x_impl_areDifferent_l0 n_ list_ v vz1) LL st_ = some p_) (T_ : Tm) (H_ : List Blk) (ng : Nat) (hR_ : R_impl_areDifferent_l0 n_ list_ v vz1 st_ T_ H_) (hn_ : H_.length = 0) :
    ∃ e_ T1_ H1_ ng1_, gcode (shOf F) cl LL (.loop false (some [0, 1, 7, 8, 9]) c_impl_areDifferent_l0) ⟨T_, H_, ng⟩ = some (e_, ⟨T1_, H1_, ng1_⟩) ∧ Q_impl_areDifferent_l0 n_ list_ v vz1 p_ e_ T1_ H1_ :=
  sim_loop (n0 := 0) (R_impl_areDifferent_l0 n_ list_ v vz1) (Q_impl_areDifferent_l0 n_ list_ v vz1) (st_impl_areDifferent_l0 K_impl_isNumber K_impl_has n_ list_ v vz1) st_ p_ hr T_ H_ ng hR_ hn_

theorem ok_impl_areDifferent {cl : Callee} (K_impl_isNumber : K_impl_isNumber x_impl_isNumber (cl n_impl_isNumber)) (K_impl_has : K_impl_has x_impl_has (cl n_impl_has)) : K_impl_areDifferent (x_impl_areDifferent) (gbody F LL cl c_impl_areDifferent) := by
  intro n_ list_ r hr
  unfold x_impl_areDifferent at hr
  try dsimp only at hr
  obtain ⟨p1, q10, hr⟩ := Option.bind_eq_some_iff.1 hr
  obtain ⟨ex7, T4, H5, ng6, l3, m2⟩ := lp_impl_areDifferent_l0 (cl := cl) K_impl_isNumber K_impl_has  n_ list_ list_ (list_.length : Int) _ _ q10 [(0, .int .i64 n_), (1, .fs (list_.map (cI .i64))), (7, .fs (list_.map (cI .i64))), (8, .int .i64 (list_.length : Int)), (9, .int .i64 0)] [] 0 (show R_impl_areDifferent_l0 n_ list_ list_ (list_.length : Int) 0 [(0, .int .i64 n_), (1, .fs (list_.map (cI .i64))), (7, .fs (list_.map (cI .i64))), (8, .int .i64 (list_.length : Int)), (9, .int .i64 0)] [] from ⟨rfl, rfl, rfl, rfl, rfl, rfl⟩) rfl
  rcases p1 with p1 | p1
  · dsimp only at hr
    obtain ⟨rfl, e8⟩ := m2
    subst e8
    have hr_ := Option.some.inj hr; subst hr_
    refine RetF.scal (by
      simp only [c_impl_areDifferent, evA, evB, Int.reduceToNat, eq_self, reduceCtorEq, ↓reduceIte, Nat.reduceEqDiff, Nat.reduceAdd, Nat.reduceLT, Nat.reduceLeDiff, Nat.reduceMul, Nat.reduceSub, Nat.reduceBEq, spec_l1Cur.cells, rz_spec_l1Cur, pr_spec_l1Cur, impl_Job.cells, rz_impl_Job, pr_impl_Job, *]
      rfl) rfl rfl
  · dsimp only at hr
    obtain ⟨rfl, e9⟩ := m2
    have hr_ := Option.some.inj hr; subst hr_
    refine RetF.scal (by
      simp only [c_impl_areDifferent, evA, evB, Int.reduceToNat, eq_self, reduceCtorEq, ↓reduceIte, Nat.reduceEqDiff, Nat.reduceAdd, Nat.reduceLT, Nat.reduceLeDiff, Nat.reduceMul, Nat.reduceSub, Nat.reduceBEq, spec_l1Cur.cells, rz_spec_l1Cur, pr_spec_l1Cur, impl_Job.cells, rz_impl_Job, pr_impl_Job, *]
      rfl) rfl rfl

theorem ok_impl_isOrder {cl : Callee} (K_impl_areDifferent : K_impl_areDifferent x_impl_areDifferent (cl n_impl_areDifferent)) : K_impl_isOrder (x_impl_isOrder) (gbody F LL cl c_impl_isOrder) := by
  intro n_ order_ r hr
  unfold x_impl_isOrder at hr
  try dsimp only at hr
  by_cases h5 : (order_.length : Int) = n_
  · rw [if_pos h5] at hr
    have e3 : ((order_.length : Int) = n_) = True := eq_true h5
    clear h5
    obtain ⟨r6, q8, hr⟩ := Option.bind_eq_some_iff.1 hr
    have e7 : ∀ H ng, gcall (shOf F) cl false n_impl_areDifferent [.int .i64 n_, .fs (order_.map (cI .i64))] H ng = some (.bool r6, H, ng, .inert) := fun H ng => call_far s_impl_areDifferent rfl (K_impl_areDifferent _ _ _ q8).ret
    have hr_ := Option.some.inj hr; subst hr_
    refine RetF.scal (by
      simp only [c_impl_isOrder, evA, evB, Int.reduceToNat, eq_self, reduceCtorEq, ↓reduceIte, Nat.reduceEqDiff, Nat.reduceAdd, Nat.reduceLT, Nat.reduceLeDiff, Nat.reduceMul, Nat.reduceSub, Nat.reduceBEq, spec_l1Cur.cells, rz_spec_l1Cur, pr_spec_l1Cur, impl_Job.cells, rz_impl_Job, pr_impl_Job, *]
      rfl) rfl rfl
  · rw [if_neg h5] at hr
    have e4 : ((order_.length : Int) = n_) = False := eq_false h5
    clear h5
    have hr_ := Option.some.inj hr; subst hr_
    refine RetF.scal (by
      simp only [c_impl_isOrder, evA, evB, Int.reduceToNat, eq_self, reduceCtorEq, ↓reduceIte, Nat.reduceEqDiff, Nat.reduceAdd, Nat.reduceLT, Nat.reduceLeDiff, Nat.reduceMul, Nat.reduceSub, Nat.reduceBEq, spec_l1Cur.cells, rz_spec_l1Cur, pr_spec_l1Cur, impl_Job.cells, rz_impl_Job, pr_impl_Job, *]
      rfl) rfl rfl

theorem ok_impl_isRuledAndOrdered {cl : Callee} (K_impl_isRuled : K_impl_isRuled x_impl_isRuled (cl n_impl_isRuled)) (K_impl_isOrder : K_impl_isOrder x_impl_isOrder (cl n_impl_isOrder)) : K_impl_isRuledAndOrdered (x_impl_isRuledAndOrdered) (gbody F LL cl c_impl_isRuledAndOrdered) := by
  intro jobs_ order_ objective_ r hr
  unfold x_impl_isRuledAndOrdered at hr
  try dsimp only at hr
  obtain ⟨r1, q3, hr⟩ := Option.bind_eq_some_iff.1 hr
  have e2 : ∀ H ng, gcall (shOf F) cl false n_impl_isRuled [.fs (jobs_.map impl_Job.cells), .int .i64 objective_] H ng = some (.bool r1, H, ng, .inert) := fun H ng => call_far s_impl_isRuled rfl (K_impl_isRuled _ _ _ q3).ret
  by_cases h6 : r1 = true
  · rw [if_pos h6] at hr
    have e4 : r1 = true := h6
    clear h6
    obtain ⟨r7, q9, hr⟩ := Option.bind_eq_some_iff.1 hr
    have e8 : ∀ H ng, gcall (shOf F) cl false n_impl_isOrder [.int .i64 (jobs_.length : Int), .fs (order_.map (cI .i64))] H ng = some (.bool r7, H, ng, .inert) := fun H ng => call_far s_impl_isOrder rfl (K_impl_isOrder _ _ _ q9).ret
    have hr_ := Option.some.inj hr; subst hr_
    refine RetF.scal (by
      simp only [c_impl_isRuledAndOrdered, evA, evB, Int.reduceToNat, eq_self, reduceCtorEq, ↓reduceIte, Nat.reduceEqDiff, Nat.reduceAdd, Nat.reduceLT, Nat.reduceLeDiff, Nat.reduceMul, Nat.reduceSub, Nat.reduceBEq, spec_l1Cur.cells, rz_spec_l1Cur, pr_spec_l1Cur, impl_Job.cells, rz_impl_Job, pr_impl_Job, *]
      rfl) rfl rfl
  · rw [if_neg h6] at hr
    have e5 : r1 = false := Bool.eq_false_iff.2 h6
    clear h6
    have hr_ := Option.some.inj hr; subst hr_
    refine RetF.scal (by
      simp only [c_impl_isRuledAndOrdered, evA, evB, Int.reduceToNat, eq_self, reduceCtorEq, ↓reduceIte, Nat.reduceEqDiff, Nat.reduceAdd, Nat.reduceLT, Nat.reduceLeDiff, Nat.reduceMul, Nat.reduceSub, Nat.reduceBEq, spec_l1Cur.cells, rz_spec_l1Cur, pr_spec_l1Cur, impl_Job.cells, rz_impl_Job, pr_impl_Job, *]
      rfl) rfl rfl

theorem ok_impl_difference {cl : Callee} : K_impl_difference (x_impl_difference) (gbody F LL cl c_impl_difference) := by
  intro a_ b_ objective_ r hr
  unfold x_impl_difference at hr
  try dsimp only at hr
  by_cases h5 : objective_ = 1
  · rw [if_pos h5] at hr
    have e3 : (objective_ = 1) = True := eq_true h5
    clear h5
    have hr_ := Option.some.inj hr; subst hr_
    refine RetF.scal (by
      simp only [c_impl_difference, evA, evB, Int.reduceToNat, eq_self, reduceCtorEq, ↓reduceIte, Nat.reduceEqDiff, Nat.reduceAdd, Nat.reduceLT, Nat.reduceLeDiff, Nat.reduceMul, Nat.reduceSub, Nat.reduceBEq, spec_l1Cur.cells, rz_spec_l1Cur, pr_spec_l1Cur, impl_Job.cells, rz_impl_Job, pr_impl_Job, *]
      rfl) rfl rfl
  · rw [if_neg h5] at hr
    have e4 : (objective_ = 1) = False := eq_false h5
    clear h5
    by_cases h10 : objective_ = 2
    · rw [if_pos h10] at hr
      have e8 : (objective_ = 2) = True := eq_true h10
      clear h10
      have hr_ := Option.some.inj hr; subst hr_
      refine RetF.scal (by
        simp only [c_impl_difference, evA, evB, Int.reduceToNat, eq_self, reduceCtorEq, ↓reduceIte, Nat.reduceEqDiff, Nat.reduceAdd, Nat.reduceLT, Nat.reduceLeDiff, Nat.reduceMul, Nat.reduceSub, Nat.reduceBEq, spec_l1Cur.cells, rz_spec_l1Cur, pr_spec_l1Cur, impl_Job.cells, rz_impl_Job, pr_impl_Job, *]
        rfl) rfl rfl
    · rw [if_neg h10] at hr
      have e9 : (objective_ = 2) = False := eq_false h10
      clear h10
      by_cases h15 : objective_ = 3
      · rw [if_pos h15] at hr
        have e13 : (objective_ = 3) = True := eq_true h15
        clear h15
        have hr_ := Option.some.inj hr; subst hr_
        refine RetF.scal (by
          simp only [c_impl_difference, evA, evB, Int.reduceToNat, eq_self, reduceCtorEq, ↓reduceIte, Nat.reduceEqDiff, Nat.reduceAdd, Nat.reduceLT, Nat.reduceLeDiff, Nat.reduceMul, Nat.reduceSub, Nat.reduceBEq, spec_l1Cur.cells, rz_spec_l1Cur, pr_spec_l1Cur, impl_Job.cells, rz_impl_Job, pr_impl_Job, *]
          rfl) rfl rfl
      · rw [if_neg h15] at hr
        have e14 : (objective_ = 3) = False := eq_false h15
        clear h15
        have hr_ := Option.some.inj hr; subst hr_
        refine RetF.scal (by
          simp only [c_impl_difference, evA, evB, Int.reduceToNat, eq_self, reduceCtorEq, ↓reduceIte, Nat.reduceEqDiff, Nat.reduceAdd, Nat.reduceLT, Nat.reduceLeDiff, Nat.reduceMul, Nat.reduceSub, Nat.reduceBEq, spec_l1Cur.cells, rz_spec_l1Cur, pr_spec_l1Cur, impl_Job.cells, rz_impl_Job, pr_impl_Job, *]
          rfl) rfl rfl

theorem st_impl_IsRuledOrder_l0 {cl : Callee} (K_impl_isRuledAndOrdered : K_impl_isRuledAndOrdered x_impl_isRuledAndOrdered (cl n_impl_isRuledAndOrdered)) (K_impl_difference : K_impl_difference x_impl_difference (cl n_impl_difference)) (jobs_ : (List impl_Job)) (order_ : (List Int)) (objective_ : Int) (st_ : (Int)) (c_ : Ctl (Int) (Unit ⊕ (Bool × Bool))) (hr : x_impl_IsRuledOrder_l0 jobs_ order_ objective_ st_ = some c_) (T_ : Tm) (H_ : List Blk) (ng : Nat) (hR_ : R_impl_IsRuledOrder_l0 jobs_ order_ objective_ st_ T_ H_) :
    ∃ e_ T1_ H1_ ng1_, gcode (shOf F) cl LL c_impl_IsRuledOrder_l0 ⟨maskT (some [0, 1, 2, 8]) T_, H_, ng⟩ = some (e_, ⟨T1_, H1_, ng1_⟩) ∧ TurnOK (R_impl_IsRuledOrder_l0 jobs_ order_ objective_) (Q_impl_IsRuledOrder_l0 jobs_ order_ objective_) 0 c_ e_ T1_ H1_ := by
  obtain ⟨k_, hst_⟩ : ∃ x, x = st_ := ⟨_, rfl⟩; subst hst_
  obtain ⟨f0_, f1_, f2_, f3_, rfl⟩ := hR_
  unfold x_impl_IsRuledOrder_l0 at hr
  try dsimp only at hr
  by_cases h5 : k_ < (order_.length : Int)
  · rw [if_pos h5] at hr
    have e3 : (k_ < (order_.length : Int)) = True := eq_true h5
    clear h5
    obtain ⟨y6, q10, hr⟩ := Option.bind_eq_some_iff.1 hr
    obtain ⟨e7, e8, e9⟩ := ix_some q10
    try simp only [Int.toNat_natCast, Int.toNat_zero, Int.reduceToNat] at e8
    clear q10
    obtain ⟨y11, q15, hr⟩ := Option.bind_eq_some_iff.1 hr
    obtain ⟨e12, e13, e14⟩ := ix_some q15
    try simp only [Int.toNat_natCast, Int.toNat_zero, Int.reduceToNat] at e13
    clear q15
    obtain ⟨y16, q20, hr⟩ := Option.bind_eq_some_iff.1 hr
    obtain ⟨e17, e18, e19⟩ := ix_some q20
    try simp only [Int.toNat_natCast, Int.toNat_zero, Int.reduceToNat] at e18
    clear q20
    obtain ⟨y21, q25, hr⟩ := Option.bind_eq_some_iff.1 hr
    obtain ⟨e22, e23, e24⟩ := ix_some q25
    try simp only [Int.toNat_natCast, Int.toNat_zero, Int.reduceToNat] at e23
    clear q25
    obtain ⟨r26, q28, hr⟩ := Option.bind_eq_some_iff.1 hr
    have e27 : ∀ H ng, gcall (shOf F) cl false n_impl_difference [.agg [.int .i64 y11.Time, .int .i64 y11.Weight, .int .i64 y11.Release, .int .i64 y11.Due], .agg [.int .i64 y21.Time, .int .i64 y21.Weight, .int .i64 y21.Release, .int .i64 y21.Due], .int .i64 objective_] H ng = some (.int .i64 r26, H, ng, .inert) := fun H ng => call_far s_impl_difference rfl (K_impl_difference _ _ _ _ q28).ret
    by_cases h33 : r26 < 0
    · rw [if_pos h33] at hr
      have e31 : (r26 < 0) = True := eq_true h33
      clear h33
      have hr_ := Option.some.inj hr; subst hr_
      refine turn (by
        simp only [c_impl_IsRuledOrder_l0, evA, evB, Int.reduceToNat, eq_self, reduceCtorEq, ↓reduceIte, Nat.reduceEqDiff, Nat.reduceAdd, Nat.reduceLT, Nat.reduceLeDiff, Nat.reduceMul, Nat.reduceSub, Nat.reduceBEq, spec_l1Cur.cells, rz_spec_l1Cur, pr_spec_l1Cur, impl_Job.cells, rz_impl_Job, pr_impl_Job, *]
        rfl) ?_
      exact ⟨by simp, rfl, rfl, rfl⟩
    · rw [if_neg h33] at hr
      have e32 : (r26 < 0) = False := eq_false h33
      clear h33
      have hr_ := Option.some.inj hr; subst hr_
      refine turn (by
        simp only [c_impl_IsRuledOrder_l0, evA, evB, Int.reduceToNat, eq_self, reduceCtorEq, ↓reduceIte, Nat.reduceEqDiff, Nat.reduceAdd, Nat.reduceLT, Nat.reduceLeDiff, Nat.reduceMul, Nat.reduceSub, Nat.reduceBEq, spec_l1Cur.cells, rz_spec_l1Cur, pr_spec_l1Cur, impl_Job.cells, rz_impl_Job, pr_impl_Job, *]
        rfl) ?_
      exact ⟨rfl, rfl, rfl, rfl, rfl, rfl⟩
  · rw [if_neg h5] at hr
    have e4 : (k_ < (order_.length : Int)) = False := eq_false h5
    clear h5
    have hr_ := Option.some.inj hr; subst hr_
    refine turn (by
      simp only [c_impl_IsRuledOrder_l0, evA, evB, Int.reduceToNat, eq_self, reduceCtorEq, ↓reduceIte, Nat.reduceEqDiff, Nat.reduceAdd, Nat.reduceLT, Nat.reduceLeDiff, Nat.reduceMul, Nat.reduceSub, Nat.reduceBEq, spec_l1Cur.cells, rz_spec_l1Cur, pr_spec_l1Cur, impl_Job.cells, rz_impl_Job, pr_impl_Job, *]
      rfl) ?_
    exact ⟨by simp, rfl, rfl⟩

theorem lp_impl_IsRuledOrder_l0 {cl : Callee} (K_impl_isRuledAndOrdered : K_impl_isRuledAndOrdered x_impl_isRuledAndOrdered (cl n_impl_isRuledAndOrdered)) (K_impl_difference : K_impl_difference x_impl_difference (cl n_impl_difference)) (jobs_ : (List impl_Job)) (order_ : (List Int)) (objective_ : Int) (st_ : (Int)) (p_ : (Unit ⊕ (Bool × Bool))) (hr : loopS (x_impl_IsRuledOrder_l0 jobs_ order_ objective_) LL st_ = some p_) (T_ : Tm) (H_ : List Blk) (ng : Nat) (hR_ : R_impl_IsRuledOrder_l0 jobs_ order_ objective_ st_ T_ H_) (hn_ : H_.length = 0) :
    ∃ e_ T1_ H1_ ng1_, gcode (shOf F) cl LL (.loop false (some [0, 1, 2, 8]) c_impl_IsRuledOrder_l0) ⟨T_, H_, ng⟩ = some (e_, ⟨T1_, H1_, ng1_⟩) ∧ Q_impl_IsRuledOrder_l0 jobs_ order_ objective_ p_ e_ T1_ H1_ :=
  sim_loop (n0 := 0) (R_impl_IsRuledOrder_l0 jobs_ order_ objective_) (Q_impl_IsRuledOrder_l0 jobs_ order_ objective_) (st_impl_IsRuledOrder_l0 K_impl_isRuledAndOrdered K_impl_difference jobs_ order_ objective_) st_ p_ hr T_ H_ ng hR_ hn_

theorem ok_impl_IsRuledOrder {cl : Callee} (K_impl_isRuledAndOrdered : K_impl_isRuledAndOrdered x_impl_isRuledAndOrdered (cl n_impl_isRuledAndOrdered)) (K_impl_difference : K_impl_difference x_impl_difference (cl n_impl_difference)) : K_impl_IsRuledOrder (x_impl_IsRuledOrder) (gbody F LL cl c_impl_IsRuledOrder) := by
  intro jobs_ order_ objective_ r hr
  unfold x_impl_IsRuledOrder at hr
  try dsimp only at hr
  obtain ⟨r1, q3, hr⟩ := Option.bind_eq_some_iff.1 hr
  have e2 : ∀ H ng, gcall (shOf F) cl false n_impl_isRuledAndOrdered [.fs (jobs_.map impl_Job.cells), .fs (order_.map (cI .i64)), .int .i64 objective_] H ng = some (.bool r1, H, ng, .inert) := fun H ng => call_far s_impl_isRuledAndOrdered rfl (K_impl_isRuledAndOrdered _ _ _ _ q3).ret
  by_cases h6 : r1 = true
  · rw [if_pos h6] at hr
    have e4 : r1 = true := h6
    clear h6
    obtain ⟨p7, q17, hr⟩ := Option.bind_eq_some_iff.1 hr
    obtain ⟨ex13, T10, H11, ng12, l9, m8⟩ := lp_impl_IsRuledOrder_l0 (cl := cl) K_impl_isRuledAndOrdered K_impl_difference  jobs_ order_ objective_ _ _ q17 [(0, .fs (jobs_.map impl_Job.cells)), (1, .fs (order_.map (cI .i64))), (2, .int .i64 objective_), (8, .int .i64 1)] [] 0 (show R_impl_IsRuledOrder_l0 jobs_ order_ objective_ 1 [(0, .fs (jobs_.map impl_Job.cells)), (1, .fs (order_.map (cI .i64))), (2, .int .i64 objective_), (8, .int .i64 1)] [] from ⟨rfl, rfl, rfl, rfl, rfl⟩) rfl
    rcases p7 with p7 | p7
    · dsimp only at hr
      obtain ⟨rfl, e14⟩ := m8
      subst e14
      have hr_ := Option.some.inj hr; subst hr_
      refine RetF.scal (by
        simp only [c_impl_IsRuledOrder, evA, evB, Int.reduceToNat, eq_self, reduceCtorEq, ↓reduceIte, Nat.reduceEqDiff, Nat.reduceAdd, Nat.reduceLT, Nat.reduceLeDiff, Nat.reduceMul, Nat.reduceSub, Nat.reduceBEq, spec_l1Cur.cells, rz_spec_l1Cur, pr_spec_l1Cur, impl_Job.cells, rz_impl_Job, pr_impl_Job, *]
        rfl) rfl rfl
    · dsimp only at hr
      obtain ⟨rfl, e15, e16⟩ := m8
      have hr_ := Option.some.inj hr; subst hr_
      refine RetF.scal (by
        simp only [c_impl_IsRuledOrder, evA, evB, Int.reduceToNat, eq_self, reduceCtorEq, ↓reduceIte, Nat.reduceEqDiff, Nat.reduceAdd, Nat.reduceLT, Nat.reduceLeDiff, Nat.reduceMul, Nat.reduceSub, Nat.reduceBEq, spec_l1Cur.cells, rz_spec_l1Cur, pr_spec_l1Cur, impl_Job.cells, rz_impl_Job, pr_impl_Job, *]
        rfl) rfl rfl
  · rw [if_neg h6] at hr
    have e5 : r1 = false := Bool.eq_false_iff.2 h6
    clear h6
    have hr_ := Option.some.inj hr; subst hr_
    refine RetF.scal (by
      simp only [c_impl_IsRuledOrder, evA, evB, Int.reduceToNat, eq_self, reduceCtorEq, ↓reduceIte, Nat.reduceEqDiff, Nat.reduceAdd, Nat.reduceLT, Nat.reduceLeDiff, Nat.reduceMul, Nat.reduceSub, Nat.reduceBEq, spec_l1Cur.cells, rz_spec_l1Cur, pr_spec_l1Cur, impl_Job.cells, rz_impl_Job, pr_impl_Job, *]
      rfl) rfl rfl

theorem st_spec_l1Has_l0 {cl : Callee} (l_ : (List Int)) (n_ : Int) (st_ : (Int)) (c_ : Ctl (Int) (Unit ⊕ (Bool))) (hr : x_spec_l1Has_l0 l_ n_ st_ = some c_) (T_ : Tm) (H_ : List Blk) (ng : Nat) (hR_ : R_spec_l1Has_l0 l_ n_ st_ T_ H_) :
    ∃ e_ T1_ H1_ ng1_, gcode (shOf F) cl LL c_spec_l1Has_l0 ⟨maskT (some [0, 1, 5]) T_, H_, ng⟩ = some (e_, ⟨T1_, H1_, ng1_⟩) ∧ TurnOK (R_spec_l1Has_l0 l_ n_) (Q_spec_l1Has_l0 l_ n_) 0 c_ e_ T1_ H1_ := by
  obtain ⟨i_, hst_⟩ : ∃ x, x = st_ := ⟨_, rfl⟩; subst hst_
  obtain ⟨f0_, f1_, f2_, rfl⟩ := hR_
  unfold x_spec_l1Has_l0 at hr
  try dsimp only at hr
  by_cases h5 : i_ < (l_.length : Int)
  · rw [if_pos h5] at hr
    have e3 : (i_ < (l_.length : Int)) = True := eq_true h5
    clear h5
    obtain ⟨y6, q10, hr⟩ := Option.bind_eq_some_iff.1 hr
    obtain ⟨e7, e8, e9⟩ := ix_some q10
    try simp only [Int.toNat_natCast, Int.toNat_zero, Int.reduceToNat] at e8
    clear q10
    by_cases h15 : y6 = n_
    · rw [if_pos h15] at hr
      have e13 : (y6 = n_) = True := eq_true h15
      clear h15
      have hr_ := Option.some.inj hr; subst hr_
      refine turn (by
        simp only [c_spec_l1Has_l0, evA, evB, Int.reduceToNat, eq_self, reduceCtorEq, ↓reduceIte, Nat.reduceEqDiff, Nat.reduceAdd, Nat.reduceLT, Nat.reduceLeDiff, Nat.reduceMul, Nat.reduceSub, Nat.reduceBEq, spec_l1Cur.cells, rz_spec_l1Cur, pr_spec_l1Cur, impl_Job.cells, rz_impl_Job, pr_impl_Job, *]
        rfl) ?_
      exact ⟨by simp, rfl, rfl⟩
    · rw [if_neg h15] at hr
      have e14 : (y6 = n_) = False := eq_false h15
      clear h15
      have hr_ := Option.some.inj hr; subst hr_
      refine turn (by
        simp only [c_spec_l1Has_l0, evA, evB, Int.reduceToNat, eq_self, reduceCtorEq, ↓reduceIte, Nat.reduceEqDiff, Nat.reduceAdd, Nat.reduceLT, Nat.reduceLeDiff, Nat.reduceMul, Nat.reduceSub, Nat.reduceBEq, spec_l1Cur.cells, rz_spec_l1Cur, pr_spec_l1Cur, impl_Job.cells, rz_impl_Job, pr_impl_Job, *]
        rfl) ?_
      exact ⟨rfl, rfl, rfl, rfl, rfl⟩
  · rw [if_neg h5] at hr
    have e4 : (i_ < (l_.length : Int)) = False := eq_false h5
    clear h5
    have hr_ := Option.some.inj hr; subst hr_
    refine turn (by
      simp only [c_spec_l1Has_l0, evA, evB, Int.reduceToNat, eq_self, reduceCtorEq, ↓reduceIte, Nat.reduceEqDiff, Nat.reduceAdd, Nat.reduceLT, Nat.reduceLeDiff, Nat.reduceMul, Nat.reduceSub, Nat.reduceBEq, spec_l1Cur.cells, rz_spec_l1Cur, pr_spec_l1Cur, impl_Job.cells, rz_impl_Job, pr_impl_Job, *]
      rfl) ?_
    exact ⟨by simp, rfl, rfl⟩

theorem lp_spec_l1Has_l0 {cl : Callee} (l_ : (List Int)) (n_ : Int) (st_ : (Int)) (p_ : (Unit ⊕ (Bool))) (hr : loopS (x_spec_l1Has_l0 l_ n_) LL st_ = some p_) (T_ : Tm) (H_ : List Blk) (ng : Nat) (hR_ : R_spec_l1Has_l0 l_ n_ st_ T_ H_) (hn_ : H_.length = 0) :
    ∃ e_ T1_ H1_ ng1_, gcode (shOf F) cl LL (.loop false (some [0, 1, 5]) c_spec_l1Has_l0) ⟨T_, H_, ng⟩ = some (e_, ⟨T1_, H1_, ng1_⟩) ∧ Q_spec_l1Has_l0 l_ n_ p_ e_ T1_ H1_ :=
  sim_loop (n0 := 0) (R_spec_l1Has_l0 l_ n_) (Q_spec_l1Has_l0 l_ n_) (st_spec_l1Has_l0 l_ n_) st_ p_ hr T_ H_ ng hR_ hn_

theorem ok_spec_l1Has {cl : Callee} : K_spec_l1Has (x_spec_l1Has) (gbody F LL cl c_spec_l1Has) := by
  intro l_ n_ r hr
  unfold x_spec_l1Has at hr
  try dsimp only at hr
  obtain ⟨p1, q10, hr⟩ := Option.bind_eq_some_iff.1 hr
  obtain ⟨ex7, T4, H5, ng6, l3, m2⟩ := lp_spec_l1Has_l0 (cl := cl)  l_ n_ _ _ q10 [(0, .fs (l_.map (cI .i64))), (1, .int .i64 n_), (5, .int .i64 0)] [] 0 (show R_spec_l1Has_l0 l_ n_ 0 [(0, .fs (l_.map (cI .i64))), (1, .int .i64 n_), (5, .int .i64 0)] [] from ⟨rfl, rfl, rfl, rfl⟩) rfl
  rcases p1 with p1 | p1
  · dsimp only at hr
    obtain ⟨rfl, e8⟩ := m2
    subst e8
    have hr_ := Option.some.inj hr; subst hr_
    refine RetF.scal (by
      simp only [c_spec_l1Has, evA, evB, Int.reduceToNat, eq_self, reduceCtorEq, ↓reduceIte, Nat.reduceEqDiff, Nat.reduceAdd, Nat.reduceLT, Nat.reduceLeDiff, Nat.reduceMul, Nat.reduceSub, Nat.reduceBEq, spec_l1Cur.cells, rz_spec_l1Cur, pr_spec_l1Cur, impl_Job.cells, rz_impl_Job, pr_impl_Job, *]
      rfl) rfl rfl
  · dsimp only at hr
    obtain ⟨rfl, e9⟩ := m2
    have hr_ := Option.some.inj hr; subst hr_
    refine RetF.scal (by
      simp only [c_spec_l1Has, evA, evB, Int.reduceToNat, eq_self, reduceCtorEq, ↓reduceIte, Nat.reduceEqDiff, Nat.reduceAdd, Nat.reduceLT, Nat.reduceLeDiff, Nat.reduceMul, Nat.reduceSub, Nat.reduceBEq, spec_l1Cur.cells, rz_spec_l1Cur, pr_spec_l1Cur, impl_Job.cells, rz_impl_Job, pr_impl_Job, *]
      rfl) rfl rfl

theorem st_spec_l2Order_l0 {cl : Callee} (K_spec_l1In : K_spec_l1In x_spec_l1In (cl n_spec_l1In)) (K_spec_l1Has : K_spec_l1Has x_spec_l1Has (cl n_spec_l1Has)) (n_ : Int) (order_ : (List Int)) (st_ : (Int)) (c_ : Ctl (Int) (Unit ⊕ (Bool))) (hr : x_spec_l2Order_l0 n_ order_ st_ = some c_) (T_ : Tm) (H_ : List Blk) (ng : Nat) (hR_ : R_spec_l2Order_l0 n_ order_ st_ T_ H_) :
    ∃ e_ T1_ H1_ ng1_, gcode (shOf F) cl LL c_spec_l2Order_l0 ⟨maskT (some [0, 1, 5]) T_, H_, ng⟩ = some (e_, ⟨T1_, H1_, ng1_⟩) ∧ TurnOK (R_spec_l2Order_l0 n_ order_) (Q_spec_l2Order_l0 n_ order_) 0 c_ e_ T1_ H1_ := by
  obtain ⟨i_, hst_⟩ : ∃ x, x = st_ := ⟨_, rfl⟩; subst hst_
  obtain ⟨f0_, f1_, f2_, rfl⟩ := hR_
  unfold x_spec_l2Order_l0 at hr
  try dsimp only at hr
  by_cases h5 : i_ < n_
  · rw [if_pos h5] at hr
    have e3 : (i_ < n_) = True := eq_true h5
    clear h5
    obtain ⟨r6, q8, hr⟩ := Option.bind_eq_some_iff.1 hr
    have e7 : ∀ H ng, gcall (shOf F) cl false n_spec_l1Has [.fs (order_.map (cI .i64)), .int .i64 i_] H ng = some (.bool r6, H, ng, .inert) := fun H ng => call_far s_spec_l1Has rfl (K_spec_l1Has _ _ _ q8).ret
    by_cases h11 : r6 = true
    · rw [if_pos h11] at hr
      have e9 : r6 = true := h11
      clear h11
      have hr_ := Option.some.inj hr; subst hr_
      refine turn (by
        simp only [c_spec_l2Order_l0, evA, evB, Int.reduceToNat, eq_self, reduceCtorEq, ↓reduceIte, Nat.reduceEqDiff, Nat.reduceAdd, Nat.reduceLT, Nat.reduceLeDiff, Nat.reduceMul, Nat.reduceSub, Nat.reduceBEq, spec_l1Cur.cells, rz_spec_l1Cur, pr_spec_l1Cur, impl_Job.cells, rz_impl_Job, pr_impl_Job, *]
        rfl) ?_
      exact ⟨rfl, rfl, rfl, rfl, rfl⟩
    · rw [if_neg h11] at hr
      have e10 : r6 = false := Bool.eq_false_iff.2 h11
      clear h11
      have hr_ := Option.some.inj hr; subst hr_
      refine turn (by
        simp only [c_spec_l2Order_l0, evA, evB, Int.reduceToNat, eq_self, reduceCtorEq, ↓reduceIte, Nat.reduceEqDiff, Nat.reduceAdd, Nat.reduceLT, Nat.reduceLeDiff, Nat.reduceMul, Nat.reduceSub, Nat.reduceBEq, spec_l1Cur.cells, rz_spec_l1Cur, pr_spec_l1Cur, impl_Job.cells, rz_impl_Job, pr_impl_Job, *]
        rfl) ?_
      exact ⟨by simp, rfl, rfl⟩
  · rw [if_neg h5] at hr
    have e4 : (i_ < n_) = False := eq_false h5
    clear h5
    have hr_ := Option.some.inj hr; subst hr_
    refine turn (by
      simp only [c_spec_l2Order_l0, evA, evB, Int.reduceToNat, eq_self, reduceCtorEq, ↓reduceIte, Nat.reduceEqDiff, Nat.reduceAdd, Nat.reduceLT, Nat.reduceLeDiff, Nat.reduceMul, Nat.reduceSub, Nat.reduceBEq, spec_l1Cur.cells, rz_spec_l1Cur, pr_spec_l1Cur, impl_Job.cells, rz_impl_Job, pr_impl_Job, *]
      rfl) ?_
    exact ⟨by simp, rfl, rfl⟩

theorem lp_spec_l2Order_l0 {cl : Callee} (K_spec_l1In : K_spec_l1In x_spec_l1In (cl n_spec_l1In)) (K_spec_l1Has : K_spec_l1Has x_spec_l1Has (cl n_spec_l1Has)) (n_ : Int) (order_ : (List Int)) (st_ : (Int)) (p_ : (Unit ⊕ (Bool))) (hr : loopS (x_spec_l2Order_l0 n_ order_) LL st_ = some p_) (T_ : Tm) (H_ : List Blk) (ng : Nat) (hR_ : R_spec_l2Order_l0 n_ order_ st_ T_ H_) (hn_ : H_.length = 0) :
    ∃ e_ T1_ H1_ ng1_, gcode (shOf F) cl LL (.loop false (some [0, 1, 5]) c_spec_l2Order_l0) ⟨T_, H_, ng⟩ = some (e_, ⟨T1_, H1_, ng1_⟩) ∧ Q_spec_l2Order_l0 n_ order_ p_ e_ T1_ H1_ :=
  sim_loop (n0 := 0) (R_spec_l2Order_l0 n_ order_) (Q_spec_l2Order_l0 n_ order_) (st_spec_l2Order_l0 K_spec_l1In K_spec_l1Has n_ order_) st_ p_ hr T_ H_ ng hR_ hn_

theorem ok_spec_l2Order {cl : Callee} (K_spec_l1In : K_spec_l1In x_spec_l1In (cl n_spec_l1In)) (K_spec_l1Has : K_spec_l1Has x_spec_l1Has (cl n_spec_l1Has)) : K_spec_l2Order (x_spec_l2Order) (gbody F LL cl c_spec_l2Order) := by
  intro n_ order_ r hr
  unfold x_spec_l2Order at hr
  try dsimp only at hr
  obtain ⟨r1, q3, hr⟩ := Option.bind_eq_some_iff.1 hr
  have e2 : ∀ H ng, gcall (shOf F) cl false n_spec_l1In [.int .i64 n_, .int .i64 0, .int .i64 8] H ng = some (.bool r1, H, ng, .inert) := fun H ng => call_far s_spec_l1In rfl (K_spec_l1In _ _ _ _ q3).ret
  by_cases h6 : r1 = true
  · rw [if_pos h6] at hr
    have e4 : r1 = true := h6
    clear h6
    by_cases h11 : (order_.length : Int) = n_
    · rw [if_pos h11] at hr
      have e9 : ((order_.length : Int) = n_) = True := eq_true h11
      clear h11
      obtain ⟨p12, q21, hr⟩ := Option.bind_eq_some_iff.1 hr
      obtain ⟨ex18, T15, H16, ng17, l14, m13⟩ := lp_spec_l2Order_l0 (cl := cl) K_spec_l1In K_spec_l1Has  n_ order_ _ _ q21 [(0, .int .i64 n_), (1, .fs (order_.map (cI .i64))), (5, .int .i64 0)] [] 0 (show R_spec_l2Order_l0 n_ order_ 0 [(0, .int .i64 n_), (1, .fs (order_.map (cI .i64))), (5, .int .i64 0)] [] from ⟨rfl, rfl, rfl, rfl⟩) rfl
      rcases p12 with p12 | p12
      · dsimp only at hr
        obtain ⟨rfl, e19⟩ := m13
        subst e19
        have hr_ := Option.some.inj hr; subst hr_
        refine RetF.scal (by
          simp only [c_spec_l2Order, evA, evB, Int.reduceToNat, eq_self, reduceCtorEq, ↓reduceIte, Nat.reduceEqDiff, Nat.reduceAdd, Nat.reduceLT, Nat.reduceLeDiff, Nat.reduceMul, Nat.reduceSub, Nat.reduceBEq, spec_l1Cur.cells, rz_spec_l1Cur, pr_spec_l1Cur, impl_Job.cells, rz_impl_Job, pr_impl_Job, *]
          rfl) rfl rfl
      · dsimp only at hr
        obtain ⟨rfl, e20⟩ := m13
        have hr_ := Option.some.inj hr; subst hr_
        refine RetF.scal (by
          simp only [c_spec_l2Order, evA, evB, Int.reduceToNat, eq_self, reduceCtorEq, ↓reduceIte, Nat.reduceEqDiff, Nat.reduceAdd, Nat.reduceLT, Nat.reduceLeDiff, Nat.reduceMul, Nat.reduceSub, Nat.reduceBEq, spec_l1Cur.cells, rz_spec_l1Cur, pr_spec_l1Cur, impl_Job.cells, rz_impl_Job, pr_impl_Job, *]
          rfl) rfl rfl
    · rw [if_neg h11] at hr
      have e10 : ((order_.length : Int) = n_) = False := eq_false h11
      clear h11
      have hr_ := Option.some.inj hr; subst hr_
      refine RetF.scal (by
        simp only [c_spec_l2Order, evA, evB, Int.reduceToNat, eq_self, reduceCtorEq, ↓reduceIte, Nat.reduceEqDiff, Nat.reduceAdd, Nat.reduceLT, Nat.reduceLeDiff, Nat.reduceMul, Nat.reduceSub, Nat.reduceBEq, spec_l1Cur.cells, rz_spec_l1Cur, pr_spec_l1Cur, impl_Job.cells, rz_impl_Job, pr_impl_Job, *]
        rfl) rfl rfl
  · rw [if_neg h6] at hr
    have e5 : r1 = false := Bool.eq_false_iff.2 h6
    clear h6
    have hr_ := Option.some.inj hr; subst hr_
    refine RetF.scal (by
      simp only [c_spec_l2Order, evA, evB, Int.reduceToNat, eq_self, reduceCtorEq, ↓reduceIte, Nat.reduceEqDiff, Nat.reduceAdd, Nat.reduceLT, Nat.reduceLeDiff, Nat.reduceMul, Nat.reduceSub, Nat.reduceBEq, spec_l1Cur.cells, rz_spec_l1Cur, pr_spec_l1Cur, impl_Job.cells, rz_impl_Job, pr_impl_Job, *]
      rfl) rfl rfl

theorem ok_spec_l3Both {cl : Callee} (K_spec_l3Ruled : K_spec_l3Ruled x_spec_l3Ruled (cl n_spec_l3Ruled)) (K_spec_l2Order : K_spec_l2Order x_spec_l2Order (cl n_spec_l2Order)) : K_spec_l3Both (x_spec_l3Both) (gbody F LL cl c_spec_l3Both) := by
  intro jobs_ order_ objective_ r hr
  unfold x_spec_l3Both at hr
  try dsimp only at hr
  obtain ⟨r1, q3, hr⟩ := Option.bind_eq_some_iff.1 hr
  have e2 : ∀ H ng, gcall (shOf F) cl false n_spec_l3Ruled [.fs (jobs_.map impl_Job.cells), .int .i64 objective_] H ng = some (.bool r1, H, ng, .inert) := fun H ng => call_far s_spec_l3Ruled rfl (K_spec_l3Ruled _ _ _ q3).ret
  by_cases h6 : r1 = true
  · rw [if_pos h6] at hr
    have e4 : r1 = true := h6
    clear h6
    obtain ⟨r7, q9, hr⟩ := Option.bind_eq_some_iff.1 hr
    have e8 : ∀ H ng, gcall (shOf F) cl false n_spec_l2Order [.int .i64 (jobs_.length : Int), .fs (order_.map (cI .i64))] H ng = some (.bool r7, H, ng, .inert) := fun H ng => call_far s_spec_l2Order rfl (K_spec_l2Order _ _ _ q9).ret
    have hr_ := Option.some.inj hr; subst hr_
    refine RetF.scal (by
      simp only [c_spec_l3Both, evA, evB, Int.reduceToNat, eq_self, reduceCtorEq, ↓reduceIte, Nat.reduceEqDiff, Nat.reduceAdd, Nat.reduceLT, Nat.reduceLeDiff, Nat.reduceMul, Nat.reduceSub, Nat.reduceBEq, spec_l1Cur.cells, rz_spec_l1Cur, pr_spec_l1Cur, impl_Job.cells, rz_impl_Job, pr_impl_Job, *]
      rfl) rfl rfl
  · rw [if_neg h6] at hr
    have e5 : r1 = false := Bool.eq_false_iff.2 h6
    clear h6
    have hr_ := Option.some.inj hr; subst hr_
    refine RetF.scal (by
      simp only [c_spec_l3Both, evA, evB, Int.reduceToNat, eq_self, reduceCtorEq, ↓reduceIte, Nat.reduceEqDiff, Nat.reduceAdd, Nat.reduceLT, Nat.reduceLeDiff, Nat.reduceMul, Nat.reduceSub, Nat.reduceBEq, spec_l1Cur.cells, rz_spec_l1Cur, pr_spec_l1Cur, impl_Job.cells, rz_impl_Job, pr_impl_Job, *]
      rfl) rfl rfl

theorem st_spec_l3Wrong_l0 {cl : Callee} (K_spec_l3Gap : K_spec_l3Gap x_spec_l3Gap (cl n_spec_l3Gap)) (jobs_ : (List impl_Job)) (order_ : (List Int)) (objective_ : Int) (st_ : (Int)) (c_ : Ctl (Int) (Unit ⊕ (Int))) (hr : x_spec_l3Wrong_l0 jobs_ order_ objective_ st_ = some c_) (T_ : Tm) (H_ : List Blk) (ng : Nat) (hR_ : R_spec_l3Wrong_l0 jobs_ order_ objective_ st_ T_ H_) :
    ∃ e_ T1_ H1_ ng1_, gcode (shOf F) cl LL c_spec_l3Wrong_l0 ⟨maskT (some [0, 1, 2, 7]) T_, H_, ng⟩ = some (e_, ⟨T1_, H1_, ng1_⟩) ∧ TurnOK (R_spec_l3Wrong_l0 jobs_ order_ objective_) (Q_spec_l3Wrong_l0 jobs_ order_ objective_) 0 c_ e_ T1_ H1_ := by
  obtain ⟨i_, hst_⟩ : ∃ x, x = st_ := ⟨_, rfl⟩; subst hst_
  obtain ⟨f0_, f1_, f2_, f3_, rfl⟩ := hR_
  unfold x_spec_l3Wrong_l0 at hr
  try dsimp only at hr
  by_cases h5 : (addK .i64 i_ 1) < (order_.length : Int)
  · rw [if_pos h5] at hr
    have e3 : ((addK .i64 i_ 1) < (order_.length : Int)) = True := eq_true h5
    clear h5
    obtain ⟨y6, q10, hr⟩ := Option.bind_eq_some_iff.1 hr
    obtain ⟨e7, e8, e9⟩ := ix_some q10
    try simp only [Int.toNat_natCast, Int.toNat_zero, Int.reduceToNat] at e8
    clear q10
    obtain ⟨y11, q15, hr⟩ := Option.bind_eq_some_iff.1 hr
    obtain ⟨e12, e13, e14⟩ := ix_some q15
    try simp only [Int.toNat_natCast, Int.toNat_zero, Int.reduceToNat] at e13
    clear q15
    obtain ⟨r16, q18, hr⟩ := Option.bind_eq_some_iff.1 hr
    have e17 : ∀ H ng, gcall (shOf F) cl false n_spec_l3Gap [.fs (jobs_.map impl_Job.cells), .int .i64 objective_, .int .i64 y6, .int .i64 y11] H ng = some (.int .i64 r16, H, ng, .inert) := fun H ng => call_far s_spec_l3Gap rfl (K_spec_l3Gap _ _ _ _ _ q18).ret
    by_cases h23 : 0 < r16
    · rw [if_pos h23] at hr
      have e21 : (0 < r16) = True := eq_true h23
      clear h23
      have hr_ := Option.some.inj hr; subst hr_
      refine turn (by
        simp only [c_spec_l3Wrong_l0, evA, evB, Int.reduceToNat, eq_self, reduceCtorEq, ↓reduceIte, Nat.reduceEqDiff, Nat.reduceAdd, Nat.reduceLT, Nat.reduceLeDiff, Nat.reduceMul, Nat.reduceSub, Nat.reduceBEq, spec_l1Cur.cells, rz_spec_l1Cur, pr_spec_l1Cur, impl_Job.cells, rz_impl_Job, pr_impl_Job, *]
        rfl) ?_
      exact ⟨by simp, rfl, rfl⟩
    · rw [if_neg h23] at hr
      have e22 : (0 < r16) = False := eq_false h23
      clear h23
      have hr_ := Option.some.inj hr; subst hr_
      refine turn (by
        simp only [c_spec_l3Wrong_l0, evA, evB, Int.reduceToNat, eq_self, reduceCtorEq, ↓reduceIte, Nat.reduceEqDiff, Nat.reduceAdd, Nat.reduceLT, Nat.reduceLeDiff, Nat.reduceMul, Nat.reduceSub, Nat.reduceBEq, spec_l1Cur.cells, rz_spec_l1Cur, pr_spec_l1Cur, impl_Job.cells, rz_impl_Job, pr_impl_Job, *]
        rfl) ?_
      exact ⟨rfl, rfl, rfl, rfl, rfl, rfl⟩
  · rw [if_neg h5] at hr
    have e4 : ((addK .i64 i_ 1) < (order_.length : Int)) = False := eq_false h5
    clear h5
    have hr_ := Option.some.inj hr; subst hr_
    refine turn (by
      simp only [c_spec_l3Wrong_l0, evA, evB, Int.reduceToNat, eq_self, reduceCtorEq, ↓reduceIte, Nat.reduceEqDiff, Nat.reduceAdd, Nat.reduceLT, Nat.reduceLeDiff, Nat.reduceMul, Nat.reduceSub, Nat.reduceBEq, spec_l1Cur.cells, rz_spec_l1Cur, pr_spec_l1Cur, impl_Job.cells, rz_impl_Job, pr_impl_Job, *]
      rfl) ?_
    exact ⟨by simp, rfl, rfl⟩

theorem lp_spec_l3Wrong_l0 {cl : Callee} (K_spec_l3Gap : K_spec_l3Gap x_spec_l3Gap (cl n_spec_l3Gap)) (jobs_ : (List impl_Job)) (order_ : (List Int)) (objective_ : Int) (st_ : (Int)) (p_ : (Unit ⊕ (Int))) (hr : loopS (x_spec_l3Wrong_l0 jobs_ order_ objective_) LL st_ = some p_) (T_ : Tm) (H_ : List Blk) (ng : Nat) (hR_ : R_spec_l3Wrong_l0 jobs_ order_ objective_ st_ T_ H_) (hn_ : H_.length = 0) :
    ∃ e_ T1_ H1_ ng1_, gcode (shOf F) cl LL (.loop false (some [0, 1, 2, 7]) c_spec_l3Wrong_l0) ⟨T_, H_, ng⟩ = some (e_, ⟨T1_, H1_, ng1_⟩) ∧ Q_spec_l3Wrong_l0 jobs_ order_ objective_ p_ e_ T1_ H1_ :=
  sim_loop (n0 := 0) (R_spec_l3Wrong_l0 jobs_ order_ objective_) (Q_spec_l3Wrong_l0 jobs_ order_ objective_) (st_spec_l3Wrong_l0 K_spec_l3Gap jobs_ order_ objective_) st_ p_ hr T_ H_ ng hR_ hn_

theorem ok_spec_l3Wrong {cl : Callee} (K_spec_l3Gap : K_spec_l3Gap x_spec_l3Gap (cl n_spec_l3Gap)) : K_spec_l3Wrong (x_spec_l3Wrong) (gbody F LL cl c_spec_l3Wrong) := by
  intro jobs_ order_ objective_ r hr
  unfold x_spec_l3Wrong at hr
  try dsimp only at hr
  obtain ⟨p1, q10, hr⟩ := Option.bind_eq_some_iff.1 hr
  obtain ⟨ex7, T4, H5, ng6, l3, m2⟩ := lp_spec_l3Wrong_l0 (cl := cl) K_spec_l3Gap  jobs_ order_ objective_ _ _ q10 [(0, .fs (jobs_.map impl_Job.cells)), (1, .fs (order_.map (cI .i64))), (2, .int .i64 objective_), (7, .int .i64 0)] [] 0 (show R_spec_l3Wrong_l0 jobs_ order_ objective_ 0 [(0, .fs (jobs_.map impl_Job.cells)), (1, .fs (order_.map (cI .i64))), (2, .int .i64 objective_), (7, .int .i64 0)] [] from ⟨rfl, rfl, rfl, rfl, rfl⟩) rfl
  rcases p1 with p1 | p1
  · dsimp only at hr
    obtain ⟨rfl, e8⟩ := m2
    subst e8
    have hr_ := Option.some.inj hr; subst hr_
    refine RetF.scal (by
      simp only [c_spec_l3Wrong, evA, evB, Int.reduceToNat, eq_self, reduceCtorEq, ↓reduceIte, Nat.reduceEqDiff, Nat.reduceAdd, Nat.reduceLT, Nat.reduceLeDiff, Nat.reduceMul, Nat.reduceSub, Nat.reduceBEq, spec_l1Cur.cells, rz_spec_l1Cur, pr_spec_l1Cur, impl_Job.cells, rz_impl_Job, pr_impl_Job, *]
      rfl) rfl rfl
  · dsimp only at hr
    obtain ⟨rfl, e9⟩ := m2
    have hr_ := Option.some.inj hr; subst hr_
    refine RetF.scal (by
      simp only [c_spec_l3Wrong, evA, evB, Int.reduceToNat, eq_self, reduceCtorEq, ↓reduceIte, Nat.reduceEqDiff, Nat.reduceAdd, Nat.reduceLT, Nat.reduceLeDiff, Nat.reduceMul, Nat.reduceSub, Nat.reduceBEq, spec_l1Cur.cells, rz_spec_l1Cur, pr_spec_l1Cur, impl_Job.cells, rz_impl_Job, pr_impl_Job, *]
      rfl) rfl rfl

theorem ok_spec_IsRuledOrder {cl : Callee} (K_spec_l3Both : K_spec_l3Both x_spec_l3Both (cl n_spec_l3Both)) (K_spec_l3Wrong : K_spec_l3Wrong x_spec_l3Wrong (cl n_spec_l3Wrong)) : K_spec_IsRuledOrder (x_spec_IsRuledOrder) (gbody F LL cl c_spec_IsRuledOrder) := by
  intro jobs_ order_ objective_ r hr
  unfold x_spec_IsRuledOrder at hr
  try dsimp only at hr
  obtain ⟨r1, q3, hr⟩ := Option.bind_eq_some_iff.1 hr
  have e2 : ∀ H ng, gcall (shOf F) cl false n_spec_l3Both [.fs (jobs_.map impl_Job.cells), .fs (order_.map (cI .i64)), .int .i64 objective_] H ng = some (.bool r1, H, ng, .inert) := fun H ng => call_far s_spec_l3Both rfl (K_spec_l3Both _ _ _ _ q3).ret
  by_cases h6 : r1 = true
  · rw [if_pos h6] at hr
    have e4 : r1 = true := h6
    clear h6
    obtain ⟨r7, q9, hr⟩ := Option.bind_eq_some_iff.1 hr
    have e8 : ∀ H ng, gcall (shOf F) cl false n_spec_l3Wrong [.fs (jobs_.map impl_Job.cells), .fs (order_.map (cI .i64)), .int .i64 objective_] H ng = some (.int .i64 r7, H, ng, .inert) := fun H ng => call_far s_spec_l3Wrong rfl (K_spec_l3Wrong _ _ _ _ q9).ret
    have hr_ := Option.some.inj hr; subst hr_
    refine RetF.scal (by
      simp only [c_spec_IsRuledOrder, evA, evB, Int.reduceToNat, eq_self, reduceCtorEq, ↓reduceIte, Nat.reduceEqDiff, Nat.reduceAdd, Nat.reduceLT, Nat.reduceLeDiff, Nat.reduceMul, Nat.reduceSub, Nat.reduceBEq, spec_l1Cur.cells, rz_spec_l1Cur, pr_spec_l1Cur, impl_Job.cells, rz_impl_Job, pr_impl_Job, *]
      rfl) rfl rfl
  · rw [if_neg h6] at hr
    have e5 : r1 = false := Bool.eq_false_iff.2 h6
    clear h6
    have hr_ := Option.some.inj hr; subst hr_
    refine RetF.scal (by
      simp only [c_spec_IsRuledOrder, evA, evB, Int.reduceToNat, eq_self, reduceCtorEq, ↓reduceIte, Nat.reduceEqDiff, Nat.reduceAdd, Nat.reduceLT, Nat.reduceLeDiff, Nat.reduceMul, Nat.reduceSub, Nat.reduceBEq, spec_l1Cur.cells, rz_spec_l1Cur, pr_spec_l1Cur, impl_Job.cells, rz_impl_Job, pr_impl_Job, *]
      rfl) rfl rfl

theorem st_impl_numbersTo_l0 {cl : Callee} (n_ : Int) (st_ : ((List Int) × Int)) (c_ : Ctl ((List Int) × Int) ((List Int))) (hr : x_impl_numbersTo_l0 n_ st_ = some c_) (T_ : Tm) (H_ : List Blk) (ng : Nat) (hR_ : R_impl_numbersTo_l0 n_ st_ T_ H_) :
    ∃ e_ T1_ H1_ ng1_, gcode (shOf F) cl LL c_impl_numbersTo_l0 ⟨maskT (some [0, 3, 4]) T_, H_, ng⟩ = some (e_, ⟨T1_, H1_, ng1_⟩) ∧ TurnOK (R_impl_numbersTo_l0 n_) (Q_impl_numbersTo_l0 n_) 2 c_ e_ T1_ H1_ := by
  obtain ⟨out_, i_⟩ := st_
  obtain ⟨b0, g1, f0_, f1_, f2_, rfl⟩ := hR_
  unfold x_impl_numbersTo_l0 at hr
  try dsimp only at hr
  by_cases h5 : i_ < n_
  · rw [if_pos h5] at hr
    have e3 : (i_ < n_) = True := eq_true h5
    clear h5
    obtain ⟨l6, q14, hr⟩ := Option.bind_eq_some_iff.1 hr
    obtain ⟨e7, e8, e9, e10⟩ := app_some q14
    try simp only [List.length_cons, List.length_nil, Nat.zero_add, Nat.reduceAdd] at e7 e8 e10
    have e11 : (out_.map (cI .i64)) ++ [[.int .i64 i_]] = l6.map (cI .i64) := by rw [← e9, List.map_append] <;> rfl
    have e12 := e7
    have e13 := e8
    rw [e10] at e12 e13
    clear e9 q14
    have hr_ := Option.some.inj hr; subst hr_
    refine turn (by
      simp only [c_impl_numbersTo_l0, evA, evB, Int.reduceToNat, eq_self, reduceCtorEq, ↓reduceIte, Nat.reduceEqDiff, Nat.reduceAdd, Nat.reduceLT, Nat.reduceLeDiff, Nat.reduceMul, Nat.reduceSub, Nat.reduceBEq, spec_l1Cur.cells, rz_spec_l1Cur, pr_spec_l1Cur, impl_Job.cells, rz_impl_Job, pr_impl_Job, *]
      rfl) ?_
    exact ⟨rfl, _, _, rfl, rfl, rfl, rfl⟩
  · rw [if_neg h5] at hr
    have e4 : (i_ < n_) = False := eq_false h5
    clear h5
    have hr_ := Option.some.inj hr; subst hr_
    refine turn (by
      simp only [c_impl_numbersTo_l0, evA, evB, Int.reduceToNat, eq_self, reduceCtorEq, ↓reduceIte, Nat.reduceEqDiff, Nat.reduceAdd, Nat.reduceLT, Nat.reduceLeDiff, Nat.reduceMul, Nat.reduceSub, Nat.reduceBEq, spec_l1Cur.cells, rz_spec_l1Cur, pr_spec_l1Cur, impl_Job.cells, rz_impl_Job, pr_impl_Job, *]
      rfl) ?_
    exact ⟨by simp, rfl, _, _, rfl, rfl⟩

theorem lp_impl_numbersTo_l0 {cl : Callee} (n_ : Int) (st_ : ((List Int) × Int)) (p_ : ((List Int))) (hr : loopS (x_impl_numbersTo_l0 n_) LL st_ = some p_) (T_ : Tm) (H_ : List Blk) (ng : Nat) (hR_ : R_impl_numbersTo_l0 n_ st_ T_ H_) (hn_ : H_.length = 2) :
    ∃ e_ T1_ H1_ ng1_, gcode (shOf F) cl LL (.loop false (some [0, 3, 4]) c_impl_numbersTo_l0) ⟨T_, H_, ng⟩ = some (e_, ⟨T1_, H1_, ng1_⟩) ∧ Q_impl_numbersTo_l0 n_ p_ e_ T1_ H1_ :=
  sim_loop (n0 := 2) (R_impl_numbersTo_l0 n_) (Q_impl_numbersTo_l0 n_) (st_impl_numbersTo_l0 n_) st_ p_ hr T_ H_ ng hR_ hn_

theorem ok_impl_numbersTo {cl : Callee} : K_impl_numbersTo (x_impl_numbersTo) (gbody F LL cl c_impl_numbersTo) := by
  intro n_ r hr
  unfold x_impl_numbersTo at hr
  try dsimp only at hr
  obtain ⟨p1, q12, hr⟩ := Option.bind_eq_some_iff.1 hr
  obtain ⟨ex7, T4, H5, ng6, l3, m2⟩ := lp_impl_numbersTo_l0 (cl := cl)  n_ _ _ q12 [(0, .int .i64 n_), (3, .os 1 1 1 0 0), (4, .int .i64 0)] [(Blk.mk 0 false 1 []), (Blk.mk 1 false 1 [])] 2 (show R_impl_numbersTo_l0 n_ (([] : List Int), 0) [(0, .int .i64 n_), (3, .os 1 1 1 0 0), (4, .int .i64 0)] [(Blk.mk 0 false 1 []), (Blk.mk 1 false 1 [])] from ⟨_, _, rfl, rfl, rfl, rfl⟩) rfl
  obtain ⟨rfl, b8, g9, e10, e11⟩ := m2
  subst e11
  have hr_ := Option.some.inj hr; subst hr_
  refine ⟨1, g9, [b8, (Blk.mk g9 false 1 (p1.map (cI .i64)))], ng6, ?_, by simp [hget, hp], sc_cI _ _⟩
  simp only [c_impl_numbersTo, evA, evB, Int.reduceToNat, eq_self, reduceCtorEq, ↓reduceIte, Nat.reduceEqDiff, Nat.reduceAdd, Nat.reduceLT, Nat.reduceLeDiff, Nat.reduceMul, Nat.reduceSub, Nat.reduceBEq, spec_l1Cur.cells, rz_spec_l1Cur, pr_spec_l1Cur, impl_Job.cells, rz_impl_Job, pr_impl_Job, *]

end Gh
