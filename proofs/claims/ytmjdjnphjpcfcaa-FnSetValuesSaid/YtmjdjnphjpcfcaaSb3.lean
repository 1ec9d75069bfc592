/- The ghost answers as the shallow functions do, part 3. Written by program. -/
import Derived.Test.YtmjdjnphjpcfcaaSa
namespace Gh
open Go
set_option linter.unusedSimpArgs false
set_option linter.unusedVariables false
set_option maxRecDepth 100000
set_option maxHeartbeats 20000000

theorem ok_spec_BestValue {cl : Callee} (K_spec_l2Objective : K_spec_l2Objective x_spec_l2Objective (cl n_spec_l2Objective)) (K_spec_l2Good : K_spec_l2Good x_spec_l2Good (cl n_spec_l2Good)) (K_spec_l2Best : K_spec_l2Best x_spec_l2Best (cl n_spec_l2Best)) : K_spec_BestValue (x_spec_BestValue) (gbody F LL cl c_spec_BestValue) := by
  intro jobs_ objective_ r hr
  unfold x_spec_BestValue at hr
  try dsimp only at hr
  obtain ⟨r1, q3, hr⟩ := Option.bind_eq_some_iff.1 hr
  have e2 : ∀ H ng, gcall (shOf F) cl false n_spec_l2Good [.fs (jobs_.map impl_Job.cells)] H ng = some (.bool r1, H, ng, .inert) := fun H ng => call_far s_spec_l2Good rfl (K_spec_l2Good _ _ q3).ret
  by_cases h6 : r1 = true
  · rw [if_pos h6] at hr
    have e4 : r1 = true := h6
    clear h6
    obtain ⟨r7, q9, hr⟩ := Option.bind_eq_some_iff.1 hr
    have e8 : ∀ H ng, gcall (shOf F) cl false n_spec_l2Objective [.int .i64 objective_] H ng = some (.bool r7, H, ng, .inert) := fun H ng => call_far s_spec_l2Objective rfl (K_spec_l2Objective _ _ q9).ret
    by_cases h12 : r7 = true
    · rw [if_pos h12] at hr
      have e10 : r7 = true := h12
      clear h12
      obtain ⟨r13, q15, hr⟩ := Option.bind_eq_some_iff.1 hr
      have e14 : ∀ H ng, gcall (shOf F) cl false n_spec_l2Best [.fs (jobs_.map impl_Job.cells), .int .i64 objective_] H ng = some (.tup [.fs (r13.1.map (cI .i64)), .int .i64 r13.2], H, ng, .inert) := fun H ng => call_far s_spec_l2Best rfl (K_spec_l2Best _ _ _ q15)
      have hr_ := Option.some.inj hr; subst hr_
      refine RetF.scal (by
        simp only [c_spec_BestValue, evA, evB, Int.reduceToNat, eq_self, reduceCtorEq, ↓reduceIte, Nat.reduceEqDiff, Nat.reduceAdd, Nat.reduceLT, Nat.reduceLeDiff, Nat.reduceMul, Nat.reduceSub, Nat.reduceBEq, spec_l1Cur.cells, rz_spec_l1Cur, pr_spec_l1Cur, impl_Job.cells, rz_impl_Job, pr_impl_Job, spec_l2Search.cells, rz_spec_l2Search, pr_spec_l2Search, *]
        rfl) rfl rfl
    · rw [if_neg h12] at hr
      have e11 : r7 = false := Bool.eq_false_iff.2 h12
      clear h12
      have hr_ := Option.some.inj hr; subst hr_
      refine RetF.scal (by
        simp only [c_spec_BestValue, evA, evB, Int.reduceToNat, eq_self, reduceCtorEq, ↓reduceIte, Nat.reduceEqDiff, Nat.reduceAdd, Nat.reduceLT, Nat.reduceLeDiff, Nat.reduceMul, Nat.reduceSub, Nat.reduceBEq, spec_l1Cur.cells, rz_spec_l1Cur, pr_spec_l1Cur, impl_Job.cells, rz_impl_Job, pr_impl_Job, spec_l2Search.cells, rz_spec_l2Search, pr_spec_l2Search, *]
        rfl) rfl rfl
  · rw [if_neg h6] at hr
    have e5 : r1 = false := Bool.eq_false_iff.2 h6
    clear h6
    have hr_ := Option.some.inj hr; subst hr_
    refine RetF.scal (by
      simp only [c_spec_BestValue, evA, evB, Int.reduceToNat, eq_self, reduceCtorEq, ↓reduceIte, Nat.reduceEqDiff, Nat.reduceAdd, Nat.reduceLT, Nat.reduceLeDiff, Nat.reduceMul, Nat.reduceSub, Nat.reduceBEq, spec_l1Cur.cells, rz_spec_l1Cur, pr_spec_l1Cur, impl_Job.cells, rz_impl_Job, pr_impl_Job, spec_l2Search.cells, rz_spec_l2Search, pr_spec_l2Search, *]
      rfl) rfl rfl

theorem ok_laws_rBest {cl : Callee} (K_impl_BestValue : K_impl_BestValue x_impl_BestValue (cl n_impl_BestValue)) (K_spec_BestValue : K_spec_BestValue x_spec_BestValue (cl n_spec_BestValue)) : K_laws_rBest (x_laws_rBest) (gbody F LL cl c_laws_rBest) := by
  intro jobs_ objective_ r hr
  unfold x_laws_rBest at hr
  try dsimp only at hr
  obtain ⟨r1, q3, hr⟩ := Option.bind_eq_some_iff.1 hr
  have e2 : ∀ H ng, gcall (shOf F) cl false n_impl_BestValue [.fs (jobs_.map impl_Job.cells), .int .i64 objective_] H ng = some (.tup [.int .i64 r1.1, .bool r1.2], H, ng, .inert) := fun H ng => call_far s_impl_BestValue rfl (K_impl_BestValue _ _ _ q3).ret
  obtain ⟨r4, q6, hr⟩ := Option.bind_eq_some_iff.1 hr
  have e5 : ∀ H ng, gcall (shOf F) cl false n_spec_BestValue [.fs (jobs_.map impl_Job.cells), .int .i64 objective_] H ng = some (.tup [.int .i64 r4.1, .bool r4.2], H, ng, .inert) := fun H ng => call_far s_spec_BestValue rfl (K_spec_BestValue _ _ _ q6).ret
  by_cases h9 : r1.2 = r4.2
  · rw [if_pos h9] at hr
    have e7 : (r1.2 == r4.2) = true := beq_iff_eq.2 h9
    clear h9
    have hr_ := Option.some.inj hr; subst hr_
    refine RetF.scal (by
      simp only [c_laws_rBest, evA, evB, Int.reduceToNat, eq_self, reduceCtorEq, ↓reduceIte, Nat.reduceEqDiff, Nat.reduceAdd, Nat.reduceLT, Nat.reduceLeDiff, Nat.reduceMul, Nat.reduceSub, Nat.reduceBEq, spec_l1Cur.cells, rz_spec_l1Cur, pr_spec_l1Cur, impl_Job.cells, rz_impl_Job, pr_impl_Job, spec_l2Search.cells, rz_spec_l2Search, pr_spec_l2Search, *]
      rfl) rfl rfl
  · rw [if_neg h9] at hr
    have e8 : (r1.2 == r4.2) = false := beq_eq_false_iff_ne.2 h9
    clear h9
    have hr_ := Option.some.inj hr; subst hr_
    refine RetF.scal (by
      simp only [c_laws_rBest, evA, evB, Int.reduceToNat, eq_self, reduceCtorEq, ↓reduceIte, Nat.reduceEqDiff, Nat.reduceAdd, Nat.reduceLT, Nat.reduceLeDiff, Nat.reduceMul, Nat.reduceSub, Nat.reduceBEq, spec_l1Cur.cells, rz_spec_l1Cur, pr_spec_l1Cur, impl_Job.cells, rz_impl_Job, pr_impl_Job, spec_l2Search.cells, rz_spec_l2Search, pr_spec_l2Search, *]
      rfl) rfl rfl

theorem ok_impl_isNumber {cl : Callee} (K_impl_within : K_impl_within x_impl_within (cl n_impl_within)) : K_impl_isNumber (x_impl_isNumber) (gbody F LL cl c_impl_isNumber) := by
  intro i_ n_ r hr
  unfold x_impl_isNumber at hr
  try dsimp only at hr
  obtain ⟨r1, q3, hr⟩ := Option.bind_eq_some_iff.1 hr
  have e2 : ∀ H ng, gcall (shOf F) cl false n_impl_within [.int .i64 i_, .int .i64 0, .int .i64 (subK .i64 n_ 1)] H ng = some (.bool r1, H, ng, .inert) := fun H ng => call_far s_impl_within rfl (K_impl_within _ _ _ _ q3).ret
  have hr_ := Option.some.inj hr; subst hr_
  refine RetF.scal (by
    simp only [c_impl_isNumber, evA, evB, Int.reduceToNat, eq_self, reduceCtorEq, ↓reduceIte, Nat.reduceEqDiff, Nat.reduceAdd, Nat.reduceLT, Nat.reduceLeDiff, Nat.reduceMul, Nat.reduceSub, Nat.reduceBEq, spec_l1Cur.cells, rz_spec_l1Cur, pr_spec_l1Cur, impl_Job.cells, rz_impl_Job, pr_impl_Job, spec_l2Search.cells, rz_spec_l2Search, pr_spec_l2Search, *]
    rfl) rfl rfl

theorem st_impl_has_l0 {cl : Callee} (n_ : Int) (v : (List Int)) (vz1 : Int) (st_ : (Int)) (c_ : Ctl (Int) (Unit ⊕ (Bool))) (hr : x_impl_has_l0 n_ v vz1 st_ = some c_) (T_ : Tm) (H_ : List Blk) (ng : Nat) (hR_ : R_impl_has_l0 n_ v vz1 st_ T_ H_) :
    ∃ e_ T1_ H1_ ng1_, gcode (shOf F) cl LL c_impl_has_l0 ⟨maskT (some [1, 7, 8, 9]) T_, H_, ng⟩ = some (e_, ⟨T1_, H1_, ng1_⟩) ∧ TurnOK (R_impl_has_l0 n_ v vz1) (Q_impl_has_l0 n_ v vz1) 0 c_ e_ T1_ H1_ := by
  obtain ⟨vz2, hst_⟩ : ∃ x, x = st_ := ⟨_, rfl⟩; subst hst_
  obtain ⟨f0_, f1_, f2_, f3_, rfl⟩ := hR_
  unfold x_impl_has_l0 at hr
  try dsimp only at hr
  by_cases h5 : vz2 < vz1
  · rw [if_pos h5] at hr
    have e3 : (vz2 < vz1) = True := eq_true h5
    clear h5
    obtain ⟨y6, q10, hr⟩ := Option.bind_eq_some_iff.1 hr
    obtain ⟨e7, e8, e9⟩ := ix_some q10
    try simp only [Int.toNat_natCast, Int.toNat_zero, Int.reduceToNat] at e8
    clear q10
    by_cases h15 : y6 = n_
    · rw [if_pos h15] at hr
      have e13 : (y6 = n_) = True := eq_true h15
      clear h15
      have hr_ := Option.some.inj hr; subst hr_
      refine turn (by
        simp only [c_impl_has_l0, evA, evB, Int.reduceToNat, eq_self, reduceCtorEq, ↓reduceIte, Nat.reduceEqDiff, Nat.reduceAdd, Nat.reduceLT, Nat.reduceLeDiff, Nat.reduceMul, Nat.reduceSub, Nat.reduceBEq, spec_l1Cur.cells, rz_spec_l1Cur, pr_spec_l1Cur, impl_Job.cells, rz_impl_Job, pr_impl_Job, spec_l2Search.cells, rz_spec_l2Search, pr_spec_l2Search, *]
        rfl) ?_
      exact ⟨by simp, rfl, (by first | rfl | assumption)⟩
    · rw [if_neg h15] at hr
      have e14 : (y6 = n_) = False := eq_false h15
      clear h15
      have hr_ := Option.some.inj hr; subst hr_
      refine turn (by
        simp only [c_impl_has_l0, evA, evB, Int.reduceToNat, eq_self, reduceCtorEq, ↓reduceIte, Nat.reduceEqDiff, Nat.reduceAdd, Nat.reduceLT, Nat.reduceLeDiff, Nat.reduceMul, Nat.reduceSub, Nat.reduceBEq, spec_l1Cur.cells, rz_spec_l1Cur, pr_spec_l1Cur, impl_Job.cells, rz_impl_Job, pr_impl_Job, spec_l2Search.cells, rz_spec_l2Search, pr_spec_l2Search, *]
        rfl) ?_
      exact ⟨rfl, rfl, rfl, rfl, rfl, rfl⟩
  · rw [if_neg h5] at hr
    have e4 : (vz2 < vz1) = False := eq_false h5
    clear h5
    have hr_ := Option.some.inj hr; subst hr_
    refine turn (by
      simp only [c_impl_has_l0, evA, evB, Int.reduceToNat, eq_self, reduceCtorEq, ↓reduceIte, Nat.reduceEqDiff, Nat.reduceAdd, Nat.reduceLT, Nat.reduceLeDiff, Nat.reduceMul, Nat.reduceSub, Nat.reduceBEq, spec_l1Cur.cells, rz_spec_l1Cur, pr_spec_l1Cur, impl_Job.cells, rz_impl_Job, pr_impl_Job, spec_l2Search.cells, rz_spec_l2Search, pr_spec_l2Search, *]
      rfl) ?_
    exact ⟨by simp, rfl, rfl⟩

theorem lp_impl_has_l0 {cl : Callee} (n_ : Int) (v : (List Int)) (vz1 : Int) (st_ : (Int)) (p_ : (Unit ⊕ (Bool))) (hr : loopS (x_impl_has_l0 n_ v vz1) LL st_ = some p_) (T_ : Tm) (H_ : List Blk) (ng : Nat) (hR_ : R_impl_has_l0 n_ v vz1 st_ T_ H_) (hn_ : H_.length = 0) :
    ∃ e_ T1_ H1_ ng1_, gcode (shOf F) cl LL (.loop false (some [1, 7, 8, 9]) c_impl_has_l0) ⟨T_, H_, ng⟩ = some (e_, ⟨T1_, H1_, ng1_⟩) ∧ Q_impl_has_l0 n_ v vz1 p_ e_ T1_ H1_ :=
  sim_loop (n0 := 0) (R_impl_has_l0 n_ v vz1) (Q_impl_has_l0 n_ v vz1) (st_impl_has_l0 n_ v vz1) st_ p_ hr T_ H_ ng hR_ hn_

theorem ok_impl_has {cl : Callee} : K_impl_has (x_impl_has) (gbody F LL cl c_impl_has) := by
  intro list_ n_ r hr
  unfold x_impl_has at hr
  try dsimp only at hr
  obtain ⟨p1, q10, hr⟩ := Option.bind_eq_some_iff.1 hr
  obtain ⟨ex7, T4, H5, ng6, l3, m2⟩ := lp_impl_has_l0 (cl := cl)  n_ list_ (list_.length : Int) _ _ q10 [(1, .int .i64 n_), (7, .fs (list_.map (cI .i64))), (8, .int .i64 (list_.length : Int)), (9, .int .i64 0)] [] 0 (show R_impl_has_l0 n_ list_ (list_.length : Int) 0 [(1, .int .i64 n_), (7, .fs (list_.map (cI .i64))), (8, .int .i64 (list_.length : Int)), (9, .int .i64 0)] [] from ⟨rfl, rfl, rfl, rfl, rfl⟩) rfl
  rcases p1 with p1 | p1
  · dsimp only at hr
    obtain ⟨rfl, e8⟩ := m2
    subst e8
    have hr_ := Option.some.inj hr; subst hr_
    refine RetF.scal (by
      simp only [c_impl_has, evA, evB, Int.reduceToNat, eq_self, reduceCtorEq, ↓reduceIte, Nat.reduceEqDiff, Nat.reduceAdd, Nat.reduceLT, Nat.reduceLeDiff, Nat.reduceMul, Nat.reduceSub, Nat.reduceBEq, spec_l1Cur.cells, rz_spec_l1Cur, pr_spec_l1Cur, impl_Job.cells, rz_impl_Job, pr_impl_Job, spec_l2Search.cells, rz_spec_l2Search, pr_spec_l2Search, *]
      rfl) rfl rfl
  · dsimp only at hr
    obtain ⟨rfl, e9⟩ := m2
    have hr_ := Option.some.inj hr; subst hr_
    refine RetF.scal (by
      simp only [c_impl_has, evA, evB, Int.reduceToNat, eq_self, reduceCtorEq, ↓reduceIte, Nat.reduceEqDiff, Nat.reduceAdd, Nat.reduceLT, Nat.reduceLeDiff, Nat.reduceMul, Nat.reduceSub, Nat.reduceBEq, spec_l1Cur.cells, rz_spec_l1Cur, pr_spec_l1Cur, impl_Job.cells, rz_impl_Job, pr_impl_Job, spec_l2Search.cells, rz_spec_l2Search, pr_spec_l2Search, *]
      rfl) rfl rfl

theorem st_impl_areDifferent_l0 {cl : Callee} (K_impl_isNumber : K_impl_isNumber x_impl_isNumber (cl n_impl_isNumber)) (K_impl_has : K_impl_has x_impl_has (cl n_impl_has)) (n_ : Int) (list_ : (List Int)) (v : (List Int)) (vz1 : Int) (st_ : (Int)) (c_ : Ctl (Int) (Unit ⊕ (Bool))) (hr : x_impl_areDifferent_l0 n_ list_ v vz1 st_ = some c_) (T_ : Tm) (H_ : List Blk) (ng : Nat) (hR_ : R_impl_areDifferent_l0 n_ list_ v vz1 st_ T_ H_) :
    ∃ e_ T1_ H1_ ng1_, gcode (shOf F) cl LL c_impl_areDifferent_l0 ⟨maskT (some [0, 1, 7, 8, 9]) T_, H_, ng⟩ = some (e_, ⟨T1_, H1_, ng1_⟩) ∧ TurnOK (R_impl_areDifferent_l0 n_ list_ v vz1) (Q_impl_areDifferent_l0 n_ list_ v vz1) 0 c_ e_ T1_ H1_ := by
  obtain ⟨vz2, hst_⟩ : ∃ x, x = st_ := ⟨_, rfl⟩; subst hst_
  obtain ⟨f0_, f1_, f2_, f3_, f4_, rfl⟩ := hR_
  unfold x_impl_areDifferent_l0 at hr
  try dsimp only at hr
  by_cases h5 : vz2 < vz1
  · rw [if_pos h5] at hr
    have e3 : (vz2 < vz1) = True := eq_true h5
    clear h5
    obtain ⟨y6, q10, hr⟩ := Option.bind_eq_some_iff.1 hr
    obtain ⟨e7, e8, e9⟩ := ix_some q10
    try simp only [Int.toNat_natCast, Int.toNat_zero, Int.reduceToNat] at e8
    clear q10
    obtain ⟨r11, q13, hr⟩ := Option.bind_eq_some_iff.1 hr
    have e12 : ∀ H ng, gcall (shOf F) cl false n_impl_isNumber [.int .i64 y6, .int .i64 n_] H ng = some (.bool r11, H, ng, .inert) := fun H ng => call_far s_impl_isNumber rfl (K_impl_isNumber _ _ _ q13).ret
    by_cases h16 : r11 = true
    · rw [if_pos h16] at hr
      have e14 : r11 = true := h16
      clear h16
      obtain ⟨y17, q24, hr⟩ := Option.bind_eq_some_iff.1 hr
      obtain ⟨e18, e19, e20, e21, e22⟩ := cut_some q24
      try simp only [Int.toNat_natCast, Int.toNat_zero, Int.reduceToNat, List.drop_zero] at e21
      have e23 : List.take (Int.toNat vz2) (list_.map (cI .i64)) = y17.map (cI .i64) := by rw [← e21]; simp only [List.map_drop, List.map_take, take_map_len]
      clear q24 e22
      obtain ⟨r25, q27, hr⟩ := Option.bind_eq_some_iff.1 hr
      have e26 : ∀ H ng, gcall (shOf F) cl false n_impl_has [.fs (y17.map (cI .i64)), .int .i64 y6] H ng = some (.bool r25, H, ng, .inert) := fun H ng => call_far s_impl_has rfl (K_impl_has _ _ _ q27).ret
      by_cases h30 : r25 = true
      · rw [if_pos h30] at hr
        have e28 : r25 = true := h30
        clear h30
        have hr_ := Option.some.inj hr; subst hr_
        refine turn (by
          simp only [c_impl_areDifferent_l0, evA, evB, Int.reduceToNat, eq_self, reduceCtorEq, ↓reduceIte, Nat.reduceEqDiff, Nat.reduceAdd, Nat.reduceLT, Nat.reduceLeDiff, Nat.reduceMul, Nat.reduceSub, Nat.reduceBEq, spec_l1Cur.cells, rz_spec_l1Cur, pr_spec_l1Cur, impl_Job.cells, rz_impl_Job, pr_impl_Job, spec_l2Search.cells, rz_spec_l2Search, pr_spec_l2Search, *]
          rfl) ?_
        exact ⟨by simp, rfl, (by first | rfl | assumption)⟩
      · rw [if_neg h30] at hr
        have e29 : r25 = false := Bool.eq_false_iff.2 h30
        clear h30
        have hr_ := Option.some.inj hr; subst hr_
        refine turn (by
          simp only [c_impl_areDifferent_l0, evA, evB, Int.reduceToNat, eq_self, reduceCtorEq, ↓reduceIte, Nat.reduceEqDiff, Nat.reduceAdd, Nat.reduceLT, Nat.reduceLeDiff, Nat.reduceMul, Nat.reduceSub, Nat.reduceBEq, spec_l1Cur.cells, rz_spec_l1Cur, pr_spec_l1Cur, impl_Job.cells, rz_impl_Job, pr_impl_Job, spec_l2Search.cells, rz_spec_l2Search, pr_spec_l2Search, *]
          rfl) ?_
        exact ⟨rfl, rfl, rfl, rfl, rfl, rfl, rfl⟩
    · rw [if_neg h16] at hr
      have e15 : r11 = false := Bool.eq_false_iff.2 h16
      clear h16
      have hr_ := Option.some.inj hr; subst hr_
      refine turn (by
        simp only [c_impl_areDifferent_l0, evA, evB, Int.reduceToNat, eq_self, reduceCtorEq, ↓reduceIte, Nat.reduceEqDiff, Nat.reduceAdd, Nat.reduceLT, Nat.reduceLeDiff, Nat.reduceMul, Nat.reduceSub, Nat.reduceBEq, spec_l1Cur.cells, rz_spec_l1Cur, pr_spec_l1Cur, impl_Job.cells, rz_impl_Job, pr_impl_Job, spec_l2Search.cells, rz_spec_l2Search, pr_spec_l2Search, *]
        rfl) ?_
      exact ⟨by simp, rfl, (by first | rfl | assumption)⟩
  · rw [if_neg h5] at hr
    have e4 : (vz2 < vz1) = False := eq_false h5
    clear h5
    have hr_ := Option.some.inj hr; subst hr_
    refine turn (by
      simp only [c_impl_areDifferent_l0, evA, evB, Int.reduceToNat, eq_self, reduceCtorEq, ↓reduceIte, Nat.reduceEqDiff, Nat.reduceAdd, Nat.reduceLT, Nat.reduceLeDiff, Nat.reduceMul, Nat.reduceSub, Nat.reduceBEq, spec_l1Cur.cells, rz_spec_l1Cur, pr_spec_l1Cur, impl_Job.cells, rz_impl_Job, pr_impl_Job, spec_l2Search.cells, rz_spec_l2Search, pr_spec_l2Search, *]
      rfl) ?_
    exact ⟨by simp, rfl, rfl⟩

theorem lp_impl_areDifferent_l0 {cl : Callee} (K_impl_isNumber : K_impl_isNumber x_impl_isNumber (cl n_impl_isNumber)) (K_impl_has : K_impl_has x_impl_has (cl n_impl_has)) (n_ : Int) (list_ : (List Int)) (v : (List Int)) (vz1 : Int) (st_ : (Int)) (p_ : (Unit ⊕ (Bool))) (hr : loopS (x_impl_areDifferent_l0 n_ list_ v vz1) LL st_ = some p_) (T_ : Tm) (H_ : List Blk) (ng : Nat) (hR_ : R_impl_areDifferent_l0 n_ list_ v vz1 st_ T_ H_) (hn_ : H_.length = 0) :
    ∃ e_ T1_ H1_ ng1_, gcode (shOf F) cl LL (.loop false (some [0, 1, 7, 8, 9]) c_impl_areDifferent_l0) ⟨T_, H_, ng⟩ = some (e_, ⟨T1_, H1_, ng1_⟩) ∧ Q_impl_areDifferent_l0 n_ list_ v vz1 p_ e_ T1_ H1_ :=
  sim_loop (n0 := 0) (R_impl_areDifferent_l0 n_ list_ v vz1) (Q_impl_areDifferent_l0 n_ list_ v vz1) (st_impl_areDifferent_l0 K_impl_isNumber K_impl_has n_ list_ v vz1) st_ p_ hr T_ H_ ng hR_ hn_

theorem ok_impl_areDifferent {cl : Callee} (K_impl_isNumber : K_impl_isNumber x_impl_isNumber (cl n_impl_isNumber)) (K_impl_has : K_impl_has x_impl_has (cl n_impl_has)) : K_impl_areDifferent (x_impl_areDifferent) (gbody F LL cl c_impl_areDifferent) := by
  intro n_ list_ r hr
  unfold x_impl_areDifferent at hr
  try dsimp only at hr
  obtain ⟨p1, q10, hr⟩ := Option.bind_eq_some_iff.1 hr
  obtain ⟨ex7, T4, H5, ng6, l3, m2⟩ := lp_impl_areDifferent_l0 (cl := cl) K_impl_isNumber K_impl_has  n_ list_ list_ (list_.length : Int) _ _ q10 [(0, .int .i64 n_), (1, .fs (list_.map (cI .i64))), (7, .fs (list_.map (cI .i64))), (8, .int .i64 (list_.length : Int)), (9, .int .i64 0)] [] 0 (show R_impl_areDifferent_l0 n_ list_ list_ (list_.length : Int) 0 [(0, .int .i64 n_), (1, .fs (list_.map (cI .i64))), (7, .fs (list_.map (cI .i64))), (8, .int .i64 (list_.length : Int)), (9, .int .i64 0)] [] from ⟨rfl, rfl, rfl, rfl, rfl, rfl⟩) rfl
  rcases p1 with p1 | p1
  · dsimp only at hr
    obtain ⟨rfl, e8⟩ := m2
    subst e8
    have hr_ := Option.some.inj hr; subst hr_
    refine RetF.scal (by
      simp only [c_impl_areDifferent, evA, evB, Int.reduceToNat, eq_self, reduceCtorEq, ↓reduceIte, Nat.reduceEqDiff, Nat.reduceAdd, Nat.reduceLT, Nat.reduceLeDiff, Nat.reduceMul, Nat.reduceSub, Nat.reduceBEq, spec_l1Cur.cells, rz_spec_l1Cur, pr_spec_l1Cur, impl_Job.cells, rz_impl_Job, pr_impl_Job, spec_l2Search.cells, rz_spec_l2Search, pr_spec_l2Search, *]
      rfl) rfl rfl
  · dsimp only at hr
    obtain ⟨rfl, e9⟩ := m2
    have hr_ := Option.some.inj hr; subst hr_
    refine RetF.scal (by
      simp only [c_impl_areDifferent, evA, evB, Int.reduceToNat, eq_self, reduceCtorEq, ↓reduceIte, Nat.reduceEqDiff, Nat.reduceAdd, Nat.reduceLT, Nat.reduceLeDiff, Nat.reduceMul, Nat.reduceSub, Nat.reduceBEq, spec_l1Cur.cells, rz_spec_l1Cur, pr_spec_l1Cur, impl_Job.cells, rz_impl_Job, pr_impl_Job, spec_l2Search.cells, rz_spec_l2Search, pr_spec_l2Search, *]
      rfl) rfl rfl

theorem ok_impl_isOrder {cl : Callee} (K_impl_areDifferent : K_impl_areDifferent x_impl_areDifferent (cl n_impl_areDifferent)) : K_impl_isOrder (x_impl_isOrder) (gbody F LL cl c_impl_isOrder) := by
  intro n_ order_ r hr
  unfold x_impl_isOrder at hr
  try dsimp only at hr
  by_cases h5 : (order_.length : Int) = n_
  · rw [if_pos h5] at hr
    have e3 : ((order_.length : Int) = n_) = True := eq_true h5
    clear h5
    obtain ⟨r6, q8, hr⟩ := Option.bind_eq_some_iff.1 hr
    have e7 : ∀ H ng, gcall (shOf F) cl false n_impl_areDifferent [.int .i64 n_, .fs (order_.map (cI .i64))] H ng = some (.bool r6, H, ng, .inert) := fun H ng => call_far s_impl_areDifferent rfl (K_impl_areDifferent _ _ _ q8).ret
    have hr_ := Option.some.inj hr; subst hr_
    refine RetF.scal (by
      simp only [c_impl_isOrder, evA, evB, Int.reduceToNat, eq_self, reduceCtorEq, ↓reduceIte, Nat.reduceEqDiff, Nat.reduceAdd, Nat.reduceLT, Nat.reduceLeDiff, Nat.reduceMul, Nat.reduceSub, Nat.reduceBEq, spec_l1Cur.cells, rz_spec_l1Cur, pr_spec_l1Cur, impl_Job.cells, rz_impl_Job, pr_impl_Job, spec_l2Search.cells, rz_spec_l2Search, pr_spec_l2Search, *]
      rfl) rfl rfl
  · rw [if_neg h5] at hr
    have e4 : ((order_.length : Int) = n_) = False := eq_false h5
    clear h5
    have hr_ := Option.some.inj hr; subst hr_
    refine RetF.scal (by
      simp only [c_impl_isOrder, evA, evB, Int.reduceToNat, eq_self, reduceCtorEq, ↓reduceIte, Nat.reduceEqDiff, Nat.reduceAdd, Nat.reduceLT, Nat.reduceLeDiff, Nat.reduceMul, Nat.reduceSub, Nat.reduceBEq, spec_l1Cur.cells, rz_spec_l1Cur, pr_spec_l1Cur, impl_Job.cells, rz_impl_Job, pr_impl_Job, spec_l2Search.cells, rz_spec_l2Search, pr_spec_l2Search, *]
      rfl) rfl rfl

theorem ok_impl_isScheduled {cl : Callee} (K_impl_IsJobs : K_impl_IsJobs x_impl_IsJobs (cl n_impl_IsJobs)) (K_impl_isOrder : K_impl_isOrder x_impl_isOrder (cl n_impl_isOrder)) : K_impl_isScheduled (x_impl_isScheduled) (gbody F LL cl c_impl_isScheduled) := by
  intro jobs_ order_ r hr
  unfold x_impl_isScheduled at hr
  try dsimp only at hr
  obtain ⟨r1, q3, hr⟩ := Option.bind_eq_some_iff.1 hr
  have e2 : ∀ H ng, gcall (shOf F) cl false n_impl_IsJobs [.fs (jobs_.map impl_Job.cells)] H ng = some (.bool r1, H, ng, .inert) := fun H ng => call_far s_impl_IsJobs rfl (K_impl_IsJobs _ _ q3).ret
  by_cases h6 : r1 = true
  · rw [if_pos h6] at hr
    have e4 : r1 = true := h6
    clear h6
    obtain ⟨r7, q9, hr⟩ := Option.bind_eq_some_iff.1 hr
    have e8 : ∀ H ng, gcall (shOf F) cl false n_impl_isOrder [.int .i64 (jobs_.length : Int), .fs (order_.map (cI .i64))] H ng = some (.bool r7, H, ng, .inert) := fun H ng => call_far s_impl_isOrder rfl (K_impl_isOrder _ _ _ q9).ret
    have hr_ := Option.some.inj hr; subst hr_
    refine RetF.scal (by
      simp only [c_impl_isScheduled, evA, evB, Int.reduceToNat, eq_self, reduceCtorEq, ↓reduceIte, Nat.reduceEqDiff, Nat.reduceAdd, Nat.reduceLT, Nat.reduceLeDiff, Nat.reduceMul, Nat.reduceSub, Nat.reduceBEq, spec_l1Cur.cells, rz_spec_l1Cur, pr_spec_l1Cur, impl_Job.cells, rz_impl_Job, pr_impl_Job, spec_l2Search.cells, rz_spec_l2Search, pr_spec_l2Search, *]
      rfl) rfl rfl
  · rw [if_neg h6] at hr
    have e5 : r1 = false := Bool.eq_false_iff.2 h6
    clear h6
    have hr_ := Option.some.inj hr; subst hr_
    refine RetF.scal (by
      simp only [c_impl_isScheduled, evA, evB, Int.reduceToNat, eq_self, reduceCtorEq, ↓reduceIte, Nat.reduceEqDiff, Nat.reduceAdd, Nat.reduceLT, Nat.reduceLeDiff, Nat.reduceMul, Nat.reduceSub, Nat.reduceBEq, spec_l1Cur.cells, rz_spec_l1Cur, pr_spec_l1Cur, impl_Job.cells, rz_impl_Job, pr_impl_Job, spec_l2Search.cells, rz_spec_l2Search, pr_spec_l2Search, *]
      rfl) rfl rfl

theorem ok_impl_isValued {cl : Callee} (K_impl_isObjective : K_impl_isObjective x_impl_isObjective (cl n_impl_isObjective)) (K_impl_isScheduled : K_impl_isScheduled x_impl_isScheduled (cl n_impl_isScheduled)) : K_impl_isValued (x_impl_isValued) (gbody F LL cl c_impl_isValued) := by
  intro jobs_ order_ objective_ r hr
  unfold x_impl_isValued at hr
  try dsimp only at hr
  obtain ⟨r1, q3, hr⟩ := Option.bind_eq_some_iff.1 hr
  have e2 : ∀ H ng, gcall (shOf F) cl false n_impl_isScheduled [.fs (jobs_.map impl_Job.cells), .fs (order_.map (cI .i64))] H ng = some (.bool r1, H, ng, .inert) := fun H ng => call_far s_impl_isScheduled rfl (K_impl_isScheduled _ _ _ q3).ret
  by_cases h6 : r1 = true
  · rw [if_pos h6] at hr
    have e4 : r1 = true := h6
    clear h6
    obtain ⟨r7, q9, hr⟩ := Option.bind_eq_some_iff.1 hr
    have e8 : ∀ H ng, gcall (shOf F) cl false n_impl_isObjective [.int .i64 objective_] H ng = some (.bool r7, H, ng, .inert) := fun H ng => call_far s_impl_isObjective rfl (K_impl_isObjective _ _ q9).ret
    have hr_ := Option.some.inj hr; subst hr_
    refine RetF.scal (by
      simp only [c_impl_isValued, evA, evB, Int.reduceToNat, eq_self, reduceCtorEq, ↓reduceIte, Nat.reduceEqDiff, Nat.reduceAdd, Nat.reduceLT, Nat.reduceLeDiff, Nat.reduceMul, Nat.reduceSub, Nat.reduceBEq, spec_l1Cur.cells, rz_spec_l1Cur, pr_spec_l1Cur, impl_Job.cells, rz_impl_Job, pr_impl_Job, spec_l2Search.cells, rz_spec_l2Search, pr_spec_l2Search, *]
      rfl) rfl rfl
  · rw [if_neg h6] at hr
    have e5 : r1 = false := Bool.eq_false_iff.2 h6
    clear h6
    have hr_ := Option.some.inj hr; subst hr_
    refine RetF.scal (by
      simp only [c_impl_isValued, evA, evB, Int.reduceToNat, eq_self, reduceCtorEq, ↓reduceIte, Nat.reduceEqDiff, Nat.reduceAdd, Nat.reduceLT, Nat.reduceLeDiff, Nat.reduceMul, Nat.reduceSub, Nat.reduceBEq, spec_l1Cur.cells, rz_spec_l1Cur, pr_spec_l1Cur, impl_Job.cells, rz_impl_Job, pr_impl_Job, spec_l2Search.cells, rz_spec_l2Search, pr_spec_l2Search, *]
      rfl) rfl rfl

theorem ok_impl_ValueOf {cl : Callee} (K_impl_isValued : K_impl_isValued x_impl_isValued (cl n_impl_isValued)) (K_impl_valueOf : K_impl_valueOf x_impl_valueOf (cl n_impl_valueOf)) : K_impl_ValueOf (x_impl_ValueOf) (gbody F LL cl c_impl_ValueOf) := by
  intro jobs_ order_ objective_ r hr
  unfold x_impl_ValueOf at hr
  try dsimp only at hr
  obtain ⟨r1, q3, hr⟩ := Option.bind_eq_some_iff.1 hr
  have e2 : ∀ H ng, gcall (shOf F) cl false n_impl_isValued [.fs (jobs_.map impl_Job.cells), .fs (order_.map (cI .i64)), .int .i64 objective_] H ng = some (.bool r1, H, ng, .inert) := fun H ng => call_far s_impl_isValued rfl (K_impl_isValued _ _ _ _ q3).ret
  by_cases h6 : r1 = true
  · rw [if_pos h6] at hr
    have e4 : r1 = true := h6
    clear h6
    obtain ⟨r7, q9, hr⟩ := Option.bind_eq_some_iff.1 hr
    have e8 : ∀ H ng, gcall (shOf F) cl false n_impl_valueOf [.fs (jobs_.map impl_Job.cells), .fs (order_.map (cI .i64)), .int .i64 objective_] H ng = some (.int .i64 r7, H, ng, .inert) := fun H ng => call_far s_impl_valueOf rfl (K_impl_valueOf _ _ _ _ q9).ret
    have hr_ := Option.some.inj hr; subst hr_
    refine RetF.scal (by
      simp only [c_impl_ValueOf, evA, evB, Int.reduceToNat, eq_self, reduceCtorEq, ↓reduceIte, Nat.reduceEqDiff, Nat.reduceAdd, Nat.reduceLT, Nat.reduceLeDiff, Nat.reduceMul, Nat.reduceSub, Nat.reduceBEq, spec_l1Cur.cells, rz_spec_l1Cur, pr_spec_l1Cur, impl_Job.cells, rz_impl_Job, pr_impl_Job, spec_l2Search.cells, rz_spec_l2Search, pr_spec_l2Search, *]
      rfl) rfl rfl
  · rw [if_neg h6] at hr
    have e5 : r1 = false := Bool.eq_false_iff.2 h6
    clear h6
    have hr_ := Option.some.inj hr; subst hr_
    refine RetF.scal (by
      simp only [c_impl_ValueOf, evA, evB, Int.reduceToNat, eq_self, reduceCtorEq, ↓reduceIte, Nat.reduceEqDiff, Nat.reduceAdd, Nat.reduceLT, Nat.reduceLeDiff, Nat.reduceMul, Nat.reduceSub, Nat.reduceBEq, spec_l1Cur.cells, rz_spec_l1Cur, pr_spec_l1Cur, impl_Job.cells, rz_impl_Job, pr_impl_Job, spec_l2Search.cells, rz_spec_l2Search, pr_spec_l2Search, *]
      rfl) rfl rfl

theorem st_laws_FnSetValues_l1 {cl : Callee} (K_laws_rBig : K_laws_rBig x_laws_rBig (cl n_laws_rBig)) (K_spec_DrawSetValues : K_spec_DrawSetValues x_spec_DrawSetValues (cl n_spec_DrawSetValues)) (K_impl_SetValues : K_impl_SetValues x_impl_SetValues (cl n_impl_SetValues)) (K_spec_SetValues : K_spec_SetValues x_spec_SetValues (cl n_spec_SetValues)) (K_laws_rInts : K_laws_rInts x_laws_rInts (cl n_laws_rInts)) (K_impl_SetOrder : K_impl_SetOrder x_impl_SetOrder (cl n_impl_SetOrder)) (K_spec_SetOrder : K_spec_SetOrder x_spec_SetOrder (cl n_spec_SetOrder)) (K_impl_TotalTime : K_impl_TotalTime x_impl_TotalTime (cl n_impl_TotalTime)) (K_spec_TotalTime : K_spec_TotalTime x_spec_TotalTime (cl n_spec_TotalTime)) (K_laws_rBest : K_laws_rBest x_laws_rBest (cl n_laws_rBest)) (K_impl_ValueOf : K_impl_ValueOf x_impl_ValueOf (cl n_impl_ValueOf)) (r_ : (List impl_Job)) (a_ : (List Int)) (v : Int) (st_ : (Int)) (c_ : Ctl (Int) (Unit ⊕ (Bool))) (hr : x_laws_FnSetValues_l1 r_ a_ v st_ = some c_) (T_ : Tm) (H_ : List Blk) (ng : Nat) (hR_ : R_laws_FnSetValues_l1 r_ a_ v st_ T_ H_) :
    ∃ e_ T1_ H1_ ng1_, gcode (shOf F) cl LL c_laws_FnSetValues_l1 ⟨maskT (some [3, 5, 23, 24]) T_, H_, ng⟩ = some (e_, ⟨T1_, H1_, ng1_⟩) ∧ TurnOK (R_laws_FnSetValues_l1 r_ a_ v) (Q_laws_FnSetValues_l1 r_ a_ v) 0 c_ e_ T1_ H1_ := by
  obtain ⟨vz1, hst_⟩ : ∃ x, x = st_ := ⟨_, rfl⟩; subst hst_
  obtain ⟨f0_, f1_, f2_, f3_, rfl⟩ := hR_
  unfold x_laws_FnSetValues_l1 at hr
  try dsimp only at hr
  by_cases h5 : vz1 < (r_.length : Int)
  · rw [if_pos h5] at hr
    have e3 : (vz1 < (r_.length : Int)) = True := eq_true h5
    clear h5
    by_cases h7 : 0 ≤ vz1
    · rw [if_pos h7] at hr
      have e6 : binI .shr .i64 v .i64 vz1 = some (.int .i64 (shrK .i64 v vz1)) := bi_shr _ _ _ _ h7
      clear h7
      by_cases h12 : (andK .i64 (shrK .i64 v vz1) 1) = 1
      · rw [if_pos h12] at hr
        have e10 : ((andK .i64 (shrK .i64 v vz1) 1) = 1) = True := eq_true h12
        clear h12
        by_cases h14 : 0 ≤ vz1
        · rw [if_pos h14] at hr
          have e13 : binI .shl .i64 1 .i64 vz1 = some (.int .i64 (shlK .i64 1 vz1)) := bi_shl _ _ _ _ h14
          clear h14
          obtain ⟨y15, q19, hr⟩ := Option.bind_eq_some_iff.1 hr
          obtain ⟨e16, e17, e18⟩ := ix_some q19
          try simp only [Int.toNat_natCast, Int.toNat_zero, Int.reduceToNat] at e17
          clear q19
          obtain ⟨y20, q24, hr⟩ := Option.bind_eq_some_iff.1 hr
          obtain ⟨e21, e22, e23⟩ := ix_some q24
          try simp only [Int.toNat_natCast, Int.toNat_zero, Int.reduceToNat] at e22
          clear q24
          by_cases h29 : y20 < y15
          · rw [if_pos h29] at hr
            have e27 : (y20 < y15) = True := eq_true h29
            clear h29
            have hr_ := Option.some.inj hr; subst hr_
            refine turn (by
              simp only [c_laws_FnSetValues_l1, evA, evB, Int.reduceToNat, eq_self, reduceCtorEq, ↓reduceIte, Nat.reduceEqDiff, Nat.reduceAdd, Nat.reduceLT, Nat.reduceLeDiff, Nat.reduceMul, Nat.reduceSub, Nat.reduceBEq, spec_l1Cur.cells, rz_spec_l1Cur, pr_spec_l1Cur, impl_Job.cells, rz_impl_Job, pr_impl_Job, spec_l2Search.cells, rz_spec_l2Search, pr_spec_l2Search, *]
              rfl) ?_
            exact ⟨by simp, rfl, (by first | rfl | assumption)⟩
          · rw [if_neg h29] at hr
            have e28 : (y20 < y15) = False := eq_false h29
            clear h29
            have hr_ := Option.some.inj hr; subst hr_
            refine turn (by
              simp only [c_laws_FnSetValues_l1, evA, evB, Int.reduceToNat, eq_self, reduceCtorEq, ↓reduceIte, Nat.reduceEqDiff, Nat.reduceAdd, Nat.reduceLT, Nat.reduceLeDiff, Nat.reduceMul, Nat.reduceSub, Nat.reduceBEq, spec_l1Cur.cells, rz_spec_l1Cur, pr_spec_l1Cur, impl_Job.cells, rz_impl_Job, pr_impl_Job, spec_l2Search.cells, rz_spec_l2Search, pr_spec_l2Search, *]
              rfl) ?_
            exact ⟨rfl, rfl, rfl, rfl, rfl, rfl⟩
        · rw [if_neg h14] at hr
          clear h14
          exact nomatch hr
      · rw [if_neg h12] at hr
        have e11 : ((andK .i64 (shrK .i64 v vz1) 1) = 1) = False := eq_false h12
        clear h12
        have hr_ := Option.some.inj hr; subst hr_
        refine turn (by
          simp only [c_laws_FnSetValues_l1, evA, evB, Int.reduceToNat, eq_self, reduceCtorEq, ↓reduceIte, Nat.reduceEqDiff, Nat.reduceAdd, Nat.reduceLT, Nat.reduceLeDiff, Nat.reduceMul, Nat.reduceSub, Nat.reduceBEq, spec_l1Cur.cells, rz_spec_l1Cur, pr_spec_l1Cur, impl_Job.cells, rz_impl_Job, pr_impl_Job, spec_l2Search.cells, rz_spec_l2Search, pr_spec_l2Search, *]
          rfl) ?_
        exact ⟨rfl, rfl, rfl, rfl, rfl, rfl⟩
    · rw [if_neg h7] at hr
      clear h7
      exact nomatch hr
  · rw [if_neg h5] at hr
    have e4 : (vz1 < (r_.length : Int)) = False := eq_false h5
    clear h5
    have hr_ := Option.some.inj hr; subst hr_
    refine turn (by
      simp only [c_laws_FnSetValues_l1, evA, evB, Int.reduceToNat, eq_self, reduceCtorEq, ↓reduceIte, Nat.reduceEqDiff, Nat.reduceAdd, Nat.reduceLT, Nat.reduceLeDiff, Nat.reduceMul, Nat.reduceSub, Nat.reduceBEq, spec_l1Cur.cells, rz_spec_l1Cur, pr_spec_l1Cur, impl_Job.cells, rz_impl_Job, pr_impl_Job, spec_l2Search.cells, rz_spec_l2Search, pr_spec_l2Search, *]
      rfl) ?_
    exact ⟨by simp, rfl, rfl, rfl, rfl, rfl⟩

theorem lp_laws_FnSetValues_l1 {cl : Callee} (K_laws_rBig : K_laws_rBig x_laws_rBig (cl n_laws_rBig)) (K_spec_DrawSetValues : K_spec_DrawSetValues x_spec_DrawSetValues (cl n_spec_DrawSetValues)) (K_impl_SetValues : K_impl_SetValues x_impl_SetValues (cl n_impl_SetValues)) (K_spec_SetValues : K_spec_SetValues x_spec_SetValues (cl n_spec_SetValues)) (K_laws_rInts : K_laws_rInts x_laws_rInts (cl n_laws_rInts)) (K_impl_SetOrder : K_impl_SetOrder x_impl_SetOrder (cl n_impl_SetOrder)) (K_spec_SetOrder : K_spec_SetOrder x_spec_SetOrder (cl n_spec_SetOrder)) (K_impl_TotalTime : K_impl_TotalTime x_impl_TotalTime (cl n_impl_TotalTime)) (K_spec_TotalTime : K_spec_TotalTime x_spec_TotalTime (cl n_spec_TotalTime)) (K_laws_rBest : K_laws_rBest x_laws_rBest (cl n_laws_rBest)) (K_impl_ValueOf : K_impl_ValueOf x_impl_ValueOf (cl n_impl_ValueOf)) (r_ : (List impl_Job)) (a_ : (List Int)) (v : Int) (st_ : (Int)) (p_ : (Unit ⊕ (Bool))) (hr : loopS (x_laws_FnSetValues_l1 r_ a_ v) LL st_ = some p_) (T_ : Tm) (H_ : List Blk) (ng : Nat) (hR_ : R_laws_FnSetValues_l1 r_ a_ v st_ T_ H_) (hn_ : H_.length = 0) :
    ∃ e_ T1_ H1_ ng1_, gcode (shOf F) cl LL (.loop false (some [3, 5, 23, 24]) c_laws_FnSetValues_l1) ⟨T_, H_, ng⟩ = some (e_, ⟨T1_, H1_, ng1_⟩) ∧ Q_laws_FnSetValues_l1 r_ a_ v p_ e_ T1_ H1_ :=
  sim_loop (n0 := 0) (R_laws_FnSetValues_l1 r_ a_ v) (Q_laws_FnSetValues_l1 r_ a_ v) (st_laws_FnSetValues_l1 K_laws_rBig K_spec_DrawSetValues K_impl_SetValues K_spec_SetValues K_laws_rInts K_impl_SetOrder K_spec_SetOrder K_impl_TotalTime K_spec_TotalTime K_laws_rBest K_impl_ValueOf r_ a_ v) st_ p_ hr T_ H_ ng hR_ hn_

theorem st_laws_FnSetValues_l0 {cl : Callee} (K_laws_rBig : K_laws_rBig x_laws_rBig (cl n_laws_rBig)) (K_spec_DrawSetValues : K_spec_DrawSetValues x_spec_DrawSetValues (cl n_spec_DrawSetValues)) (K_impl_SetValues : K_impl_SetValues x_impl_SetValues (cl n_impl_SetValues)) (K_spec_SetValues : K_spec_SetValues x_spec_SetValues (cl n_spec_SetValues)) (K_laws_rInts : K_laws_rInts x_laws_rInts (cl n_laws_rInts)) (K_impl_SetOrder : K_impl_SetOrder x_impl_SetOrder (cl n_impl_SetOrder)) (K_spec_SetOrder : K_spec_SetOrder x_spec_SetOrder (cl n_spec_SetOrder)) (K_impl_TotalTime : K_impl_TotalTime x_impl_TotalTime (cl n_impl_TotalTime)) (K_spec_TotalTime : K_spec_TotalTime x_spec_TotalTime (cl n_spec_TotalTime)) (K_laws_rBest : K_laws_rBest x_laws_rBest (cl n_laws_rBest)) (K_impl_ValueOf : K_impl_ValueOf x_impl_ValueOf (cl n_impl_ValueOf)) (r_ : (List impl_Job)) (a_ : (List Int)) (st_ : (Int)) (c_ : Ctl (Int) (Unit ⊕ (Bool))) (hr : x_laws_FnSetValues_l0 r_ a_ st_ = some c_) (T_ : Tm) (H_ : List Blk) (ng : Nat) (hR_ : R_laws_FnSetValues_l0 r_ a_ st_ T_ H_) :
    ∃ e_ T1_ H1_ ng1_, gcode (shOf F) cl LL c_laws_FnSetValues_l0 ⟨maskT (some [3, 5, 23]) T_, H_, ng⟩ = some (e_, ⟨T1_, H1_, ng1_⟩) ∧ TurnOK (R_laws_FnSetValues_l0 r_ a_) (Q_laws_FnSetValues_l0 r_ a_) 0 c_ e_ T1_ H1_ := by
  obtain ⟨v, hst_⟩ : ∃ x, x = st_ := ⟨_, rfl⟩; subst hst_
  obtain ⟨f0_, f1_, f2_, rfl⟩ := hR_
  unfold x_laws_FnSetValues_l0 at hr
  try dsimp only at hr
  by_cases h5 : v < (a_.length : Int)
  · rw [if_pos h5] at hr
    have e3 : (v < (a_.length : Int)) = True := eq_true h5
    clear h5
    obtain ⟨p6, q18, hr⟩ := Option.bind_eq_some_iff.1 hr
    obtain ⟨ex12, T9, H10, ng11, l8, m7⟩ := lp_laws_FnSetValues_l1 (cl := cl) K_laws_rBig K_spec_DrawSetValues K_impl_SetValues K_spec_SetValues K_laws_rInts K_impl_SetOrder K_spec_SetOrder K_impl_TotalTime K_spec_TotalTime K_laws_rBest K_impl_ValueOf  r_ a_ v _ _ q18 [(3, .fs (r_.map impl_Job.cells)), (5, .fs (a_.map (cI .i64))), (23, .int .i64 v), (24, .int .i64 0)] [] ng (show R_laws_FnSetValues_l1 r_ a_ v 0 [(3, .fs (r_.map impl_Job.cells)), (5, .fs (a_.map (cI .i64))), (23, .int .i64 v), (24, .int .i64 0)] [] from ⟨rfl, rfl, rfl, rfl, rfl⟩) rfl
    rcases p6 with p6 | p6
    · dsimp only at hr
      obtain ⟨rfl, e13, e14, e15, e16⟩ := m7
      subst e16
      have hr_ := Option.some.inj hr; subst hr_
      refine turn (by
        simp only [c_laws_FnSetValues_l0, evA, evB, Int.reduceToNat, eq_self, reduceCtorEq, ↓reduceIte, Nat.reduceEqDiff, Nat.reduceAdd, Nat.reduceLT, Nat.reduceLeDiff, Nat.reduceMul, Nat.reduceSub, Nat.reduceBEq, spec_l1Cur.cells, rz_spec_l1Cur, pr_spec_l1Cur, impl_Job.cells, rz_impl_Job, pr_impl_Job, spec_l2Search.cells, rz_spec_l2Search, pr_spec_l2Search, *]
        rfl) ?_
      exact ⟨rfl, rfl, rfl, rfl, rfl⟩
    · dsimp only at hr
      obtain ⟨rfl, e17⟩ := m7
      have hr_ := Option.some.inj hr; subst hr_
      refine turn (by
        simp only [c_laws_FnSetValues_l0, evA, evB, Int.reduceToNat, eq_self, reduceCtorEq, ↓reduceIte, Nat.reduceEqDiff, Nat.reduceAdd, Nat.reduceLT, Nat.reduceLeDiff, Nat.reduceMul, Nat.reduceSub, Nat.reduceBEq, spec_l1Cur.cells, rz_spec_l1Cur, pr_spec_l1Cur, impl_Job.cells, rz_impl_Job, pr_impl_Job, spec_l2Search.cells, rz_spec_l2Search, pr_spec_l2Search, *]
        rfl) ?_
      exact ⟨by simp, rfl, (by first | rfl | assumption)⟩
  · rw [if_neg h5] at hr
    have e4 : (v < (a_.length : Int)) = False := eq_false h5
    clear h5
    have hr_ := Option.some.inj hr; subst hr_
    refine turn (by
      simp only [c_laws_FnSetValues_l0, evA, evB, Int.reduceToNat, eq_self, reduceCtorEq, ↓reduceIte, Nat.reduceEqDiff, Nat.reduceAdd, Nat.reduceLT, Nat.reduceLeDiff, Nat.reduceMul, Nat.reduceSub, Nat.reduceBEq, spec_l1Cur.cells, rz_spec_l1Cur, pr_spec_l1Cur, impl_Job.cells, rz_impl_Job, pr_impl_Job, spec_l2Search.cells, rz_spec_l2Search, pr_spec_l2Search, *]
      rfl) ?_
    exact ⟨by simp, rfl, rfl⟩

theorem lp_laws_FnSetValues_l0 {cl : Callee} (K_laws_rBig : K_laws_rBig x_laws_rBig (cl n_laws_rBig)) (K_spec_DrawSetValues : K_spec_DrawSetValues x_spec_DrawSetValues (cl n_spec_DrawSetValues)) (K_impl_SetValues : K_impl_SetValues x_impl_SetValues (cl n_impl_SetValues)) (K_spec_SetValues : K_spec_SetValues x_spec_SetValues (cl n_spec_SetValues)) (K_laws_rInts : K_laws_rInts x_laws_rInts (cl n_laws_rInts)) (K_impl_SetOrder : K_impl_SetOrder x_impl_SetOrder (cl n_impl_SetOrder)) (K_spec_SetOrder : K_spec_SetOrder x_spec_SetOrder (cl n_spec_SetOrder)) (K_impl_TotalTime : K_impl_TotalTime x_impl_TotalTime (cl n_impl_TotalTime)) (K_spec_TotalTime : K_spec_TotalTime x_spec_TotalTime (cl n_spec_TotalTime)) (K_laws_rBest : K_laws_rBest x_laws_rBest (cl n_laws_rBest)) (K_impl_ValueOf : K_impl_ValueOf x_impl_ValueOf (cl n_impl_ValueOf)) (r_ : (List impl_Job)) (a_ : (List Int)) (st_ : (Int)) (p_ : (Unit ⊕ (Bool))) (hr : loopS (x_laws_FnSetValues_l0 r_ a_) LL st_ = some p_) (T_ : Tm) (H_ : List Blk) (ng : Nat) (hR_ : R_laws_FnSetValues_l0 r_ a_ st_ T_ H_) (hn_ : H_.length = 0) :
    ∃ e_ T1_ H1_ ng1_, gcode (shOf F) cl LL (.loop false (some [3, 5, 23]) c_laws_FnSetValues_l0) ⟨T_, H_, ng⟩ = some (e_, ⟨T1_, H1_, ng1_⟩) ∧ Q_laws_FnSetValues_l0 r_ a_ p_ e_ T1_ H1_ :=
  sim_loop (n0 := 0) (R_laws_FnSetValues_l0 r_ a_) (Q_laws_FnSetValues_l0 r_ a_) (st_laws_FnSetValues_l0 K_laws_rBig K_spec_DrawSetValues K_impl_SetValues K_spec_SetValues K_laws_rInts K_impl_SetOrder K_spec_SetOrder K_impl_TotalTime K_spec_TotalTime K_laws_rBest K_impl_ValueOf r_ a_) st_ p_ hr T_ H_ ng hR_ hn_

theorem ok_laws_FnSetValues {cl : Callee} (K_laws_rBig : K_laws_rBig x_laws_rBig (cl n_laws_rBig)) (K_spec_DrawSetValues : K_spec_DrawSetValues x_spec_DrawSetValues (cl n_spec_DrawSetValues)) (K_impl_SetValues : K_impl_SetValues x_impl_SetValues (cl n_impl_SetValues)) (K_spec_SetValues : K_spec_SetValues x_spec_SetValues (cl n_spec_SetValues)) (K_laws_rInts : K_laws_rInts x_laws_rInts (cl n_laws_rInts)) (K_impl_SetOrder : K_impl_SetOrder x_impl_SetOrder (cl n_impl_SetOrder)) (K_spec_SetOrder : K_spec_SetOrder x_spec_SetOrder (cl n_spec_SetOrder)) (K_impl_TotalTime : K_impl_TotalTime x_impl_TotalTime (cl n_impl_TotalTime)) (K_spec_TotalTime : K_spec_TotalTime x_spec_TotalTime (cl n_spec_TotalTime)) (K_laws_rBest : K_laws_rBest x_laws_rBest (cl n_laws_rBest)) (K_impl_ValueOf : K_impl_ValueOf x_impl_ValueOf (cl n_impl_ValueOf)) : K_laws_FnSetValues (x_laws_FnSetValues) (gbody F LL cl c_laws_FnSetValues) := by
  intro t_ r hr
  unfold x_laws_FnSetValues at hr
  try dsimp only at hr
  obtain ⟨r1, q3, hr⟩ := Option.bind_eq_some_iff.1 hr
  have e2 : ∀ H ng, gcall (shOf F) cl false n_laws_rBig [.fs (t_.map (cI .u8))] H ng = some (.bool r1, H, ng, .inert) := fun H ng => call_far s_laws_rBig rfl (K_laws_rBig _ _ q3).ret
  by_cases h6 : r1 = true
  · rw [if_pos h6] at hr
    have e4 : r1 = true := h6
    clear h6
    have hr_ := Option.some.inj hr; subst hr_
    refine RetF.scal (by
      simp only [c_laws_FnSetValues, evA, evB, Int.reduceToNat, eq_self, reduceCtorEq, ↓reduceIte, Nat.reduceEqDiff, Nat.reduceAdd, Nat.reduceLT, Nat.reduceLeDiff, Nat.reduceMul, Nat.reduceSub, Nat.reduceBEq, spec_l1Cur.cells, rz_spec_l1Cur, pr_spec_l1Cur, impl_Job.cells, rz_impl_Job, pr_impl_Job, spec_l2Search.cells, rz_spec_l2Search, pr_spec_l2Search, *]
      rfl) rfl rfl
  · rw [if_neg h6] at hr
    have e5 : r1 = false := Bool.eq_false_iff.2 h6
    clear h6
    obtain ⟨r7, q9, hr⟩ := Option.bind_eq_some_iff.1 hr
    have e8 : ∀ H ng, gcall (shOf F) cl false n_spec_DrawSetValues [.fs (t_.map (cI .u8))] H ng = some (.tup [.fs (r7.1.map impl_Job.cells), .int .i64 r7.2], H, ng, .inert) := fun H ng => call_far s_spec_DrawSetValues rfl (K_spec_DrawSetValues _ _ q9)
    obtain ⟨r10, q12, hr⟩ := Option.bind_eq_some_iff.1 hr
    have e11 : ∀ H ng, gcall (shOf F) cl false n_impl_SetValues [.fs (r7.1.map impl_Job.cells), .int .i64 r7.2] H ng = some (.tup [.fs (r10.1.map (cI .i64)), .bool r10.2], H, ng, .inert) := fun H ng => call_far s_impl_SetValues rfl (K_impl_SetValues _ _ _ q12)
    obtain ⟨r13, q15, hr⟩ := Option.bind_eq_some_iff.1 hr
    have e14 : ∀ H ng, gcall (shOf F) cl false n_spec_SetValues [.fs (r7.1.map impl_Job.cells), .int .i64 r7.2] H ng = some (.tup [.fs (r13.1.map (cI .i64)), .bool r13.2], H, ng, .inert) := fun H ng => call_far s_spec_SetValues rfl (K_spec_SetValues _ _ _ q15)
    by_cases h18 : r10.2 = r13.2
    · rw [if_pos h18] at hr
      have e16 : (r10.2 == r13.2) = true := beq_iff_eq.2 h18
      clear h18
      obtain ⟨r19, q21, hr⟩ := Option.bind_eq_some_iff.1 hr
      have e20 : ∀ H ng, gcall (shOf F) cl false n_laws_rInts [.fs (r10.1.map (cI .i64)), .fs (r13.1.map (cI .i64))] H ng = some (.bool r19, H, ng, .inert) := fun H ng => call_far s_laws_rInts rfl (K_laws_rInts _ _ _ q21).ret
      by_cases h24 : r19 = true
      · rw [if_pos h24] at hr
        have e22 : r19 = true := h24
        clear h24
        obtain ⟨r25, q27, hr⟩ := Option.bind_eq_some_iff.1 hr
        have e26 : ∀ H ng, gcall (shOf F) cl false n_impl_SetOrder [.fs (r7.1.map impl_Job.cells), .int .i64 r7.2] H ng = some (.tup [.fs (r25.1.map (cI .i64)), .bool r25.2], H, ng, .inert) := fun H ng => call_far s_impl_SetOrder rfl (K_impl_SetOrder _ _ _ q27).ret
        obtain ⟨r28, q30, hr⟩ := Option.bind_eq_some_iff.1 hr
        have e29 : ∀ H ng, gcall (shOf F) cl false n_spec_SetOrder [.fs (r7.1.map impl_Job.cells), .int .i64 r7.2] H ng = some (.tup [.fs (r28.1.map (cI .i64)), .bool r28.2], H, ng, .inert) := fun H ng => call_far s_spec_SetOrder rfl (K_spec_SetOrder _ _ _ q30)
        by_cases h33 : r25.2 = r28.2
        · rw [if_pos h33] at hr
          have e31 : (r25.2 == r28.2) = true := beq_iff_eq.2 h33
          clear h33
          by_cases h36 : r25.2 = r10.2
          · rw [if_pos h36] at hr
            have e34 : (r25.2 == r10.2) = true := beq_iff_eq.2 h36
            clear h36
            obtain ⟨r37, q39, hr⟩ := Option.bind_eq_some_iff.1 hr
            have e38 : ∀ H ng, gcall (shOf F) cl false n_laws_rInts [.fs (r25.1.map (cI .i64)), .fs (r28.1.map (cI .i64))] H ng = some (.bool r37, H, ng, .inert) := fun H ng => call_far s_laws_rInts rfl (K_laws_rInts _ _ _ q39).ret
            by_cases h42 : r37 = true
            · rw [if_pos h42] at hr
              have e40 : r37 = true := h42
              clear h42
              obtain ⟨r43, q45, hr⟩ := Option.bind_eq_some_iff.1 hr
              have e44 : ∀ H ng, gcall (shOf F) cl false n_impl_TotalTime [.fs (r7.1.map impl_Job.cells)] H ng = some (.tup [.int .i64 r43.1, .bool r43.2], H, ng, .inert) := fun H ng => call_far s_impl_TotalTime rfl (K_impl_TotalTime _ _ q45).ret
              obtain ⟨r46, q48, hr⟩ := Option.bind_eq_some_iff.1 hr
              have e47 : ∀ H ng, gcall (shOf F) cl false n_spec_TotalTime [.fs (r7.1.map impl_Job.cells)] H ng = some (.tup [.int .i64 r46.1, .bool r46.2], H, ng, .inert) := fun H ng => call_far s_spec_TotalTime rfl (K_spec_TotalTime _ _ q48).ret
              by_cases h53 : r43.1 = r46.1
              · rw [if_pos h53] at hr
                have e51 : (r43.1 = r46.1) = True := eq_true h53
                clear h53
                by_cases h56 : r43.2 = r46.2
                · rw [if_pos h56] at hr
                  have e54 : (r43.2 == r46.2) = true := beq_iff_eq.2 h56
                  clear h56
                  by_cases h59 : r10.2 = true
                  · rw [if_pos h59] at hr
                    have e57 : r10.2 = true := h59
                    clear h59
                    have e60 : r13.2 = true := beq_l e16 e57
                    have e61 : r25.2 = true := beq_r e34 e57
                    have e62 : r28.2 = true := beq_l e31 e61
                    obtain ⟨r63, q65, hr⟩ := Option.bind_eq_some_iff.1 hr
                    have e64 : ∀ H ng, gcall (shOf F) cl false n_laws_rBest [.fs (r7.1.map impl_Job.cells), .int .i64 r7.2] H ng = some (.tup [.int .i64 r63.1, .bool r63.2], H, ng, .inert) := fun H ng => call_far s_laws_rBest rfl (K_laws_rBest _ _ _ q65).ret
                    obtain ⟨r66, q68, hr⟩ := Option.bind_eq_some_iff.1 hr
                    have e67 : ∀ H ng, gcall (shOf F) cl false n_impl_ValueOf [.fs (r7.1.map impl_Job.cells), .fs (r25.1.map (cI .i64)), .int .i64 r7.2] H ng = some (.tup [.int .i64 r66.1, .bool r66.2], H, ng, .inert) := fun H ng => call_far s_impl_ValueOf rfl (K_impl_ValueOf _ _ _ _ q68).ret
                    obtain ⟨r69, q71, hr⟩ := Option.bind_eq_some_iff.1 hr
                    have e70 : ∀ H ng, gcall (shOf F) cl false n_impl_ValueOf [.fs (r7.1.map impl_Job.cells), .fs (r25.1.map (cI .i64)), .int .i64 1] H ng = some (.tup [.int .i64 r69.1, .bool r69.2], H, ng, .inert) := fun H ng => call_far s_impl_ValueOf rfl (K_impl_ValueOf _ _ _ _ q71).ret
                    by_cases h74 : r63.2 = true
                    · rw [if_pos h74] at hr
                      have e72 : r63.2 = true := h74
                      clear h74
                      by_cases h77 : r66.2 = true
                      · rw [if_pos h77] at hr
                        have e75 : r66.2 = true := h77
                        clear h77
                        by_cases h80 : r69.2 = true
                        · rw [if_pos h80] at hr
                          have e78 : r69.2 = true := h80
                          clear h80
                          have e116 : binI .shl .i64 1 .i64 (r7.1.length : Int) = some (.int .i64 (shlK .i64 1 (r7.1.length : Int))) := bi_shl _ _ _ _ (Int.natCast_nonneg _)
                          by_cases h85 : (r10.1.length : Int) = (shlK .i64 1 (r7.1.length : Int))
                          · rw [if_pos h85] at hr
                            have e83 : ((r10.1.length : Int) = (shlK .i64 1 (r7.1.length : Int))) = True := eq_true h85
                            clear h85
                            obtain ⟨y86, q90, hr⟩ := Option.bind_eq_some_iff.1 hr
                            obtain ⟨e87, e88, e89⟩ := ix_some q90
                            try simp only [Int.toNat_natCast, Int.toNat_zero, Int.reduceToNat] at e88
                            clear q90
                            by_cases h95 : y86 = r63.1
                            · rw [if_pos h95] at hr
                              have e93 : (y86 = r63.1) = True := eq_true h95
                              clear h95
                              by_cases h100 : r66.1 = r63.1
                              · rw [if_pos h100] at hr
                                have e98 : (r66.1 = r63.1) = True := eq_true h100
                                clear h100
                                by_cases h105 : r69.1 = r43.1
                                · rw [if_pos h105] at hr
                                  have e103 : (r69.1 = r43.1) = True := eq_true h105
                                  clear h105
                                  obtain ⟨p106, q115, hr⟩ := Option.bind_eq_some_iff.1 hr
                                  obtain ⟨ex112, T109, H110, ng111, l108, m107⟩ := lp_laws_FnSetValues_l0 (cl := cl) K_laws_rBig K_spec_DrawSetValues K_impl_SetValues K_spec_SetValues K_laws_rInts K_impl_SetOrder K_spec_SetOrder K_impl_TotalTime K_spec_TotalTime K_laws_rBest K_impl_ValueOf  r7.1 r10.1 _ _ q115 [(3, .fs (r7.1.map impl_Job.cells)), (5, .fs (r10.1.map (cI .i64))), (23, .int .i64 0)] [] 0 (show R_laws_FnSetValues_l0 r7.1 r10.1 0 [(3, .fs (r7.1.map impl_Job.cells)), (5, .fs (r10.1.map (cI .i64))), (23, .int .i64 0)] [] from ⟨rfl, rfl, rfl, rfl⟩) rfl
                                  rcases p106 with p106 | p106
                                  · dsimp only at hr
                                    obtain ⟨rfl, e113⟩ := m107
                                    subst e113
                                    have hr_ := Option.some.inj hr; subst hr_
                                    refine RetF.scal (by
                                      simp only [c_laws_FnSetValues, evA, evB, Int.reduceToNat, eq_self, reduceCtorEq, ↓reduceIte, Nat.reduceEqDiff, Nat.reduceAdd, Nat.reduceLT, Nat.reduceLeDiff, Nat.reduceMul, Nat.reduceSub, Nat.reduceBEq, spec_l1Cur.cells, rz_spec_l1Cur, pr_spec_l1Cur, impl_Job.cells, rz_impl_Job, pr_impl_Job, spec_l2Search.cells, rz_spec_l2Search, pr_spec_l2Search, *]
                                      rfl) rfl rfl
                                  · dsimp only at hr
                                    obtain ⟨rfl, e114⟩ := m107
                                    have hr_ := Option.some.inj hr; subst hr_
                                    refine RetF.scal (by
                                      simp only [c_laws_FnSetValues, evA, evB, Int.reduceToNat, eq_self, reduceCtorEq, ↓reduceIte, Nat.reduceEqDiff, Nat.reduceAdd, Nat.reduceLT, Nat.reduceLeDiff, Nat.reduceMul, Nat.reduceSub, Nat.reduceBEq, spec_l1Cur.cells, rz_spec_l1Cur, pr_spec_l1Cur, impl_Job.cells, rz_impl_Job, pr_impl_Job, spec_l2Search.cells, rz_spec_l2Search, pr_spec_l2Search, *]
                                      rfl) rfl rfl
                                · rw [if_neg h105] at hr
                                  have e104 : (r69.1 = r43.1) = False := eq_false h105
                                  clear h105
                                  have hr_ := Option.some.inj hr; subst hr_
                                  refine RetF.scal (by
                                    simp only [c_laws_FnSetValues, evA, evB, Int.reduceToNat, eq_self, reduceCtorEq, ↓reduceIte, Nat.reduceEqDiff, Nat.reduceAdd, Nat.reduceLT, Nat.reduceLeDiff, Nat.reduceMul, Nat.reduceSub, Nat.reduceBEq, spec_l1Cur.cells, rz_spec_l1Cur, pr_spec_l1Cur, impl_Job.cells, rz_impl_Job, pr_impl_Job, spec_l2Search.cells, rz_spec_l2Search, pr_spec_l2Search, *]
                                    rfl) rfl rfl
                              · rw [if_neg h100] at hr
                                have e99 : (r66.1 = r63.1) = False := eq_false h100
                                clear h100
                                have hr_ := Option.some.inj hr; subst hr_
                                refine RetF.scal (by
                                  simp only [c_laws_FnSetValues, evA, evB, Int.reduceToNat, eq_self, reduceCtorEq, ↓reduceIte, Nat.reduceEqDiff, Nat.reduceAdd, Nat.reduceLT, Nat.reduceLeDiff, Nat.reduceMul, Nat.reduceSub, Nat.reduceBEq, spec_l1Cur.cells, rz_spec_l1Cur, pr_spec_l1Cur, impl_Job.cells, rz_impl_Job, pr_impl_Job, spec_l2Search.cells, rz_spec_l2Search, pr_spec_l2Search, *]
                                  rfl) rfl rfl
                            · rw [if_neg h95] at hr
                              have e94 : (y86 = r63.1) = False := eq_false h95
                              clear h95
                              have hr_ := Option.some.inj hr; subst hr_
                              refine RetF.scal (by
                                simp only [c_laws_FnSetValues, evA, evB, Int.reduceToNat, eq_self, reduceCtorEq, ↓reduceIte, Nat.reduceEqDiff, Nat.reduceAdd, Nat.reduceLT, Nat.reduceLeDiff, Nat.reduceMul, Nat.reduceSub, Nat.reduceBEq, spec_l1Cur.cells, rz_spec_l1Cur, pr_spec_l1Cur, impl_Job.cells, rz_impl_Job, pr_impl_Job, spec_l2Search.cells, rz_spec_l2Search, pr_spec_l2Search, *]
                                rfl) rfl rfl
                          · rw [if_neg h85] at hr
                            have e84 : ((r10.1.length : Int) = (shlK .i64 1 (r7.1.length : Int))) = False := eq_false h85
                            clear h85
                            have hr_ := Option.some.inj hr; subst hr_
                            refine RetF.scal (by
                              simp only [c_laws_FnSetValues, evA, evB, Int.reduceToNat, eq_self, reduceCtorEq, ↓reduceIte, Nat.reduceEqDiff, Nat.reduceAdd, Nat.reduceLT, Nat.reduceLeDiff, Nat.reduceMul, Nat.reduceSub, Nat.reduceBEq, spec_l1Cur.cells, rz_spec_l1Cur, pr_spec_l1Cur, impl_Job.cells, rz_impl_Job, pr_impl_Job, spec_l2Search.cells, rz_spec_l2Search, pr_spec_l2Search, *]
                              rfl) rfl rfl
                        · rw [if_neg h80] at hr
                          have e79 : r69.2 = false := Bool.eq_false_iff.2 h80
                          clear h80
                          have hr_ := Option.some.inj hr; subst hr_
                          refine RetF.scal (by
                            simp only [c_laws_FnSetValues, evA, evB, Int.reduceToNat, eq_self, reduceCtorEq, ↓reduceIte, Nat.reduceEqDiff, Nat.reduceAdd, Nat.reduceLT, Nat.reduceLeDiff, Nat.reduceMul, Nat.reduceSub, Nat.reduceBEq, spec_l1Cur.cells, rz_spec_l1Cur, pr_spec_l1Cur, impl_Job.cells, rz_impl_Job, pr_impl_Job, spec_l2Search.cells, rz_spec_l2Search, pr_spec_l2Search, *]
                            rfl) rfl rfl
                      · rw [if_neg h77] at hr
                        have e76 : r66.2 = false := Bool.eq_false_iff.2 h77
                        clear h77
                        have hr_ := Option.some.inj hr; subst hr_
                        refine RetF.scal (by
                          simp only [c_laws_FnSetValues, evA, evB, Int.reduceToNat, eq_self, reduceCtorEq, ↓reduceIte, Nat.reduceEqDiff, Nat.reduceAdd, Nat.reduceLT, Nat.reduceLeDiff, Nat.reduceMul, Nat.reduceSub, Nat.reduceBEq, spec_l1Cur.cells, rz_spec_l1Cur, pr_spec_l1Cur, impl_Job.cells, rz_impl_Job, pr_impl_Job, spec_l2Search.cells, rz_spec_l2Search, pr_spec_l2Search, *]
                          rfl) rfl rfl
                    · rw [if_neg h74] at hr
                      have e73 : r63.2 = false := Bool.eq_false_iff.2 h74
                      clear h74
                      have hr_ := Option.some.inj hr; subst hr_
                      refine RetF.scal (by
                        simp only [c_laws_FnSetValues, evA, evB, Int.reduceToNat, eq_self, reduceCtorEq, ↓reduceIte, Nat.reduceEqDiff, Nat.reduceAdd, Nat.reduceLT, Nat.reduceLeDiff, Nat.reduceMul, Nat.reduceSub, Nat.reduceBEq, spec_l1Cur.cells, rz_spec_l1Cur, pr_spec_l1Cur, impl_Job.cells, rz_impl_Job, pr_impl_Job, spec_l2Search.cells, rz_spec_l2Search, pr_spec_l2Search, *]
                        rfl) rfl rfl
                  · rw [if_neg h59] at hr
                    have e58 : r10.2 = false := Bool.eq_false_iff.2 h59
                    clear h59
                    have e117 : r13.2 = false := beq_l e16 e58
                    have e118 : r25.2 = false := beq_r e34 e58
                    have e119 : r28.2 = false := beq_l e31 e118
                    have hr_ := Option.some.inj hr; subst hr_
                    refine RetF.scal (by
                      simp only [c_laws_FnSetValues, evA, evB, Int.reduceToNat, eq_self, reduceCtorEq, ↓reduceIte, Nat.reduceEqDiff, Nat.reduceAdd, Nat.reduceLT, Nat.reduceLeDiff, Nat.reduceMul, Nat.reduceSub, Nat.reduceBEq, spec_l1Cur.cells, rz_spec_l1Cur, pr_spec_l1Cur, impl_Job.cells, rz_impl_Job, pr_impl_Job, spec_l2Search.cells, rz_spec_l2Search, pr_spec_l2Search, *]
                      rfl) rfl rfl
                · rw [if_neg h56] at hr
                  have e55 : (r43.2 == r46.2) = false := beq_eq_false_iff_ne.2 h56
                  clear h56
                  have hr_ := Option.some.inj hr; subst hr_
                  refine RetF.scal (by
                    simp only [c_laws_FnSetValues, evA, evB, Int.reduceToNat, eq_self, reduceCtorEq, ↓reduceIte, Nat.reduceEqDiff, Nat.reduceAdd, Nat.reduceLT, Nat.reduceLeDiff, Nat.reduceMul, Nat.reduceSub, Nat.reduceBEq, spec_l1Cur.cells, rz_spec_l1Cur, pr_spec_l1Cur, impl_Job.cells, rz_impl_Job, pr_impl_Job, spec_l2Search.cells, rz_spec_l2Search, pr_spec_l2Search, *]
                    rfl) rfl rfl
              · rw [if_neg h53] at hr
                have e52 : (r43.1 = r46.1) = False := eq_false h53
                clear h53
                have hr_ := Option.some.inj hr; subst hr_
                refine RetF.scal (by
                  simp only [c_laws_FnSetValues, evA, evB, Int.reduceToNat, eq_self, reduceCtorEq, ↓reduceIte, Nat.reduceEqDiff, Nat.reduceAdd, Nat.reduceLT, Nat.reduceLeDiff, Nat.reduceMul, Nat.reduceSub, Nat.reduceBEq, spec_l1Cur.cells, rz_spec_l1Cur, pr_spec_l1Cur, impl_Job.cells, rz_impl_Job, pr_impl_Job, spec_l2Search.cells, rz_spec_l2Search, pr_spec_l2Search, *]
                  rfl) rfl rfl
            · rw [if_neg h42] at hr
              have e41 : r37 = false := Bool.eq_false_iff.2 h42
              clear h42
              have hr_ := Option.some.inj hr; subst hr_
              refine RetF.scal (by
                simp only [c_laws_FnSetValues, evA, evB, Int.reduceToNat, eq_self, reduceCtorEq, ↓reduceIte, Nat.reduceEqDiff, Nat.reduceAdd, Nat.reduceLT, Nat.reduceLeDiff, Nat.reduceMul, Nat.reduceSub, Nat.reduceBEq, spec_l1Cur.cells, rz_spec_l1Cur, pr_spec_l1Cur, impl_Job.cells, rz_impl_Job, pr_impl_Job, spec_l2Search.cells, rz_spec_l2Search, pr_spec_l2Search, *]
                rfl) rfl rfl
          · rw [if_neg h36] at hr
            have e35 : (r25.2 == r10.2) = false := beq_eq_false_iff_ne.2 h36
            clear h36
            have hr_ := Option.some.inj hr; subst hr_
            refine RetF.scal (by
              simp only [c_laws_FnSetValues, evA, evB, Int.reduceToNat, eq_self, reduceCtorEq, ↓reduceIte, Nat.reduceEqDiff, Nat.reduceAdd, Nat.reduceLT, Nat.reduceLeDiff, Nat.reduceMul, Nat.reduceSub, Nat.reduceBEq, spec_l1Cur.cells, rz_spec_l1Cur, pr_spec_l1Cur, impl_Job.cells, rz_impl_Job, pr_impl_Job, spec_l2Search.cells, rz_spec_l2Search, pr_spec_l2Search, *]
              rfl) rfl rfl
        · rw [if_neg h33] at hr
          have e32 : (r25.2 == r28.2) = false := beq_eq_false_iff_ne.2 h33
          clear h33
          have hr_ := Option.some.inj hr; subst hr_
          refine RetF.scal (by
            simp only [c_laws_FnSetValues, evA, evB, Int.reduceToNat, eq_self, reduceCtorEq, ↓reduceIte, Nat.reduceEqDiff, Nat.reduceAdd, Nat.reduceLT, Nat.reduceLeDiff, Nat.reduceMul, Nat.reduceSub, Nat.reduceBEq, spec_l1Cur.cells, rz_spec_l1Cur, pr_spec_l1Cur, impl_Job.cells, rz_impl_Job, pr_impl_Job, spec_l2Search.cells, rz_spec_l2Search, pr_spec_l2Search, *]
            rfl) rfl rfl
      · rw [if_neg h24] at hr
        have e23 : r19 = false := Bool.eq_false_iff.2 h24
        clear h24
        have hr_ := Option.some.inj hr; subst hr_
        refine RetF.scal (by
          simp only [c_laws_FnSetValues, evA, evB, Int.reduceToNat, eq_self, reduceCtorEq, ↓reduceIte, Nat.reduceEqDiff, Nat.reduceAdd, Nat.reduceLT, Nat.reduceLeDiff, Nat.reduceMul, Nat.reduceSub, Nat.reduceBEq, spec_l1Cur.cells, rz_spec_l1Cur, pr_spec_l1Cur, impl_Job.cells, rz_impl_Job, pr_impl_Job, spec_l2Search.cells, rz_spec_l2Search, pr_spec_l2Search, *]
          rfl) rfl rfl
    · rw [if_neg h18] at hr
      have e17 : (r10.2 == r13.2) = false := beq_eq_false_iff_ne.2 h18
      clear h18
      have hr_ := Option.some.inj hr; subst hr_
      refine RetF.scal (by
        simp only [c_laws_FnSetValues, evA, evB, Int.reduceToNat, eq_self, reduceCtorEq, ↓reduceIte, Nat.reduceEqDiff, Nat.reduceAdd, Nat.reduceLT, Nat.reduceLeDiff, Nat.reduceMul, Nat.reduceSub, Nat.reduceBEq, spec_l1Cur.cells, rz_spec_l1Cur, pr_spec_l1Cur, impl_Job.cells, rz_impl_Job, pr_impl_Job, spec_l2Search.cells, rz_spec_l2Search, pr_spec_l2Search, *]
        rfl) rfl rfl

end Gh
