/- The ghost answers as the shallow functions do, part 1. Written by program. -/
import Derived.Test.YtebflkckndibiaaSa
namespace Gh
open Go
set_option linter.unusedSimpArgs false
set_option linter.unusedVariables false
set_option maxRecDepth 100000
set_option maxHeartbeats 1000000

theorem ok_spec_l2Greatest {cl : Callee} : K_spec_l2Greatest (x_spec_l2Greatest) (gbody F LL cl c_spec_l2Greatest) := by
  intro objective_ r hr
  unfold x_spec_l2Greatest at hr
  try dsimp only at hr
  by_cases h5 : objective_ = 1
  · rw [if_pos h5] at hr
    have e3 : (objective_ = 1) = True := eq_true h5
    clear h5
    have hr_ := Option.some.inj hr; subst hr_
    refine RetF.scal (by
      simp only [c_spec_l2Greatest, evA, evB, Int.reduceToNat, eq_self, reduceCtorEq, ↓reduceIte, Nat.reduceEqDiff, Nat.reduceAdd, Nat.reduceLT, Nat.reduceLeDiff, Nat.reduceMul, Nat.reduceSub, spec_l1Cur.cells, rz_spec_l1Cur, pr_spec_l1Cur, impl_Job.cells, rz_impl_Job, pr_impl_Job, spec_l2Search.cells, rz_spec_l2Search, pr_spec_l2Search, *]
      rfl) rfl rfl
  · rw [if_neg h5] at hr
    have e4 : (objective_ = 1) = False := eq_false h5
    clear h5
    have hr_ := Option.some.inj hr; subst hr_
    refine RetF.scal (by
      simp only [c_spec_l2Greatest, evA, evB, Int.reduceToNat, eq_self, reduceCtorEq, ↓reduceIte, Nat.reduceEqDiff, Nat.reduceAdd, Nat.reduceLT, Nat.reduceLeDiff, Nat.reduceMul, Nat.reduceSub, spec_l1Cur.cells, rz_spec_l1Cur, pr_spec_l1Cur, impl_Job.cells, rz_impl_Job, pr_impl_Job, spec_l2Search.cells, rz_spec_l2Search, pr_spec_l2Search, *]
      rfl) rfl rfl

theorem ok_spec_l1Most {cl : Callee} : K_spec_l1Most (x_spec_l1Most) (gbody F LL cl c_spec_l1Most) := by
  intro a_ b_ r hr
  unfold x_spec_l1Most at hr
  try dsimp only at hr
  by_cases h5 : b_ < a_
  · rw [if_pos h5] at hr
    have e3 : (b_ < a_) = True := eq_true h5
    clear h5
    have hr_ := Option.some.inj hr; subst hr_
    refine RetF.scal (by
      simp only [c_spec_l1Most, evA, evB, Int.reduceToNat, eq_self, reduceCtorEq, ↓reduceIte, Nat.reduceEqDiff, Nat.reduceAdd, Nat.reduceLT, Nat.reduceLeDiff, Nat.reduceMul, Nat.reduceSub, spec_l1Cur.cells, rz_spec_l1Cur, pr_spec_l1Cur, impl_Job.cells, rz_impl_Job, pr_impl_Job, spec_l2Search.cells, rz_spec_l2Search, pr_spec_l2Search, *]
      rfl) rfl rfl
  · rw [if_neg h5] at hr
    have e4 : (b_ < a_) = False := eq_false h5
    clear h5
    have hr_ := Option.some.inj hr; subst hr_
    refine RetF.scal (by
      simp only [c_spec_l1Most, evA, evB, Int.reduceToNat, eq_self, reduceCtorEq, ↓reduceIte, Nat.reduceEqDiff, Nat.reduceAdd, Nat.reduceLT, Nat.reduceLeDiff, Nat.reduceMul, Nat.reduceSub, spec_l1Cur.cells, rz_spec_l1Cur, pr_spec_l1Cur, impl_Job.cells, rz_impl_Job, pr_impl_Job, spec_l2Search.cells, rz_spec_l2Search, pr_spec_l2Search, *]
      rfl) rfl rfl

theorem ok_spec_l2Cost {cl : Callee} (K_spec_l1Most : K_spec_l1Most x_spec_l1Most (cl n_spec_l1Most)) : K_spec_l2Cost (x_spec_l2Cost) (gbody F LL cl c_spec_l2Cost) := by
  intro j_ end_ objective_ r hr
  unfold x_spec_l2Cost at hr
  try dsimp only at hr
  obtain ⟨r1, q3, hr⟩ := Option.bind_eq_some_iff.1 hr
  have e2 : ∀ H ng, gcall (shOf F) cl false n_spec_l1Most [.int .i64 (subK .i64 end_ j_.Due), .int .i64 0] H ng = some (.int .i64 r1, H, ng, .inert) := fun H ng => call_far s_spec_l1Most rfl (K_spec_l1Most _ _ _ q3).ret
  by_cases h8 : objective_ = 2
  · rw [if_pos h8] at hr
    have e6 : (objective_ = 2) = True := eq_true h8
    clear h8
    have hr_ := Option.some.inj hr; subst hr_
    refine RetF.scal (by
      simp only [c_spec_l2Cost, evA, evB, Int.reduceToNat, eq_self, reduceCtorEq, ↓reduceIte, Nat.reduceEqDiff, Nat.reduceAdd, Nat.reduceLT, Nat.reduceLeDiff, Nat.reduceMul, Nat.reduceSub, spec_l1Cur.cells, rz_spec_l1Cur, pr_spec_l1Cur, impl_Job.cells, rz_impl_Job, pr_impl_Job, spec_l2Search.cells, rz_spec_l2Search, pr_spec_l2Search, *]
      rfl) rfl rfl
  · rw [if_neg h8] at hr
    have e7 : (objective_ = 2) = False := eq_false h8
    clear h8
    by_cases h13 : objective_ = 3
    · rw [if_pos h13] at hr
      have e11 : (objective_ = 3) = True := eq_true h13
      clear h13
      have hr_ := Option.some.inj hr; subst hr_
      refine RetF.scal (by
        simp only [c_spec_l2Cost, evA, evB, Int.reduceToNat, eq_self, reduceCtorEq, ↓reduceIte, Nat.reduceEqDiff, Nat.reduceAdd, Nat.reduceLT, Nat.reduceLeDiff, Nat.reduceMul, Nat.reduceSub, spec_l1Cur.cells, rz_spec_l1Cur, pr_spec_l1Cur, impl_Job.cells, rz_impl_Job, pr_impl_Job, spec_l2Search.cells, rz_spec_l2Search, pr_spec_l2Search, *]
        rfl) rfl rfl
    · rw [if_neg h13] at hr
      have e12 : (objective_ = 3) = False := eq_false h13
      clear h13
      by_cases h18 : objective_ = 5
      · rw [if_pos h18] at hr
        have e16 : (objective_ = 5) = True := eq_true h18
        clear h18
        have hr_ := Option.some.inj hr; subst hr_
        refine RetF.scal (by
          simp only [c_spec_l2Cost, evA, evB, Int.reduceToNat, eq_self, reduceCtorEq, ↓reduceIte, Nat.reduceEqDiff, Nat.reduceAdd, Nat.reduceLT, Nat.reduceLeDiff, Nat.reduceMul, Nat.reduceSub, spec_l1Cur.cells, rz_spec_l1Cur, pr_spec_l1Cur, impl_Job.cells, rz_impl_Job, pr_impl_Job, spec_l2Search.cells, rz_spec_l2Search, pr_spec_l2Search, *]
          rfl) rfl rfl
      · rw [if_neg h18] at hr
        have e17 : (objective_ = 5) = False := eq_false h18
        clear h18
        by_cases h23 : objective_ = 6
        · rw [if_pos h23] at hr
          have e21 : (objective_ = 6) = True := eq_true h23
          clear h23
          have hr_ := Option.some.inj hr; subst hr_
          refine RetF.scal (by
            simp only [c_spec_l2Cost, evA, evB, Int.reduceToNat, eq_self, reduceCtorEq, ↓reduceIte, Nat.reduceEqDiff, Nat.reduceAdd, Nat.reduceLT, Nat.reduceLeDiff, Nat.reduceMul, Nat.reduceSub, spec_l1Cur.cells, rz_spec_l1Cur, pr_spec_l1Cur, impl_Job.cells, rz_impl_Job, pr_impl_Job, spec_l2Search.cells, rz_spec_l2Search, pr_spec_l2Search, *]
            rfl) rfl rfl
        · rw [if_neg h23] at hr
          have e22 : (objective_ = 6) = False := eq_false h23
          clear h23
          by_cases h28 : r1 = 0
          · rw [if_pos h28] at hr
            have e26 : (r1 = 0) = True := eq_true h28
            clear h28
            have hr_ := Option.some.inj hr; subst hr_
            refine RetF.scal (by
              simp only [c_spec_l2Cost, evA, evB, Int.reduceToNat, eq_self, reduceCtorEq, ↓reduceIte, Nat.reduceEqDiff, Nat.reduceAdd, Nat.reduceLT, Nat.reduceLeDiff, Nat.reduceMul, Nat.reduceSub, spec_l1Cur.cells, rz_spec_l1Cur, pr_spec_l1Cur, impl_Job.cells, rz_impl_Job, pr_impl_Job, spec_l2Search.cells, rz_spec_l2Search, pr_spec_l2Search, *]
              rfl) rfl rfl
          · rw [if_neg h28] at hr
            have e27 : (r1 = 0) = False := eq_false h28
            clear h28
            by_cases h33 : objective_ = 7
            · rw [if_pos h33] at hr
              have e31 : (objective_ = 7) = True := eq_true h33
              clear h33
              have hr_ := Option.some.inj hr; subst hr_
              refine RetF.scal (by
                simp only [c_spec_l2Cost, evA, evB, Int.reduceToNat, eq_self, reduceCtorEq, ↓reduceIte, Nat.reduceEqDiff, Nat.reduceAdd, Nat.reduceLT, Nat.reduceLeDiff, Nat.reduceMul, Nat.reduceSub, spec_l1Cur.cells, rz_spec_l1Cur, pr_spec_l1Cur, impl_Job.cells, rz_impl_Job, pr_impl_Job, spec_l2Search.cells, rz_spec_l2Search, pr_spec_l2Search, *]
                rfl) rfl rfl
            · rw [if_neg h33] at hr
              have e32 : (objective_ = 7) = False := eq_false h33
              clear h33
              have hr_ := Option.some.inj hr; subst hr_
              refine RetF.scal (by
                simp only [c_spec_l2Cost, evA, evB, Int.reduceToNat, eq_self, reduceCtorEq, ↓reduceIte, Nat.reduceEqDiff, Nat.reduceAdd, Nat.reduceLT, Nat.reduceLeDiff, Nat.reduceMul, Nat.reduceSub, spec_l1Cur.cells, rz_spec_l1Cur, pr_spec_l1Cur, impl_Job.cells, rz_impl_Job, pr_impl_Job, spec_l2Search.cells, rz_spec_l2Search, pr_spec_l2Search, *]
                rfl) rfl rfl

theorem st_spec_l2Of_l0 {cl : Callee} (K_spec_l2Greatest : K_spec_l2Greatest x_spec_l2Greatest (cl n_spec_l2Greatest)) (K_spec_l2Cost : K_spec_l2Cost x_spec_l2Cost (cl n_spec_l2Cost)) (jobs_ : (List impl_Job)) (ends_ : (List Int)) (objective_ : Int) (st_ : (Int × Int)) (c_ : Ctl (Int × Int) (Int)) (hr : x_spec_l2Of_l0 jobs_ ends_ objective_ st_ = some c_) (T_ : Tm) (H_ : List Blk) (ng : Nat) (hR_ : R_spec_l2Of_l0 jobs_ ends_ objective_ st_ T_ H_) :
    ∃ e_ T1_ H1_ ng1_, gcode (shOf F) cl LL c_spec_l2Of_l0 ⟨maskT (some [0, 1, 2, 7, 8]) T_, H_, ng⟩ = some (e_, ⟨T1_, H1_, ng1_⟩) ∧ TurnOK (R_spec_l2Of_l0 jobs_ ends_ objective_) (Q_spec_l2Of_l0 jobs_ ends_ objective_) 0 c_ e_ T1_ H1_ := by
  obtain ⟨out_, i_⟩ := st_
  obtain ⟨f0_, f1_, f2_, f3_, f4_, rfl⟩ := hR_
  unfold x_spec_l2Of_l0 at hr
  try dsimp only at hr
  by_cases h5 : i_ < (jobs_.length : Int)
  · rw [if_pos h5] at hr
    have e3 : (i_ < (jobs_.length : Int)) = True := eq_true h5
    clear h5
    obtain ⟨r6, q8, hr⟩ := Option.bind_eq_some_iff.1 hr
    have e7 : ∀ H ng, gcall (shOf F) cl false n_spec_l2Greatest [.int .i64 objective_] H ng = some (.bool r6, H, ng, .inert) := fun H ng => call_far s_spec_l2Greatest rfl (K_spec_l2Greatest _ _ q8).ret
    by_cases h11 : r6 = true
    · rw [if_pos h11] at hr
      have e9 : r6 = true := h11
      clear h11
      obtain ⟨y12, q16, hr⟩ := Option.bind_eq_some_iff.1 hr
      obtain ⟨e13, e14, e15⟩ := ix_some q16
      try simp only [Int.toNat_natCast, Int.toNat_zero, Int.reduceToNat] at e14
      clear q16
      by_cases h21 : objective_ = 4
      · rw [if_pos h21] at hr
        have e19 : (objective_ = 4) = True := eq_true h21
        clear h21
        obtain ⟨y22, q26, hr⟩ := Option.bind_eq_some_iff.1 hr
        obtain ⟨e23, e24, e25⟩ := ix_some q26
        try simp only [Int.toNat_natCast, Int.toNat_zero, Int.reduceToNat] at e24
        clear q26
        by_cases h31 : i_ = 0
        · rw [if_pos h31] at hr
          have e29 : (i_ = 0) = True := eq_true h31
          clear h31
          have hr_ := Option.some.inj hr; subst hr_
          refine turn (by
            simp only [c_spec_l2Of_l0, evA, evB, Int.reduceToNat, eq_self, reduceCtorEq, ↓reduceIte, Nat.reduceEqDiff, Nat.reduceAdd, Nat.reduceLT, Nat.reduceLeDiff, Nat.reduceMul, Nat.reduceSub, spec_l1Cur.cells, rz_spec_l1Cur, pr_spec_l1Cur, impl_Job.cells, rz_impl_Job, pr_impl_Job, spec_l2Search.cells, rz_spec_l2Search, pr_spec_l2Search, *]
            rfl) ?_
          exact ⟨rfl, rfl, rfl, rfl, rfl, rfl, rfl⟩
        · rw [if_neg h31] at hr
          have e30 : (i_ = 0) = False := eq_false h31
          clear h31
          by_cases h36 : out_ < (subK .i64 y12 y22.Due)
          · rw [if_pos h36] at hr
            have e34 : (out_ < (subK .i64 y12 y22.Due)) = True := eq_true h36
            clear h36
            have hr_ := Option.some.inj hr; subst hr_
            refine turn (by
              simp only [c_spec_l2Of_l0, evA, evB, Int.reduceToNat, eq_self, reduceCtorEq, ↓reduceIte, Nat.reduceEqDiff, Nat.reduceAdd, Nat.reduceLT, Nat.reduceLeDiff, Nat.reduceMul, Nat.reduceSub, spec_l1Cur.cells, rz_spec_l1Cur, pr_spec_l1Cur, impl_Job.cells, rz_impl_Job, pr_impl_Job, spec_l2Search.cells, rz_spec_l2Search, pr_spec_l2Search, *]
              rfl) ?_
            exact ⟨rfl, rfl, rfl, rfl, rfl, rfl, rfl⟩
          · rw [if_neg h36] at hr
            have e35 : (out_ < (subK .i64 y12 y22.Due)) = False := eq_false h36
            clear h36
            have hr_ := Option.some.inj hr; subst hr_
            refine turn (by
              simp only [c_spec_l2Of_l0, evA, evB, Int.reduceToNat, eq_self, reduceCtorEq, ↓reduceIte, Nat.reduceEqDiff, Nat.reduceAdd, Nat.reduceLT, Nat.reduceLeDiff, Nat.reduceMul, Nat.reduceSub, spec_l1Cur.cells, rz_spec_l1Cur, pr_spec_l1Cur, impl_Job.cells, rz_impl_Job, pr_impl_Job, spec_l2Search.cells, rz_spec_l2Search, pr_spec_l2Search, *]
              rfl) ?_
            exact ⟨rfl, rfl, rfl, rfl, rfl, rfl, rfl⟩
      · rw [if_neg h21] at hr
        have e20 : (objective_ = 4) = False := eq_false h21
        clear h21
        by_cases h41 : i_ = 0
        · rw [if_pos h41] at hr
          have e39 : (i_ = 0) = True := eq_true h41
          clear h41
          have hr_ := Option.some.inj hr; subst hr_
          refine turn (by
            simp only [c_spec_l2Of_l0, evA, evB, Int.reduceToNat, eq_self, reduceCtorEq, ↓reduceIte, Nat.reduceEqDiff, Nat.reduceAdd, Nat.reduceLT, Nat.reduceLeDiff, Nat.reduceMul, Nat.reduceSub, spec_l1Cur.cells, rz_spec_l1Cur, pr_spec_l1Cur, impl_Job.cells, rz_impl_Job, pr_impl_Job, spec_l2Search.cells, rz_spec_l2Search, pr_spec_l2Search, *]
            rfl) ?_
          exact ⟨rfl, rfl, rfl, rfl, rfl, rfl, rfl⟩
        · rw [if_neg h41] at hr
          have e40 : (i_ = 0) = False := eq_false h41
          clear h41
          by_cases h46 : out_ < y12
          · rw [if_pos h46] at hr
            have e44 : (out_ < y12) = True := eq_true h46
            clear h46
            have hr_ := Option.some.inj hr; subst hr_
            refine turn (by
              simp only [c_spec_l2Of_l0, evA, evB, Int.reduceToNat, eq_self, reduceCtorEq, ↓reduceIte, Nat.reduceEqDiff, Nat.reduceAdd, Nat.reduceLT, Nat.reduceLeDiff, Nat.reduceMul, Nat.reduceSub, spec_l1Cur.cells, rz_spec_l1Cur, pr_spec_l1Cur, impl_Job.cells, rz_impl_Job, pr_impl_Job, spec_l2Search.cells, rz_spec_l2Search, pr_spec_l2Search, *]
              rfl) ?_
            exact ⟨rfl, rfl, rfl, rfl, rfl, rfl, rfl⟩
          · rw [if_neg h46] at hr
            have e45 : (out_ < y12) = False := eq_false h46
            clear h46
            have hr_ := Option.some.inj hr; subst hr_
            refine turn (by
              simp only [c_spec_l2Of_l0, evA, evB, Int.reduceToNat, eq_self, reduceCtorEq, ↓reduceIte, Nat.reduceEqDiff, Nat.reduceAdd, Nat.reduceLT, Nat.reduceLeDiff, Nat.reduceMul, Nat.reduceSub, spec_l1Cur.cells, rz_spec_l1Cur, pr_spec_l1Cur, impl_Job.cells, rz_impl_Job, pr_impl_Job, spec_l2Search.cells, rz_spec_l2Search, pr_spec_l2Search, *]
              rfl) ?_
            exact ⟨rfl, rfl, rfl, rfl, rfl, rfl, rfl⟩
    · rw [if_neg h11] at hr
      have e10 : r6 = false := Bool.eq_false_iff.2 h11
      clear h11
      obtain ⟨y47, q51, hr⟩ := Option.bind_eq_some_iff.1 hr
      obtain ⟨e48, e49, e50⟩ := ix_some q51
      try simp only [Int.toNat_natCast, Int.toNat_zero, Int.reduceToNat] at e49
      clear q51
      obtain ⟨y52, q56, hr⟩ := Option.bind_eq_some_iff.1 hr
      obtain ⟨e53, e54, e55⟩ := ix_some q56
      try simp only [Int.toNat_natCast, Int.toNat_zero, Int.reduceToNat] at e54
      clear q56
      obtain ⟨r57, q59, hr⟩ := Option.bind_eq_some_iff.1 hr
      have e58 : ∀ H ng, gcall (shOf F) cl false n_spec_l2Cost [.agg [.int .i64 y47.Time, .int .i64 y47.Weight, .int .i64 y47.Release, .int .i64 y47.Due], .int .i64 y52, .int .i64 objective_] H ng = some (.int .i64 r57, H, ng, .inert) := fun H ng => call_far s_spec_l2Cost rfl (K_spec_l2Cost _ _ _ _ q59).ret
      have hr_ := Option.some.inj hr; subst hr_
      refine turn (by
        simp only [c_spec_l2Of_l0, evA, evB, Int.reduceToNat, eq_self, reduceCtorEq, ↓reduceIte, Nat.reduceEqDiff, Nat.reduceAdd, Nat.reduceLT, Nat.reduceLeDiff, Nat.reduceMul, Nat.reduceSub, spec_l1Cur.cells, rz_spec_l1Cur, pr_spec_l1Cur, impl_Job.cells, rz_impl_Job, pr_impl_Job, spec_l2Search.cells, rz_spec_l2Search, pr_spec_l2Search, *]
        rfl) ?_
      exact ⟨rfl, rfl, rfl, rfl, rfl, rfl, rfl⟩
  · rw [if_neg h5] at hr
    have e4 : (i_ < (jobs_.length : Int)) = False := eq_false h5
    clear h5
    have hr_ := Option.some.inj hr; subst hr_
    refine turn (by
      simp only [c_spec_l2Of_l0, evA, evB, Int.reduceToNat, eq_self, reduceCtorEq, ↓reduceIte, Nat.reduceEqDiff, Nat.reduceAdd, Nat.reduceLT, Nat.reduceLeDiff, Nat.reduceMul, Nat.reduceSub, spec_l1Cur.cells, rz_spec_l1Cur, pr_spec_l1Cur, impl_Job.cells, rz_impl_Job, pr_impl_Job, spec_l2Search.cells, rz_spec_l2Search, pr_spec_l2Search, *]
      rfl) ?_
    exact ⟨by simp, rfl, rfl, rfl⟩

theorem lp_spec_l2Of_l0 {cl : Callee} (K_spec_l2Greatest : K_spec_l2Greatest x_spec_l2Greatest (cl n_spec_l2Greatest)) (K_spec_l2Cost : K_spec_l2Cost x_spec_l2Cost (cl n_spec_l2Cost)) (jobs_ : (List impl_Job)) (ends_ : (List Int)) (objective_ : Int) (st_ : (Int × Int)) (p_ : (Int)) (hr : loopS (x_spec_l2Of_l0 jobs_ ends_ objective_) LL st_ = some p_) (T_ : Tm) (H_ : List Blk) (ng : Nat) (hR_ : R_spec_l2Of_l0 jobs_ ends_ objective_ st_ T_ H_) (hn_ : H_.length = 0) :
    ∃ e_ T1_ H1_ ng1_, gcode (shOf F) cl LL (.loop false (some [0, 1, 2, 7, 8]) c_spec_l2Of_l0) ⟨T_, H_, ng⟩ = some (e_, ⟨T1_, H1_, ng1_⟩) ∧ Q_spec_l2Of_l0 jobs_ ends_ objective_ p_ e_ T1_ H1_ :=
  sim_loop (n0 := 0) (R_spec_l2Of_l0 jobs_ ends_ objective_) (Q_spec_l2Of_l0 jobs_ ends_ objective_) (st_spec_l2Of_l0 K_spec_l2Greatest K_spec_l2Cost jobs_ ends_ objective_) st_ p_ hr T_ H_ ng hR_ hn_

theorem ok_spec_l2Of {cl : Callee} (K_spec_l2Greatest : K_spec_l2Greatest x_spec_l2Greatest (cl n_spec_l2Greatest)) (K_spec_l2Cost : K_spec_l2Cost x_spec_l2Cost (cl n_spec_l2Cost)) : K_spec_l2Of (x_spec_l2Of) (gbody F LL cl c_spec_l2Of) := by
  intro jobs_ ends_ objective_ r hr
  unfold x_spec_l2Of at hr
  try dsimp only at hr
  obtain ⟨p1, q10, hr⟩ := Option.bind_eq_some_iff.1 hr
  obtain ⟨ex7, T4, H5, ng6, l3, m2⟩ := lp_spec_l2Of_l0 (cl := cl) K_spec_l2Greatest K_spec_l2Cost  jobs_ ends_ objective_ _ _ q10 [(0, .fs (jobs_.map impl_Job.cells)), (1, .fs (ends_.map (cI .i64))), (2, .int .i64 objective_), (7, .int .i64 0), (8, .int .i64 0)] [] 0 (show R_spec_l2Of_l0 jobs_ ends_ objective_ (0, 0) [(0, .fs (jobs_.map impl_Job.cells)), (1, .fs (ends_.map (cI .i64))), (2, .int .i64 objective_), (7, .int .i64 0), (8, .int .i64 0)] [] from ⟨rfl, rfl, rfl, rfl, rfl, rfl⟩) rfl
  obtain ⟨rfl, e8, e9⟩ := m2
  subst e9
  have hr_ := Option.some.inj hr; subst hr_
  refine RetF.scal (by
    simp only [c_spec_l2Of, evA, evB, Int.reduceToNat, eq_self, reduceCtorEq, ↓reduceIte, Nat.reduceEqDiff, Nat.reduceAdd, Nat.reduceLT, Nat.reduceLeDiff, Nat.reduceMul, Nat.reduceSub, spec_l1Cur.cells, rz_spec_l1Cur, pr_spec_l1Cur, impl_Job.cells, rz_impl_Job, pr_impl_Job, spec_l2Search.cells, rz_spec_l2Search, pr_spec_l2Search, *]
    rfl) rfl rfl

theorem st_spec_l2Starts_l0 {cl : Callee} (K_spec_l1Most : K_spec_l1Most x_spec_l1Most (cl n_spec_l1Most)) (jobs_ : (List impl_Job)) (order_ : (List Int)) (st_ : ((List Int) × Int × Int)) (c_ : Ctl ((List Int) × Int × Int) ((List Int))) (hr : x_spec_l2Starts_l0 jobs_ order_ st_ = some c_) (T_ : Tm) (H_ : List Blk) (ng : Nat) (hR_ : R_spec_l2Starts_l0 jobs_ order_ st_ T_ H_) :
    ∃ e_ T1_ H1_ ng1_, gcode (shOf F) cl LL c_spec_l2Starts_l0 ⟨maskT (some [0, 1, 5, 6, 7]) T_, H_, ng⟩ = some (e_, ⟨T1_, H1_, ng1_⟩) ∧ TurnOK (R_spec_l2Starts_l0 jobs_ order_) (Q_spec_l2Starts_l0 jobs_ order_) 2 c_ e_ T1_ H1_ := by
  obtain ⟨out_, now_, i_⟩ := st_
  obtain ⟨b0, g1, f0_, f1_, f2_, f3_, f4_, rfl⟩ := hR_
  unfold x_spec_l2Starts_l0 at hr
  try dsimp only at hr
  by_cases h5 : i_ < (order_.length : Int)
  · rw [if_pos h5] at hr
    have e3 : (i_ < (order_.length : Int)) = True := eq_true h5
    clear h5
    obtain ⟨y6, q10, hr⟩ := Option.bind_eq_some_iff.1 hr
    obtain ⟨e7, e8, e9⟩ := ix_some q10
    try simp only [Int.toNat_natCast, Int.toNat_zero, Int.reduceToNat] at e8
    clear q10
    obtain ⟨y11, q15, hr⟩ := Option.bind_eq_some_iff.1 hr
    obtain ⟨e12, e13, e14⟩ := ix_some q15
    try simp only [Int.toNat_natCast, Int.toNat_zero, Int.reduceToNat] at e13
    clear q15
    obtain ⟨r16, q18, hr⟩ := Option.bind_eq_some_iff.1 hr
    have e17 : ∀ H ng, gcall (shOf F) cl false n_spec_l1Most [.int .i64 now_, .int .i64 y11.Release] H ng = some (.int .i64 r16, H, ng, .inert) := fun H ng => call_far s_spec_l1Most rfl (K_spec_l1Most _ _ _ q18).ret
    obtain ⟨y19, q23, hr⟩ := Option.bind_eq_some_iff.1 hr
    obtain ⟨e20, e21, e22⟩ := ix_some q23
    try simp only [Int.toNat_natCast, Int.toNat_zero, Int.reduceToNat] at e21
    clear q23
    obtain ⟨l24, q29, hr⟩ := Option.bind_eq_some_iff.1 hr
    obtain ⟨_, _, e25, e26, _⟩ := put_some q29
    try simp only [Int.toNat_natCast, Int.toNat_zero, Int.reduceToNat] at e25
    have e27 : (out_.map (cI .i64)).set (Int.toNat y6) [.int .i64 r16] = l24.map (cI .i64) := by rw [← e25, List.map_set] <;> rfl
    replace e26 : Keep (out_.length = l24.length) := e26
    clear e25 q29
    obtain ⟨y30, q35, hr⟩ := Option.bind_eq_some_iff.1 hr
    obtain ⟨e31, e32, e33⟩ := ix_some q35
    have e34 : (y6 < ((out_.length : Nat) : Int)) = True := by rw [show out_.length = _ from e26]; exact e33
    try simp only [Int.toNat_natCast, Int.toNat_zero, Int.reduceToNat] at e32
    clear q35
    have hr_ := Option.some.inj hr; subst hr_
    refine turn (by
      simp only [c_spec_l2Starts_l0, evA, evB, Int.reduceToNat, eq_self, reduceCtorEq, ↓reduceIte, Nat.reduceEqDiff, Nat.reduceAdd, Nat.reduceLT, Nat.reduceLeDiff, Nat.reduceMul, Nat.reduceSub, spec_l1Cur.cells, rz_spec_l1Cur, pr_spec_l1Cur, impl_Job.cells, rz_impl_Job, pr_impl_Job, spec_l2Search.cells, rz_spec_l2Search, pr_spec_l2Search, *]
      rfl) ?_
    exact ⟨rfl, _, _, rfl, rfl, (congrArg (fun n_ => V.os 1 g1 1 0 n_) e26), rfl, rfl, rfl⟩
  · rw [if_neg h5] at hr
    have e4 : (i_ < (order_.length : Int)) = False := eq_false h5
    clear h5
    have hr_ := Option.some.inj hr; subst hr_
    refine turn (by
      simp only [c_spec_l2Starts_l0, evA, evB, Int.reduceToNat, eq_self, reduceCtorEq, ↓reduceIte, Nat.reduceEqDiff, Nat.reduceAdd, Nat.reduceLT, Nat.reduceLeDiff, Nat.reduceMul, Nat.reduceSub, spec_l1Cur.cells, rz_spec_l1Cur, pr_spec_l1Cur, impl_Job.cells, rz_impl_Job, pr_impl_Job, spec_l2Search.cells, rz_spec_l2Search, pr_spec_l2Search, *]
      rfl) ?_
    exact ⟨by simp, rfl, _, _, rfl, rfl⟩

theorem lp_spec_l2Starts_l0 {cl : Callee} (K_spec_l1Most : K_spec_l1Most x_spec_l1Most (cl n_spec_l1Most)) (jobs_ : (List impl_Job)) (order_ : (List Int)) (st_ : ((List Int) × Int × Int)) (p_ : ((List Int))) (hr : loopS (x_spec_l2Starts_l0 jobs_ order_) LL st_ = some p_) (T_ : Tm) (H_ : List Blk) (ng : Nat) (hR_ : R_spec_l2Starts_l0 jobs_ order_ st_ T_ H_) (hn_ : H_.length = 2) :
    ∃ e_ T1_ H1_ ng1_, gcode (shOf F) cl LL (.loop false (some [0, 1, 5, 6, 7]) c_spec_l2Starts_l0) ⟨T_, H_, ng⟩ = some (e_, ⟨T1_, H1_, ng1_⟩) ∧ Q_spec_l2Starts_l0 jobs_ order_ p_ e_ T1_ H1_ :=
  sim_loop (n0 := 2) (R_spec_l2Starts_l0 jobs_ order_) (Q_spec_l2Starts_l0 jobs_ order_) (st_spec_l2Starts_l0 K_spec_l1Most jobs_ order_) st_ p_ hr T_ H_ ng hR_ hn_

theorem ok_spec_l2Starts {cl : Callee} (K_spec_l1Most : K_spec_l1Most x_spec_l1Most (cl n_spec_l1Most)) : K_spec_l2Starts (x_spec_l2Starts) (gbody F LL cl c_spec_l2Starts) := by
  intro jobs_ order_ r hr
  unfold x_spec_l2Starts at hr
  try dsimp only at hr
  obtain ⟨y1, q9, hr⟩ := Option.bind_eq_some_iff.1 hr
  obtain ⟨e2, e3, e4, e5, e6⟩ := mk_some q9
  try simp only [Int.toNat_natCast] at e5 e6
  have e7 : List.replicate jobs_.length [.int .i64 0] = y1.map (cI .i64) := by rw [← e5, List.map_replicate] <;> rfl
  have e8 : Keep (jobs_.length = y1.length) := e6.symm
  clear e5 e6 q9
  obtain ⟨p10, q21, hr⟩ := Option.bind_eq_some_iff.1 hr
  obtain ⟨ex16, T13, H14, ng15, l12, m11⟩ := lp_spec_l2Starts_l0 (cl := cl) K_spec_l1Most  jobs_ order_ _ _ q21 [(0, .fs (jobs_.map impl_Job.cells)), (1, .fs (order_.map (cI .i64))), (5, .os 1 1 1 0 jobs_.length), (6, .int .i64 0), (7, .int .i64 0)] [(Blk.mk 0 false 1 []), (Blk.mk 1 false 1 (y1.map (cI .i64)))] 2 (show R_spec_l2Starts_l0 jobs_ order_ (y1, 0, 0) [(0, .fs (jobs_.map impl_Job.cells)), (1, .fs (order_.map (cI .i64))), (5, .os 1 1 1 0 jobs_.length), (6, .int .i64 0), (7, .int .i64 0)] [(Blk.mk 0 false 1 []), (Blk.mk 1 false 1 (y1.map (cI .i64)))] from ⟨_, _, rfl, rfl, (congrArg (fun n_ => V.os 1 1 1 0 n_) e8), rfl, rfl, rfl⟩) rfl
  obtain ⟨rfl, b17, g18, e19, e20⟩ := m11
  subst e20
  have hr_ := Option.some.inj hr; subst hr_
  refine ⟨1, g18, [b17, (Blk.mk g18 false 1 (p10.map (cI .i64)))], ng15, ?_, by simp [hget, hp], sc_cI _ _⟩
  simp only [c_spec_l2Starts, evA, evB, Int.reduceToNat, eq_self, reduceCtorEq, ↓reduceIte, Nat.reduceEqDiff, Nat.reduceAdd, Nat.reduceLT, Nat.reduceLeDiff, Nat.reduceMul, Nat.reduceSub, spec_l1Cur.cells, rz_spec_l1Cur, pr_spec_l1Cur, impl_Job.cells, rz_impl_Job, pr_impl_Job, spec_l2Search.cells, rz_spec_l2Search, pr_spec_l2Search, *]

theorem st_spec_l2Ends_l0 {cl : Callee} (K_spec_l2Starts : K_spec_l2Starts x_spec_l2Starts (cl n_spec_l2Starts)) (jobs_ : (List impl_Job)) (st_ : ((List Int) × Int)) (c_ : Ctl ((List Int) × Int) ((List Int))) (hr : x_spec_l2Ends_l0 jobs_ st_ = some c_) (T_ : Tm) (H_ : List Blk) (ng : Nat) (hR_ : R_spec_l2Ends_l0 jobs_ st_ T_ H_) :
    ∃ e_ T1_ H1_ ng1_, gcode (shOf F) cl LL c_spec_l2Ends_l0 ⟨maskT (some [0, 5, 6]) T_, H_, ng⟩ = some (e_, ⟨T1_, H1_, ng1_⟩) ∧ TurnOK (R_spec_l2Ends_l0 jobs_) (Q_spec_l2Ends_l0 jobs_) 1 c_ e_ T1_ H1_ := by
  obtain ⟨out_, i_⟩ := st_
  obtain ⟨g0, f0_, f1_, f2_, rfl⟩ := hR_
  unfold x_spec_l2Ends_l0 at hr
  try dsimp only at hr
  by_cases h5 : i_ < (jobs_.length : Int)
  · rw [if_pos h5] at hr
    have e3 : (i_ < (jobs_.length : Int)) = True := eq_true h5
    clear h5
    obtain ⟨y6, q10, hr⟩ := Option.bind_eq_some_iff.1 hr
    obtain ⟨e7, e8, e9⟩ := ix_some q10
    try simp only [Int.toNat_natCast, Int.toNat_zero, Int.reduceToNat] at e8
    clear q10
    obtain ⟨y11, q15, hr⟩ := Option.bind_eq_some_iff.1 hr
    obtain ⟨e12, e13, e14⟩ := ix_some q15
    try simp only [Int.toNat_natCast, Int.toNat_zero, Int.reduceToNat] at e13
    clear q15
    obtain ⟨l16, q21, hr⟩ := Option.bind_eq_some_iff.1 hr
    obtain ⟨_, _, e17, e18, _⟩ := put_some q21
    try simp only [Int.toNat_natCast, Int.toNat_zero, Int.reduceToNat] at e17
    have e19 : (out_.map (cI .i64)).set (Int.toNat i_) [.int .i64 (addK .i64 y6 y11.Time)] = l16.map (cI .i64) := by rw [← e17, List.map_set] <;> rfl
    replace e18 : Keep (out_.length = l16.length) := e18
    clear e17 q21
    have hr_ := Option.some.inj hr; subst hr_
    refine turn (by
      simp only [c_spec_l2Ends_l0, evA, evB, Int.reduceToNat, eq_self, reduceCtorEq, ↓reduceIte, Nat.reduceEqDiff, Nat.reduceAdd, Nat.reduceLT, Nat.reduceLeDiff, Nat.reduceMul, Nat.reduceSub, spec_l1Cur.cells, rz_spec_l1Cur, pr_spec_l1Cur, impl_Job.cells, rz_impl_Job, pr_impl_Job, spec_l2Search.cells, rz_spec_l2Search, pr_spec_l2Search, *]
      rfl) ?_
    exact ⟨rfl, _, rfl, (congrArg (fun n_ => V.os 0 g0 1 0 n_) e18), rfl, rfl⟩
  · rw [if_neg h5] at hr
    have e4 : (i_ < (jobs_.length : Int)) = False := eq_false h5
    clear h5
    have hr_ := Option.some.inj hr; subst hr_
    refine turn (by
      simp only [c_spec_l2Ends_l0, evA, evB, Int.reduceToNat, eq_self, reduceCtorEq, ↓reduceIte, Nat.reduceEqDiff, Nat.reduceAdd, Nat.reduceLT, Nat.reduceLeDiff, Nat.reduceMul, Nat.reduceSub, spec_l1Cur.cells, rz_spec_l1Cur, pr_spec_l1Cur, impl_Job.cells, rz_impl_Job, pr_impl_Job, spec_l2Search.cells, rz_spec_l2Search, pr_spec_l2Search, *]
      rfl) ?_
    exact ⟨by simp, rfl, _, rfl, rfl⟩

theorem lp_spec_l2Ends_l0 {cl : Callee} (K_spec_l2Starts : K_spec_l2Starts x_spec_l2Starts (cl n_spec_l2Starts)) (jobs_ : (List impl_Job)) (st_ : ((List Int) × Int)) (p_ : ((List Int))) (hr : loopS (x_spec_l2Ends_l0 jobs_) LL st_ = some p_) (T_ : Tm) (H_ : List Blk) (ng : Nat) (hR_ : R_spec_l2Ends_l0 jobs_ st_ T_ H_) (hn_ : H_.length = 1) :
    ∃ e_ T1_ H1_ ng1_, gcode (shOf F) cl LL (.loop false (some [0, 5, 6]) c_spec_l2Ends_l0) ⟨T_, H_, ng⟩ = some (e_, ⟨T1_, H1_, ng1_⟩) ∧ Q_spec_l2Ends_l0 jobs_ p_ e_ T1_ H1_ :=
  sim_loop (n0 := 1) (R_spec_l2Ends_l0 jobs_) (Q_spec_l2Ends_l0 jobs_) (st_spec_l2Ends_l0 K_spec_l2Starts jobs_) st_ p_ hr T_ H_ ng hR_ hn_

theorem ok_spec_l2Ends {cl : Callee} (K_spec_l2Starts : K_spec_l2Starts x_spec_l2Starts (cl n_spec_l2Starts)) : K_spec_l2Ends (x_spec_l2Ends) (gbody F LL cl c_spec_l2Ends) := by
  intro jobs_ order_ r hr
  unfold x_spec_l2Ends at hr
  try dsimp only at hr
  obtain ⟨r1, q3, hr⟩ := Option.bind_eq_some_iff.1 hr
  have e2 : ∀ H ng, gcall (shOf F) cl true n_spec_l2Starts [.fs (jobs_.map impl_Job.cells), .fs (order_.map (cI .i64))] H ng = some (.os H.length ng 1 0 r1.length, H ++ [⟨ng, false, 1, (r1.map (cI .i64))⟩], ng + 1, .touch [] []) := fun H ng => by have := call_far_own (H := H) (ng := ng) s_spec_l2Starts rfl (K_spec_l2Starts _ _ _ q3); simp only [List.length_map] at this; exact this
  obtain ⟨p4, q14, hr⟩ := Option.bind_eq_some_iff.1 hr
  obtain ⟨ex10, T7, H8, ng9, l6, m5⟩ := lp_spec_l2Ends_l0 (cl := cl) K_spec_l2Starts  jobs_ _ _ q14 [(0, .fs (jobs_.map impl_Job.cells)), (5, .os 0 0 1 0 r1.length), (6, .int .i64 0)] [(Blk.mk 0 false 1 (r1.map (cI .i64)))] 1 (show R_spec_l2Ends_l0 jobs_ (r1, 0) [(0, .fs (jobs_.map impl_Job.cells)), (5, .os 0 0 1 0 r1.length), (6, .int .i64 0)] [(Blk.mk 0 false 1 (r1.map (cI .i64)))] from ⟨_, rfl, rfl, rfl, rfl⟩) rfl
  obtain ⟨rfl, g11, e12, e13⟩ := m5
  subst e13
  have hr_ := Option.some.inj hr; subst hr_
  refine ⟨0, g11, [(Blk.mk g11 false 1 (p4.map (cI .i64)))], ng9, ?_, by simp [hget, hp], sc_cI _ _⟩
  simp only [c_spec_l2Ends, evA, evB, Int.reduceToNat, eq_self, reduceCtorEq, ↓reduceIte, Nat.reduceEqDiff, Nat.reduceAdd, Nat.reduceLT, Nat.reduceLeDiff, Nat.reduceMul, Nat.reduceSub, spec_l1Cur.cells, rz_spec_l1Cur, pr_spec_l1Cur, impl_Job.cells, rz_impl_Job, pr_impl_Job, spec_l2Search.cells, rz_spec_l2Search, pr_spec_l2Search, *]

theorem ok_spec_l2Value {cl : Callee} (K_spec_l2Of : K_spec_l2Of x_spec_l2Of (cl n_spec_l2Of)) (K_spec_l2Ends : K_spec_l2Ends x_spec_l2Ends (cl n_spec_l2Ends)) : K_spec_l2Value (x_spec_l2Value) (gbody F LL cl c_spec_l2Value) := by
  intro jobs_ order_ objective_ r hr
  unfold x_spec_l2Value at hr
  try dsimp only at hr
  obtain ⟨r1, q3, hr⟩ := Option.bind_eq_some_iff.1 hr
  have e2 : ∀ H ng, gcall (shOf F) cl false n_spec_l2Ends [.fs (jobs_.map impl_Job.cells), .fs (order_.map (cI .i64))] H ng = some (.fs (r1.map (cI .i64)), H, ng, .inert) := fun H ng => call_far s_spec_l2Ends rfl (K_spec_l2Ends _ _ _ q3).retF.ret
  obtain ⟨r4, q6, hr⟩ := Option.bind_eq_some_iff.1 hr
  have e5 : ∀ H ng, gcall (shOf F) cl false n_spec_l2Of [.fs (jobs_.map impl_Job.cells), .fs (r1.map (cI .i64)), .int .i64 objective_] H ng = some (.int .i64 r4, H, ng, .inert) := fun H ng => call_far s_spec_l2Of rfl (K_spec_l2Of _ _ _ _ q6).ret
  have hr_ := Option.some.inj hr; subst hr_
  refine RetF.scal (by
    simp only [c_spec_l2Value, evA, evB, Int.reduceToNat, eq_self, reduceCtorEq, ↓reduceIte, Nat.reduceEqDiff, Nat.reduceAdd, Nat.reduceLT, Nat.reduceLeDiff, Nat.reduceMul, Nat.reduceSub, spec_l1Cur.cells, rz_spec_l1Cur, pr_spec_l1Cur, impl_Job.cells, rz_impl_Job, pr_impl_Job, spec_l2Search.cells, rz_spec_l2Search, pr_spec_l2Search, *]
    rfl) rfl rfl

theorem ok_spec_l6Sooner {cl : Callee} : K_spec_l6Sooner (x_spec_l6Sooner) (gbody F LL cl c_spec_l6Sooner) := by
  intro jobs_ i_ j_ r hr
  unfold x_spec_l6Sooner at hr
  try dsimp only at hr
  obtain ⟨y1, q5, hr⟩ := Option.bind_eq_some_iff.1 hr
  obtain ⟨e2, e3, e4⟩ := ix_some q5
  try simp only [Int.toNat_natCast, Int.toNat_zero, Int.reduceToNat] at e3
  clear q5
  obtain ⟨y6, q10, hr⟩ := Option.bind_eq_some_iff.1 hr
  obtain ⟨e7, e8, e9⟩ := ix_some q10
  try simp only [Int.toNat_natCast, Int.toNat_zero, Int.reduceToNat] at e8
  clear q10
  by_cases h15 : y1.Due = y6.Due
  · rw [if_pos h15] at hr
    have e13 : (y1.Due = y6.Due) = True := eq_true h15
    clear h15
    by_cases h20 : y1.Time = y6.Time
    · rw [if_pos h20] at hr
      have e18 : (y1.Time = y6.Time) = True := eq_true h20
      clear h20
      have hr_ := Option.some.inj hr; subst hr_
      refine RetF.scal (by
        simp only [c_spec_l6Sooner, evA, evB, Int.reduceToNat, eq_self, reduceCtorEq, ↓reduceIte, Nat.reduceEqDiff, Nat.reduceAdd, Nat.reduceLT, Nat.reduceLeDiff, Nat.reduceMul, Nat.reduceSub, spec_l1Cur.cells, rz_spec_l1Cur, pr_spec_l1Cur, impl_Job.cells, rz_impl_Job, pr_impl_Job, spec_l2Search.cells, rz_spec_l2Search, pr_spec_l2Search, *]
        rfl) rfl rfl
    · rw [if_neg h20] at hr
      have e19 : (y1.Time = y6.Time) = False := eq_false h20
      clear h20
      have hr_ := Option.some.inj hr; subst hr_
      refine RetF.scal (by
        simp only [c_spec_l6Sooner, evA, evB, Int.reduceToNat, eq_self, reduceCtorEq, ↓reduceIte, Nat.reduceEqDiff, Nat.reduceAdd, Nat.reduceLT, Nat.reduceLeDiff, Nat.reduceMul, Nat.reduceSub, spec_l1Cur.cells, rz_spec_l1Cur, pr_spec_l1Cur, impl_Job.cells, rz_impl_Job, pr_impl_Job, spec_l2Search.cells, rz_spec_l2Search, pr_spec_l2Search, *]
        rfl) rfl rfl
  · rw [if_neg h15] at hr
    have e14 : (y1.Due = y6.Due) = False := eq_false h15
    clear h15
    have hr_ := Option.some.inj hr; subst hr_
    refine RetF.scal (by
      simp only [c_spec_l6Sooner, evA, evB, Int.reduceToNat, eq_self, reduceCtorEq, ↓reduceIte, Nat.reduceEqDiff, Nat.reduceAdd, Nat.reduceLT, Nat.reduceLeDiff, Nat.reduceMul, Nat.reduceSub, spec_l1Cur.cells, rz_spec_l1Cur, pr_spec_l1Cur, impl_Job.cells, rz_impl_Job, pr_impl_Job, spec_l2Search.cells, rz_spec_l2Search, pr_spec_l2Search, *]
      rfl) rfl rfl

theorem st_spec_l6Due_l1 {cl : Callee} (K_spec_l6Sooner : K_spec_l6Sooner x_spec_l6Sooner (cl n_spec_l6Sooner)) (jobs_ : (List impl_Job)) (set_ : (List Int)) (out_ : (List Int)) (i_ : Int) (st_ : (Int)) (c_ : Ctl (Int) (Int)) (hr : x_spec_l6Due_l1 jobs_ set_ out_ i_ st_ = some c_) (T_ : Tm) (H_ : List Blk) (ng : Nat) (hR_ : R_spec_l6Due_l1 jobs_ set_ out_ i_ st_ T_ H_) :
    ∃ e_ T1_ H1_ ng1_, gcode (shOf F) cl LL c_spec_l6Due_l1 ⟨maskT (some [0, 1, 5, 6, 7]) T_, H_, ng⟩ = some (e_, ⟨T1_, H1_, ng1_⟩) ∧ TurnOK (R_spec_l6Due_l1 jobs_ set_ out_ i_) (Q_spec_l6Due_l1 jobs_ set_ out_ i_) 0 c_ e_ T1_ H1_ := by
  obtain ⟨k_, hst_⟩ : ∃ x, x = st_ := ⟨_, rfl⟩; subst hst_
  obtain ⟨f0_, f1_, f2_, f3_, f4_, rfl⟩ := hR_
  unfold x_spec_l6Due_l1 at hr
  try dsimp only at hr
  by_cases h5 : k_ < (out_.length : Int)
  · rw [if_pos h5] at hr
    have e3 : (k_ < (out_.length : Int)) = True := eq_true h5
    clear h5
    obtain ⟨y6, q10, hr⟩ := Option.bind_eq_some_iff.1 hr
    obtain ⟨e7, e8, e9⟩ := ix_some q10
    try simp only [Int.toNat_natCast, Int.toNat_zero, Int.reduceToNat] at e8
    clear q10
    obtain ⟨y11, q15, hr⟩ := Option.bind_eq_some_iff.1 hr
    obtain ⟨e12, e13, e14⟩ := ix_some q15
    try simp only [Int.toNat_natCast, Int.toNat_zero, Int.reduceToNat] at e13
    clear q15
    obtain ⟨r16, q18, hr⟩ := Option.bind_eq_some_iff.1 hr
    have e17 : ∀ H ng, gcall (shOf F) cl false n_spec_l6Sooner [.fs (jobs_.map impl_Job.cells), .int .i64 y6, .int .i64 y11] H ng = some (.bool r16, H, ng, .inert) := fun H ng => call_far s_spec_l6Sooner rfl (K_spec_l6Sooner _ _ _ _ q18).ret
    by_cases h21 : r16 = true
    · rw [if_pos h21] at hr
      have e19 : r16 = true := h21
      clear h21
      have hr_ := Option.some.inj hr; subst hr_
      refine turn (by
        simp only [c_spec_l6Due_l1, evA, evB, Int.reduceToNat, eq_self, reduceCtorEq, ↓reduceIte, Nat.reduceEqDiff, Nat.reduceAdd, Nat.reduceLT, Nat.reduceLeDiff, Nat.reduceMul, Nat.reduceSub, spec_l1Cur.cells, rz_spec_l1Cur, pr_spec_l1Cur, impl_Job.cells, rz_impl_Job, pr_impl_Job, spec_l2Search.cells, rz_spec_l2Search, pr_spec_l2Search, *]
        rfl) ?_
      exact ⟨rfl, rfl, rfl, rfl, rfl, rfl, rfl⟩
    · rw [if_neg h21] at hr
      have e20 : r16 = false := Bool.eq_false_iff.2 h21
      clear h21
      have hr_ := Option.some.inj hr; subst hr_
      refine turn (by
        simp only [c_spec_l6Due_l1, evA, evB, Int.reduceToNat, eq_self, reduceCtorEq, ↓reduceIte, Nat.reduceEqDiff, Nat.reduceAdd, Nat.reduceLT, Nat.reduceLeDiff, Nat.reduceMul, Nat.reduceSub, spec_l1Cur.cells, rz_spec_l1Cur, pr_spec_l1Cur, impl_Job.cells, rz_impl_Job, pr_impl_Job, spec_l2Search.cells, rz_spec_l2Search, pr_spec_l2Search, *]
        rfl) ?_
      exact ⟨by simp, rfl, rfl, rfl, rfl, rfl, rfl, rfl⟩
  · rw [if_neg h5] at hr
    have e4 : (k_ < (out_.length : Int)) = False := eq_false h5
    clear h5
    have hr_ := Option.some.inj hr; subst hr_
    refine turn (by
      simp only [c_spec_l6Due_l1, evA, evB, Int.reduceToNat, eq_self, reduceCtorEq, ↓reduceIte, Nat.reduceEqDiff, Nat.reduceAdd, Nat.reduceLT, Nat.reduceLeDiff, Nat.reduceMul, Nat.reduceSub, spec_l1Cur.cells, rz_spec_l1Cur, pr_spec_l1Cur, impl_Job.cells, rz_impl_Job, pr_impl_Job, spec_l2Search.cells, rz_spec_l2Search, pr_spec_l2Search, *]
      rfl) ?_
    exact ⟨by simp, rfl, rfl, rfl, rfl, rfl, rfl, rfl⟩

theorem lp_spec_l6Due_l1 {cl : Callee} (K_spec_l6Sooner : K_spec_l6Sooner x_spec_l6Sooner (cl n_spec_l6Sooner)) (jobs_ : (List impl_Job)) (set_ : (List Int)) (out_ : (List Int)) (i_ : Int) (st_ : (Int)) (p_ : (Int)) (hr : loopS (x_spec_l6Due_l1 jobs_ set_ out_ i_) LL st_ = some p_) (T_ : Tm) (H_ : List Blk) (ng : Nat) (hR_ : R_spec_l6Due_l1 jobs_ set_ out_ i_ st_ T_ H_) (hn_ : H_.length = 0) :
    ∃ e_ T1_ H1_ ng1_, gcode (shOf F) cl LL (.loop false (some [0, 1, 5, 6, 7]) c_spec_l6Due_l1) ⟨T_, H_, ng⟩ = some (e_, ⟨T1_, H1_, ng1_⟩) ∧ Q_spec_l6Due_l1 jobs_ set_ out_ i_ p_ e_ T1_ H1_ :=
  sim_loop (n0 := 0) (R_spec_l6Due_l1 jobs_ set_ out_ i_) (Q_spec_l6Due_l1 jobs_ set_ out_ i_) (st_spec_l6Due_l1 K_spec_l6Sooner jobs_ set_ out_ i_) st_ p_ hr T_ H_ ng hR_ hn_

theorem st_spec_l6Due_l0 {cl : Callee} (K_spec_l6Sooner : K_spec_l6Sooner x_spec_l6Sooner (cl n_spec_l6Sooner)) (jobs_ : (List impl_Job)) (set_ : (List Int)) (st_ : ((List Int) × Int)) (c_ : Ctl ((List Int) × Int) ((List Int))) (hr : x_spec_l6Due_l0 jobs_ set_ st_ = some c_) (T_ : Tm) (H_ : List Blk) (ng : Nat) (hR_ : R_spec_l6Due_l0 jobs_ set_ st_ T_ H_) :
    ∃ e_ T1_ H1_ ng1_, gcode (shOf F) cl LL c_spec_l6Due_l0 ⟨maskT (some [0, 1, 5, 6]) T_, H_, ng⟩ = some (e_, ⟨T1_, H1_, ng1_⟩) ∧ TurnOK (R_spec_l6Due_l0 jobs_ set_) (Q_spec_l6Due_l0 jobs_ set_) 0 c_ e_ T1_ H1_ := by
  obtain ⟨out_, i_⟩ := st_
  obtain ⟨f0_, f1_, f2_, f3_, rfl⟩ := hR_
  unfold x_spec_l6Due_l0 at hr
  try dsimp only at hr
  by_cases h5 : i_ < (set_.length : Int)
  · rw [if_pos h5] at hr
    have e3 : (i_ < (set_.length : Int)) = True := eq_true h5
    clear h5
    obtain ⟨p6, q61, hr⟩ := Option.bind_eq_some_iff.1 hr
    obtain ⟨ex12, T9, H10, ng11, l8, m7⟩ := lp_spec_l6Due_l1 (cl := cl) K_spec_l6Sooner  jobs_ set_ out_ i_ _ _ q61 [(0, .fs (jobs_.map impl_Job.cells)), (1, .fs (set_.map (cI .i64))), (5, .fs (out_.map (cI .i64))), (6, .int .i64 i_), (7, .int .i64 0)] [] ng (show R_spec_l6Due_l1 jobs_ set_ out_ i_ 0 [(0, .fs (jobs_.map impl_Job.cells)), (1, .fs (set_.map (cI .i64))), (5, .fs (out_.map (cI .i64))), (6, .int .i64 i_), (7, .int .i64 0)] [] from ⟨rfl, rfl, rfl, rfl, rfl, rfl⟩) rfl
    obtain ⟨rfl, e13, e14, e15, e16, e17, e18⟩ := m7
    subst e18
    obtain ⟨y19, q26, hr⟩ := Option.bind_eq_some_iff.1 hr
    obtain ⟨e20, e21, e22, e23, e24⟩ := cut_some q26
    try simp only [Int.toNat_natCast, Int.toNat_zero, Int.reduceToNat, List.drop_zero] at e23
    have e25 : List.take (Int.toNat p6) (out_.map (cI .i64)) = y19.map (cI .i64) := by rw [← e23]; simp only [List.map_drop, List.map_take, take_map_len]
    clear q26 e24
    by_cases h29 : fits y19.length 8
    · rw [if_pos h29] at hr
      have e27 : (y19.length * 8 ≤ room) = True := eq_true h29.1
      have e28 : (y19.length ≤ room) = True := eq_true h29.2
      clear h29
      obtain ⟨y30, q34, hr⟩ := Option.bind_eq_some_iff.1 hr
      obtain ⟨e31, e32, e33⟩ := ix_some q34
      try simp only [Int.toNat_natCast, Int.toNat_zero, Int.reduceToNat] at e32
      clear q34
      obtain ⟨l35, q43, hr⟩ := Option.bind_eq_some_iff.1 hr
      obtain ⟨e36, e37, e38, e39⟩ := app_some q43
      try simp only [List.length_cons, List.length_nil, Nat.zero_add, Nat.reduceAdd] at e36 e37 e39
      have e40 : (y19.map (cI .i64)) ++ [[.int .i64 y30]] = l35.map (cI .i64) := by rw [← e38, List.map_append] <;> rfl
      have e41 := e36
      have e42 := e37
      rw [e39] at e41 e42
      clear e38 q43
      obtain ⟨y44, q51, hr⟩ := Option.bind_eq_some_iff.1 hr
      obtain ⟨e45, e46, e47, e48, e49⟩ := cut_some q51
      try simp only [Int.toNat_natCast, Int.toNat_zero, Int.reduceToNat, List.drop_zero] at e48
      have e50 : List.drop (Int.toNat p6) ((out_.map (cI .i64))) = y44.map (cI .i64) := by rw [← e48]; simp only [List.map_drop, List.map_take, take_map_len]
      clear q51 e49
      obtain ⟨l52, q60, hr⟩ := Option.bind_eq_some_iff.1 hr
      obtain ⟨e53, e54, e55, e56⟩ := app_some q60
      try simp only [List.length_cons, List.length_nil, Nat.zero_add, Nat.reduceAdd] at e53 e54 e56
      have e57 : (l35.map (cI .i64)) ++ (y44.map (cI .i64)) = l52.map (cI .i64) := by rw [← e55, List.map_append] <;> rfl
      have e58 := e53
      have e59 := e54
      rw [e56] at e58 e59
      clear e55 q60
      have hr_ := Option.some.inj hr; subst hr_
      refine turn (by
        simp only [c_spec_l6Due_l0, evA, evB, Int.reduceToNat, eq_self, reduceCtorEq, ↓reduceIte, Nat.reduceEqDiff, Nat.reduceAdd, Nat.reduceLT, Nat.reduceLeDiff, Nat.reduceMul, Nat.reduceSub, spec_l1Cur.cells, rz_spec_l1Cur, pr_spec_l1Cur, impl_Job.cells, rz_impl_Job, pr_impl_Job, spec_l2Search.cells, rz_spec_l2Search, pr_spec_l2Search, *]
        rfl) ?_
      exact ⟨rfl, rfl, rfl, rfl, rfl, rfl⟩
    · rw [if_neg h29] at hr
      clear h29
      exact nomatch hr
  · rw [if_neg h5] at hr
    have e4 : (i_ < (set_.length : Int)) = False := eq_false h5
    clear h5
    have hr_ := Option.some.inj hr; subst hr_
    refine turn (by
      simp only [c_spec_l6Due_l0, evA, evB, Int.reduceToNat, eq_self, reduceCtorEq, ↓reduceIte, Nat.reduceEqDiff, Nat.reduceAdd, Nat.reduceLT, Nat.reduceLeDiff, Nat.reduceMul, Nat.reduceSub, spec_l1Cur.cells, rz_spec_l1Cur, pr_spec_l1Cur, impl_Job.cells, rz_impl_Job, pr_impl_Job, spec_l2Search.cells, rz_spec_l2Search, pr_spec_l2Search, *]
      rfl) ?_
    exact ⟨by simp, rfl, rfl, rfl⟩

theorem lp_spec_l6Due_l0 {cl : Callee} (K_spec_l6Sooner : K_spec_l6Sooner x_spec_l6Sooner (cl n_spec_l6Sooner)) (jobs_ : (List impl_Job)) (set_ : (List Int)) (st_ : ((List Int) × Int)) (p_ : ((List Int))) (hr : loopS (x_spec_l6Due_l0 jobs_ set_) LL st_ = some p_) (T_ : Tm) (H_ : List Blk) (ng : Nat) (hR_ : R_spec_l6Due_l0 jobs_ set_ st_ T_ H_) (hn_ : H_.length = 0) :
    ∃ e_ T1_ H1_ ng1_, gcode (shOf F) cl LL (.loop false (some [0, 1, 5, 6]) c_spec_l6Due_l0) ⟨T_, H_, ng⟩ = some (e_, ⟨T1_, H1_, ng1_⟩) ∧ Q_spec_l6Due_l0 jobs_ set_ p_ e_ T1_ H1_ :=
  sim_loop (n0 := 0) (R_spec_l6Due_l0 jobs_ set_) (Q_spec_l6Due_l0 jobs_ set_) (st_spec_l6Due_l0 K_spec_l6Sooner jobs_ set_) st_ p_ hr T_ H_ ng hR_ hn_

theorem ok_spec_l6Due {cl : Callee} (K_spec_l6Sooner : K_spec_l6Sooner x_spec_l6Sooner (cl n_spec_l6Sooner)) : K_spec_l6Due (x_spec_l6Due) (gbody F LL cl c_spec_l6Due) := by
  intro jobs_ set_ r hr
  unfold x_spec_l6Due at hr
  try dsimp only at hr
  obtain ⟨p1, q10, hr⟩ := Option.bind_eq_some_iff.1 hr
  obtain ⟨ex7, T4, H5, ng6, l3, m2⟩ := lp_spec_l6Due_l0 (cl := cl) K_spec_l6Sooner  jobs_ set_ _ _ q10 [(0, .fs (jobs_.map impl_Job.cells)), (1, .fs (set_.map (cI .i64))), (5, .fs []), (6, .int .i64 0)] [] 0 (show R_spec_l6Due_l0 jobs_ set_ (([] : List Int), 0) [(0, .fs (jobs_.map impl_Job.cells)), (1, .fs (set_.map (cI .i64))), (5, .fs []), (6, .int .i64 0)] [] from ⟨rfl, rfl, rfl, rfl, rfl⟩) rfl
  obtain ⟨rfl, e8, e9⟩ := m2
  subst e9
  have hr_ := Option.some.inj hr; subst hr_
  refine Ret.flat (by
    simp only [c_spec_l6Due, evA, evB, Int.reduceToNat, eq_self, reduceCtorEq, ↓reduceIte, Nat.reduceEqDiff, Nat.reduceAdd, Nat.reduceLT, Nat.reduceLeDiff, Nat.reduceMul, Nat.reduceSub, spec_l1Cur.cells, rz_spec_l1Cur, pr_spec_l1Cur, impl_Job.cells, rz_impl_Job, pr_impl_Job, spec_l2Search.cells, rz_spec_l2Search, pr_spec_l2Search, *]
    rfl) rfl

theorem ok_spec_l6Latest {cl : Callee} (K_spec_l6All : K_spec_l6All x_spec_l6All (cl n_spec_l6All)) (K_spec_l2Value : K_spec_l2Value x_spec_l2Value (cl n_spec_l2Value)) (K_spec_l6Due : K_spec_l6Due x_spec_l6Due (cl n_spec_l6Due)) : K_spec_l6Latest (x_spec_l6Latest) (gbody F LL cl c_spec_l6Latest) := by
  intro jobs_ r hr
  unfold x_spec_l6Latest at hr
  try dsimp only at hr
  obtain ⟨r1, q3, hr⟩ := Option.bind_eq_some_iff.1 hr
  have e2 : ∀ H ng, gcall (shOf F) cl false n_spec_l6All [.fs (jobs_.map impl_Job.cells)] H ng = some (.fs (r1.map (cI .i64)), H, ng, .inert) := fun H ng => call_far s_spec_l6All rfl (K_spec_l6All _ _ q3).retF.ret
  obtain ⟨r4, q6, hr⟩ := Option.bind_eq_some_iff.1 hr
  have e5 : ∀ H ng, gcall (shOf F) cl false n_spec_l6Due [.fs (jobs_.map impl_Job.cells), .fs (r1.map (cI .i64))] H ng = some (.fs (r4.map (cI .i64)), H, ng, .inert) := fun H ng => call_far s_spec_l6Due rfl (K_spec_l6Due _ _ _ q6)
  obtain ⟨r7, q9, hr⟩ := Option.bind_eq_some_iff.1 hr
  have e8 : ∀ H ng, gcall (shOf F) cl false n_spec_l2Value [.fs (jobs_.map impl_Job.cells), .fs (r4.map (cI .i64)), .int .i64 4] H ng = some (.int .i64 r7, H, ng, .inert) := fun H ng => call_far s_spec_l2Value rfl (K_spec_l2Value _ _ _ _ q9).ret
  have hr_ := Option.some.inj hr; subst hr_
  refine RetF.scal (by
    simp only [c_spec_l6Latest, evA, evB, Int.reduceToNat, eq_self, reduceCtorEq, ↓reduceIte, Nat.reduceEqDiff, Nat.reduceAdd, Nat.reduceLT, Nat.reduceLeDiff, Nat.reduceMul, Nat.reduceSub, spec_l1Cur.cells, rz_spec_l1Cur, pr_spec_l1Cur, impl_Job.cells, rz_impl_Job, pr_impl_Job, spec_l2Search.cells, rz_spec_l2Search, pr_spec_l2Search, *]
    rfl) rfl rfl

theorem ok_spec_DrawTimelyAfter {cl : Callee} (K_spec_l1Cur_one : K_spec_l1Cur_one x_spec_l1Cur_one (cl n_spec_l1Cur_one)) (K_spec_l1Cur_pick : K_spec_l1Cur_pick x_spec_l1Cur_pick (cl n_spec_l1Cur_pick)) (K_spec_l1Cur_among : K_spec_l1Cur_among x_spec_l1Cur_among (cl n_spec_l1Cur_among)) (K_spec_l1Cur_plainJobs : K_spec_l1Cur_plainJobs x_spec_l1Cur_plainJobs (cl n_spec_l1Cur_plainJobs)) (K_spec_l6Good : K_spec_l6Good x_spec_l6Good (cl n_spec_l6Good)) (K_spec_l6Latest : K_spec_l6Latest x_spec_l6Latest (cl n_spec_l6Latest)) : K_spec_DrawTimelyAfter (x_spec_DrawTimelyAfter) (gbody F LL cl c_spec_DrawTimelyAfter) := by
  intro code_ r hr
  unfold x_spec_DrawTimelyAfter at hr
  try dsimp only at hr
  obtain ⟨r1, q4, hr⟩ := Option.bind_eq_some_iff.1 hr
  obtain ⟨ng2, e3⟩ : ∃ ng', gcall (shOf F) cl false n_spec_l1Cur_plainJobs [.ptr 0 0 0 0, .int .i64 6] [(Blk.mk 0 false 3 [[.fs (code_.map (cI .u8)), .int .i64 0, .int .u64 0]])] 1 = some (.fs (r1.1.map impl_Job.cells), [(Blk.mk 0 false 3 [[.fs (r1.2.code.map (cI .u8)), .int .i64 r1.2.at_, .int .u64 r1.2.seed]])], ng', .all) := call_cur s_spec_l1Cur_plainJobs (K_spec_l1Cur_plainJobs _ _ _ q4) [(Blk.mk 0 false 3 [[.fs (code_.map (cI .u8)), .int .i64 0, .int .u64 0]])] 0 _ 1 (by simp)
  obtain ⟨r5, q8, hr⟩ := Option.bind_eq_some_iff.1 hr
  obtain ⟨ng6, e7⟩ : ∃ ng', gcall (shOf F) cl false n_spec_l1Cur_among [.ptr 0 0 0 0, .fs [[.int .i64 0], [.int .i64 1], [.int .i64 3], [.int .i64 9], [.int .i64 400], [.int .i64 401], [.int .i64 (-1)]]] [(Blk.mk 0 false 3 [[.fs (r1.2.code.map (cI .u8)), .int .i64 r1.2.at_, .int .u64 r1.2.seed]])] ng2 = some (.int .i64 r5.1, [(Blk.mk 0 false 3 [[.fs (r5.2.code.map (cI .u8)), .int .i64 r5.2.at_, .int .u64 r5.2.seed]])], ng', .all) := call_cur s_spec_l1Cur_among (K_spec_l1Cur_among _ _ _ q8) [(Blk.mk 0 false 3 [[.fs (r1.2.code.map (cI .u8)), .int .i64 r1.2.at_, .int .u64 r1.2.seed]])] 0 _ ng2 (by simp)
  obtain ⟨r9, q11, hr⟩ := Option.bind_eq_some_iff.1 hr
  have e10 : ∀ H ng, gcall (shOf F) cl false n_spec_l6Good [.fs (r1.1.map impl_Job.cells)] H ng = some (.bool r9, H, ng, .inert) := fun H ng => call_far s_spec_l6Good rfl (K_spec_l6Good _ _ q11).ret
  by_cases h14 : r9 = true
  · rw [if_pos h14] at hr
    have e12 : r9 = true := h14
    clear h14
    obtain ⟨r15, q18, hr⟩ := Option.bind_eq_some_iff.1 hr
    obtain ⟨ng16, e17⟩ : ∃ ng', gcall (shOf F) cl false n_spec_l1Cur_one [.ptr 0 0 0 0, .int .i64 2] [(Blk.mk 0 false 3 [[.fs (r5.2.code.map (cI .u8)), .int .i64 r5.2.at_, .int .u64 r5.2.seed]])] ng6 = some (.bool r15.1, [(Blk.mk 0 false 3 [[.fs (r15.2.code.map (cI .u8)), .int .i64 r15.2.at_, .int .u64 r15.2.seed]])], ng', .all) := call_cur s_spec_l1Cur_one (K_spec_l1Cur_one _ _ _ q18) [(Blk.mk 0 false 3 [[.fs (r5.2.code.map (cI .u8)), .int .i64 r5.2.at_, .int .u64 r5.2.seed]])] 0 _ ng6 (by simp)
    by_cases h21 : r15.1 = true
    · rw [if_pos h21] at hr
      have e19 : r15.1 = true := h21
      clear h21
      obtain ⟨r22, q24, hr⟩ := Option.bind_eq_some_iff.1 hr
      have e23 : ∀ H ng, gcall (shOf F) cl false n_spec_l6Latest [.fs (r1.1.map impl_Job.cells)] H ng = some (.int .i64 r22, H, ng, .inert) := fun H ng => call_far s_spec_l6Latest rfl (K_spec_l6Latest _ _ q24).ret
      obtain ⟨r25, q28, hr⟩ := Option.bind_eq_some_iff.1 hr
      obtain ⟨ng26, e27⟩ : ∃ ng', gcall (shOf F) cl false n_spec_l1Cur_pick [.ptr 0 0 0 0, .int .i64 2] [(Blk.mk 0 false 3 [[.fs (r15.2.code.map (cI .u8)), .int .i64 r15.2.at_, .int .u64 r15.2.seed]])] ng16 = some (.int .i64 r25.1, [(Blk.mk 0 false 3 [[.fs (r25.2.code.map (cI .u8)), .int .i64 r25.2.at_, .int .u64 r25.2.seed]])], ng', .all) := call_cur s_spec_l1Cur_pick (K_spec_l1Cur_pick _ _ _ q28) [(Blk.mk 0 false 3 [[.fs (r15.2.code.map (cI .u8)), .int .i64 r15.2.at_, .int .u64 r15.2.seed]])] 0 _ ng16 (by simp)
      obtain ⟨r29, q32, hr⟩ := Option.bind_eq_some_iff.1 hr
      obtain ⟨ng30, e31⟩ : ∃ ng', gcall (shOf F) cl false n_spec_l1Cur_pick [.ptr 0 0 0 0, .int .i64 2] [(Blk.mk 0 false 3 [[.fs (r25.2.code.map (cI .u8)), .int .i64 r25.2.at_, .int .u64 r25.2.seed]])] ng26 = some (.int .i64 r29.1, [(Blk.mk 0 false 3 [[.fs (r29.2.code.map (cI .u8)), .int .i64 r29.2.at_, .int .u64 r29.2.seed]])], ng', .all) := call_cur s_spec_l1Cur_pick (K_spec_l1Cur_pick _ _ _ q32) [(Blk.mk 0 false 3 [[.fs (r25.2.code.map (cI .u8)), .int .i64 r25.2.at_, .int .u64 r25.2.seed]])] 0 _ ng26 (by simp)
      have hr_ := Option.some.inj hr; subst hr_
      refine Ret.flat (by
        simp only [c_spec_DrawTimelyAfter, evA, evB, Int.reduceToNat, eq_self, reduceCtorEq, ↓reduceIte, Nat.reduceEqDiff, Nat.reduceAdd, Nat.reduceLT, Nat.reduceLeDiff, Nat.reduceMul, Nat.reduceSub, spec_l1Cur.cells, rz_spec_l1Cur, pr_spec_l1Cur, impl_Job.cells, rz_impl_Job, pr_impl_Job, spec_l2Search.cells, rz_spec_l2Search, pr_spec_l2Search, *]
        rfl) rfl
    · rw [if_neg h21] at hr
      have e20 : r15.1 = false := Bool.eq_false_iff.2 h21
      clear h21
      have hr_ := Option.some.inj hr; subst hr_
      refine Ret.flat (by
        simp only [c_spec_DrawTimelyAfter, evA, evB, Int.reduceToNat, eq_self, reduceCtorEq, ↓reduceIte, Nat.reduceEqDiff, Nat.reduceAdd, Nat.reduceLT, Nat.reduceLeDiff, Nat.reduceMul, Nat.reduceSub, spec_l1Cur.cells, rz_spec_l1Cur, pr_spec_l1Cur, impl_Job.cells, rz_impl_Job, pr_impl_Job, spec_l2Search.cells, rz_spec_l2Search, pr_spec_l2Search, *]
        rfl) rfl
  · rw [if_neg h14] at hr
    have e13 : r9 = false := Bool.eq_false_iff.2 h14
    clear h14
    have hr_ := Option.some.inj hr; subst hr_
    refine Ret.flat (by
      simp only [c_spec_DrawTimelyAfter, evA, evB, Int.reduceToNat, eq_self, reduceCtorEq, ↓reduceIte, Nat.reduceEqDiff, Nat.reduceAdd, Nat.reduceLT, Nat.reduceLeDiff, Nat.reduceMul, Nat.reduceSub, spec_l1Cur.cells, rz_spec_l1Cur, pr_spec_l1Cur, impl_Job.cells, rz_impl_Job, pr_impl_Job, spec_l2Search.cells, rz_spec_l2Search, pr_spec_l2Search, *]
      rfl) rfl

theorem ok_impl_within {cl : Callee} : K_impl_within (x_impl_within) (gbody F LL cl c_impl_within) := by
  intro n_ low_ high_ r hr
  unfold x_impl_within at hr
  try dsimp only at hr
  by_cases h5 : low_ ≤ n_
  · rw [if_pos h5] at hr
    have e3 : (low_ ≤ n_) = True := eq_true h5
    clear h5
    have hr_ := Option.some.inj hr; subst hr_
    refine RetF.scal (by
      simp only [c_impl_within, evA, evB, Int.reduceToNat, eq_self, reduceCtorEq, ↓reduceIte, Nat.reduceEqDiff, Nat.reduceAdd, Nat.reduceLT, Nat.reduceLeDiff, Nat.reduceMul, Nat.reduceSub, spec_l1Cur.cells, rz_spec_l1Cur, pr_spec_l1Cur, impl_Job.cells, rz_impl_Job, pr_impl_Job, spec_l2Search.cells, rz_spec_l2Search, pr_spec_l2Search, *]
      rfl) rfl rfl
  · rw [if_neg h5] at hr
    have e4 : (low_ ≤ n_) = False := eq_false h5
    clear h5
    have hr_ := Option.some.inj hr; subst hr_
    refine RetF.scal (by
      simp only [c_impl_within, evA, evB, Int.reduceToNat, eq_self, reduceCtorEq, ↓reduceIte, Nat.reduceEqDiff, Nat.reduceAdd, Nat.reduceLT, Nat.reduceLeDiff, Nat.reduceMul, Nat.reduceSub, spec_l1Cur.cells, rz_spec_l1Cur, pr_spec_l1Cur, impl_Job.cells, rz_impl_Job, pr_impl_Job, spec_l2Search.cells, rz_spec_l2Search, pr_spec_l2Search, *]
      rfl) rfl rfl

theorem ok_impl_isDate {cl : Callee} (K_impl_within : K_impl_within x_impl_within (cl n_impl_within)) : K_impl_isDate (x_impl_isDate) (gbody F LL cl c_impl_isDate) := by
  intro n_ r hr
  unfold x_impl_isDate at hr
  try dsimp only at hr
  obtain ⟨r1, q3, hr⟩ := Option.bind_eq_some_iff.1 hr
  have e2 : ∀ H ng, gcall (shOf F) cl false n_impl_within [.int .i64 n_, .int .i64 0, .int .i64 500] H ng = some (.bool r1, H, ng, .inert) := fun H ng => call_far s_impl_within rfl (K_impl_within _ _ _ _ q3).ret
  have hr_ := Option.some.inj hr; subst hr_
  refine RetF.scal (by
    simp only [c_impl_isDate, evA, evB, Int.reduceToNat, eq_self, reduceCtorEq, ↓reduceIte, Nat.reduceEqDiff, Nat.reduceAdd, Nat.reduceLT, Nat.reduceLeDiff, Nat.reduceMul, Nat.reduceSub, spec_l1Cur.cells, rz_spec_l1Cur, pr_spec_l1Cur, impl_Job.cells, rz_impl_Job, pr_impl_Job, spec_l2Search.cells, rz_spec_l2Search, pr_spec_l2Search, *]
    rfl) rfl rfl

theorem st_impl_IsJobs_l0 {cl : Callee} (K_impl_within : K_impl_within x_impl_within (cl n_impl_within)) (K_impl_isDate : K_impl_isDate x_impl_isDate (cl n_impl_isDate)) (y : (List impl_Job)) (y1 : Int) (st_ : (Int)) (c_ : Ctl (Int) (Unit ⊕ (Bool))) (hr : x_impl_IsJobs_l0 y y1 st_ = some c_) (T_ : Tm) (H_ : List Blk) (ng : Nat) (hR_ : R_impl_IsJobs_l0 y y1 st_ T_ H_) :
    ∃ e_ T1_ H1_ ng1_, gcode (shOf F) cl LL c_impl_IsJobs_l0 ⟨maskT (some [8, 9, 10]) T_, H_, ng⟩ = some (e_, ⟨T1_, H1_, ng1_⟩) ∧ TurnOK (R_impl_IsJobs_l0 y y1) (Q_impl_IsJobs_l0 y y1) 0 c_ e_ T1_ H1_ := by
  obtain ⟨y2, hst_⟩ : ∃ x, x = st_ := ⟨_, rfl⟩; subst hst_
  obtain ⟨f0_, f1_, f2_, rfl⟩ := hR_
  unfold x_impl_IsJobs_l0 at hr
  try dsimp only at hr
  by_cases h5 : y2 < y1
  · rw [if_pos h5] at hr
    have e3 : (y2 < y1) = True := eq_true h5
    clear h5
    obtain ⟨y6, q10, hr⟩ := Option.bind_eq_some_iff.1 hr
    obtain ⟨e7, e8, e9⟩ := ix_some q10
    try simp only [Int.toNat_natCast, Int.toNat_zero, Int.reduceToNat] at e8
    clear q10
    obtain ⟨r11, q13, hr⟩ := Option.bind_eq_some_iff.1 hr
    have e12 : ∀ H ng, gcall (shOf F) cl false n_impl_within [.int .i64 y6.Time, .int .i64 1, .int .i64 50] H ng = some (.bool r11, H, ng, .inert) := fun H ng => call_far s_impl_within rfl (K_impl_within _ _ _ _ q13).ret
    by_cases h16 : r11 = true
    · rw [if_pos h16] at hr
      have e14 : r11 = true := h16
      clear h16
      obtain ⟨r17, q19, hr⟩ := Option.bind_eq_some_iff.1 hr
      have e18 : ∀ H ng, gcall (shOf F) cl false n_impl_within [.int .i64 y6.Weight, .int .i64 0, .int .i64 50] H ng = some (.bool r17, H, ng, .inert) := fun H ng => call_far s_impl_within rfl (K_impl_within _ _ _ _ q19).ret
      by_cases h22 : r17 = true
      · rw [if_pos h22] at hr
        have e20 : r17 = true := h22
        clear h22
        obtain ⟨r23, q25, hr⟩ := Option.bind_eq_some_iff.1 hr
        have e24 : ∀ H ng, gcall (shOf F) cl false n_impl_isDate [.int .i64 y6.Release] H ng = some (.bool r23, H, ng, .inert) := fun H ng => call_far s_impl_isDate rfl (K_impl_isDate _ _ q25).ret
        by_cases h28 : r23 = true
        · rw [if_pos h28] at hr
          have e26 : r23 = true := h28
          clear h28
          obtain ⟨r29, q31, hr⟩ := Option.bind_eq_some_iff.1 hr
          have e30 : ∀ H ng, gcall (shOf F) cl false n_impl_isDate [.int .i64 y6.Due] H ng = some (.bool r29, H, ng, .inert) := fun H ng => call_far s_impl_isDate rfl (K_impl_isDate _ _ q31).ret
          by_cases h34 : r29 = true
          · rw [if_pos h34] at hr
            have e32 : r29 = true := h34
            clear h34
            have hr_ := Option.some.inj hr; subst hr_
            refine turn (by
              simp only [c_impl_IsJobs_l0, evA, evB, Int.reduceToNat, eq_self, reduceCtorEq, ↓reduceIte, Nat.reduceEqDiff, Nat.reduceAdd, Nat.reduceLT, Nat.reduceLeDiff, Nat.reduceMul, Nat.reduceSub, spec_l1Cur.cells, rz_spec_l1Cur, pr_spec_l1Cur, impl_Job.cells, rz_impl_Job, pr_impl_Job, spec_l2Search.cells, rz_spec_l2Search, pr_spec_l2Search, *]
              rfl) ?_
            exact ⟨rfl, rfl, rfl, rfl, rfl⟩
          · rw [if_neg h34] at hr
            have e33 : r29 = false := Bool.eq_false_iff.2 h34
            clear h34
            have hr_ := Option.some.inj hr; subst hr_
            refine turn (by
              simp only [c_impl_IsJobs_l0, evA, evB, Int.reduceToNat, eq_self, reduceCtorEq, ↓reduceIte, Nat.reduceEqDiff, Nat.reduceAdd, Nat.reduceLT, Nat.reduceLeDiff, Nat.reduceMul, Nat.reduceSub, spec_l1Cur.cells, rz_spec_l1Cur, pr_spec_l1Cur, impl_Job.cells, rz_impl_Job, pr_impl_Job, spec_l2Search.cells, rz_spec_l2Search, pr_spec_l2Search, *]
              rfl) ?_
            exact ⟨by simp, rfl, rfl⟩
        · rw [if_neg h28] at hr
          have e27 : r23 = false := Bool.eq_false_iff.2 h28
          clear h28
          have hr_ := Option.some.inj hr; subst hr_
          refine turn (by
            simp only [c_impl_IsJobs_l0, evA, evB, Int.reduceToNat, eq_self, reduceCtorEq, ↓reduceIte, Nat.reduceEqDiff, Nat.reduceAdd, Nat.reduceLT, Nat.reduceLeDiff, Nat.reduceMul, Nat.reduceSub, spec_l1Cur.cells, rz_spec_l1Cur, pr_spec_l1Cur, impl_Job.cells, rz_impl_Job, pr_impl_Job, spec_l2Search.cells, rz_spec_l2Search, pr_spec_l2Search, *]
            rfl) ?_
          exact ⟨by simp, rfl, rfl⟩
      · rw [if_neg h22] at hr
        have e21 : r17 = false := Bool.eq_false_iff.2 h22
        clear h22
        have hr_ := Option.some.inj hr; subst hr_
        refine turn (by
          simp only [c_impl_IsJobs_l0, evA, evB, Int.reduceToNat, eq_self, reduceCtorEq, ↓reduceIte, Nat.reduceEqDiff, Nat.reduceAdd, Nat.reduceLT, Nat.reduceLeDiff, Nat.reduceMul, Nat.reduceSub, spec_l1Cur.cells, rz_spec_l1Cur, pr_spec_l1Cur, impl_Job.cells, rz_impl_Job, pr_impl_Job, spec_l2Search.cells, rz_spec_l2Search, pr_spec_l2Search, *]
          rfl) ?_
        exact ⟨by simp, rfl, rfl⟩
    · rw [if_neg h16] at hr
      have e15 : r11 = false := Bool.eq_false_iff.2 h16
      clear h16
      have hr_ := Option.some.inj hr; subst hr_
      refine turn (by
        simp only [c_impl_IsJobs_l0, evA, evB, Int.reduceToNat, eq_self, reduceCtorEq, ↓reduceIte, Nat.reduceEqDiff, Nat.reduceAdd, Nat.reduceLT, Nat.reduceLeDiff, Nat.reduceMul, Nat.reduceSub, spec_l1Cur.cells, rz_spec_l1Cur, pr_spec_l1Cur, impl_Job.cells, rz_impl_Job, pr_impl_Job, spec_l2Search.cells, rz_spec_l2Search, pr_spec_l2Search, *]
        rfl) ?_
      exact ⟨by simp, rfl, rfl⟩
  · rw [if_neg h5] at hr
    have e4 : (y2 < y1) = False := eq_false h5
    clear h5
    have hr_ := Option.some.inj hr; subst hr_
    refine turn (by
      simp only [c_impl_IsJobs_l0, evA, evB, Int.reduceToNat, eq_self, reduceCtorEq, ↓reduceIte, Nat.reduceEqDiff, Nat.reduceAdd, Nat.reduceLT, Nat.reduceLeDiff, Nat.reduceMul, Nat.reduceSub, spec_l1Cur.cells, rz_spec_l1Cur, pr_spec_l1Cur, impl_Job.cells, rz_impl_Job, pr_impl_Job, spec_l2Search.cells, rz_spec_l2Search, pr_spec_l2Search, *]
      rfl) ?_
    exact ⟨by simp, rfl, rfl⟩

theorem lp_impl_IsJobs_l0 {cl : Callee} (K_impl_within : K_impl_within x_impl_within (cl n_impl_within)) (K_impl_isDate : K_impl_isDate x_impl_isDate (cl n_impl_isDate)) (y : (List impl_Job)) (y1 : Int) (st_ : (Int)) (p_ : (Unit ⊕ (Bool))) (hr : loopS (x_impl_IsJobs_l0 y y1) LL st_ = some p_) (T_ : Tm) (H_ : List Blk) (ng : Nat) (hR_ : R_impl_IsJobs_l0 y y1 st_ T_ H_) (hn_ : H_.length = 0) :
    ∃ e_ T1_ H1_ ng1_, gcode (shOf F) cl LL (.loop false (some [8, 9, 10]) c_impl_IsJobs_l0) ⟨T_, H_, ng⟩ = some (e_, ⟨T1_, H1_, ng1_⟩) ∧ Q_impl_IsJobs_l0 y y1 p_ e_ T1_ H1_ :=
  sim_loop (n0 := 0) (R_impl_IsJobs_l0 y y1) (Q_impl_IsJobs_l0 y y1) (st_impl_IsJobs_l0 K_impl_within K_impl_isDate y y1) st_ p_ hr T_ H_ ng hR_ hn_

theorem ok_impl_IsJobs {cl : Callee} (K_impl_within : K_impl_within x_impl_within (cl n_impl_within)) (K_impl_isDate : K_impl_isDate x_impl_isDate (cl n_impl_isDate)) : K_impl_IsJobs (x_impl_IsJobs) (gbody F LL cl c_impl_IsJobs) := by
  intro jobs_ r hr
  unfold x_impl_IsJobs at hr
  try dsimp only at hr
  by_cases h5 : 8 < (jobs_.length : Int)
  · rw [if_pos h5] at hr
    have e3 : (8 < (jobs_.length : Int)) = True := eq_true h5
    clear h5
    have hr_ := Option.some.inj hr; subst hr_
    refine RetF.scal (by
      simp only [c_impl_IsJobs, evA, evB, Int.reduceToNat, eq_self, reduceCtorEq, ↓reduceIte, Nat.reduceEqDiff, Nat.reduceAdd, Nat.reduceLT, Nat.reduceLeDiff, Nat.reduceMul, Nat.reduceSub, spec_l1Cur.cells, rz_spec_l1Cur, pr_spec_l1Cur, impl_Job.cells, rz_impl_Job, pr_impl_Job, spec_l2Search.cells, rz_spec_l2Search, pr_spec_l2Search, *]
      rfl) rfl rfl
  · rw [if_neg h5] at hr
    have e4 : (8 < (jobs_.length : Int)) = False := eq_false h5
    clear h5
    obtain ⟨p6, q15, hr⟩ := Option.bind_eq_some_iff.1 hr
    obtain ⟨ex12, T9, H10, ng11, l8, m7⟩ := lp_impl_IsJobs_l0 (cl := cl) K_impl_within K_impl_isDate  jobs_ (jobs_.length : Int) _ _ q15 [(8, .fs (jobs_.map impl_Job.cells)), (9, .int .i64 (jobs_.length : Int)), (10, .int .i64 0)] [] 0 (show R_impl_IsJobs_l0 jobs_ (jobs_.length : Int) 0 [(8, .fs (jobs_.map impl_Job.cells)), (9, .int .i64 (jobs_.length : Int)), (10, .int .i64 0)] [] from ⟨rfl, rfl, rfl, rfl⟩) rfl
    rcases p6 with p6 | p6
    · dsimp only at hr
      obtain ⟨rfl, e13⟩ := m7
      subst e13
      have hr_ := Option.some.inj hr; subst hr_
      refine RetF.scal (by
        simp only [c_impl_IsJobs, evA, evB, Int.reduceToNat, eq_self, reduceCtorEq, ↓reduceIte, Nat.reduceEqDiff, Nat.reduceAdd, Nat.reduceLT, Nat.reduceLeDiff, Nat.reduceMul, Nat.reduceSub, spec_l1Cur.cells, rz_spec_l1Cur, pr_spec_l1Cur, impl_Job.cells, rz_impl_Job, pr_impl_Job, spec_l2Search.cells, rz_spec_l2Search, pr_spec_l2Search, *]
        rfl) rfl rfl
    · dsimp only at hr
      obtain ⟨rfl, e14⟩ := m7
      have hr_ := Option.some.inj hr; subst hr_
      refine RetF.scal (by
        simp only [c_impl_IsJobs, evA, evB, Int.reduceToNat, eq_self, reduceCtorEq, ↓reduceIte, Nat.reduceEqDiff, Nat.reduceAdd, Nat.reduceLT, Nat.reduceLeDiff, Nat.reduceMul, Nat.reduceSub, spec_l1Cur.cells, rz_spec_l1Cur, pr_spec_l1Cur, impl_Job.cells, rz_impl_Job, pr_impl_Job, spec_l2Search.cells, rz_spec_l2Search, pr_spec_l2Search, *]
        rfl) rfl rfl

theorem st_impl_isPlain_l0 {cl : Callee} (y : (List impl_Job)) (y1 : Int) (st_ : (Int)) (c_ : Ctl (Int) (Unit ⊕ (Bool))) (hr : x_impl_isPlain_l0 y y1 st_ = some c_) (T_ : Tm) (H_ : List Blk) (ng : Nat) (hR_ : R_impl_isPlain_l0 y y1 st_ T_ H_) :
    ∃ e_ T1_ H1_ ng1_, gcode (shOf F) cl LL c_impl_isPlain_l0 ⟨maskT (some [5, 6, 7]) T_, H_, ng⟩ = some (e_, ⟨T1_, H1_, ng1_⟩) ∧ TurnOK (R_impl_isPlain_l0 y y1) (Q_impl_isPlain_l0 y y1) 0 c_ e_ T1_ H1_ := by
  obtain ⟨y2, hst_⟩ : ∃ x, x = st_ := ⟨_, rfl⟩; subst hst_
  obtain ⟨f0_, f1_, f2_, rfl⟩ := hR_
  unfold x_impl_isPlain_l0 at hr
  try dsimp only at hr
  by_cases h5 : y2 < y1
  · rw [if_pos h5] at hr
    have e3 : (y2 < y1) = True := eq_true h5
    clear h5
    obtain ⟨y6, q10, hr⟩ := Option.bind_eq_some_iff.1 hr
    obtain ⟨e7, e8, e9⟩ := ix_some q10
    try simp only [Int.toNat_natCast, Int.toNat_zero, Int.reduceToNat] at e8
    clear q10
    by_cases h15 : y6.Release = 0
    · rw [if_pos h15] at hr
      have e13 : (y6.Release = 0) = True := eq_true h15
      clear h15
      have hr_ := Option.some.inj hr; subst hr_
      refine turn (by
        simp only [c_impl_isPlain_l0, evA, evB, Int.reduceToNat, eq_self, reduceCtorEq, ↓reduceIte, Nat.reduceEqDiff, Nat.reduceAdd, Nat.reduceLT, Nat.reduceLeDiff, Nat.reduceMul, Nat.reduceSub, spec_l1Cur.cells, rz_spec_l1Cur, pr_spec_l1Cur, impl_Job.cells, rz_impl_Job, pr_impl_Job, spec_l2Search.cells, rz_spec_l2Search, pr_spec_l2Search, *]
        rfl) ?_
      exact ⟨rfl, rfl, rfl, rfl, rfl⟩
    · rw [if_neg h15] at hr
      have e14 : (y6.Release = 0) = False := eq_false h15
      clear h15
      have hr_ := Option.some.inj hr; subst hr_
      refine turn (by
        simp only [c_impl_isPlain_l0, evA, evB, Int.reduceToNat, eq_self, reduceCtorEq, ↓reduceIte, Nat.reduceEqDiff, Nat.reduceAdd, Nat.reduceLT, Nat.reduceLeDiff, Nat.reduceMul, Nat.reduceSub, spec_l1Cur.cells, rz_spec_l1Cur, pr_spec_l1Cur, impl_Job.cells, rz_impl_Job, pr_impl_Job, spec_l2Search.cells, rz_spec_l2Search, pr_spec_l2Search, *]
        rfl) ?_
      exact ⟨by simp, rfl, rfl⟩
  · rw [if_neg h5] at hr
    have e4 : (y2 < y1) = False := eq_false h5
    clear h5
    have hr_ := Option.some.inj hr; subst hr_
    refine turn (by
      simp only [c_impl_isPlain_l0, evA, evB, Int.reduceToNat, eq_self, reduceCtorEq, ↓reduceIte, Nat.reduceEqDiff, Nat.reduceAdd, Nat.reduceLT, Nat.reduceLeDiff, Nat.reduceMul, Nat.reduceSub, spec_l1Cur.cells, rz_spec_l1Cur, pr_spec_l1Cur, impl_Job.cells, rz_impl_Job, pr_impl_Job, spec_l2Search.cells, rz_spec_l2Search, pr_spec_l2Search, *]
      rfl) ?_
    exact ⟨by simp, rfl, rfl⟩

theorem lp_impl_isPlain_l0 {cl : Callee} (y : (List impl_Job)) (y1 : Int) (st_ : (Int)) (p_ : (Unit ⊕ (Bool))) (hr : loopS (x_impl_isPlain_l0 y y1) LL st_ = some p_) (T_ : Tm) (H_ : List Blk) (ng : Nat) (hR_ : R_impl_isPlain_l0 y y1 st_ T_ H_) (hn_ : H_.length = 0) :
    ∃ e_ T1_ H1_ ng1_, gcode (shOf F) cl LL (.loop false (some [5, 6, 7]) c_impl_isPlain_l0) ⟨T_, H_, ng⟩ = some (e_, ⟨T1_, H1_, ng1_⟩) ∧ Q_impl_isPlain_l0 y y1 p_ e_ T1_ H1_ :=
  sim_loop (n0 := 0) (R_impl_isPlain_l0 y y1) (Q_impl_isPlain_l0 y y1) (st_impl_isPlain_l0 y y1) st_ p_ hr T_ H_ ng hR_ hn_

theorem ok_impl_isPlain {cl : Callee} : K_impl_isPlain (x_impl_isPlain) (gbody F LL cl c_impl_isPlain) := by
  intro jobs_ r hr
  unfold x_impl_isPlain at hr
  try dsimp only at hr
  obtain ⟨p1, q10, hr⟩ := Option.bind_eq_some_iff.1 hr
  obtain ⟨ex7, T4, H5, ng6, l3, m2⟩ := lp_impl_isPlain_l0 (cl := cl)  jobs_ (jobs_.length : Int) _ _ q10 [(5, .fs (jobs_.map impl_Job.cells)), (6, .int .i64 (jobs_.length : Int)), (7, .int .i64 0)] [] 0 (show R_impl_isPlain_l0 jobs_ (jobs_.length : Int) 0 [(5, .fs (jobs_.map impl_Job.cells)), (6, .int .i64 (jobs_.length : Int)), (7, .int .i64 0)] [] from ⟨rfl, rfl, rfl, rfl⟩) rfl
  rcases p1 with p1 | p1
  · dsimp only at hr
    obtain ⟨rfl, e8⟩ := m2
    subst e8
    have hr_ := Option.some.inj hr; subst hr_
    refine RetF.scal (by
      simp only [c_impl_isPlain, evA, evB, Int.reduceToNat, eq_self, reduceCtorEq, ↓reduceIte, Nat.reduceEqDiff, Nat.reduceAdd, Nat.reduceLT, Nat.reduceLeDiff, Nat.reduceMul, Nat.reduceSub, spec_l1Cur.cells, rz_spec_l1Cur, pr_spec_l1Cur, impl_Job.cells, rz_impl_Job, pr_impl_Job, spec_l2Search.cells, rz_spec_l2Search, pr_spec_l2Search, *]
      rfl) rfl rfl
  · dsimp only at hr
    obtain ⟨rfl, e9⟩ := m2
    have hr_ := Option.some.inj hr; subst hr_
    refine RetF.scal (by
      simp only [c_impl_isPlain, evA, evB, Int.reduceToNat, eq_self, reduceCtorEq, ↓reduceIte, Nat.reduceEqDiff, Nat.reduceAdd, Nat.reduceLT, Nat.reduceLeDiff, Nat.reduceMul, Nat.reduceSub, spec_l1Cur.cells, rz_spec_l1Cur, pr_spec_l1Cur, impl_Job.cells, rz_impl_Job, pr_impl_Job, spec_l2Search.cells, rz_spec_l2Search, pr_spec_l2Search, *]
      rfl) rfl rfl

theorem ok_impl_IsPlain {cl : Callee} (K_impl_IsJobs : K_impl_IsJobs x_impl_IsJobs (cl n_impl_IsJobs)) (K_impl_isPlain : K_impl_isPlain x_impl_isPlain (cl n_impl_isPlain)) : K_impl_IsPlain (x_impl_IsPlain) (gbody F LL cl c_impl_IsPlain) := by
  intro jobs_ r hr
  unfold x_impl_IsPlain at hr
  try dsimp only at hr
  obtain ⟨r1, q3, hr⟩ := Option.bind_eq_some_iff.1 hr
  have e2 : ∀ H ng, gcall (shOf F) cl false n_impl_IsJobs [.fs (jobs_.map impl_Job.cells)] H ng = some (.bool r1, H, ng, .inert) := fun H ng => call_far s_impl_IsJobs rfl (K_impl_IsJobs _ _ q3).ret
  by_cases h6 : r1 = true
  · rw [if_pos h6] at hr
    have e4 : r1 = true := h6
    clear h6
    obtain ⟨r7, q9, hr⟩ := Option.bind_eq_some_iff.1 hr
    have e8 : ∀ H ng, gcall (shOf F) cl false n_impl_isPlain [.fs (jobs_.map impl_Job.cells)] H ng = some (.bool r7, H, ng, .inert) := fun H ng => call_far s_impl_isPlain rfl (K_impl_isPlain _ _ q9).ret
    have hr_ := Option.some.inj hr; subst hr_
    refine RetF.scal (by
      simp only [c_impl_IsPlain, evA, evB, Int.reduceToNat, eq_self, reduceCtorEq, ↓reduceIte, Nat.reduceEqDiff, Nat.reduceAdd, Nat.reduceLT, Nat.reduceLeDiff, Nat.reduceMul, Nat.reduceSub, spec_l1Cur.cells, rz_spec_l1Cur, pr_spec_l1Cur, impl_Job.cells, rz_impl_Job, pr_impl_Job, spec_l2Search.cells, rz_spec_l2Search, pr_spec_l2Search, *]
      rfl) rfl rfl
  · rw [if_neg h6] at hr
    have e5 : r1 = false := Bool.eq_false_iff.2 h6
    clear h6
    have hr_ := Option.some.inj hr; subst hr_
    refine RetF.scal (by
      simp only [c_impl_IsPlain, evA, evB, Int.reduceToNat, eq_self, reduceCtorEq, ↓reduceIte, Nat.reduceEqDiff, Nat.reduceAdd, Nat.reduceLT, Nat.reduceLeDiff, Nat.reduceMul, Nat.reduceSub, spec_l1Cur.cells, rz_spec_l1Cur, pr_spec_l1Cur, impl_Job.cells, rz_impl_Job, pr_impl_Job, spec_l2Search.cells, rz_spec_l2Search, pr_spec_l2Search, *]
      rfl) rfl rfl

theorem st_impl_sortedBy_l1 {cl : Callee} (out_ : (List Int)) (ahead_ : (Int → Int → Option Bool)) (i_ : Int) (y : (List Int)) (y1 : Int) (y2 : Int) (H : List Blk) (nc0 : Nat) (cp0 : List V) (hc0 : ∀ (a0_ : Int) (a1_ : Int) r_, ahead_ a0_ a1_ = some r_ → ∀ B_ ng_, ∃ ng1_ ft_, gcall (shOf F) cl false nc0 ((.int .i64 a0_) :: (.int .i64 a1_) :: cp0) (H ++ B_) ng_ = some (.bool r_, H ++ B_, ng1_, ft_)) (st_ : (Int)) (c_ : Ctl (Int) (Int)) (hr : x_impl_sortedBy_l1 out_ ahead_ i_ y y1 y2 st_ = some c_) (T_ : Tm) (H_ : List Blk) (ng : Nat) (hR_ : R_impl_sortedBy_l1 H nc0 cp0 out_ ahead_ i_ y y1 y2 st_ T_ H_) :
    ∃ e_ T1_ H1_ ng1_, gcode (shOf F) cl LL c_impl_sortedBy_l1 ⟨maskT (some [1, 5, 7, 8, 9, 10, 11]) T_, H_, ng⟩ = some (e_, ⟨T1_, H1_, ng1_⟩) ∧ TurnOK (R_impl_sortedBy_l1 H nc0 cp0 out_ ahead_ i_ y y1 y2) (Q_impl_sortedBy_l1 H nc0 cp0 out_ ahead_ i_ y y1 y2) (H.length + 1) c_ e_ T1_ H1_ := by
  obtain ⟨k_, hst_⟩ : ∃ x, x = st_ := ⟨_, rfl⟩; subst hst_
  obtain ⟨g0, f0_, f1_, f2_, f3_, f4_, f5_, f6_, rfl⟩ := hR_
  unfold x_impl_sortedBy_l1 at hr
  try dsimp only at hr
  by_cases h5 : 0 < k_
  · rw [if_pos h5] at hr
    have e3 : (0 < k_) = True := eq_true h5
    clear h5
    obtain ⟨y6, q10, hr⟩ := Option.bind_eq_some_iff.1 hr
    obtain ⟨e7, e8, e9⟩ := ix_some q10
    try simp only [Int.toNat_natCast, Int.toNat_zero, Int.reduceToNat] at e8
    clear q10
    obtain ⟨r11, q15, hr⟩ := Option.bind_eq_some_iff.1 hr
    obtain ⟨ng12, ft13, e14⟩ : ∃ ng1_ ft_, gcall (shOf F) cl false nc0 ((.int .i64 i_) :: (.int .i64 y6) :: cp0) (H ++ [(Blk.mk g0 false 1 (out_.map (cI .i64)))]) ng = some (.bool r11, (H ++ [(Blk.mk g0 false 1 (out_.map (cI .i64)))]), ng1_, ft_) := hc0 _ _ _ q15 [(Blk.mk g0 false 1 (out_.map (cI .i64)))] ng
    by_cases h18 : r11 = true
    · rw [if_pos h18] at hr
      have e16 : r11 = true := h18
      clear h18
      have hr_ := Option.some.inj hr; subst hr_
      refine turn (by
        simp only [c_impl_sortedBy_l1, evA, evB, Int.reduceToNat, eq_self, reduceCtorEq, ↓reduceIte, Nat.reduceEqDiff, Nat.reduceAdd, Nat.reduceLT, Nat.reduceLeDiff, Nat.reduceMul, Nat.reduceSub, spec_l1Cur.cells, rz_spec_l1Cur, pr_spec_l1Cur, impl_Job.cells, rz_impl_Job, pr_impl_Job, spec_l2Search.cells, rz_spec_l2Search, pr_spec_l2Search, *]
        rfl) ?_
      exact ⟨rfl, _, rfl, rfl, rfl, rfl, rfl, rfl, rfl, (by simp only [happ_takek, happ_take, h_take, List.take_succ_cons, List.take_zero, List.append_nil])⟩
    · rw [if_neg h18] at hr
      have e17 : r11 = false := Bool.eq_false_iff.2 h18
      clear h18
      have hr_ := Option.some.inj hr; subst hr_
      refine turn (by
        simp only [c_impl_sortedBy_l1, evA, evB, Int.reduceToNat, eq_self, reduceCtorEq, ↓reduceIte, Nat.reduceEqDiff, Nat.reduceAdd, Nat.reduceLT, Nat.reduceLeDiff, Nat.reduceMul, Nat.reduceSub, spec_l1Cur.cells, rz_spec_l1Cur, pr_spec_l1Cur, impl_Job.cells, rz_impl_Job, pr_impl_Job, spec_l2Search.cells, rz_spec_l2Search, pr_spec_l2Search, *]
        rfl) ?_
      exact ⟨by simp, rfl, _, rfl, rfl, rfl, rfl, rfl, rfl, rfl, rfl⟩
  · rw [if_neg h5] at hr
    have e4 : (0 < k_) = False := eq_false h5
    clear h5
    have hr_ := Option.some.inj hr; subst hr_
    refine turn (by
      simp only [c_impl_sortedBy_l1, evA, evB, Int.reduceToNat, eq_self, reduceCtorEq, ↓reduceIte, Nat.reduceEqDiff, Nat.reduceAdd, Nat.reduceLT, Nat.reduceLeDiff, Nat.reduceMul, Nat.reduceSub, spec_l1Cur.cells, rz_spec_l1Cur, pr_spec_l1Cur, impl_Job.cells, rz_impl_Job, pr_impl_Job, spec_l2Search.cells, rz_spec_l2Search, pr_spec_l2Search, *]
      rfl) ?_
    exact ⟨by simp, rfl, _, rfl, rfl, rfl, rfl, rfl, rfl, rfl, rfl⟩

theorem lp_impl_sortedBy_l1 {cl : Callee} (out_ : (List Int)) (ahead_ : (Int → Int → Option Bool)) (i_ : Int) (y : (List Int)) (y1 : Int) (y2 : Int) (H : List Blk) (nc0 : Nat) (cp0 : List V) (hc0 : ∀ (a0_ : Int) (a1_ : Int) r_, ahead_ a0_ a1_ = some r_ → ∀ B_ ng_, ∃ ng1_ ft_, gcall (shOf F) cl false nc0 ((.int .i64 a0_) :: (.int .i64 a1_) :: cp0) (H ++ B_) ng_ = some (.bool r_, H ++ B_, ng1_, ft_)) (st_ : (Int)) (p_ : (Int)) (hr : loopS (x_impl_sortedBy_l1 out_ ahead_ i_ y y1 y2) LL st_ = some p_) (T_ : Tm) (H_ : List Blk) (ng : Nat) (hR_ : R_impl_sortedBy_l1 H nc0 cp0 out_ ahead_ i_ y y1 y2 st_ T_ H_) (hn_ : H_.length = (H.length + 1)) :
    ∃ e_ T1_ H1_ ng1_, gcode (shOf F) cl LL (.loop false (some [1, 5, 7, 8, 9, 10, 11]) c_impl_sortedBy_l1) ⟨T_, H_, ng⟩ = some (e_, ⟨T1_, H1_, ng1_⟩) ∧ Q_impl_sortedBy_l1 H nc0 cp0 out_ ahead_ i_ y y1 y2 p_ e_ T1_ H1_ :=
  sim_loop (n0 := (H.length + 1)) (R_impl_sortedBy_l1 H nc0 cp0 out_ ahead_ i_ y y1 y2) (Q_impl_sortedBy_l1 H nc0 cp0 out_ ahead_ i_ y y1 y2) (st_impl_sortedBy_l1 out_ ahead_ i_ y y1 y2 H nc0 cp0 hc0) st_ p_ hr T_ H_ ng hR_ hn_

theorem st_impl_sortedBy_l0 {cl : Callee} (ahead_ : (Int → Int → Option Bool)) (y : (List Int)) (y1 : Int) (H : List Blk) (nc0 : Nat) (cp0 : List V) (hc0 : ∀ (a0_ : Int) (a1_ : Int) r_, ahead_ a0_ a1_ = some r_ → ∀ B_ ng_, ∃ ng1_ ft_, gcall (shOf F) cl false nc0 ((.int .i64 a0_) :: (.int .i64 a1_) :: cp0) (H ++ B_) ng_ = some (.bool r_, H ++ B_, ng1_, ft_)) (st_ : ((List Int) × Int)) (c_ : Ctl ((List Int) × Int) ((List Int))) (hr : x_impl_sortedBy_l0 ahead_ y y1 st_ = some c_) (T_ : Tm) (H_ : List Blk) (ng : Nat) (hR_ : R_impl_sortedBy_l0 H nc0 cp0 ahead_ y y1 st_ T_ H_) :
    ∃ e_ T1_ H1_ ng1_, gcode (shOf F) cl LL c_impl_sortedBy_l0 ⟨maskT (some [1, 5, 9, 10, 11]) T_, H_, ng⟩ = some (e_, ⟨T1_, H1_, ng1_⟩) ∧ TurnOK (R_impl_sortedBy_l0 H nc0 cp0 ahead_ y y1) (Q_impl_sortedBy_l0 H nc0 cp0 ahead_ y y1) (H.length + 1) c_ e_ T1_ H1_ := by
  obtain ⟨out_, y2⟩ := st_
  obtain ⟨g0, f0_, f1_, f2_, f3_, f4_, rfl⟩ := hR_
  unfold x_impl_sortedBy_l0 at hr
  try dsimp only at hr
  by_cases h5 : y2 < y1
  · rw [if_pos h5] at hr
    have e3 : (y2 < y1) = True := eq_true h5
    clear h5
    obtain ⟨y6, q10, hr⟩ := Option.bind_eq_some_iff.1 hr
    obtain ⟨e7, e8, e9⟩ := ix_some q10
    try simp only [Int.toNat_natCast, Int.toNat_zero, Int.reduceToNat] at e8
    clear q10
    obtain ⟨p11, q66, hr⟩ := Option.bind_eq_some_iff.1 hr
    obtain ⟨ex17, T14, H15, ng16, l13, m12⟩ := lp_impl_sortedBy_l1 (cl := cl)  out_ ahead_ y6 y y1 y2 H nc0 cp0 hc0 _ _ q66 [(1, .fn nc0 cp0), (5, .os H.length g0 1 0 out_.length), (7, .int .i64 y6), (8, .int .i64 ((out_.length : Nat) : Int)), (9, .fs (y.map (cI .i64))), (10, .int .i64 y1), (11, .int .i64 y2)] (H ++ [(Blk.mk g0 false 1 (out_.map (cI .i64)))]) ng (show R_impl_sortedBy_l1 H nc0 cp0 out_ ahead_ y6 y y1 y2 ((out_.length : Nat) : Int) [(1, .fn nc0 cp0), (5, .os H.length g0 1 0 out_.length), (7, .int .i64 y6), (8, .int .i64 ((out_.length : Nat) : Int)), (9, .fs (y.map (cI .i64))), (10, .int .i64 y1), (11, .int .i64 y2)] (H ++ [(Blk.mk g0 false 1 (out_.map (cI .i64)))]) from ⟨_, rfl, rfl, rfl, rfl, rfl, rfl, rfl, rfl⟩) (by simp)
    obtain ⟨rfl, g18, e19, e20, e21, e22, e23, e24, e25, e26⟩ := m12
    subst e26
    obtain ⟨l27, q35, hr⟩ := Option.bind_eq_some_iff.1 hr
    obtain ⟨e28, e29, e30, e31⟩ := app_some q35
    try simp only [List.length_cons, List.length_nil, Nat.zero_add, Nat.reduceAdd] at e28 e29 e31
    have e32 : (out_.map (cI .i64)) ++ [[.int .i64 0]] = l27.map (cI .i64) := by rw [← e30, List.map_append] <;> rfl
    have e33 := e28
    have e34 := e29
    rw [e31] at e33 e34
    clear e30 q35
    by_cases h39 : 0 ≤ (addK .i64 p11 1) ∧ (addK .i64 p11 1) ≤ ((l27.length : Nat) : Int) ∧ ((l27.length : Nat) : Int) ≤ ((l27.length : Nat) : Int)
    · rw [if_pos h39] at hr
      have e36 : (0 ≤ (addK .i64 p11 1)) = True := eq_true h39.1
      have e37 : ((addK .i64 p11 1) ≤ ((l27.length : Nat) : Int)) = True := eq_true h39.2.1
      have e38 : (((l27.length : Nat) : Int) ≤ ((l27.length : Nat) : Int)) = True := eq_true h39.2.2
      clear h39
      by_cases h43 : 0 ≤ p11 ∧ p11 ≤ ((l27.length : Nat) : Int) ∧ ((l27.length : Nat) : Int) ≤ ((l27.length : Nat) : Int)
      · rw [if_pos h43] at hr
        have e40 : (0 ≤ p11) = True := eq_true h43.1
        have e41 : (p11 ≤ ((l27.length : Nat) : Int)) = True := eq_true h43.2.1
        have e42 : (((l27.length : Nat) : Int) ≤ ((l27.length : Nat) : Int)) = True := eq_true h43.2.2
        clear h43
        obtain ⟨l44, q53, hr⟩ := Option.bind_eq_some_iff.1 hr
        obtain ⟨e45, e46, e47, e48⟩ := cpy_some q53
        try simp only [Nat.zero_add] at e45 e46
        replace e48 : Keep (l27.length = l44.length) := e48
        have e49 : rowsSz 1 (List.take (l27.length - (Int.toNat p11)) (List.drop (Int.toNat p11) (l27.map (cI .i64)))) = true := by simp only [← List.map_drop, ← List.map_take]; exact rz_cI _ _
        have e50 : List.take (Int.toNat (addK .i64 p11 1)) (l27.map (cI .i64)) ++ List.take (l27.length - (Int.toNat (addK .i64 p11 1))) (List.take (l27.length - (Int.toNat p11)) (List.drop (Int.toNat p11) (l27.map (cI .i64)))) ++ List.drop ((Int.toNat (addK .i64 p11 1)) + (List.take (l27.length - (Int.toNat (addK .i64 p11 1))) (List.take (l27.length - (Int.toNat p11)) (List.drop (Int.toNat p11) (l27.map (cI .i64))))).length) (l27.map (cI .i64)) = l44.map (cI .i64) := by rw [← e47]; simp only [List.map_append, List.map_take, List.map_drop, List.length_map, List.drop_zero, List.length_take, List.length_drop]
        simp only [List.append_assoc] at e50
        clear e47 q53
        obtain ⟨y54, q59, hr⟩ := Option.bind_eq_some_iff.1 hr
        obtain ⟨e55, e56, e57⟩ := ix_some q59
        have e58 : (p11 < ((l27.length : Nat) : Int)) = True := by rw [show l27.length = _ from e48]; exact e57
        try simp only [Int.toNat_natCast, Int.toNat_zero, Int.reduceToNat] at e56
        clear q59
        obtain ⟨l60, q65, hr⟩ := Option.bind_eq_some_iff.1 hr
        obtain ⟨_, _, e61, e62, _⟩ := put_some q65
        try simp only [Int.toNat_natCast, Int.toNat_zero, Int.reduceToNat] at e61
        have e63 : (l44.map (cI .i64)).set (Int.toNat p11) [.int .i64 y6] = l60.map (cI .i64) := by rw [← e61, List.map_set] <;> rfl
        replace e62 : Keep (l44.length = l60.length) := e62
        clear e61 q65
        have hr_ := Option.some.inj hr; subst hr_
        refine turn (by
          simp only [c_impl_sortedBy_l0, evA, evB, Int.reduceToNat, eq_self, reduceCtorEq, ↓reduceIte, Nat.reduceEqDiff, Nat.reduceAdd, Nat.reduceLT, Nat.reduceLeDiff, Nat.reduceMul, Nat.reduceSub, spec_l1Cur.cells, rz_spec_l1Cur, pr_spec_l1Cur, impl_Job.cells, rz_impl_Job, pr_impl_Job, spec_l2Search.cells, rz_spec_l2Search, pr_spec_l2Search, *]
          rfl) ?_
        exact ⟨rfl, _, rfl, (congrArg (fun n_ => V.os H.length ng16 1 0 n_) (Eq.trans e48 e62)), rfl, rfl, rfl, (by simp only [happ_takek, happ_take, h_take, List.take_succ_cons, List.take_zero, List.append_nil])⟩
      · rw [if_neg h43] at hr
        clear h43
        exact nomatch hr
    · rw [if_neg h39] at hr
      clear h39
      exact nomatch hr
  · rw [if_neg h5] at hr
    have e4 : (y2 < y1) = False := eq_false h5
    clear h5
    have hr_ := Option.some.inj hr; subst hr_
    refine turn (by
      simp only [c_impl_sortedBy_l0, evA, evB, Int.reduceToNat, eq_self, reduceCtorEq, ↓reduceIte, Nat.reduceEqDiff, Nat.reduceAdd, Nat.reduceLT, Nat.reduceLeDiff, Nat.reduceMul, Nat.reduceSub, spec_l1Cur.cells, rz_spec_l1Cur, pr_spec_l1Cur, impl_Job.cells, rz_impl_Job, pr_impl_Job, spec_l2Search.cells, rz_spec_l2Search, pr_spec_l2Search, *]
      rfl) ?_
    exact ⟨by simp, rfl, _, rfl, rfl⟩

theorem lp_impl_sortedBy_l0 {cl : Callee} (ahead_ : (Int → Int → Option Bool)) (y : (List Int)) (y1 : Int) (H : List Blk) (nc0 : Nat) (cp0 : List V) (hc0 : ∀ (a0_ : Int) (a1_ : Int) r_, ahead_ a0_ a1_ = some r_ → ∀ B_ ng_, ∃ ng1_ ft_, gcall (shOf F) cl false nc0 ((.int .i64 a0_) :: (.int .i64 a1_) :: cp0) (H ++ B_) ng_ = some (.bool r_, H ++ B_, ng1_, ft_)) (st_ : ((List Int) × Int)) (p_ : ((List Int))) (hr : loopS (x_impl_sortedBy_l0 ahead_ y y1) LL st_ = some p_) (T_ : Tm) (H_ : List Blk) (ng : Nat) (hR_ : R_impl_sortedBy_l0 H nc0 cp0 ahead_ y y1 st_ T_ H_) (hn_ : H_.length = (H.length + 1)) :
    ∃ e_ T1_ H1_ ng1_, gcode (shOf F) cl LL (.loop false (some [1, 5, 9, 10, 11]) c_impl_sortedBy_l0) ⟨T_, H_, ng⟩ = some (e_, ⟨T1_, H1_, ng1_⟩) ∧ Q_impl_sortedBy_l0 H nc0 cp0 ahead_ y y1 p_ e_ T1_ H1_ :=
  sim_loop (n0 := (H.length + 1)) (R_impl_sortedBy_l0 H nc0 cp0 ahead_ y y1) (Q_impl_sortedBy_l0 H nc0 cp0 ahead_ y y1) (st_impl_sortedBy_l0 ahead_ y y1 H nc0 cp0 hc0) st_ p_ hr T_ H_ ng hR_ hn_

theorem ok_impl_sortedBy {cl : Callee} (list_ : (List Int)) (ahead_ : (Int → Int → Option Bool)) (H : List Blk) (nc0 : Nat) (cp0 : List V) (hc0 : ∀ (a0_ : Int) (a1_ : Int) r_, ahead_ a0_ a1_ = some r_ → ∀ B_ ng_, ∃ ng1_ ft_, gcall (shOf F) cl false nc0 ((.int .i64 a0_) :: (.int .i64 a1_) :: cp0) (H ++ B_) ng_ = some (.bool r_, H ++ B_, ng1_, ft_)) (r : (List Int)) (hr : x_impl_sortedBy list_ ahead_ = some r) : RetH (gbody F LL cl c_impl_sortedBy) [.fs (list_.map (cI .i64)), .fn nc0 cp0] H (.fs (r.map (cI .i64))) := by
  intro ng
  unfold x_impl_sortedBy at hr
  try dsimp only at hr
  obtain ⟨p1, q12, hr⟩ := Option.bind_eq_some_iff.1 hr
  obtain ⟨ex7, T4, H5, ng6, l3, m2⟩ := lp_impl_sortedBy_l0 (cl := cl)  ahead_ list_ (list_.length : Int) H nc0 cp0 hc0 _ _ q12 [(1, .fn nc0 cp0), (5, .os H.length ng 1 0 0), (9, .fs (list_.map (cI .i64))), (10, .int .i64 (list_.length : Int)), (11, .int .i64 0)] (H ++ [(Blk.mk ng false 1 [])]) (ng + 1) (show R_impl_sortedBy_l0 H nc0 cp0 ahead_ list_ (list_.length : Int) (([] : List Int), 0) [(1, .fn nc0 cp0), (5, .os H.length ng 1 0 0), (9, .fs (list_.map (cI .i64))), (10, .int .i64 (list_.length : Int)), (11, .int .i64 0)] (H ++ [(Blk.mk ng false 1 [])]) from ⟨_, rfl, rfl, rfl, rfl, rfl, rfl⟩) (by simp)
  obtain ⟨rfl, g8, e9, e10⟩ := m2
  subst e10
  have hr_ := Option.some.inj hr; subst hr_
  refine ⟨.os H.length g8 1 0 p1.length, [(Blk.mk g8 false 1 (p1.map (cI .i64)))], ng6, ?_, ?_⟩
  · simp only [c_impl_sortedBy, evA, evB, Int.reduceToNat, eq_self, reduceCtorEq, ↓reduceIte, Nat.reduceEqDiff, Nat.reduceAdd, Nat.reduceLT, Nat.reduceLeDiff, Nat.reduceMul, Nat.reduceSub, spec_l1Cur.cells, rz_spec_l1Cur, pr_spec_l1Cur, impl_Job.cells, rz_impl_Job, pr_impl_Job, spec_l2Search.cells, rz_spec_l2Search, pr_spec_l2Search, *]
  · skip
    have x11 : expC (hp (H ++ [(Blk.mk g8 false 1 (p1.map (cI .i64)))])) H.length expDepth (.os H.length g8 1 0 p1.length) = some (.fs (p1.map (cI .i64))) := (exp_win (b := (Blk.mk g8 false 1 (p1.map (cI .i64)))) (by simp) (by simp [hget, hp, hs_own0, hs_ownk, happ_get0, happ_getk]) (by simp) (pr_cI _ _)).trans (by simp [take_map_len])
    simp [outR, outV, outVs, outC, outCs, x11]

theorem ok_impl_onTime_c1 {cl : Callee} : K_impl_onTime_c1 x_impl_onTime_c1 (gbody F LL cl c_impl_onTime_c1) := by
  intro c0_ a_ b_ r hr H id0 gc0 hb0 ng
  have wb0 : ∀ B, (H ++ B)[id0]? = some (Blk.mk gc0 false 1 [[.fs (c0_.map impl_Job.cells)]]) := fun B => get_app hb0
  unfold x_impl_onTime_c1 at hr
  try dsimp only at hr
  obtain ⟨y1, q5, hr⟩ := Option.bind_eq_some_iff.1 hr
  obtain ⟨e2, e3, e4⟩ := ix_some q5
  try simp only [Int.toNat_natCast, Int.toNat_zero, Int.reduceToNat] at e3
  clear q5
  obtain ⟨y6, q10, hr⟩ := Option.bind_eq_some_iff.1 hr
  obtain ⟨e7, e8, e9⟩ := ix_some q10
  try simp only [Int.toNat_natCast, Int.toNat_zero, Int.reduceToNat] at e8
  clear q10
  have hr_ := Option.some.inj hr; subst hr_
  refine ⟨.bool (decide (y1.Due < y6.Due)), [], ng, ?_, ?_⟩
  · simp only [c_impl_onTime_c1, evA, evB, Int.reduceToNat, eq_self, reduceCtorEq, ↓reduceIte, Nat.reduceEqDiff, Nat.reduceAdd, Nat.reduceLT, Nat.reduceLeDiff, Nat.reduceMul, Nat.reduceSub, spec_l1Cur.cells, rz_spec_l1Cur, pr_spec_l1Cur, impl_Job.cells, rz_impl_Job, pr_impl_Job, spec_l2Search.cells, rz_spec_l2Search, pr_spec_l2Search, *]
  · exact outR_flat rfl

theorem st_impl_onTime_l0 {cl : Callee} (K_impl_sortedBy__impl_onTime_c1 : K_impl_sortedBy__impl_onTime_c1 (cl n_impl_sortedBy)) (x0_0 : (List impl_Job)) (y : (List Int)) (y1 : Int) (st_ : (Int × Int)) (c_ : Ctl (Int × Int) (Unit ⊕ (Bool))) (hr : x_impl_onTime_l0 x0_0 y y1 st_ = some c_) (T_ : Tm) (H_ : List Blk) (ng : Nat) (hR_ : R_impl_onTime_l0 x0_0 y y1 st_ T_ H_) :
    ∃ e_ T1_ H1_ ng1_, gcode (shOf F) cl LL c_impl_onTime_l0 ⟨maskT (some [2, 5, 10, 11, 12]) T_, H_, ng⟩ = some (e_, ⟨T1_, H1_, ng1_⟩) ∧ TurnOK (R_impl_onTime_l0 x0_0 y y1) (Q_impl_onTime_l0 x0_0 y y1) 1 c_ e_ T1_ H1_ := by
  obtain ⟨total_, y2⟩ := st_
  obtain ⟨g0, f0_, f1_, f2_, f3_, f4_, rfl⟩ := hR_
  unfold x_impl_onTime_l0 at hr
  try dsimp only at hr
  by_cases h5 : y2 < y1
  · rw [if_pos h5] at hr
    have e3 : (y2 < y1) = True := eq_true h5
    clear h5
    obtain ⟨y6, q10, hr⟩ := Option.bind_eq_some_iff.1 hr
    obtain ⟨e7, e8, e9⟩ := ix_some q10
    try simp only [Int.toNat_natCast, Int.toNat_zero, Int.reduceToNat] at e8
    clear q10
    obtain ⟨y11, q15, hr⟩ := Option.bind_eq_some_iff.1 hr
    obtain ⟨e12, e13, e14⟩ := ix_some q15
    try simp only [Int.toNat_natCast, Int.toNat_zero, Int.reduceToNat] at e13
    clear q15
    by_cases h20 : y11.Due < (addK .i64 total_ y11.Time)
    · rw [if_pos h20] at hr
      have e18 : (y11.Due < (addK .i64 total_ y11.Time)) = True := eq_true h20
      clear h20
      have hr_ := Option.some.inj hr; subst hr_
      refine turn (by
        simp only [c_impl_onTime_l0, evA, evB, Int.reduceToNat, eq_self, reduceCtorEq, ↓reduceIte, Nat.reduceEqDiff, Nat.reduceAdd, Nat.reduceLT, Nat.reduceLeDiff, Nat.reduceMul, Nat.reduceSub, spec_l1Cur.cells, rz_spec_l1Cur, pr_spec_l1Cur, impl_Job.cells, rz_impl_Job, pr_impl_Job, spec_l2Search.cells, rz_spec_l2Search, pr_spec_l2Search, *]
        rfl) ?_
      exact ⟨by simp, rfl, rfl⟩
    · rw [if_neg h20] at hr
      have e19 : (y11.Due < (addK .i64 total_ y11.Time)) = False := eq_false h20
      clear h20
      have hr_ := Option.some.inj hr; subst hr_
      refine turn (by
        simp only [c_impl_onTime_l0, evA, evB, Int.reduceToNat, eq_self, reduceCtorEq, ↓reduceIte, Nat.reduceEqDiff, Nat.reduceAdd, Nat.reduceLT, Nat.reduceLeDiff, Nat.reduceMul, Nat.reduceSub, spec_l1Cur.cells, rz_spec_l1Cur, pr_spec_l1Cur, impl_Job.cells, rz_impl_Job, pr_impl_Job, spec_l2Search.cells, rz_spec_l2Search, pr_spec_l2Search, *]
        rfl) ?_
      exact ⟨rfl, _, rfl, rfl, rfl, rfl, rfl, rfl⟩
  · rw [if_neg h5] at hr
    have e4 : (y2 < y1) = False := eq_false h5
    clear h5
    have hr_ := Option.some.inj hr; subst hr_
    refine turn (by
      simp only [c_impl_onTime_l0, evA, evB, Int.reduceToNat, eq_self, reduceCtorEq, ↓reduceIte, Nat.reduceEqDiff, Nat.reduceAdd, Nat.reduceLT, Nat.reduceLeDiff, Nat.reduceMul, Nat.reduceSub, spec_l1Cur.cells, rz_spec_l1Cur, pr_spec_l1Cur, impl_Job.cells, rz_impl_Job, pr_impl_Job, spec_l2Search.cells, rz_spec_l2Search, pr_spec_l2Search, *]
      rfl) ?_
    exact ⟨by simp, rfl, _, rfl⟩

theorem lp_impl_onTime_l0 {cl : Callee} (K_impl_sortedBy__impl_onTime_c1 : K_impl_sortedBy__impl_onTime_c1 (cl n_impl_sortedBy)) (x0_0 : (List impl_Job)) (y : (List Int)) (y1 : Int) (st_ : (Int × Int)) (p_ : (Unit ⊕ (Bool))) (hr : loopS (x_impl_onTime_l0 x0_0 y y1) LL st_ = some p_) (T_ : Tm) (H_ : List Blk) (ng : Nat) (hR_ : R_impl_onTime_l0 x0_0 y y1 st_ T_ H_) (hn_ : H_.length = 1) :
    ∃ e_ T1_ H1_ ng1_, gcode (shOf F) cl LL (.loop false (some [2, 5, 10, 11, 12]) c_impl_onTime_l0) ⟨T_, H_, ng⟩ = some (e_, ⟨T1_, H1_, ng1_⟩) ∧ Q_impl_onTime_l0 x0_0 y y1 p_ e_ T1_ H1_ :=
  sim_loop (n0 := 1) (R_impl_onTime_l0 x0_0 y y1) (Q_impl_onTime_l0 x0_0 y y1) (st_impl_onTime_l0 K_impl_sortedBy__impl_onTime_c1 x0_0 y y1) st_ p_ hr T_ H_ ng hR_ hn_

theorem ok_impl_onTime {cl : Callee} (K_impl_sortedBy__impl_onTime_c1 : K_impl_sortedBy__impl_onTime_c1 (cl n_impl_sortedBy)) : K_impl_onTime (x_impl_onTime) (gbody F LL cl c_impl_onTime) := by
  intro jobs_ set_ r hr
  unfold x_impl_onTime at hr
  try dsimp only at hr
  obtain ⟨r3, q4, hr⟩ := Option.bind_eq_some_iff.1 hr
  obtain ⟨ng1, e2⟩ : ∃ ng', gcall (shOf F) cl false n_impl_sortedBy [.fs (set_.map (cI .i64)), .fn n_impl_onTime_c1 [.ptr 0 0 0 0]] [(Blk.mk 0 false 1 [[.fs (jobs_.map impl_Job.cells)]])] 1 = some (.fs (r3.map (cI .i64)), [(Blk.mk 0 false 1 [[.fs (jobs_.map impl_Job.cells)]])], ng', .all) := call_H s_impl_sortedBy (K_impl_sortedBy__impl_onTime_c1 _ _ _ q4 _) 1
  obtain ⟨p5, q15, hr⟩ := Option.bind_eq_some_iff.1 hr
  obtain ⟨ex11, T8, H9, ng10, l7, m6⟩ := lp_impl_onTime_l0 (cl := cl) K_impl_sortedBy__impl_onTime_c1  jobs_ r3 (r3.length : Int) _ _ q15 [(2, .ptr 0 0 0 0), (5, .int .i64 0), (10, .fs (r3.map (cI .i64))), (11, .int .i64 (r3.length : Int)), (12, .int .i64 0)] [(Blk.mk 0 false 1 [[.fs (jobs_.map impl_Job.cells)]])] ng1 (show R_impl_onTime_l0 jobs_ r3 (r3.length : Int) (0, 0) [(2, .ptr 0 0 0 0), (5, .int .i64 0), (10, .fs (r3.map (cI .i64))), (11, .int .i64 (r3.length : Int)), (12, .int .i64 0)] [(Blk.mk 0 false 1 [[.fs (jobs_.map impl_Job.cells)]])] from ⟨_, rfl, rfl, rfl, rfl, rfl, rfl⟩) rfl
  rcases p5 with p5 | p5
  · dsimp only at hr
    obtain ⟨rfl, g12, e13⟩ := m6
    subst e13
    have hr_ := Option.some.inj hr; subst hr_
    refine RetF.scal (by
      simp only [c_impl_onTime, evA, evB, Int.reduceToNat, eq_self, reduceCtorEq, ↓reduceIte, Nat.reduceEqDiff, Nat.reduceAdd, Nat.reduceLT, Nat.reduceLeDiff, Nat.reduceMul, Nat.reduceSub, spec_l1Cur.cells, rz_spec_l1Cur, pr_spec_l1Cur, impl_Job.cells, rz_impl_Job, pr_impl_Job, spec_l2Search.cells, rz_spec_l2Search, pr_spec_l2Search, *]
      rfl) rfl rfl
  · dsimp only at hr
    obtain ⟨rfl, e14⟩ := m6
    have hr_ := Option.some.inj hr; subst hr_
    refine RetF.scal (by
      simp only [c_impl_onTime, evA, evB, Int.reduceToNat, eq_self, reduceCtorEq, ↓reduceIte, Nat.reduceEqDiff, Nat.reduceAdd, Nat.reduceLT, Nat.reduceLeDiff, Nat.reduceMul, Nat.reduceSub, spec_l1Cur.cells, rz_spec_l1Cur, pr_spec_l1Cur, impl_Job.cells, rz_impl_Job, pr_impl_Job, spec_l2Search.cells, rz_spec_l2Search, pr_spec_l2Search, *]
      rfl) rfl rfl

theorem st_impl_numbersTo_l0 {cl : Callee} (n_ : Int) (st_ : ((List Int) × Int)) (c_ : Ctl ((List Int) × Int) ((List Int))) (hr : x_impl_numbersTo_l0 n_ st_ = some c_) (T_ : Tm) (H_ : List Blk) (ng : Nat) (hR_ : R_impl_numbersTo_l0 n_ st_ T_ H_) :
    ∃ e_ T1_ H1_ ng1_, gcode (shOf F) cl LL c_impl_numbersTo_l0 ⟨maskT (some [0, 3, 4]) T_, H_, ng⟩ = some (e_, ⟨T1_, H1_, ng1_⟩) ∧ TurnOK (R_impl_numbersTo_l0 n_) (Q_impl_numbersTo_l0 n_) 2 c_ e_ T1_ H1_ := by
  obtain ⟨out_, i_⟩ := st_
  obtain ⟨b0, g1, f0_, f1_, f2_, rfl⟩ := hR_
  unfold x_impl_numbersTo_l0 at hr
  try dsimp only at hr
  by_cases h5 : i_ < n_
  · rw [if_pos h5] at hr
    have e3 : (i_ < n_) = True := eq_true h5
    clear h5
    obtain ⟨l6, q14, hr⟩ := Option.bind_eq_some_iff.1 hr
    obtain ⟨e7, e8, e9, e10⟩ := app_some q14
    try simp only [List.length_cons, List.length_nil, Nat.zero_add, Nat.reduceAdd] at e7 e8 e10
    have e11 : (out_.map (cI .i64)) ++ [[.int .i64 i_]] = l6.map (cI .i64) := by rw [← e9, List.map_append] <;> rfl
    have e12 := e7
    have e13 := e8
    rw [e10] at e12 e13
    clear e9 q14
    have hr_ := Option.some.inj hr; subst hr_
    refine turn (by
      simp only [c_impl_numbersTo_l0, evA, evB, Int.reduceToNat, eq_self, reduceCtorEq, ↓reduceIte, Nat.reduceEqDiff, Nat.reduceAdd, Nat.reduceLT, Nat.reduceLeDiff, Nat.reduceMul, Nat.reduceSub, spec_l1Cur.cells, rz_spec_l1Cur, pr_spec_l1Cur, impl_Job.cells, rz_impl_Job, pr_impl_Job, spec_l2Search.cells, rz_spec_l2Search, pr_spec_l2Search, *]
      rfl) ?_
    exact ⟨rfl, _, _, rfl, rfl, rfl, rfl⟩
  · rw [if_neg h5] at hr
    have e4 : (i_ < n_) = False := eq_false h5
    clear h5
    have hr_ := Option.some.inj hr; subst hr_
    refine turn (by
      simp only [c_impl_numbersTo_l0, evA, evB, Int.reduceToNat, eq_self, reduceCtorEq, ↓reduceIte, Nat.reduceEqDiff, Nat.reduceAdd, Nat.reduceLT, Nat.reduceLeDiff, Nat.reduceMul, Nat.reduceSub, spec_l1Cur.cells, rz_spec_l1Cur, pr_spec_l1Cur, impl_Job.cells, rz_impl_Job, pr_impl_Job, spec_l2Search.cells, rz_spec_l2Search, pr_spec_l2Search, *]
      rfl) ?_
    exact ⟨by simp, rfl, _, _, rfl, rfl⟩

theorem lp_impl_numbersTo_l0 {cl : Callee} (n_ : Int) (st_ : ((List Int) × Int)) (p_ : ((List Int))) (hr : loopS (x_impl_numbersTo_l0 n_) LL st_ = some p_) (T_ : Tm) (H_ : List Blk) (ng : Nat) (hR_ : R_impl_numbersTo_l0 n_ st_ T_ H_) (hn_ : H_.length = 2) :
    ∃ e_ T1_ H1_ ng1_, gcode (shOf F) cl LL (.loop false (some [0, 3, 4]) c_impl_numbersTo_l0) ⟨T_, H_, ng⟩ = some (e_, ⟨T1_, H1_, ng1_⟩) ∧ Q_impl_numbersTo_l0 n_ p_ e_ T1_ H1_ :=
  sim_loop (n0 := 2) (R_impl_numbersTo_l0 n_) (Q_impl_numbersTo_l0 n_) (st_impl_numbersTo_l0 n_) st_ p_ hr T_ H_ ng hR_ hn_

theorem ok_impl_numbersTo {cl : Callee} : K_impl_numbersTo (x_impl_numbersTo) (gbody F LL cl c_impl_numbersTo) := by
  intro n_ r hr
  unfold x_impl_numbersTo at hr
  try dsimp only at hr
  obtain ⟨p1, q12, hr⟩ := Option.bind_eq_some_iff.1 hr
  obtain ⟨ex7, T4, H5, ng6, l3, m2⟩ := lp_impl_numbersTo_l0 (cl := cl)  n_ _ _ q12 [(0, .int .i64 n_), (3, .os 1 1 1 0 0), (4, .int .i64 0)] [(Blk.mk 0 false 1 []), (Blk.mk 1 false 1 [])] 2 (show R_impl_numbersTo_l0 n_ (([] : List Int), 0) [(0, .int .i64 n_), (3, .os 1 1 1 0 0), (4, .int .i64 0)] [(Blk.mk 0 false 1 []), (Blk.mk 1 false 1 [])] from ⟨_, _, rfl, rfl, rfl, rfl⟩) rfl
  obtain ⟨rfl, b8, g9, e10, e11⟩ := m2
  subst e11
  have hr_ := Option.some.inj hr; subst hr_
  refine ⟨1, g9, [b8, (Blk.mk g9 false 1 (p1.map (cI .i64)))], ng6, ?_, by simp [hget, hp], sc_cI _ _⟩
  simp only [c_impl_numbersTo, evA, evB, Int.reduceToNat, eq_self, reduceCtorEq, ↓reduceIte, Nat.reduceEqDiff, Nat.reduceAdd, Nat.reduceLT, Nat.reduceLeDiff, Nat.reduceMul, Nat.reduceSub, spec_l1Cur.cells, rz_spec_l1Cur, pr_spec_l1Cur, impl_Job.cells, rz_impl_Job, pr_impl_Job, spec_l2Search.cells, rz_spec_l2Search, pr_spec_l2Search, *]

theorem st_impl_TimelyAfter_l0 {cl : Callee} (K_impl_IsPlain : K_impl_IsPlain x_impl_IsPlain (cl n_impl_IsPlain)) (K_impl_within : K_impl_within x_impl_within (cl n_impl_within)) (K_impl_onTime : K_impl_onTime x_impl_onTime (cl n_impl_onTime)) (K_impl_numbersTo : K_impl_numbersTo x_impl_numbersTo (cl n_impl_numbersTo)) (jobs_ : (List impl_Job)) (delay_ : Int) (y : Int) (st_ : ((List impl_Job) × Int)) (c_ : Ctl ((List impl_Job) × Int) ((List impl_Job))) (hr : x_impl_TimelyAfter_l0 jobs_ delay_ y st_ = some c_) (T_ : Tm) (H_ : List Blk) (ng : Nat) (hR_ : R_impl_TimelyAfter_l0 jobs_ delay_ y st_ T_ H_) :
    ∃ e_ T1_ H1_ ng1_, gcode (shOf F) cl LL c_impl_TimelyAfter_l0 ⟨maskT (some [0, 1, 6, 20, 21]) T_, H_, ng⟩ = some (e_, ⟨T1_, H1_, ng1_⟩) ∧ TurnOK (R_impl_TimelyAfter_l0 jobs_ delay_ y) (Q_impl_TimelyAfter_l0 jobs_ delay_ y) 1 c_ e_ T1_ H1_ := by
  obtain ⟨later_, y1⟩ := st_
  obtain ⟨g0, f0_, f1_, f2_, f3_, f4_, rfl⟩ := hR_
  unfold x_impl_TimelyAfter_l0 at hr
  try dsimp only at hr
  by_cases h5 : y1 < y
  · rw [if_pos h5] at hr
    have e3 : (y1 < y) = True := eq_true h5
    clear h5
    obtain ⟨y6, q10, hr⟩ := Option.bind_eq_some_iff.1 hr
    obtain ⟨e7, e8, e9⟩ := ix_some q10
    try simp only [Int.toNat_natCast, Int.toNat_zero, Int.reduceToNat] at e8
    clear q10
    obtain ⟨l11, q16, hr⟩ := Option.bind_eq_some_iff.1 hr
    obtain ⟨_, _, e12, e13, _⟩ := put_some q16
    try simp only [Int.toNat_natCast, Int.toNat_zero, Int.reduceToNat] at e12
    have e14 : (later_.map impl_Job.cells).set (Int.toNat y1) [.int .i64 y6.Time, .int .i64 y6.Weight, .int .i64 y6.Release, .int .i64 (addK .i64 y6.Due delay_)] = l11.map impl_Job.cells := by rw [← e12, List.map_set] <;> rfl
    replace e13 : Keep (later_.length = l11.length) := e13
    clear e12 q16
    have hr_ := Option.some.inj hr; subst hr_
    refine turn (by
      simp only [c_impl_TimelyAfter_l0, evA, evB, Int.reduceToNat, eq_self, reduceCtorEq, ↓reduceIte, Nat.reduceEqDiff, Nat.reduceAdd, Nat.reduceLT, Nat.reduceLeDiff, Nat.reduceMul, Nat.reduceSub, spec_l1Cur.cells, rz_spec_l1Cur, pr_spec_l1Cur, impl_Job.cells, rz_impl_Job, pr_impl_Job, spec_l2Search.cells, rz_spec_l2Search, pr_spec_l2Search, *]
      rfl) ?_
    exact ⟨rfl, _, rfl, rfl, (congrArg (fun n_ => V.os 0 g0 4 0 n_) e13), rfl, rfl, rfl⟩
  · rw [if_neg h5] at hr
    have e4 : (y1 < y) = False := eq_false h5
    clear h5
    have hr_ := Option.some.inj hr; subst hr_
    refine turn (by
      simp only [c_impl_TimelyAfter_l0, evA, evB, Int.reduceToNat, eq_self, reduceCtorEq, ↓reduceIte, Nat.reduceEqDiff, Nat.reduceAdd, Nat.reduceLT, Nat.reduceLeDiff, Nat.reduceMul, Nat.reduceSub, spec_l1Cur.cells, rz_spec_l1Cur, pr_spec_l1Cur, impl_Job.cells, rz_impl_Job, pr_impl_Job, spec_l2Search.cells, rz_spec_l2Search, pr_spec_l2Search, *]
      rfl) ?_
    exact ⟨by simp, rfl, _, rfl, rfl, rfl⟩

theorem lp_impl_TimelyAfter_l0 {cl : Callee} (K_impl_IsPlain : K_impl_IsPlain x_impl_IsPlain (cl n_impl_IsPlain)) (K_impl_within : K_impl_within x_impl_within (cl n_impl_within)) (K_impl_onTime : K_impl_onTime x_impl_onTime (cl n_impl_onTime)) (K_impl_numbersTo : K_impl_numbersTo x_impl_numbersTo (cl n_impl_numbersTo)) (jobs_ : (List impl_Job)) (delay_ : Int) (y : Int) (st_ : ((List impl_Job) × Int)) (p_ : ((List impl_Job))) (hr : loopS (x_impl_TimelyAfter_l0 jobs_ delay_ y) LL st_ = some p_) (T_ : Tm) (H_ : List Blk) (ng : Nat) (hR_ : R_impl_TimelyAfter_l0 jobs_ delay_ y st_ T_ H_) (hn_ : H_.length = 1) :
    ∃ e_ T1_ H1_ ng1_, gcode (shOf F) cl LL (.loop false (some [0, 1, 6, 20, 21]) c_impl_TimelyAfter_l0) ⟨T_, H_, ng⟩ = some (e_, ⟨T1_, H1_, ng1_⟩) ∧ Q_impl_TimelyAfter_l0 jobs_ delay_ y p_ e_ T1_ H1_ :=
  sim_loop (n0 := 1) (R_impl_TimelyAfter_l0 jobs_ delay_ y) (Q_impl_TimelyAfter_l0 jobs_ delay_ y) (st_impl_TimelyAfter_l0 K_impl_IsPlain K_impl_within K_impl_onTime K_impl_numbersTo jobs_ delay_ y) st_ p_ hr T_ H_ ng hR_ hn_

theorem ok_impl_TimelyAfter {cl : Callee} (K_impl_IsPlain : K_impl_IsPlain x_impl_IsPlain (cl n_impl_IsPlain)) (K_impl_within : K_impl_within x_impl_within (cl n_impl_within)) (K_impl_onTime : K_impl_onTime x_impl_onTime (cl n_impl_onTime)) (K_impl_numbersTo : K_impl_numbersTo x_impl_numbersTo (cl n_impl_numbersTo)) : K_impl_TimelyAfter (x_impl_TimelyAfter) (gbody F LL cl c_impl_TimelyAfter) := by
  intro jobs_ delay_ r hr
  unfold x_impl_TimelyAfter at hr
  try dsimp only at hr
  obtain ⟨r1, q3, hr⟩ := Option.bind_eq_some_iff.1 hr
  have e2 : ∀ H ng, gcall (shOf F) cl false n_impl_IsPlain [.fs (jobs_.map impl_Job.cells)] H ng = some (.bool r1, H, ng, .inert) := fun H ng => call_far s_impl_IsPlain rfl (K_impl_IsPlain _ _ q3).ret
  by_cases h6 : r1 = true
  · rw [if_pos h6] at hr
    have e4 : r1 = true := h6
    clear h6
    obtain ⟨r7, q9, hr⟩ := Option.bind_eq_some_iff.1 hr
    have e8 : ∀ H ng, gcall (shOf F) cl false n_impl_within [.int .i64 delay_, .int .i64 0, .int .i64 400] H ng = some (.bool r7, H, ng, .inert) := fun H ng => call_far s_impl_within rfl (K_impl_within _ _ _ _ q9).ret
    by_cases h12 : r7 = true
    · rw [if_pos h12] at hr
      have e10 : r7 = true := h12
      clear h12
      by_cases h15 : fits jobs_.length 32
      · rw [if_pos h15] at hr
        have e13 : (jobs_.length * 32 ≤ room) = True := eq_true h15.1
        have e14 : (jobs_.length ≤ room) = True := eq_true h15.2
        clear h15
        obtain ⟨p16, q35, hr⟩ := Option.bind_eq_some_iff.1 hr
        obtain ⟨ex22, T19, H20, ng21, l18, m17⟩ := lp_impl_TimelyAfter_l0 (cl := cl) K_impl_IsPlain K_impl_within K_impl_onTime K_impl_numbersTo  jobs_ delay_ ((jobs_.length : Nat) : Int) _ _ q35 [(0, .fs (jobs_.map impl_Job.cells)), (1, .int .i64 delay_), (6, .os 0 1 4 0 jobs_.length), (20, .int .i64 ((jobs_.length : Nat) : Int)), (21, .int .i64 0)] [(Blk.mk 1 false 4 (jobs_.map impl_Job.cells))] 2 (show R_impl_TimelyAfter_l0 jobs_ delay_ ((jobs_.length : Nat) : Int) (jobs_, 0) [(0, .fs (jobs_.map impl_Job.cells)), (1, .int .i64 delay_), (6, .os 0 1 4 0 jobs_.length), (20, .int .i64 ((jobs_.length : Nat) : Int)), (21, .int .i64 0)] [(Blk.mk 1 false 4 (jobs_.map impl_Job.cells))] from ⟨_, rfl, rfl, rfl, rfl, rfl, rfl⟩) rfl
        obtain ⟨rfl, g23, e24, e25, e26⟩ := m17
        subst e26
        obtain ⟨r27, q29, hr⟩ := Option.bind_eq_some_iff.1 hr
        have e28 : ∀ H ng, gcall (shOf F) cl false n_impl_numbersTo [.int .i64 (jobs_.length : Int)] H ng = some (.fs (r27.map (cI .i64)), H, ng, .inert) := fun H ng => call_far s_impl_numbersTo rfl (K_impl_numbersTo _ _ q29).retF.ret
        obtain ⟨r30, q34, hr⟩ := Option.bind_eq_some_iff.1 hr
        have x31 : expC (hp [(Blk.mk g23 false 4 (p16.map impl_Job.cells))]) 0 expDepth (.os 0 g23 4 0 p16.length) = some (.fs (p16.map impl_Job.cells)) := (exp_win (b := (Blk.mk g23 false 4 (p16.map impl_Job.cells))) (Nat.zero_le _) (by simp [hget, hp]) (by simp) (pr_impl_Job _)).trans (by simp [take_map_len])
        have x32 : mapMV (expV (hp [(Blk.mk g23 false 4 (p16.map impl_Job.cells))]) 0) [.os 0 g23 4 0 p16.length, .fs (r27.map (cI .i64))] = some [.fs (p16.map impl_Job.cells), .fs (r27.map (cI .i64))] := by simp only [mapMV, ex_int, ex_bool, ex_fs, ex_agg, ex_os, pureCs, V.pureC, Bool.and_self, x31, Option.bind_some, Option.map_some]
        have e33 : gcall (shOf F) cl false n_impl_onTime [.os 0 g23 4 0 p16.length, .fs (r27.map (cI .i64))] [(Blk.mk g23 false 4 (p16.map impl_Job.cells))] ng21 = some (.bool r30, [(Blk.mk g23 false 4 (p16.map impl_Job.cells))], ng21, .touch (idsVs (hp [(Blk.mk g23 false 4 (p16.map impl_Job.cells))]) [.os 0 g23 4 0 p16.length, .fs (r27.map (cI .i64))]) []) := call_near s_impl_onTime x32 rfl (K_impl_onTime _ _ _ q34)
        clear x31 x32
        have hr_ := Option.some.inj hr; subst hr_
        refine RetF.scal (by
          simp only [c_impl_TimelyAfter, evA, evB, Int.reduceToNat, eq_self, reduceCtorEq, ↓reduceIte, Nat.reduceEqDiff, Nat.reduceAdd, Nat.reduceLT, Nat.reduceLeDiff, Nat.reduceMul, Nat.reduceSub, spec_l1Cur.cells, rz_spec_l1Cur, pr_spec_l1Cur, impl_Job.cells, rz_impl_Job, pr_impl_Job, spec_l2Search.cells, rz_spec_l2Search, pr_spec_l2Search, *]
          rfl) rfl rfl
      · rw [if_neg h15] at hr
        clear h15
        exact nomatch hr
    · rw [if_neg h12] at hr
      have e11 : r7 = false := Bool.eq_false_iff.2 h12
      clear h12
      have hr_ := Option.some.inj hr; subst hr_
      refine RetF.scal (by
        simp only [c_impl_TimelyAfter, evA, evB, Int.reduceToNat, eq_self, reduceCtorEq, ↓reduceIte, Nat.reduceEqDiff, Nat.reduceAdd, Nat.reduceLT, Nat.reduceLeDiff, Nat.reduceMul, Nat.reduceSub, spec_l1Cur.cells, rz_spec_l1Cur, pr_spec_l1Cur, impl_Job.cells, rz_impl_Job, pr_impl_Job, spec_l2Search.cells, rz_spec_l2Search, pr_spec_l2Search, *]
        rfl) rfl rfl
  · rw [if_neg h6] at hr
    have e5 : r1 = false := Bool.eq_false_iff.2 h6
    clear h6
    have hr_ := Option.some.inj hr; subst hr_
    refine RetF.scal (by
      simp only [c_impl_TimelyAfter, evA, evB, Int.reduceToNat, eq_self, reduceCtorEq, ↓reduceIte, Nat.reduceEqDiff, Nat.reduceAdd, Nat.reduceLT, Nat.reduceLeDiff, Nat.reduceMul, Nat.reduceSub, spec_l1Cur.cells, rz_spec_l1Cur, pr_spec_l1Cur, impl_Job.cells, rz_impl_Job, pr_impl_Job, spec_l2Search.cells, rz_spec_l2Search, pr_spec_l2Search, *]
      rfl) rfl rfl

theorem st_spec_l6Timely_l0 {cl : Callee} (K_spec_l6Due : K_spec_l6Due x_spec_l6Due (cl n_spec_l6Due)) (jobs_ : (List impl_Job)) (order_ : (List Int)) (st_ : (Int × Int)) (c_ : Ctl (Int × Int) (Unit ⊕ (Bool))) (hr : x_spec_l6Timely_l0 jobs_ order_ st_ = some c_) (T_ : Tm) (H_ : List Blk) (ng : Nat) (hR_ : R_spec_l6Timely_l0 jobs_ order_ st_ T_ H_) :
    ∃ e_ T1_ H1_ ng1_, gcode (shOf F) cl LL c_spec_l6Timely_l0 ⟨maskT (some [0, 5, 6, 7]) T_, H_, ng⟩ = some (e_, ⟨T1_, H1_, ng1_⟩) ∧ TurnOK (R_spec_l6Timely_l0 jobs_ order_) (Q_spec_l6Timely_l0 jobs_ order_) 0 c_ e_ T1_ H1_ := by
  obtain ⟨now_, i_⟩ := st_
  obtain ⟨f0_, f1_, f2_, f3_, rfl⟩ := hR_
  unfold x_spec_l6Timely_l0 at hr
  try dsimp only at hr
  by_cases h5 : i_ < (order_.length : Int)
  · rw [if_pos h5] at hr
    have e3 : (i_ < (order_.length : Int)) = True := eq_true h5
    clear h5
    obtain ⟨y6, q10, hr⟩ := Option.bind_eq_some_iff.1 hr
    obtain ⟨e7, e8, e9⟩ := ix_some q10
    try simp only [Int.toNat_natCast, Int.toNat_zero, Int.reduceToNat] at e8
    clear q10
    obtain ⟨y11, q15, hr⟩ := Option.bind_eq_some_iff.1 hr
    obtain ⟨e12, e13, e14⟩ := ix_some q15
    try simp only [Int.toNat_natCast, Int.toNat_zero, Int.reduceToNat] at e13
    clear q15
    by_cases h20 : y11.Due < (addK .i64 now_ y11.Time)
    · rw [if_pos h20] at hr
      have e18 : (y11.Due < (addK .i64 now_ y11.Time)) = True := eq_true h20
      clear h20
      have hr_ := Option.some.inj hr; subst hr_
      refine turn (by
        simp only [c_spec_l6Timely_l0, evA, evB, Int.reduceToNat, eq_self, reduceCtorEq, ↓reduceIte, Nat.reduceEqDiff, Nat.reduceAdd, Nat.reduceLT, Nat.reduceLeDiff, Nat.reduceMul, Nat.reduceSub, spec_l1Cur.cells, rz_spec_l1Cur, pr_spec_l1Cur, impl_Job.cells, rz_impl_Job, pr_impl_Job, spec_l2Search.cells, rz_spec_l2Search, pr_spec_l2Search, *]
        rfl) ?_
      exact ⟨by simp, rfl, rfl⟩
    · rw [if_neg h20] at hr
      have e19 : (y11.Due < (addK .i64 now_ y11.Time)) = False := eq_false h20
      clear h20
      have hr_ := Option.some.inj hr; subst hr_
      refine turn (by
        simp only [c_spec_l6Timely_l0, evA, evB, Int.reduceToNat, eq_self, reduceCtorEq, ↓reduceIte, Nat.reduceEqDiff, Nat.reduceAdd, Nat.reduceLT, Nat.reduceLeDiff, Nat.reduceMul, Nat.reduceSub, spec_l1Cur.cells, rz_spec_l1Cur, pr_spec_l1Cur, impl_Job.cells, rz_impl_Job, pr_impl_Job, spec_l2Search.cells, rz_spec_l2Search, pr_spec_l2Search, *]
        rfl) ?_
      exact ⟨rfl, rfl, rfl, rfl, rfl, rfl⟩
  · rw [if_neg h5] at hr
    have e4 : (i_ < (order_.length : Int)) = False := eq_false h5
    clear h5
    have hr_ := Option.some.inj hr; subst hr_
    refine turn (by
      simp only [c_spec_l6Timely_l0, evA, evB, Int.reduceToNat, eq_self, reduceCtorEq, ↓reduceIte, Nat.reduceEqDiff, Nat.reduceAdd, Nat.reduceLT, Nat.reduceLeDiff, Nat.reduceMul, Nat.reduceSub, spec_l1Cur.cells, rz_spec_l1Cur, pr_spec_l1Cur, impl_Job.cells, rz_impl_Job, pr_impl_Job, spec_l2Search.cells, rz_spec_l2Search, pr_spec_l2Search, *]
      rfl) ?_
    exact ⟨by simp, rfl, rfl⟩

theorem lp_spec_l6Timely_l0 {cl : Callee} (K_spec_l6Due : K_spec_l6Due x_spec_l6Due (cl n_spec_l6Due)) (jobs_ : (List impl_Job)) (order_ : (List Int)) (st_ : (Int × Int)) (p_ : (Unit ⊕ (Bool))) (hr : loopS (x_spec_l6Timely_l0 jobs_ order_) LL st_ = some p_) (T_ : Tm) (H_ : List Blk) (ng : Nat) (hR_ : R_spec_l6Timely_l0 jobs_ order_ st_ T_ H_) (hn_ : H_.length = 0) :
    ∃ e_ T1_ H1_ ng1_, gcode (shOf F) cl LL (.loop false (some [0, 5, 6, 7]) c_spec_l6Timely_l0) ⟨T_, H_, ng⟩ = some (e_, ⟨T1_, H1_, ng1_⟩) ∧ Q_spec_l6Timely_l0 jobs_ order_ p_ e_ T1_ H1_ :=
  sim_loop (n0 := 0) (R_spec_l6Timely_l0 jobs_ order_) (Q_spec_l6Timely_l0 jobs_ order_) (st_spec_l6Timely_l0 K_spec_l6Due jobs_ order_) st_ p_ hr T_ H_ ng hR_ hn_

theorem ok_spec_l6Timely {cl : Callee} (K_spec_l6Due : K_spec_l6Due x_spec_l6Due (cl n_spec_l6Due)) : K_spec_l6Timely (x_spec_l6Timely) (gbody F LL cl c_spec_l6Timely) := by
  intro jobs_ set_ r hr
  unfold x_spec_l6Timely at hr
  try dsimp only at hr
  obtain ⟨r1, q3, hr⟩ := Option.bind_eq_some_iff.1 hr
  have e2 : ∀ H ng, gcall (shOf F) cl false n_spec_l6Due [.fs (jobs_.map impl_Job.cells), .fs (set_.map (cI .i64))] H ng = some (.fs (r1.map (cI .i64)), H, ng, .inert) := fun H ng => call_far s_spec_l6Due rfl (K_spec_l6Due _ _ _ q3)
  obtain ⟨p4, q13, hr⟩ := Option.bind_eq_some_iff.1 hr
  obtain ⟨ex10, T7, H8, ng9, l6, m5⟩ := lp_spec_l6Timely_l0 (cl := cl) K_spec_l6Due  jobs_ r1 _ _ q13 [(0, .fs (jobs_.map impl_Job.cells)), (5, .fs (r1.map (cI .i64))), (6, .int .i64 0), (7, .int .i64 0)] [] 0 (show R_spec_l6Timely_l0 jobs_ r1 (0, 0) [(0, .fs (jobs_.map impl_Job.cells)), (5, .fs (r1.map (cI .i64))), (6, .int .i64 0), (7, .int .i64 0)] [] from ⟨rfl, rfl, rfl, rfl, rfl⟩) rfl
  rcases p4 with p4 | p4
  · dsimp only at hr
    obtain ⟨rfl, e11⟩ := m5
    subst e11
    have hr_ := Option.some.inj hr; subst hr_
    refine RetF.scal (by
      simp only [c_spec_l6Timely, evA, evB, Int.reduceToNat, eq_self, reduceCtorEq, ↓reduceIte, Nat.reduceEqDiff, Nat.reduceAdd, Nat.reduceLT, Nat.reduceLeDiff, Nat.reduceMul, Nat.reduceSub, spec_l1Cur.cells, rz_spec_l1Cur, pr_spec_l1Cur, impl_Job.cells, rz_impl_Job, pr_impl_Job, spec_l2Search.cells, rz_spec_l2Search, pr_spec_l2Search, *]
      rfl) rfl rfl
  · dsimp only at hr
    obtain ⟨rfl, e12⟩ := m5
    have hr_ := Option.some.inj hr; subst hr_
    refine RetF.scal (by
      simp only [c_spec_l6Timely, evA, evB, Int.reduceToNat, eq_self, reduceCtorEq, ↓reduceIte, Nat.reduceEqDiff, Nat.reduceAdd, Nat.reduceLT, Nat.reduceLeDiff, Nat.reduceMul, Nat.reduceSub, spec_l1Cur.cells, rz_spec_l1Cur, pr_spec_l1Cur, impl_Job.cells, rz_impl_Job, pr_impl_Job, spec_l2Search.cells, rz_spec_l2Search, pr_spec_l2Search, *]
      rfl) rfl rfl

theorem st_spec_TimelyAfter_l0 {cl : Callee} (K_spec_l6Good : K_spec_l6Good x_spec_l6Good (cl n_spec_l6Good)) (K_spec_l1In : K_spec_l1In x_spec_l1In (cl n_spec_l1In)) (K_spec_l6Timely : K_spec_l6Timely x_spec_l6Timely (cl n_spec_l6Timely)) (K_spec_l6All : K_spec_l6All x_spec_l6All (cl n_spec_l6All)) (jobs_ : (List impl_Job)) (delay_ : Int) (st_ : ((List impl_Job) × Int)) (c_ : Ctl ((List impl_Job) × Int) ((List impl_Job))) (hr : x_spec_TimelyAfter_l0 jobs_ delay_ st_ = some c_) (T_ : Tm) (H_ : List Blk) (ng : Nat) (hR_ : R_spec_TimelyAfter_l0 jobs_ delay_ st_ T_ H_) :
    ∃ e_ T1_ H1_ ng1_, gcode (shOf F) cl LL c_spec_TimelyAfter_l0 ⟨maskT (some [0, 1, 6, 7]) T_, H_, ng⟩ = some (e_, ⟨T1_, H1_, ng1_⟩) ∧ TurnOK (R_spec_TimelyAfter_l0 jobs_ delay_) (Q_spec_TimelyAfter_l0 jobs_ delay_) 1 c_ e_ T1_ H1_ := by
  obtain ⟨later_, i_⟩ := st_
  obtain ⟨g0, f0_, f1_, f2_, f3_, rfl⟩ := hR_
  unfold x_spec_TimelyAfter_l0 at hr
  try dsimp only at hr
  by_cases h5 : i_ < (jobs_.length : Int)
  · rw [if_pos h5] at hr
    have e3 : (i_ < (jobs_.length : Int)) = True := eq_true h5
    clear h5
    obtain ⟨y6, q10, hr⟩ := Option.bind_eq_some_iff.1 hr
    obtain ⟨e7, e8, e9⟩ := ix_some q10
    try simp only [Int.toNat_natCast, Int.toNat_zero, Int.reduceToNat] at e8
    clear q10
    obtain ⟨l11, q19, hr⟩ := Option.bind_eq_some_iff.1 hr
    obtain ⟨e12, e13, e14, e15⟩ := app_some q19
    try simp only [List.length_cons, List.length_nil, Nat.zero_add, Nat.reduceAdd] at e12 e13 e15
    have e16 : (later_.map impl_Job.cells) ++ [[.int .i64 y6.Time, .int .i64 0, .int .i64 0, .int .i64 (addK .i64 y6.Due delay_)]] = l11.map impl_Job.cells := by rw [← e14, List.map_append] <;> rfl
    have e17 := e12
    have e18 := e13
    rw [e15] at e17 e18
    clear e14 q19
    have hr_ := Option.some.inj hr; subst hr_
    refine turn (by
      simp only [c_spec_TimelyAfter_l0, evA, evB, Int.reduceToNat, eq_self, reduceCtorEq, ↓reduceIte, Nat.reduceEqDiff, Nat.reduceAdd, Nat.reduceLT, Nat.reduceLeDiff, Nat.reduceMul, Nat.reduceSub, spec_l1Cur.cells, rz_spec_l1Cur, pr_spec_l1Cur, impl_Job.cells, rz_impl_Job, pr_impl_Job, spec_l2Search.cells, rz_spec_l2Search, pr_spec_l2Search, *]
      rfl) ?_
    exact ⟨rfl, _, rfl, rfl, rfl, rfl, rfl⟩
  · rw [if_neg h5] at hr
    have e4 : (i_ < (jobs_.length : Int)) = False := eq_false h5
    clear h5
    have hr_ := Option.some.inj hr; subst hr_
    refine turn (by
      simp only [c_spec_TimelyAfter_l0, evA, evB, Int.reduceToNat, eq_self, reduceCtorEq, ↓reduceIte, Nat.reduceEqDiff, Nat.reduceAdd, Nat.reduceLT, Nat.reduceLeDiff, Nat.reduceMul, Nat.reduceSub, spec_l1Cur.cells, rz_spec_l1Cur, pr_spec_l1Cur, impl_Job.cells, rz_impl_Job, pr_impl_Job, spec_l2Search.cells, rz_spec_l2Search, pr_spec_l2Search, *]
      rfl) ?_
    exact ⟨by simp, rfl, _, rfl, rfl⟩

theorem lp_spec_TimelyAfter_l0 {cl : Callee} (K_spec_l6Good : K_spec_l6Good x_spec_l6Good (cl n_spec_l6Good)) (K_spec_l1In : K_spec_l1In x_spec_l1In (cl n_spec_l1In)) (K_spec_l6Timely : K_spec_l6Timely x_spec_l6Timely (cl n_spec_l6Timely)) (K_spec_l6All : K_spec_l6All x_spec_l6All (cl n_spec_l6All)) (jobs_ : (List impl_Job)) (delay_ : Int) (st_ : ((List impl_Job) × Int)) (p_ : ((List impl_Job))) (hr : loopS (x_spec_TimelyAfter_l0 jobs_ delay_) LL st_ = some p_) (T_ : Tm) (H_ : List Blk) (ng : Nat) (hR_ : R_spec_TimelyAfter_l0 jobs_ delay_ st_ T_ H_) (hn_ : H_.length = 1) :
    ∃ e_ T1_ H1_ ng1_, gcode (shOf F) cl LL (.loop false (some [0, 1, 6, 7]) c_spec_TimelyAfter_l0) ⟨T_, H_, ng⟩ = some (e_, ⟨T1_, H1_, ng1_⟩) ∧ Q_spec_TimelyAfter_l0 jobs_ delay_ p_ e_ T1_ H1_ :=
  sim_loop (n0 := 1) (R_spec_TimelyAfter_l0 jobs_ delay_) (Q_spec_TimelyAfter_l0 jobs_ delay_) (st_spec_TimelyAfter_l0 K_spec_l6Good K_spec_l1In K_spec_l6Timely K_spec_l6All jobs_ delay_) st_ p_ hr T_ H_ ng hR_ hn_

theorem ok_spec_TimelyAfter {cl : Callee} (K_spec_l6Good : K_spec_l6Good x_spec_l6Good (cl n_spec_l6Good)) (K_spec_l1In : K_spec_l1In x_spec_l1In (cl n_spec_l1In)) (K_spec_l6Timely : K_spec_l6Timely x_spec_l6Timely (cl n_spec_l6Timely)) (K_spec_l6All : K_spec_l6All x_spec_l6All (cl n_spec_l6All)) : K_spec_TimelyAfter (x_spec_TimelyAfter) (gbody F LL cl c_spec_TimelyAfter) := by
  intro jobs_ delay_ r hr
  unfold x_spec_TimelyAfter at hr
  try dsimp only at hr
  obtain ⟨r1, q3, hr⟩ := Option.bind_eq_some_iff.1 hr
  have e2 : ∀ H ng, gcall (shOf F) cl false n_spec_l6Good [.fs (jobs_.map impl_Job.cells)] H ng = some (.bool r1, H, ng, .inert) := fun H ng => call_far s_spec_l6Good rfl (K_spec_l6Good _ _ q3).ret
  by_cases h6 : r1 = true
  · rw [if_pos h6] at hr
    have e4 : r1 = true := h6
    clear h6
    obtain ⟨r7, q9, hr⟩ := Option.bind_eq_some_iff.1 hr
    have e8 : ∀ H ng, gcall (shOf F) cl false n_spec_l1In [.int .i64 delay_, .int .i64 0, .int .i64 400] H ng = some (.bool r7, H, ng, .inert) := fun H ng => call_far s_spec_l1In rfl (K_spec_l1In _ _ _ _ q9).ret
    by_cases h12 : r7 = true
    · rw [if_pos h12] at hr
      have e10 : r7 = true := h12
      clear h12
      obtain ⟨p13, q33, hr⟩ := Option.bind_eq_some_iff.1 hr
      obtain ⟨ex19, T16, H17, ng18, l15, m14⟩ := lp_spec_TimelyAfter_l0 (cl := cl) K_spec_l6Good K_spec_l1In K_spec_l6Timely K_spec_l6All  jobs_ delay_ _ _ q33 [(0, .fs (jobs_.map impl_Job.cells)), (1, .int .i64 delay_), (6, .os 0 0 4 0 0), (7, .int .i64 0)] [(Blk.mk 0 false 4 [])] 1 (show R_spec_TimelyAfter_l0 jobs_ delay_ (([] : List impl_Job), 0) [(0, .fs (jobs_.map impl_Job.cells)), (1, .int .i64 delay_), (6, .os 0 0 4 0 0), (7, .int .i64 0)] [(Blk.mk 0 false 4 [])] from ⟨_, rfl, rfl, rfl, rfl, rfl⟩) rfl
      obtain ⟨rfl, g20, e21, e22⟩ := m14
      subst e22
      obtain ⟨r23, q27, hr⟩ := Option.bind_eq_some_iff.1 hr
      have x24 : expC (hp [(Blk.mk g20 false 4 (p13.map impl_Job.cells))]) 0 expDepth (.os 0 g20 4 0 p13.length) = some (.fs (p13.map impl_Job.cells)) := (exp_win (b := (Blk.mk g20 false 4 (p13.map impl_Job.cells))) (Nat.zero_le _) (by simp [hget, hp]) (by simp) (pr_impl_Job _)).trans (by simp [take_map_len])
      have x25 : mapMV (expV (hp [(Blk.mk g20 false 4 (p13.map impl_Job.cells))]) 0) [.os 0 g20 4 0 p13.length] = some [.fs (p13.map impl_Job.cells)] := by simp only [mapMV, ex_int, ex_bool, ex_fs, ex_agg, ex_os, pureCs, V.pureC, Bool.and_self, x24, Option.bind_some, Option.map_some]
      have e26 : gcall (shOf F) cl false n_spec_l6All [.os 0 g20 4 0 p13.length] [(Blk.mk g20 false 4 (p13.map impl_Job.cells))] ng18 = some (.fs (r23.map (cI .i64)), [(Blk.mk g20 false 4 (p13.map impl_Job.cells))], ng18, .touch (idsVs (hp [(Blk.mk g20 false 4 (p13.map impl_Job.cells))]) [.os 0 g20 4 0 p13.length]) []) := call_near s_spec_l6All x25 rfl (K_spec_l6All _ _ q27).retF
      clear x24 x25
      obtain ⟨r28, q32, hr⟩ := Option.bind_eq_some_iff.1 hr
      have x29 : expC (hp [(Blk.mk g20 false 4 (p13.map impl_Job.cells))]) 0 expDepth (.os 0 g20 4 0 p13.length) = some (.fs (p13.map impl_Job.cells)) := (exp_win (b := (Blk.mk g20 false 4 (p13.map impl_Job.cells))) (Nat.zero_le _) (by simp [hget, hp]) (by simp) (pr_impl_Job _)).trans (by simp [take_map_len])
      have x30 : mapMV (expV (hp [(Blk.mk g20 false 4 (p13.map impl_Job.cells))]) 0) [.os 0 g20 4 0 p13.length, .fs (r23.map (cI .i64))] = some [.fs (p13.map impl_Job.cells), .fs (r23.map (cI .i64))] := by simp only [mapMV, ex_int, ex_bool, ex_fs, ex_agg, ex_os, pureCs, V.pureC, Bool.and_self, x29, Option.bind_some, Option.map_some]
      have e31 : gcall (shOf F) cl false n_spec_l6Timely [.os 0 g20 4 0 p13.length, .fs (r23.map (cI .i64))] [(Blk.mk g20 false 4 (p13.map impl_Job.cells))] ng18 = some (.bool r28, [(Blk.mk g20 false 4 (p13.map impl_Job.cells))], ng18, .touch (idsVs (hp [(Blk.mk g20 false 4 (p13.map impl_Job.cells))]) [.os 0 g20 4 0 p13.length, .fs (r23.map (cI .i64))]) []) := call_near s_spec_l6Timely x30 rfl (K_spec_l6Timely _ _ _ q32)
      clear x29 x30
      have hr_ := Option.some.inj hr; subst hr_
      refine RetF.scal (by
        simp only [c_spec_TimelyAfter, evA, evB, Int.reduceToNat, eq_self, reduceCtorEq, ↓reduceIte, Nat.reduceEqDiff, Nat.reduceAdd, Nat.reduceLT, Nat.reduceLeDiff, Nat.reduceMul, Nat.reduceSub, spec_l1Cur.cells, rz_spec_l1Cur, pr_spec_l1Cur, impl_Job.cells, rz_impl_Job, pr_impl_Job, spec_l2Search.cells, rz_spec_l2Search, pr_spec_l2Search, *]
        rfl) rfl rfl
    · rw [if_neg h12] at hr
      have e11 : r7 = false := Bool.eq_false_iff.2 h12
      clear h12
      have hr_ := Option.some.inj hr; subst hr_
      refine RetF.scal (by
        simp only [c_spec_TimelyAfter, evA, evB, Int.reduceToNat, eq_self, reduceCtorEq, ↓reduceIte, Nat.reduceEqDiff, Nat.reduceAdd, Nat.reduceLT, Nat.reduceLeDiff, Nat.reduceMul, Nat.reduceSub, spec_l1Cur.cells, rz_spec_l1Cur, pr_spec_l1Cur, impl_Job.cells, rz_impl_Job, pr_impl_Job, spec_l2Search.cells, rz_spec_l2Search, pr_spec_l2Search, *]
        rfl) rfl rfl
  · rw [if_neg h6] at hr
    have e5 : r1 = false := Bool.eq_false_iff.2 h6
    clear h6
    have hr_ := Option.some.inj hr; subst hr_
    refine RetF.scal (by
      simp only [c_spec_TimelyAfter, evA, evB, Int.reduceToNat, eq_self, reduceCtorEq, ↓reduceIte, Nat.reduceEqDiff, Nat.reduceAdd, Nat.reduceLT, Nat.reduceLeDiff, Nat.reduceMul, Nat.reduceSub, spec_l1Cur.cells, rz_spec_l1Cur, pr_spec_l1Cur, impl_Job.cells, rz_impl_Job, pr_impl_Job, spec_l2Search.cells, rz_spec_l2Search, pr_spec_l2Search, *]
      rfl) rfl rfl

end Gh
