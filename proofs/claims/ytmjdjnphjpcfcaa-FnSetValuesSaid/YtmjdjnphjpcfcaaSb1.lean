/- The ghost answers as the shallow functions do, part 1. Written by program. -/
import Derived.Test.YtmjdjnphjpcfcaaSa
namespace Gh
open Go
set_option linter.unusedSimpArgs false
set_option linter.unusedVariables false
set_option maxRecDepth 100000
set_option maxHeartbeats 20000000

theorem st_impl_listOf_l0 {cl : Callee} (set_ : Int) (st_ : ((List Int) × Int)) (c_ : Ctl ((List Int) × Int) ((List Int))) (hr : x_impl_listOf_l0 set_ st_ = some c_) (T_ : Tm) (H_ : List Blk) (ng : Nat) (hR_ : R_impl_listOf_l0 set_ st_ T_ H_) :
    ∃ e_ T1_ H1_ ng1_, gcode (shOf F) cl LL c_impl_listOf_l0 ⟨maskT (some [0, 3, 4]) T_, H_, ng⟩ = some (e_, ⟨T1_, H1_, ng1_⟩) ∧ TurnOK (R_impl_listOf_l0 set_) (Q_impl_listOf_l0 set_) 1 c_ e_ T1_ H1_ := by
  obtain ⟨out_, i_⟩ := st_
  obtain ⟨g0, f0_, f1_, f2_, rfl⟩ := hR_
  unfold x_impl_listOf_l0 at hr
  try dsimp only at hr
  by_cases h2 : 0 ≤ i_
  · rw [if_pos h2] at hr
    have e1 : binI .shr .i64 set_ .i64 i_ = some (.int .i64 (shrK .i64 set_ i_)) := bi_shr _ _ _ _ h2
    clear h2
    by_cases h7 : 0 < (shrK .i64 set_ i_)
    · rw [if_pos h7] at hr
      have e5 : (0 < (shrK .i64 set_ i_)) = True := eq_true h7
      clear h7
      by_cases h9 : 0 ≤ i_
      · rw [if_pos h9] at hr
        have e8 : binI .shr .i64 set_ .i64 i_ = some (.int .i64 (shrK .i64 set_ i_)) := bi_shr _ _ _ _ h9
        clear h9
        by_cases h14 : (andK .i64 (shrK .i64 set_ i_) 1) = 1
        · rw [if_pos h14] at hr
          have e12 : ((andK .i64 (shrK .i64 set_ i_) 1) = 1) = True := eq_true h14
          clear h14
          obtain ⟨l15, q23, hr⟩ := Option.bind_eq_some_iff.1 hr
          obtain ⟨e16, e17, e18, e19⟩ := app_some q23
          try simp only [List.length_cons, List.length_nil, Nat.zero_add, Nat.reduceAdd] at e16 e17 e19
          have e20 : (out_.map (cI .i64)) ++ [[.int .i64 i_]] = l15.map (cI .i64) := by rw [← e18, List.map_append] <;> rfl
          have e21 := e16
          have e22 := e17
          rw [e19] at e21 e22
          clear e18 q23
          have hr_ := Option.some.inj hr; subst hr_
          refine turn (by
            simp only [c_impl_listOf_l0, evA, evB, Int.reduceToNat, eq_self, reduceCtorEq, ↓reduceIte, Nat.reduceEqDiff, Nat.reduceAdd, Nat.reduceLT, Nat.reduceLeDiff, Nat.reduceMul, Nat.reduceSub, Nat.reduceBEq, spec_l1Cur.cells, rz_spec_l1Cur, pr_spec_l1Cur, impl_Job.cells, rz_impl_Job, pr_impl_Job, spec_l2Search.cells, rz_spec_l2Search, pr_spec_l2Search, *]
            rfl) ?_
          exact ⟨rfl, _, rfl, rfl, rfl, rfl⟩
        · rw [if_neg h14] at hr
          have e13 : ((andK .i64 (shrK .i64 set_ i_) 1) = 1) = False := eq_false h14
          clear h14
          have hr_ := Option.some.inj hr; subst hr_
          refine turn (by
            simp only [c_impl_listOf_l0, evA, evB, Int.reduceToNat, eq_self, reduceCtorEq, ↓reduceIte, Nat.reduceEqDiff, Nat.reduceAdd, Nat.reduceLT, Nat.reduceLeDiff, Nat.reduceMul, Nat.reduceSub, Nat.reduceBEq, spec_l1Cur.cells, rz_spec_l1Cur, pr_spec_l1Cur, impl_Job.cells, rz_impl_Job, pr_impl_Job, spec_l2Search.cells, rz_spec_l2Search, pr_spec_l2Search, *]
            rfl) ?_
          exact ⟨rfl, _, rfl, rfl, rfl, rfl⟩
      · rw [if_neg h9] at hr
        clear h9
        exact nomatch hr
    · rw [if_neg h7] at hr
      have e6 : (0 < (shrK .i64 set_ i_)) = False := eq_false h7
      clear h7
      have hr_ := Option.some.inj hr; subst hr_
      refine turn (by
        simp only [c_impl_listOf_l0, evA, evB, Int.reduceToNat, eq_self, reduceCtorEq, ↓reduceIte, Nat.reduceEqDiff, Nat.reduceAdd, Nat.reduceLT, Nat.reduceLeDiff, Nat.reduceMul, Nat.reduceSub, Nat.reduceBEq, spec_l1Cur.cells, rz_spec_l1Cur, pr_spec_l1Cur, impl_Job.cells, rz_impl_Job, pr_impl_Job, spec_l2Search.cells, rz_spec_l2Search, pr_spec_l2Search, *]
        rfl) ?_
      exact ⟨by simp, rfl, _, rfl, rfl⟩
  · rw [if_neg h2] at hr
    clear h2
    exact nomatch hr

theorem lp_impl_listOf_l0 {cl : Callee} (set_ : Int) (st_ : ((List Int) × Int)) (p_ : ((List Int))) (hr : loopS (x_impl_listOf_l0 set_) LL st_ = some p_) (T_ : Tm) (H_ : List Blk) (ng : Nat) (hR_ : R_impl_listOf_l0 set_ st_ T_ H_) (hn_ : H_.length = 1) :
    ∃ e_ T1_ H1_ ng1_, gcode (shOf F) cl LL (.loop false (some [0, 3, 4]) c_impl_listOf_l0) ⟨T_, H_, ng⟩ = some (e_, ⟨T1_, H1_, ng1_⟩) ∧ Q_impl_listOf_l0 set_ p_ e_ T1_ H1_ :=
  sim_loop (n0 := 1) (R_impl_listOf_l0 set_) (Q_impl_listOf_l0 set_) (st_impl_listOf_l0 set_) st_ p_ hr T_ H_ ng hR_ hn_

theorem ok_impl_listOf {cl : Callee} : K_impl_listOf (x_impl_listOf) (gbody F LL cl c_impl_listOf) := by
  intro set_ r hr
  unfold x_impl_listOf at hr
  try dsimp only at hr
  obtain ⟨p1, q11, hr⟩ := Option.bind_eq_some_iff.1 hr
  obtain ⟨ex7, T4, H5, ng6, l3, m2⟩ := lp_impl_listOf_l0 (cl := cl)  set_ _ _ q11 [(0, .int .i64 set_), (3, .os 0 0 1 0 0), (4, .int .i64 0)] [(Blk.mk 0 false 1 [])] 1 (show R_impl_listOf_l0 set_ (([] : List Int), 0) [(0, .int .i64 set_), (3, .os 0 0 1 0 0), (4, .int .i64 0)] [(Blk.mk 0 false 1 [])] from ⟨_, rfl, rfl, rfl, rfl⟩) rfl
  obtain ⟨rfl, g8, e9, e10⟩ := m2
  subst e10
  have hr_ := Option.some.inj hr; subst hr_
  refine ⟨0, g8, [(Blk.mk g8 false 1 (p1.map (cI .i64)))], ng6, ?_, by simp [hget, hp], sc_cI _ _⟩
  simp only [c_impl_listOf, evA, evB, Int.reduceToNat, eq_self, reduceCtorEq, ↓reduceIte, Nat.reduceEqDiff, Nat.reduceAdd, Nat.reduceLT, Nat.reduceLeDiff, Nat.reduceMul, Nat.reduceSub, Nat.reduceBEq, spec_l1Cur.cells, rz_spec_l1Cur, pr_spec_l1Cur, impl_Job.cells, rz_impl_Job, pr_impl_Job, spec_l2Search.cells, rz_spec_l2Search, pr_spec_l2Search, *]

theorem ok_impl_add {cl : Callee} : K_impl_add (x_impl_add) (gbody F LL cl c_impl_add) := by
  intro value_ j_ end_ objective_ first_ r hr
  unfold x_impl_add at hr
  try dsimp only at hr
  by_cases h5 : objective_ = 1
  · rw [if_pos h5] at hr
    have e3 : (objective_ = 1) = True := eq_true h5
    clear h5
    have hr_ := Option.some.inj hr; subst hr_
    refine RetF.scal (by
      simp only [c_impl_add, evA, evB, Int.reduceToNat, eq_self, reduceCtorEq, ↓reduceIte, Nat.reduceEqDiff, Nat.reduceAdd, Nat.reduceLT, Nat.reduceLeDiff, Nat.reduceMul, Nat.reduceSub, Nat.reduceBEq, spec_l1Cur.cells, rz_spec_l1Cur, pr_spec_l1Cur, impl_Job.cells, rz_impl_Job, pr_impl_Job, spec_l2Search.cells, rz_spec_l2Search, pr_spec_l2Search, *]
      rfl) rfl rfl
  · rw [if_neg h5] at hr
    have e4 : (objective_ = 1) = False := eq_false h5
    clear h5
    by_cases h10 : objective_ = 2
    · rw [if_pos h10] at hr
      have e8 : (objective_ = 2) = True := eq_true h10
      clear h10
      have hr_ := Option.some.inj hr; subst hr_
      refine RetF.scal (by
        simp only [c_impl_add, evA, evB, Int.reduceToNat, eq_self, reduceCtorEq, ↓reduceIte, Nat.reduceEqDiff, Nat.reduceAdd, Nat.reduceLT, Nat.reduceLeDiff, Nat.reduceMul, Nat.reduceSub, Nat.reduceBEq, spec_l1Cur.cells, rz_spec_l1Cur, pr_spec_l1Cur, impl_Job.cells, rz_impl_Job, pr_impl_Job, spec_l2Search.cells, rz_spec_l2Search, pr_spec_l2Search, *]
        rfl) rfl rfl
    · rw [if_neg h10] at hr
      have e9 : (objective_ = 2) = False := eq_false h10
      clear h10
      by_cases h15 : objective_ = 3
      · rw [if_pos h15] at hr
        have e13 : (objective_ = 3) = True := eq_true h15
        clear h15
        have hr_ := Option.some.inj hr; subst hr_
        refine RetF.scal (by
          simp only [c_impl_add, evA, evB, Int.reduceToNat, eq_self, reduceCtorEq, ↓reduceIte, Nat.reduceEqDiff, Nat.reduceAdd, Nat.reduceLT, Nat.reduceLeDiff, Nat.reduceMul, Nat.reduceSub, Nat.reduceBEq, spec_l1Cur.cells, rz_spec_l1Cur, pr_spec_l1Cur, impl_Job.cells, rz_impl_Job, pr_impl_Job, spec_l2Search.cells, rz_spec_l2Search, pr_spec_l2Search, *]
          rfl) rfl rfl
      · rw [if_neg h15] at hr
        have e14 : (objective_ = 3) = False := eq_false h15
        clear h15
        by_cases h20 : objective_ = 4
        · rw [if_pos h20] at hr
          have e18 : (objective_ = 4) = True := eq_true h20
          clear h20
          by_cases h23 : first_ = true
          · rw [if_pos h23] at hr
            have e21 : first_ = true := h23
            clear h23
            have hr_ := Option.some.inj hr; subst hr_
            refine RetF.scal (by
              simp only [c_impl_add, evA, evB, Int.reduceToNat, eq_self, reduceCtorEq, ↓reduceIte, Nat.reduceEqDiff, Nat.reduceAdd, Nat.reduceLT, Nat.reduceLeDiff, Nat.reduceMul, Nat.reduceSub, Nat.reduceBEq, spec_l1Cur.cells, rz_spec_l1Cur, pr_spec_l1Cur, impl_Job.cells, rz_impl_Job, pr_impl_Job, spec_l2Search.cells, rz_spec_l2Search, pr_spec_l2Search, *]
              rfl) rfl rfl
          · rw [if_neg h23] at hr
            have e22 : first_ = false := Bool.eq_false_iff.2 h23
            clear h23
            have hr_ := Option.some.inj hr; subst hr_
            refine RetF.scal (by
              simp only [c_impl_add, evA, evB, Int.reduceToNat, eq_self, reduceCtorEq, ↓reduceIte, Nat.reduceEqDiff, Nat.reduceAdd, Nat.reduceLT, Nat.reduceLeDiff, Nat.reduceMul, Nat.reduceSub, Nat.reduceBEq, spec_l1Cur.cells, rz_spec_l1Cur, pr_spec_l1Cur, impl_Job.cells, rz_impl_Job, pr_impl_Job, spec_l2Search.cells, rz_spec_l2Search, pr_spec_l2Search, *]
              rfl) rfl rfl
        · rw [if_neg h20] at hr
          have e19 : (objective_ = 4) = False := eq_false h20
          clear h20
          by_cases h28 : objective_ = 5
          · rw [if_pos h28] at hr
            have e26 : (objective_ = 5) = True := eq_true h28
            clear h28
            have hr_ := Option.some.inj hr; subst hr_
            refine RetF.scal (by
              simp only [c_impl_add, evA, evB, Int.reduceToNat, eq_self, reduceCtorEq, ↓reduceIte, Nat.reduceEqDiff, Nat.reduceAdd, Nat.reduceLT, Nat.reduceLeDiff, Nat.reduceMul, Nat.reduceSub, Nat.reduceBEq, spec_l1Cur.cells, rz_spec_l1Cur, pr_spec_l1Cur, impl_Job.cells, rz_impl_Job, pr_impl_Job, spec_l2Search.cells, rz_spec_l2Search, pr_spec_l2Search, *]
              rfl) rfl rfl
          · rw [if_neg h28] at hr
            have e27 : (objective_ = 5) = False := eq_false h28
            clear h28
            by_cases h33 : objective_ = 6
            · rw [if_pos h33] at hr
              have e31 : (objective_ = 6) = True := eq_true h33
              clear h33
              have hr_ := Option.some.inj hr; subst hr_
              refine RetF.scal (by
                simp only [c_impl_add, evA, evB, Int.reduceToNat, eq_self, reduceCtorEq, ↓reduceIte, Nat.reduceEqDiff, Nat.reduceAdd, Nat.reduceLT, Nat.reduceLeDiff, Nat.reduceMul, Nat.reduceSub, Nat.reduceBEq, spec_l1Cur.cells, rz_spec_l1Cur, pr_spec_l1Cur, impl_Job.cells, rz_impl_Job, pr_impl_Job, spec_l2Search.cells, rz_spec_l2Search, pr_spec_l2Search, *]
                rfl) rfl rfl
            · rw [if_neg h33] at hr
              have e32 : (objective_ = 6) = False := eq_false h33
              clear h33
              by_cases h38 : (subK .i64 end_ j_.Due) ≤ 0
              · rw [if_pos h38] at hr
                have e36 : ((subK .i64 end_ j_.Due) ≤ 0) = True := eq_true h38
                clear h38
                have hr_ := Option.some.inj hr; subst hr_
                refine RetF.scal (by
                  simp only [c_impl_add, evA, evB, Int.reduceToNat, eq_self, reduceCtorEq, ↓reduceIte, Nat.reduceEqDiff, Nat.reduceAdd, Nat.reduceLT, Nat.reduceLeDiff, Nat.reduceMul, Nat.reduceSub, Nat.reduceBEq, spec_l1Cur.cells, rz_spec_l1Cur, pr_spec_l1Cur, impl_Job.cells, rz_impl_Job, pr_impl_Job, spec_l2Search.cells, rz_spec_l2Search, pr_spec_l2Search, *]
                  rfl) rfl rfl
              · rw [if_neg h38] at hr
                have e37 : ((subK .i64 end_ j_.Due) ≤ 0) = False := eq_false h38
                clear h38
                by_cases h43 : objective_ = 7
                · rw [if_pos h43] at hr
                  have e41 : (objective_ = 7) = True := eq_true h43
                  clear h43
                  have hr_ := Option.some.inj hr; subst hr_
                  refine RetF.scal (by
                    simp only [c_impl_add, evA, evB, Int.reduceToNat, eq_self, reduceCtorEq, ↓reduceIte, Nat.reduceEqDiff, Nat.reduceAdd, Nat.reduceLT, Nat.reduceLeDiff, Nat.reduceMul, Nat.reduceSub, Nat.reduceBEq, spec_l1Cur.cells, rz_spec_l1Cur, pr_spec_l1Cur, impl_Job.cells, rz_impl_Job, pr_impl_Job, spec_l2Search.cells, rz_spec_l2Search, pr_spec_l2Search, *]
                    rfl) rfl rfl
                · rw [if_neg h43] at hr
                  have e42 : (objective_ = 7) = False := eq_false h43
                  clear h43
                  have hr_ := Option.some.inj hr; subst hr_
                  refine RetF.scal (by
                    simp only [c_impl_add, evA, evB, Int.reduceToNat, eq_self, reduceCtorEq, ↓reduceIte, Nat.reduceEqDiff, Nat.reduceAdd, Nat.reduceLT, Nat.reduceLeDiff, Nat.reduceMul, Nat.reduceSub, Nat.reduceBEq, spec_l1Cur.cells, rz_spec_l1Cur, pr_spec_l1Cur, impl_Job.cells, rz_impl_Job, pr_impl_Job, spec_l2Search.cells, rz_spec_l2Search, pr_spec_l2Search, *]
                    rfl) rfl rfl

theorem st_impl_timeOf_l0 {cl : Callee} (K_impl_listOf : K_impl_listOf x_impl_listOf (cl n_impl_listOf)) (jobs_ : (List impl_Job)) (v : (List Int)) (vz1 : Int) (st_ : (Int × Int)) (c_ : Ctl (Int × Int) (Int)) (hr : x_impl_timeOf_l0 jobs_ v vz1 st_ = some c_) (T_ : Tm) (H_ : List Blk) (ng : Nat) (hR_ : R_impl_timeOf_l0 jobs_ v vz1 st_ T_ H_) :
    ∃ e_ T1_ H1_ ng1_, gcode (shOf F) cl LL c_impl_timeOf_l0 ⟨maskT (some [0, 5, 9, 10, 11]) T_, H_, ng⟩ = some (e_, ⟨T1_, H1_, ng1_⟩) ∧ TurnOK (R_impl_timeOf_l0 jobs_ v vz1) (Q_impl_timeOf_l0 jobs_ v vz1) 0 c_ e_ T1_ H1_ := by
  obtain ⟨total_, vz2⟩ := st_
  obtain ⟨f0_, f1_, f2_, f3_, f4_, rfl⟩ := hR_
  unfold x_impl_timeOf_l0 at hr
  try dsimp only at hr
  by_cases h5 : vz2 < vz1
  · rw [if_pos h5] at hr
    have e3 : (vz2 < vz1) = True := eq_true h5
    clear h5
    obtain ⟨y6, q10, hr⟩ := Option.bind_eq_some_iff.1 hr
    obtain ⟨e7, e8, e9⟩ := ix_some q10
    try simp only [Int.toNat_natCast, Int.toNat_zero, Int.reduceToNat] at e8
    clear q10
    obtain ⟨y11, q15, hr⟩ := Option.bind_eq_some_iff.1 hr
    obtain ⟨e12, e13, e14⟩ := ix_some q15
    try simp only [Int.toNat_natCast, Int.toNat_zero, Int.reduceToNat] at e13
    clear q15
    have hr_ := Option.some.inj hr; subst hr_
    refine turn (by
      simp only [c_impl_timeOf_l0, evA, evB, Int.reduceToNat, eq_self, reduceCtorEq, ↓reduceIte, Nat.reduceEqDiff, Nat.reduceAdd, Nat.reduceLT, Nat.reduceLeDiff, Nat.reduceMul, Nat.reduceSub, Nat.reduceBEq, spec_l1Cur.cells, rz_spec_l1Cur, pr_spec_l1Cur, impl_Job.cells, rz_impl_Job, pr_impl_Job, spec_l2Search.cells, rz_spec_l2Search, pr_spec_l2Search, *]
      rfl) ?_
    exact ⟨rfl, rfl, rfl, rfl, rfl, rfl, rfl⟩
  · rw [if_neg h5] at hr
    have e4 : (vz2 < vz1) = False := eq_false h5
    clear h5
    have hr_ := Option.some.inj hr; subst hr_
    refine turn (by
      simp only [c_impl_timeOf_l0, evA, evB, Int.reduceToNat, eq_self, reduceCtorEq, ↓reduceIte, Nat.reduceEqDiff, Nat.reduceAdd, Nat.reduceLT, Nat.reduceLeDiff, Nat.reduceMul, Nat.reduceSub, Nat.reduceBEq, spec_l1Cur.cells, rz_spec_l1Cur, pr_spec_l1Cur, impl_Job.cells, rz_impl_Job, pr_impl_Job, spec_l2Search.cells, rz_spec_l2Search, pr_spec_l2Search, *]
      rfl) ?_
    exact ⟨by simp, rfl, rfl, rfl⟩

theorem lp_impl_timeOf_l0 {cl : Callee} (K_impl_listOf : K_impl_listOf x_impl_listOf (cl n_impl_listOf)) (jobs_ : (List impl_Job)) (v : (List Int)) (vz1 : Int) (st_ : (Int × Int)) (p_ : (Int)) (hr : loopS (x_impl_timeOf_l0 jobs_ v vz1) LL st_ = some p_) (T_ : Tm) (H_ : List Blk) (ng : Nat) (hR_ : R_impl_timeOf_l0 jobs_ v vz1 st_ T_ H_) (hn_ : H_.length = 0) :
    ∃ e_ T1_ H1_ ng1_, gcode (shOf F) cl LL (.loop false (some [0, 5, 9, 10, 11]) c_impl_timeOf_l0) ⟨T_, H_, ng⟩ = some (e_, ⟨T1_, H1_, ng1_⟩) ∧ Q_impl_timeOf_l0 jobs_ v vz1 p_ e_ T1_ H1_ :=
  sim_loop (n0 := 0) (R_impl_timeOf_l0 jobs_ v vz1) (Q_impl_timeOf_l0 jobs_ v vz1) (st_impl_timeOf_l0 K_impl_listOf jobs_ v vz1) st_ p_ hr T_ H_ ng hR_ hn_

theorem ok_impl_timeOf {cl : Callee} (K_impl_listOf : K_impl_listOf x_impl_listOf (cl n_impl_listOf)) : K_impl_timeOf (x_impl_timeOf) (gbody F LL cl c_impl_timeOf) := by
  intro jobs_ set_ r hr
  unfold x_impl_timeOf at hr
  try dsimp only at hr
  obtain ⟨r1, q3, hr⟩ := Option.bind_eq_some_iff.1 hr
  have e2 : ∀ H ng, gcall (shOf F) cl false n_impl_listOf [.int .i64 set_] H ng = some (.fs (r1.map (cI .i64)), H, ng, .inert) := fun H ng => call_far s_impl_listOf rfl (K_impl_listOf _ _ q3).retF.ret
  obtain ⟨p4, q13, hr⟩ := Option.bind_eq_some_iff.1 hr
  obtain ⟨ex10, T7, H8, ng9, l6, m5⟩ := lp_impl_timeOf_l0 (cl := cl) K_impl_listOf  jobs_ r1 (r1.length : Int) _ _ q13 [(0, .fs (jobs_.map impl_Job.cells)), (5, .int .i64 0), (9, .fs (r1.map (cI .i64))), (10, .int .i64 (r1.length : Int)), (11, .int .i64 0)] [] 0 (show R_impl_timeOf_l0 jobs_ r1 (r1.length : Int) (0, 0) [(0, .fs (jobs_.map impl_Job.cells)), (5, .int .i64 0), (9, .fs (r1.map (cI .i64))), (10, .int .i64 (r1.length : Int)), (11, .int .i64 0)] [] from ⟨rfl, rfl, rfl, rfl, rfl, rfl⟩) rfl
  obtain ⟨rfl, e11, e12⟩ := m5
  subst e12
  have hr_ := Option.some.inj hr; subst hr_
  refine RetF.scal (by
    simp only [c_impl_timeOf, evA, evB, Int.reduceToNat, eq_self, reduceCtorEq, ↓reduceIte, Nat.reduceEqDiff, Nat.reduceAdd, Nat.reduceLT, Nat.reduceLeDiff, Nat.reduceMul, Nat.reduceSub, Nat.reduceBEq, spec_l1Cur.cells, rz_spec_l1Cur, pr_spec_l1Cur, impl_Job.cells, rz_impl_Job, pr_impl_Job, spec_l2Search.cells, rz_spec_l2Search, pr_spec_l2Search, *]
    rfl) rfl rfl

theorem st_impl_setValues_l1 {cl : Callee} (K_impl_listOf : K_impl_listOf x_impl_listOf (cl n_impl_listOf)) (K_impl_add : K_impl_add x_impl_add (cl n_impl_add)) (K_impl_timeOf : K_impl_timeOf x_impl_timeOf (cl n_impl_timeOf)) (jobs_ : (List impl_Job)) (objective_ : Int) (start_ : Int) (set_ : Int) (end_ : Int) (v : (List Int)) (vz1 : Int) (st_ : ((List Int) × Int)) (c_ : Ctl ((List Int) × Int) ((List Int))) (hr : x_impl_setValues_l1 jobs_ objective_ start_ set_ end_ v vz1 st_ = some c_) (T_ : Tm) (H_ : List Blk) (ng : Nat) (hR_ : R_impl_setValues_l1 jobs_ objective_ start_ set_ end_ v vz1 st_ T_ H_) :
    ∃ e_ T1_ H1_ ng1_, gcode (shOf F) cl LL c_impl_setValues_l1 ⟨maskT (some [0, 1, 2, 7, 8, 9, 32, 33, 34]) T_, H_, ng⟩ = some (e_, ⟨T1_, H1_, ng1_⟩) ∧ TurnOK (R_impl_setValues_l1 jobs_ objective_ start_ set_ end_ v vz1) (Q_impl_setValues_l1 jobs_ objective_ start_ set_ end_ v vz1) 1 c_ e_ T1_ H1_ := by
  obtain ⟨out_, vz2⟩ := st_
  obtain ⟨g0, f0_, f1_, f2_, f3_, f4_, f5_, f6_, f7_, f8_, rfl⟩ := hR_
  unfold x_impl_setValues_l1 at hr
  try dsimp only at hr
  by_cases h5 : vz2 < vz1
  · rw [if_pos h5] at hr
    have e3 : (vz2 < vz1) = True := eq_true h5
    clear h5
    obtain ⟨y6, q10, hr⟩ := Option.bind_eq_some_iff.1 hr
    obtain ⟨e7, e8, e9⟩ := ix_some q10
    try simp only [Int.toNat_natCast, Int.toNat_zero, Int.reduceToNat] at e8
    clear q10
    by_cases h12 : 0 ≤ y6
    · rw [if_pos h12] at hr
      have e11 : binI .shl .i64 1 .i64 y6 = some (.int .i64 (shlK .i64 1 y6)) := bi_shl _ _ _ _ h12
      clear h12
      obtain ⟨y13, q17, hr⟩ := Option.bind_eq_some_iff.1 hr
      obtain ⟨e14, e15, e16⟩ := ix_some q17
      try simp only [Int.toNat_natCast, Int.toNat_zero, Int.reduceToNat] at e15
      clear q17
      obtain ⟨y18, q22, hr⟩ := Option.bind_eq_some_iff.1 hr
      obtain ⟨e19, e20, e21⟩ := ix_some q22
      try simp only [Int.toNat_natCast, Int.toNat_zero, Int.reduceToNat] at e20
      clear q22
      obtain ⟨r23, q25, hr⟩ := Option.bind_eq_some_iff.1 hr
      have e24 : ∀ H ng, gcall (shOf F) cl false n_impl_add [.int .i64 y13, .agg [.int .i64 y18.Time, .int .i64 y18.Weight, .int .i64 y18.Release, .int .i64 y18.Due], .int .i64 end_, .int .i64 objective_, .bool false] H ng = some (.int .i64 r23, H, ng, .inert) := fun H ng => call_far s_impl_add rfl (K_impl_add _ _ _ _ _ _ q25).ret
      obtain ⟨y26, q30, hr⟩ := Option.bind_eq_some_iff.1 hr
      obtain ⟨e27, e28, e29⟩ := ix_some q30
      try simp only [Int.toNat_natCast, Int.toNat_zero, Int.reduceToNat] at e28
      clear q30
      by_cases h35 : y26 < 0
      · rw [if_pos h35] at hr
        have e33 : (y26 < 0) = True := eq_true h35
        clear h35
        obtain ⟨l36, q41, hr⟩ := Option.bind_eq_some_iff.1 hr
        obtain ⟨_, _, e37, e38, _⟩ := put_some q41
        try simp only [Int.toNat_natCast, Int.toNat_zero, Int.reduceToNat] at e37
        have e39 : (out_.map (cI .i64)).set (Int.toNat set_) [.int .i64 r23] = l36.map (cI .i64) := by rw [← e37, List.map_set] <;> rfl
        replace e38 : Keep (out_.length = l36.length) := e38
        clear e37 q41
        have hr_ := Option.some.inj hr; subst hr_
        refine turn (by
          simp only [c_impl_setValues_l1, evA, evB, Int.reduceToNat, eq_self, reduceCtorEq, ↓reduceIte, Nat.reduceEqDiff, Nat.reduceAdd, Nat.reduceLT, Nat.reduceLeDiff, Nat.reduceMul, Nat.reduceSub, Nat.reduceBEq, spec_l1Cur.cells, rz_spec_l1Cur, pr_spec_l1Cur, impl_Job.cells, rz_impl_Job, pr_impl_Job, spec_l2Search.cells, rz_spec_l2Search, pr_spec_l2Search, *]
          rfl) ?_
        exact ⟨rfl, _, rfl, rfl, rfl, (congrArg (fun n_ => V.os 0 g0 1 0 n_) e38), rfl, rfl, rfl, rfl, rfl, rfl⟩
      · rw [if_neg h35] at hr
        have e34 : (y26 < 0) = False := eq_false h35
        clear h35
        by_cases h46 : r23 < y26
        · rw [if_pos h46] at hr
          have e44 : (r23 < y26) = True := eq_true h46
          clear h46
          obtain ⟨l47, q52, hr⟩ := Option.bind_eq_some_iff.1 hr
          obtain ⟨_, _, e48, e49, _⟩ := put_some q52
          try simp only [Int.toNat_natCast, Int.toNat_zero, Int.reduceToNat] at e48
          have e50 : (out_.map (cI .i64)).set (Int.toNat set_) [.int .i64 r23] = l47.map (cI .i64) := by rw [← e48, List.map_set] <;> rfl
          replace e49 : Keep (out_.length = l47.length) := e49
          clear e48 q52
          have hr_ := Option.some.inj hr; subst hr_
          refine turn (by
            simp only [c_impl_setValues_l1, evA, evB, Int.reduceToNat, eq_self, reduceCtorEq, ↓reduceIte, Nat.reduceEqDiff, Nat.reduceAdd, Nat.reduceLT, Nat.reduceLeDiff, Nat.reduceMul, Nat.reduceSub, Nat.reduceBEq, spec_l1Cur.cells, rz_spec_l1Cur, pr_spec_l1Cur, impl_Job.cells, rz_impl_Job, pr_impl_Job, spec_l2Search.cells, rz_spec_l2Search, pr_spec_l2Search, *]
            rfl) ?_
          exact ⟨rfl, _, rfl, rfl, rfl, (congrArg (fun n_ => V.os 0 g0 1 0 n_) e49), rfl, rfl, rfl, rfl, rfl, rfl⟩
        · rw [if_neg h46] at hr
          have e45 : (r23 < y26) = False := eq_false h46
          clear h46
          have hr_ := Option.some.inj hr; subst hr_
          refine turn (by
            simp only [c_impl_setValues_l1, evA, evB, Int.reduceToNat, eq_self, reduceCtorEq, ↓reduceIte, Nat.reduceEqDiff, Nat.reduceAdd, Nat.reduceLT, Nat.reduceLeDiff, Nat.reduceMul, Nat.reduceSub, Nat.reduceBEq, spec_l1Cur.cells, rz_spec_l1Cur, pr_spec_l1Cur, impl_Job.cells, rz_impl_Job, pr_impl_Job, spec_l2Search.cells, rz_spec_l2Search, pr_spec_l2Search, *]
            rfl) ?_
          exact ⟨rfl, _, rfl, rfl, rfl, rfl, rfl, rfl, rfl, rfl, rfl, rfl⟩
    · rw [if_neg h12] at hr
      clear h12
      exact nomatch hr
  · rw [if_neg h5] at hr
    have e4 : (vz2 < vz1) = False := eq_false h5
    clear h5
    have hr_ := Option.some.inj hr; subst hr_
    refine turn (by
      simp only [c_impl_setValues_l1, evA, evB, Int.reduceToNat, eq_self, reduceCtorEq, ↓reduceIte, Nat.reduceEqDiff, Nat.reduceAdd, Nat.reduceLT, Nat.reduceLeDiff, Nat.reduceMul, Nat.reduceSub, Nat.reduceBEq, spec_l1Cur.cells, rz_spec_l1Cur, pr_spec_l1Cur, impl_Job.cells, rz_impl_Job, pr_impl_Job, spec_l2Search.cells, rz_spec_l2Search, pr_spec_l2Search, *]
      rfl) ?_
    exact ⟨by simp, rfl, _, rfl, rfl, rfl, rfl, rfl, rfl⟩

theorem lp_impl_setValues_l1 {cl : Callee} (K_impl_listOf : K_impl_listOf x_impl_listOf (cl n_impl_listOf)) (K_impl_add : K_impl_add x_impl_add (cl n_impl_add)) (K_impl_timeOf : K_impl_timeOf x_impl_timeOf (cl n_impl_timeOf)) (jobs_ : (List impl_Job)) (objective_ : Int) (start_ : Int) (set_ : Int) (end_ : Int) (v : (List Int)) (vz1 : Int) (st_ : ((List Int) × Int)) (p_ : ((List Int))) (hr : loopS (x_impl_setValues_l1 jobs_ objective_ start_ set_ end_ v vz1) LL st_ = some p_) (T_ : Tm) (H_ : List Blk) (ng : Nat) (hR_ : R_impl_setValues_l1 jobs_ objective_ start_ set_ end_ v vz1 st_ T_ H_) (hn_ : H_.length = 1) :
    ∃ e_ T1_ H1_ ng1_, gcode (shOf F) cl LL (.loop false (some [0, 1, 2, 7, 8, 9, 32, 33, 34]) c_impl_setValues_l1) ⟨T_, H_, ng⟩ = some (e_, ⟨T1_, H1_, ng1_⟩) ∧ Q_impl_setValues_l1 jobs_ objective_ start_ set_ end_ v vz1 p_ e_ T1_ H1_ :=
  sim_loop (n0 := 1) (R_impl_setValues_l1 jobs_ objective_ start_ set_ end_ v vz1) (Q_impl_setValues_l1 jobs_ objective_ start_ set_ end_ v vz1) (st_impl_setValues_l1 K_impl_listOf K_impl_add K_impl_timeOf jobs_ objective_ start_ set_ end_ v vz1) st_ p_ hr T_ H_ ng hR_ hn_

theorem st_impl_setValues_l0 {cl : Callee} (K_impl_listOf : K_impl_listOf x_impl_listOf (cl n_impl_listOf)) (K_impl_add : K_impl_add x_impl_add (cl n_impl_add)) (K_impl_timeOf : K_impl_timeOf x_impl_timeOf (cl n_impl_timeOf)) (jobs_ : (List impl_Job)) (objective_ : Int) (start_ : Int) (st_ : ((List Int) × Int)) (c_ : Ctl ((List Int) × Int) ((List Int))) (hr : x_impl_setValues_l0 jobs_ objective_ start_ st_ = some c_) (T_ : Tm) (H_ : List Blk) (ng : Nat) (hR_ : R_impl_setValues_l0 jobs_ objective_ start_ st_ T_ H_) :
    ∃ e_ T1_ H1_ ng1_, gcode (shOf F) cl LL c_impl_setValues_l0 ⟨maskT (some [0, 1, 2, 7, 8]) T_, H_, ng⟩ = some (e_, ⟨T1_, H1_, ng1_⟩) ∧ TurnOK (R_impl_setValues_l0 jobs_ objective_ start_) (Q_impl_setValues_l0 jobs_ objective_ start_) 1 c_ e_ T1_ H1_ := by
  obtain ⟨out_, set_⟩ := st_
  obtain ⟨g0, f0_, f1_, f2_, f3_, f4_, rfl⟩ := hR_
  unfold x_impl_setValues_l0 at hr
  try dsimp only at hr
  by_cases h5 : set_ < ((out_.length : Nat) : Int)
  · rw [if_pos h5] at hr
    have e3 : (set_ < ((out_.length : Nat) : Int)) = True := eq_true h5
    clear h5
    obtain ⟨r6, q8, hr⟩ := Option.bind_eq_some_iff.1 hr
    have e7 : ∀ H ng, gcall (shOf F) cl false n_impl_timeOf [.fs (jobs_.map impl_Job.cells), .int .i64 set_] H ng = some (.int .i64 r6, H, ng, .inert) := fun H ng => call_far s_impl_timeOf rfl (K_impl_timeOf _ _ _ q8).ret
    obtain ⟨y9, q13, hr⟩ := Option.bind_eq_some_iff.1 hr
    obtain ⟨e10, e11, e12⟩ := ix_some q13
    try simp only [Int.toNat_natCast, Int.toNat_zero, Int.reduceToNat] at e11
    clear q13
    obtain ⟨l14, q19, hr⟩ := Option.bind_eq_some_iff.1 hr
    obtain ⟨_, _, e15, e16, _⟩ := put_some q19
    try simp only [Int.toNat_natCast, Int.toNat_zero, Int.reduceToNat] at e15
    have e17 : (out_.map (cI .i64)).set (Int.toNat set_) [.int .i64 (-1)] = l14.map (cI .i64) := by rw [← e15, List.map_set] <;> rfl
    replace e16 : Keep (out_.length = l14.length) := e16
    clear e15 q19
    obtain ⟨r20, q22, hr⟩ := Option.bind_eq_some_iff.1 hr
    have e21 : ∀ H ng, gcall (shOf F) cl false n_impl_listOf [.int .i64 set_] H ng = some (.fs (r20.map (cI .i64)), H, ng, .inert) := fun H ng => call_far s_impl_listOf rfl (K_impl_listOf _ _ q22).retF.ret
    obtain ⟨p23, q37, hr⟩ := Option.bind_eq_some_iff.1 hr
    obtain ⟨ex29, T26, H27, ng28, l25, m24⟩ := lp_impl_setValues_l1 (cl := cl) K_impl_listOf K_impl_add K_impl_timeOf  jobs_ objective_ start_ set_ (addK .i64 start_ r6) r20 (r20.length : Int) _ _ q37 [(0, .fs (jobs_.map impl_Job.cells)), (1, .int .i64 objective_), (2, .int .i64 start_), (7, .os 0 g0 1 0 out_.length), (8, .int .i64 set_), (9, .int .i64 (addK .i64 start_ r6)), (32, .fs (r20.map (cI .i64))), (33, .int .i64 (r20.length : Int)), (34, .int .i64 0)] [(Blk.mk g0 false 1 (l14.map (cI .i64)))] ng (show R_impl_setValues_l1 jobs_ objective_ start_ set_ (addK .i64 start_ r6) r20 (r20.length : Int) (l14, 0) [(0, .fs (jobs_.map impl_Job.cells)), (1, .int .i64 objective_), (2, .int .i64 start_), (7, .os 0 g0 1 0 out_.length), (8, .int .i64 set_), (9, .int .i64 (addK .i64 start_ r6)), (32, .fs (r20.map (cI .i64))), (33, .int .i64 (r20.length : Int)), (34, .int .i64 0)] [(Blk.mk g0 false 1 (l14.map (cI .i64)))] from ⟨_, rfl, rfl, rfl, (congrArg (fun n_ => V.os 0 g0 1 0 n_) e16), rfl, rfl, rfl, rfl, rfl, rfl⟩) rfl
    obtain ⟨rfl, g30, e31, e32, e33, e34, e35, e36⟩ := m24
    subst e36
    have hr_ := Option.some.inj hr; subst hr_
    refine turn (by
      simp only [c_impl_setValues_l0, evA, evB, Int.reduceToNat, eq_self, reduceCtorEq, ↓reduceIte, Nat.reduceEqDiff, Nat.reduceAdd, Nat.reduceLT, Nat.reduceLeDiff, Nat.reduceMul, Nat.reduceSub, Nat.reduceBEq, spec_l1Cur.cells, rz_spec_l1Cur, pr_spec_l1Cur, impl_Job.cells, rz_impl_Job, pr_impl_Job, spec_l2Search.cells, rz_spec_l2Search, pr_spec_l2Search, *]
      rfl) ?_
    exact ⟨rfl, _, rfl, rfl, rfl, rfl, rfl, rfl⟩
  · rw [if_neg h5] at hr
    have e4 : (set_ < ((out_.length : Nat) : Int)) = False := eq_false h5
    clear h5
    have hr_ := Option.some.inj hr; subst hr_
    refine turn (by
      simp only [c_impl_setValues_l0, evA, evB, Int.reduceToNat, eq_self, reduceCtorEq, ↓reduceIte, Nat.reduceEqDiff, Nat.reduceAdd, Nat.reduceLT, Nat.reduceLeDiff, Nat.reduceMul, Nat.reduceSub, Nat.reduceBEq, spec_l1Cur.cells, rz_spec_l1Cur, pr_spec_l1Cur, impl_Job.cells, rz_impl_Job, pr_impl_Job, spec_l2Search.cells, rz_spec_l2Search, pr_spec_l2Search, *]
      rfl) ?_
    exact ⟨by simp, rfl, _, rfl, rfl⟩

theorem lp_impl_setValues_l0 {cl : Callee} (K_impl_listOf : K_impl_listOf x_impl_listOf (cl n_impl_listOf)) (K_impl_add : K_impl_add x_impl_add (cl n_impl_add)) (K_impl_timeOf : K_impl_timeOf x_impl_timeOf (cl n_impl_timeOf)) (jobs_ : (List impl_Job)) (objective_ : Int) (start_ : Int) (st_ : ((List Int) × Int)) (p_ : ((List Int))) (hr : loopS (x_impl_setValues_l0 jobs_ objective_ start_) LL st_ = some p_) (T_ : Tm) (H_ : List Blk) (ng : Nat) (hR_ : R_impl_setValues_l0 jobs_ objective_ start_ st_ T_ H_) (hn_ : H_.length = 1) :
    ∃ e_ T1_ H1_ ng1_, gcode (shOf F) cl LL (.loop false (some [0, 1, 2, 7, 8]) c_impl_setValues_l0) ⟨T_, H_, ng⟩ = some (e_, ⟨T1_, H1_, ng1_⟩) ∧ Q_impl_setValues_l0 jobs_ objective_ start_ p_ e_ T1_ H1_ :=
  sim_loop (n0 := 1) (R_impl_setValues_l0 jobs_ objective_ start_) (Q_impl_setValues_l0 jobs_ objective_ start_) (st_impl_setValues_l0 K_impl_listOf K_impl_add K_impl_timeOf jobs_ objective_ start_) st_ p_ hr T_ H_ ng hR_ hn_

theorem ok_impl_setValues {cl : Callee} (K_impl_listOf : K_impl_listOf x_impl_listOf (cl n_impl_listOf)) (K_impl_add : K_impl_add x_impl_add (cl n_impl_add)) (K_impl_timeOf : K_impl_timeOf x_impl_timeOf (cl n_impl_timeOf)) : K_impl_setValues (x_impl_setValues) (gbody F LL cl c_impl_setValues) := by
  intro jobs_ objective_ start_ r hr
  unfold x_impl_setValues at hr
  try dsimp only at hr
  have e21 : binI .shl .i64 1 .i64 (jobs_.length : Int) = some (.int .i64 (shlK .i64 1 (jobs_.length : Int))) := bi_shl _ _ _ _ (Int.natCast_nonneg _)
  obtain ⟨y1, q9, hr⟩ := Option.bind_eq_some_iff.1 hr
  obtain ⟨e2, e3, e4, e5, e6⟩ := mk_some q9
  try simp only [Int.toNat_natCast] at e5 e6
  have e7 : List.replicate (Int.toNat (shlK .i64 1 (jobs_.length : Int))) [.int .i64 0] = y1.map (cI .i64) := by rw [← e5, List.map_replicate] <;> rfl
  have e8 : Keep ((Int.toNat (shlK .i64 1 (jobs_.length : Int))) = y1.length) := e6.symm
  clear e5 e6 q9
  obtain ⟨p10, q20, hr⟩ := Option.bind_eq_some_iff.1 hr
  obtain ⟨ex16, T13, H14, ng15, l12, m11⟩ := lp_impl_setValues_l0 (cl := cl) K_impl_listOf K_impl_add K_impl_timeOf  jobs_ objective_ start_ _ _ q20 [(0, .fs (jobs_.map impl_Job.cells)), (1, .int .i64 objective_), (2, .int .i64 start_), (7, .os 0 0 1 0 (Int.toNat (shlK .i64 1 (jobs_.length : Int)))), (8, .int .i64 1)] [(Blk.mk 0 false 1 (y1.map (cI .i64)))] 1 (show R_impl_setValues_l0 jobs_ objective_ start_ (y1, 1) [(0, .fs (jobs_.map impl_Job.cells)), (1, .int .i64 objective_), (2, .int .i64 start_), (7, .os 0 0 1 0 (Int.toNat (shlK .i64 1 (jobs_.length : Int)))), (8, .int .i64 1)] [(Blk.mk 0 false 1 (y1.map (cI .i64)))] from ⟨_, rfl, rfl, rfl, (congrArg (fun n_ => V.os 0 0 1 0 n_) e8), rfl, rfl⟩) rfl
  obtain ⟨rfl, g17, e18, e19⟩ := m11
  subst e19
  have hr_ := Option.some.inj hr; subst hr_
  refine ⟨0, g17, [(Blk.mk g17 false 1 (p10.map (cI .i64)))], ng15, ?_, by simp [hget, hp], sc_cI _ _⟩
  simp only [c_impl_setValues, evA, evB, Int.reduceToNat, eq_self, reduceCtorEq, ↓reduceIte, Nat.reduceEqDiff, Nat.reduceAdd, Nat.reduceLT, Nat.reduceLeDiff, Nat.reduceMul, Nat.reduceSub, Nat.reduceBEq, spec_l1Cur.cells, rz_spec_l1Cur, pr_spec_l1Cur, impl_Job.cells, rz_impl_Job, pr_impl_Job, spec_l2Search.cells, rz_spec_l2Search, pr_spec_l2Search, *]

theorem ok_impl_SetValues {cl : Callee} (K_impl_IsPlain : K_impl_IsPlain x_impl_IsPlain (cl n_impl_IsPlain)) (K_impl_isSumObjective : K_impl_isSumObjective x_impl_isSumObjective (cl n_impl_isSumObjective)) (K_impl_setValues : K_impl_setValues x_impl_setValues (cl n_impl_setValues)) : K_impl_SetValues (x_impl_SetValues) (gbody F LL cl c_impl_SetValues) := by
  intro jobs_ objective_ r hr
  unfold x_impl_SetValues at hr
  try dsimp only at hr
  obtain ⟨r1, q3, hr⟩ := Option.bind_eq_some_iff.1 hr
  have e2 : ∀ H ng, gcall (shOf F) cl false n_impl_IsPlain [.fs (jobs_.map impl_Job.cells)] H ng = some (.bool r1, H, ng, .inert) := fun H ng => call_far s_impl_IsPlain rfl (K_impl_IsPlain _ _ q3).ret
  by_cases h6 : r1 = true
  · rw [if_pos h6] at hr
    have e4 : r1 = true := h6
    clear h6
    obtain ⟨r7, q9, hr⟩ := Option.bind_eq_some_iff.1 hr
    have e8 : ∀ H ng, gcall (shOf F) cl false n_impl_isSumObjective [.int .i64 objective_] H ng = some (.bool r7, H, ng, .inert) := fun H ng => call_far s_impl_isSumObjective rfl (K_impl_isSumObjective _ _ q9).ret
    by_cases h12 : r7 = true
    · rw [if_pos h12] at hr
      have e10 : r7 = true := h12
      clear h12
      obtain ⟨r13, q15, hr⟩ := Option.bind_eq_some_iff.1 hr
      have e14 : ∀ H ng, gcall (shOf F) cl false n_impl_setValues [.fs (jobs_.map impl_Job.cells), .int .i64 objective_, .int .i64 0] H ng = some (.fs (r13.map (cI .i64)), H, ng, .inert) := fun H ng => call_far s_impl_setValues rfl (K_impl_setValues _ _ _ _ q15).retF.ret
      have hr_ := Option.some.inj hr; subst hr_
      refine Ret.flat (by
        simp only [c_impl_SetValues, evA, evB, Int.reduceToNat, eq_self, reduceCtorEq, ↓reduceIte, Nat.reduceEqDiff, Nat.reduceAdd, Nat.reduceLT, Nat.reduceLeDiff, Nat.reduceMul, Nat.reduceSub, Nat.reduceBEq, spec_l1Cur.cells, rz_spec_l1Cur, pr_spec_l1Cur, impl_Job.cells, rz_impl_Job, pr_impl_Job, spec_l2Search.cells, rz_spec_l2Search, pr_spec_l2Search, *]
        rfl) rfl
    · rw [if_neg h12] at hr
      have e11 : r7 = false := Bool.eq_false_iff.2 h12
      clear h12
      have hr_ := Option.some.inj hr; subst hr_
      refine Ret.flat (by
        simp only [c_impl_SetValues, evA, evB, Int.reduceToNat, eq_self, reduceCtorEq, ↓reduceIte, Nat.reduceEqDiff, Nat.reduceAdd, Nat.reduceLT, Nat.reduceLeDiff, Nat.reduceMul, Nat.reduceSub, Nat.reduceBEq, spec_l1Cur.cells, rz_spec_l1Cur, pr_spec_l1Cur, impl_Job.cells, rz_impl_Job, pr_impl_Job, spec_l2Search.cells, rz_spec_l2Search, pr_spec_l2Search, *]
        rfl) rfl
  · rw [if_neg h6] at hr
    have e5 : r1 = false := Bool.eq_false_iff.2 h6
    clear h6
    have hr_ := Option.some.inj hr; subst hr_
    refine Ret.flat (by
      simp only [c_impl_SetValues, evA, evB, Int.reduceToNat, eq_self, reduceCtorEq, ↓reduceIte, Nat.reduceEqDiff, Nat.reduceAdd, Nat.reduceLT, Nat.reduceLeDiff, Nat.reduceMul, Nat.reduceSub, Nat.reduceBEq, spec_l1Cur.cells, rz_spec_l1Cur, pr_spec_l1Cur, impl_Job.cells, rz_impl_Job, pr_impl_Job, spec_l2Search.cells, rz_spec_l2Search, pr_spec_l2Search, *]
      rfl) rfl

theorem ok_spec_l1In {cl : Callee} : K_spec_l1In (x_spec_l1In) (gbody F LL cl c_spec_l1In) := by
  intro x_ a_ b_ r hr
  unfold x_spec_l1In at hr
  try dsimp only at hr
  by_cases h5 : a_ ≤ x_
  · rw [if_pos h5] at hr
    have e3 : (a_ ≤ x_) = True := eq_true h5
    clear h5
    have hr_ := Option.some.inj hr; subst hr_
    refine RetF.scal (by
      simp only [c_spec_l1In, evA, evB, Int.reduceToNat, eq_self, reduceCtorEq, ↓reduceIte, Nat.reduceEqDiff, Nat.reduceAdd, Nat.reduceLT, Nat.reduceLeDiff, Nat.reduceMul, Nat.reduceSub, Nat.reduceBEq, spec_l1Cur.cells, rz_spec_l1Cur, pr_spec_l1Cur, impl_Job.cells, rz_impl_Job, pr_impl_Job, spec_l2Search.cells, rz_spec_l2Search, pr_spec_l2Search, *]
      rfl) rfl rfl
  · rw [if_neg h5] at hr
    have e4 : (a_ ≤ x_) = False := eq_false h5
    clear h5
    have hr_ := Option.some.inj hr; subst hr_
    refine RetF.scal (by
      simp only [c_spec_l1In, evA, evB, Int.reduceToNat, eq_self, reduceCtorEq, ↓reduceIte, Nat.reduceEqDiff, Nat.reduceAdd, Nat.reduceLT, Nat.reduceLeDiff, Nat.reduceMul, Nat.reduceSub, Nat.reduceBEq, spec_l1Cur.cells, rz_spec_l1Cur, pr_spec_l1Cur, impl_Job.cells, rz_impl_Job, pr_impl_Job, spec_l2Search.cells, rz_spec_l2Search, pr_spec_l2Search, *]
      rfl) rfl rfl

theorem ok_spec_l2Job {cl : Callee} (K_spec_l1In : K_spec_l1In x_spec_l1In (cl n_spec_l1In)) : K_spec_l2Job (x_spec_l2Job) (gbody F LL cl c_spec_l2Job) := by
  intro j_ r hr
  unfold x_spec_l2Job at hr
  try dsimp only at hr
  obtain ⟨r1, q3, hr⟩ := Option.bind_eq_some_iff.1 hr
  have e2 : ∀ H ng, gcall (shOf F) cl false n_spec_l1In [.int .i64 j_.Time, .int .i64 1, .int .i64 50] H ng = some (.bool r1, H, ng, .inert) := fun H ng => call_far s_spec_l1In rfl (K_spec_l1In _ _ _ _ q3).ret
  by_cases h6 : r1 = true
  · rw [if_pos h6] at hr
    have e4 : r1 = true := h6
    clear h6
    obtain ⟨r7, q9, hr⟩ := Option.bind_eq_some_iff.1 hr
    have e8 : ∀ H ng, gcall (shOf F) cl false n_spec_l1In [.int .i64 j_.Weight, .int .i64 0, .int .i64 50] H ng = some (.bool r7, H, ng, .inert) := fun H ng => call_far s_spec_l1In rfl (K_spec_l1In _ _ _ _ q9).ret
    by_cases h12 : r7 = true
    · rw [if_pos h12] at hr
      have e10 : r7 = true := h12
      clear h12
      obtain ⟨r13, q15, hr⟩ := Option.bind_eq_some_iff.1 hr
      have e14 : ∀ H ng, gcall (shOf F) cl false n_spec_l1In [.int .i64 j_.Release, .int .i64 0, .int .i64 500] H ng = some (.bool r13, H, ng, .inert) := fun H ng => call_far s_spec_l1In rfl (K_spec_l1In _ _ _ _ q15).ret
      by_cases h18 : r13 = true
      · rw [if_pos h18] at hr
        have e16 : r13 = true := h18
        clear h18
        obtain ⟨r19, q21, hr⟩ := Option.bind_eq_some_iff.1 hr
        have e20 : ∀ H ng, gcall (shOf F) cl false n_spec_l1In [.int .i64 j_.Due, .int .i64 0, .int .i64 500] H ng = some (.bool r19, H, ng, .inert) := fun H ng => call_far s_spec_l1In rfl (K_spec_l1In _ _ _ _ q21).ret
        have hr_ := Option.some.inj hr; subst hr_
        refine RetF.scal (by
          simp only [c_spec_l2Job, evA, evB, Int.reduceToNat, eq_self, reduceCtorEq, ↓reduceIte, Nat.reduceEqDiff, Nat.reduceAdd, Nat.reduceLT, Nat.reduceLeDiff, Nat.reduceMul, Nat.reduceSub, Nat.reduceBEq, spec_l1Cur.cells, rz_spec_l1Cur, pr_spec_l1Cur, impl_Job.cells, rz_impl_Job, pr_impl_Job, spec_l2Search.cells, rz_spec_l2Search, pr_spec_l2Search, *]
          rfl) rfl rfl
      · rw [if_neg h18] at hr
        have e17 : r13 = false := Bool.eq_false_iff.2 h18
        clear h18
        have hr_ := Option.some.inj hr; subst hr_
        refine RetF.scal (by
          simp only [c_spec_l2Job, evA, evB, Int.reduceToNat, eq_self, reduceCtorEq, ↓reduceIte, Nat.reduceEqDiff, Nat.reduceAdd, Nat.reduceLT, Nat.reduceLeDiff, Nat.reduceMul, Nat.reduceSub, Nat.reduceBEq, spec_l1Cur.cells, rz_spec_l1Cur, pr_spec_l1Cur, impl_Job.cells, rz_impl_Job, pr_impl_Job, spec_l2Search.cells, rz_spec_l2Search, pr_spec_l2Search, *]
          rfl) rfl rfl
    · rw [if_neg h12] at hr
      have e11 : r7 = false := Bool.eq_false_iff.2 h12
      clear h12
      have hr_ := Option.some.inj hr; subst hr_
      refine RetF.scal (by
        simp only [c_spec_l2Job, evA, evB, Int.reduceToNat, eq_self, reduceCtorEq, ↓reduceIte, Nat.reduceEqDiff, Nat.reduceAdd, Nat.reduceLT, Nat.reduceLeDiff, Nat.reduceMul, Nat.reduceSub, Nat.reduceBEq, spec_l1Cur.cells, rz_spec_l1Cur, pr_spec_l1Cur, impl_Job.cells, rz_impl_Job, pr_impl_Job, spec_l2Search.cells, rz_spec_l2Search, pr_spec_l2Search, *]
        rfl) rfl rfl
  · rw [if_neg h6] at hr
    have e5 : r1 = false := Bool.eq_false_iff.2 h6
    clear h6
    have hr_ := Option.some.inj hr; subst hr_
    refine RetF.scal (by
      simp only [c_spec_l2Job, evA, evB, Int.reduceToNat, eq_self, reduceCtorEq, ↓reduceIte, Nat.reduceEqDiff, Nat.reduceAdd, Nat.reduceLT, Nat.reduceLeDiff, Nat.reduceMul, Nat.reduceSub, Nat.reduceBEq, spec_l1Cur.cells, rz_spec_l1Cur, pr_spec_l1Cur, impl_Job.cells, rz_impl_Job, pr_impl_Job, spec_l2Search.cells, rz_spec_l2Search, pr_spec_l2Search, *]
      rfl) rfl rfl

theorem st_spec_l2Good_l0 {cl : Callee} (K_spec_l2Job : K_spec_l2Job x_spec_l2Job (cl n_spec_l2Job)) (jobs_ : (List impl_Job)) (st_ : (Int)) (c_ : Ctl (Int) (Unit ⊕ (Bool))) (hr : x_spec_l2Good_l0 jobs_ st_ = some c_) (T_ : Tm) (H_ : List Blk) (ng : Nat) (hR_ : R_spec_l2Good_l0 jobs_ st_ T_ H_) :
    ∃ e_ T1_ H1_ ng1_, gcode (shOf F) cl LL c_spec_l2Good_l0 ⟨maskT (some [0, 3]) T_, H_, ng⟩ = some (e_, ⟨T1_, H1_, ng1_⟩) ∧ TurnOK (R_spec_l2Good_l0 jobs_) (Q_spec_l2Good_l0 jobs_) 0 c_ e_ T1_ H1_ := by
  obtain ⟨i_, hst_⟩ : ∃ x, x = st_ := ⟨_, rfl⟩; subst hst_
  obtain ⟨f0_, f1_, rfl⟩ := hR_
  unfold x_spec_l2Good_l0 at hr
  try dsimp only at hr
  by_cases h5 : i_ < (jobs_.length : Int)
  · rw [if_pos h5] at hr
    have e3 : (i_ < (jobs_.length : Int)) = True := eq_true h5
    clear h5
    obtain ⟨y6, q10, hr⟩ := Option.bind_eq_some_iff.1 hr
    obtain ⟨e7, e8, e9⟩ := ix_some q10
    try simp only [Int.toNat_natCast, Int.toNat_zero, Int.reduceToNat] at e8
    clear q10
    obtain ⟨r11, q13, hr⟩ := Option.bind_eq_some_iff.1 hr
    have e12 : ∀ H ng, gcall (shOf F) cl false n_spec_l2Job [.agg [.int .i64 y6.Time, .int .i64 y6.Weight, .int .i64 y6.Release, .int .i64 y6.Due]] H ng = some (.bool r11, H, ng, .inert) := fun H ng => call_far s_spec_l2Job rfl (K_spec_l2Job _ _ q13).ret
    by_cases h16 : r11 = true
    · rw [if_pos h16] at hr
      have e14 : r11 = true := h16
      clear h16
      have hr_ := Option.some.inj hr; subst hr_
      refine turn (by
        simp only [c_spec_l2Good_l0, evA, evB, Int.reduceToNat, eq_self, reduceCtorEq, ↓reduceIte, Nat.reduceEqDiff, Nat.reduceAdd, Nat.reduceLT, Nat.reduceLeDiff, Nat.reduceMul, Nat.reduceSub, Nat.reduceBEq, spec_l1Cur.cells, rz_spec_l1Cur, pr_spec_l1Cur, impl_Job.cells, rz_impl_Job, pr_impl_Job, spec_l2Search.cells, rz_spec_l2Search, pr_spec_l2Search, *]
        rfl) ?_
      exact ⟨rfl, rfl, rfl, rfl⟩
    · rw [if_neg h16] at hr
      have e15 : r11 = false := Bool.eq_false_iff.2 h16
      clear h16
      have hr_ := Option.some.inj hr; subst hr_
      refine turn (by
        simp only [c_spec_l2Good_l0, evA, evB, Int.reduceToNat, eq_self, reduceCtorEq, ↓reduceIte, Nat.reduceEqDiff, Nat.reduceAdd, Nat.reduceLT, Nat.reduceLeDiff, Nat.reduceMul, Nat.reduceSub, Nat.reduceBEq, spec_l1Cur.cells, rz_spec_l1Cur, pr_spec_l1Cur, impl_Job.cells, rz_impl_Job, pr_impl_Job, spec_l2Search.cells, rz_spec_l2Search, pr_spec_l2Search, *]
        rfl) ?_
      exact ⟨by simp, rfl, (by first | rfl | assumption)⟩
  · rw [if_neg h5] at hr
    have e4 : (i_ < (jobs_.length : Int)) = False := eq_false h5
    clear h5
    have hr_ := Option.some.inj hr; subst hr_
    refine turn (by
      simp only [c_spec_l2Good_l0, evA, evB, Int.reduceToNat, eq_self, reduceCtorEq, ↓reduceIte, Nat.reduceEqDiff, Nat.reduceAdd, Nat.reduceLT, Nat.reduceLeDiff, Nat.reduceMul, Nat.reduceSub, Nat.reduceBEq, spec_l1Cur.cells, rz_spec_l1Cur, pr_spec_l1Cur, impl_Job.cells, rz_impl_Job, pr_impl_Job, spec_l2Search.cells, rz_spec_l2Search, pr_spec_l2Search, *]
      rfl) ?_
    exact ⟨by simp, rfl, rfl, rfl⟩

theorem lp_spec_l2Good_l0 {cl : Callee} (K_spec_l2Job : K_spec_l2Job x_spec_l2Job (cl n_spec_l2Job)) (jobs_ : (List impl_Job)) (st_ : (Int)) (p_ : (Unit ⊕ (Bool))) (hr : loopS (x_spec_l2Good_l0 jobs_) LL st_ = some p_) (T_ : Tm) (H_ : List Blk) (ng : Nat) (hR_ : R_spec_l2Good_l0 jobs_ st_ T_ H_) (hn_ : H_.length = 0) :
    ∃ e_ T1_ H1_ ng1_, gcode (shOf F) cl LL (.loop false (some [0, 3]) c_spec_l2Good_l0) ⟨T_, H_, ng⟩ = some (e_, ⟨T1_, H1_, ng1_⟩) ∧ Q_spec_l2Good_l0 jobs_ p_ e_ T1_ H1_ :=
  sim_loop (n0 := 0) (R_spec_l2Good_l0 jobs_) (Q_spec_l2Good_l0 jobs_) (st_spec_l2Good_l0 K_spec_l2Job jobs_) st_ p_ hr T_ H_ ng hR_ hn_

theorem ok_spec_l2Good {cl : Callee} (K_spec_l2Job : K_spec_l2Job x_spec_l2Job (cl n_spec_l2Job)) : K_spec_l2Good (x_spec_l2Good) (gbody F LL cl c_spec_l2Good) := by
  intro jobs_ r hr
  unfold x_spec_l2Good at hr
  try dsimp only at hr
  obtain ⟨p1, q11, hr⟩ := Option.bind_eq_some_iff.1 hr
  obtain ⟨ex7, T4, H5, ng6, l3, m2⟩ := lp_spec_l2Good_l0 (cl := cl) K_spec_l2Job  jobs_ _ _ q11 [(0, .fs (jobs_.map impl_Job.cells)), (3, .int .i64 0)] [] 0 (show R_spec_l2Good_l0 jobs_ 0 [(0, .fs (jobs_.map impl_Job.cells)), (3, .int .i64 0)] [] from ⟨rfl, rfl, rfl⟩) rfl
  rcases p1 with p1 | p1
  · dsimp only at hr
    obtain ⟨rfl, e8, e9⟩ := m2
    subst e9
    have hr_ := Option.some.inj hr; subst hr_
    refine RetF.scal (by
      simp only [c_spec_l2Good, evA, evB, Int.reduceToNat, eq_self, reduceCtorEq, ↓reduceIte, Nat.reduceEqDiff, Nat.reduceAdd, Nat.reduceLT, Nat.reduceLeDiff, Nat.reduceMul, Nat.reduceSub, Nat.reduceBEq, spec_l1Cur.cells, rz_spec_l1Cur, pr_spec_l1Cur, impl_Job.cells, rz_impl_Job, pr_impl_Job, spec_l2Search.cells, rz_spec_l2Search, pr_spec_l2Search, *]
      rfl) rfl rfl
  · dsimp only at hr
    obtain ⟨rfl, e10⟩ := m2
    have hr_ := Option.some.inj hr; subst hr_
    refine RetF.scal (by
      simp only [c_spec_l2Good, evA, evB, Int.reduceToNat, eq_self, reduceCtorEq, ↓reduceIte, Nat.reduceEqDiff, Nat.reduceAdd, Nat.reduceLT, Nat.reduceLeDiff, Nat.reduceMul, Nat.reduceSub, Nat.reduceBEq, spec_l1Cur.cells, rz_spec_l1Cur, pr_spec_l1Cur, impl_Job.cells, rz_impl_Job, pr_impl_Job, spec_l2Search.cells, rz_spec_l2Search, pr_spec_l2Search, *]
      rfl) rfl rfl

theorem st_spec_l4Free_l0 {cl : Callee} (jobs_ : (List impl_Job)) (st_ : (Int)) (c_ : Ctl (Int) (Unit ⊕ (Bool))) (hr : x_spec_l4Free_l0 jobs_ st_ = some c_) (T_ : Tm) (H_ : List Blk) (ng : Nat) (hR_ : R_spec_l4Free_l0 jobs_ st_ T_ H_) :
    ∃ e_ T1_ H1_ ng1_, gcode (shOf F) cl LL c_spec_l4Free_l0 ⟨maskT (some [0, 3]) T_, H_, ng⟩ = some (e_, ⟨T1_, H1_, ng1_⟩) ∧ TurnOK (R_spec_l4Free_l0 jobs_) (Q_spec_l4Free_l0 jobs_) 0 c_ e_ T1_ H1_ := by
  obtain ⟨i_, hst_⟩ : ∃ x, x = st_ := ⟨_, rfl⟩; subst hst_
  obtain ⟨f0_, f1_, rfl⟩ := hR_
  unfold x_spec_l4Free_l0 at hr
  try dsimp only at hr
  by_cases h5 : i_ < (jobs_.length : Int)
  · rw [if_pos h5] at hr
    have e3 : (i_ < (jobs_.length : Int)) = True := eq_true h5
    clear h5
    obtain ⟨y6, q10, hr⟩ := Option.bind_eq_some_iff.1 hr
    obtain ⟨e7, e8, e9⟩ := ix_some q10
    try simp only [Int.toNat_natCast, Int.toNat_zero, Int.reduceToNat] at e8
    clear q10
    by_cases h15 : 0 < y6.Release
    · rw [if_pos h15] at hr
      have e13 : (0 < y6.Release) = True := eq_true h15
      clear h15
      have hr_ := Option.some.inj hr; subst hr_
      refine turn (by
        simp only [c_spec_l4Free_l0, evA, evB, Int.reduceToNat, eq_self, reduceCtorEq, ↓reduceIte, Nat.reduceEqDiff, Nat.reduceAdd, Nat.reduceLT, Nat.reduceLeDiff, Nat.reduceMul, Nat.reduceSub, Nat.reduceBEq, spec_l1Cur.cells, rz_spec_l1Cur, pr_spec_l1Cur, impl_Job.cells, rz_impl_Job, pr_impl_Job, spec_l2Search.cells, rz_spec_l2Search, pr_spec_l2Search, *]
        rfl) ?_
      exact ⟨by simp, rfl, (by first | rfl | assumption)⟩
    · rw [if_neg h15] at hr
      have e14 : (0 < y6.Release) = False := eq_false h15
      clear h15
      have hr_ := Option.some.inj hr; subst hr_
      refine turn (by
        simp only [c_spec_l4Free_l0, evA, evB, Int.reduceToNat, eq_self, reduceCtorEq, ↓reduceIte, Nat.reduceEqDiff, Nat.reduceAdd, Nat.reduceLT, Nat.reduceLeDiff, Nat.reduceMul, Nat.reduceSub, Nat.reduceBEq, spec_l1Cur.cells, rz_spec_l1Cur, pr_spec_l1Cur, impl_Job.cells, rz_impl_Job, pr_impl_Job, spec_l2Search.cells, rz_spec_l2Search, pr_spec_l2Search, *]
        rfl) ?_
      exact ⟨rfl, rfl, rfl, rfl⟩
  · rw [if_neg h5] at hr
    have e4 : (i_ < (jobs_.length : Int)) = False := eq_false h5
    clear h5
    have hr_ := Option.some.inj hr; subst hr_
    refine turn (by
      simp only [c_spec_l4Free_l0, evA, evB, Int.reduceToNat, eq_self, reduceCtorEq, ↓reduceIte, Nat.reduceEqDiff, Nat.reduceAdd, Nat.reduceLT, Nat.reduceLeDiff, Nat.reduceMul, Nat.reduceSub, Nat.reduceBEq, spec_l1Cur.cells, rz_spec_l1Cur, pr_spec_l1Cur, impl_Job.cells, rz_impl_Job, pr_impl_Job, spec_l2Search.cells, rz_spec_l2Search, pr_spec_l2Search, *]
      rfl) ?_
    exact ⟨by simp, rfl, rfl⟩

theorem lp_spec_l4Free_l0 {cl : Callee} (jobs_ : (List impl_Job)) (st_ : (Int)) (p_ : (Unit ⊕ (Bool))) (hr : loopS (x_spec_l4Free_l0 jobs_) LL st_ = some p_) (T_ : Tm) (H_ : List Blk) (ng : Nat) (hR_ : R_spec_l4Free_l0 jobs_ st_ T_ H_) (hn_ : H_.length = 0) :
    ∃ e_ T1_ H1_ ng1_, gcode (shOf F) cl LL (.loop false (some [0, 3]) c_spec_l4Free_l0) ⟨T_, H_, ng⟩ = some (e_, ⟨T1_, H1_, ng1_⟩) ∧ Q_spec_l4Free_l0 jobs_ p_ e_ T1_ H1_ :=
  sim_loop (n0 := 0) (R_spec_l4Free_l0 jobs_) (Q_spec_l4Free_l0 jobs_) (st_spec_l4Free_l0 jobs_) st_ p_ hr T_ H_ ng hR_ hn_

theorem ok_spec_l4Free {cl : Callee} : K_spec_l4Free (x_spec_l4Free) (gbody F LL cl c_spec_l4Free) := by
  intro jobs_ r hr
  unfold x_spec_l4Free at hr
  try dsimp only at hr
  obtain ⟨p1, q10, hr⟩ := Option.bind_eq_some_iff.1 hr
  obtain ⟨ex7, T4, H5, ng6, l3, m2⟩ := lp_spec_l4Free_l0 (cl := cl)  jobs_ _ _ q10 [(0, .fs (jobs_.map impl_Job.cells)), (3, .int .i64 0)] [] 0 (show R_spec_l4Free_l0 jobs_ 0 [(0, .fs (jobs_.map impl_Job.cells)), (3, .int .i64 0)] [] from ⟨rfl, rfl, rfl⟩) rfl
  rcases p1 with p1 | p1
  · dsimp only at hr
    obtain ⟨rfl, e8⟩ := m2
    subst e8
    have hr_ := Option.some.inj hr; subst hr_
    refine RetF.scal (by
      simp only [c_spec_l4Free, evA, evB, Int.reduceToNat, eq_self, reduceCtorEq, ↓reduceIte, Nat.reduceEqDiff, Nat.reduceAdd, Nat.reduceLT, Nat.reduceLeDiff, Nat.reduceMul, Nat.reduceSub, Nat.reduceBEq, spec_l1Cur.cells, rz_spec_l1Cur, pr_spec_l1Cur, impl_Job.cells, rz_impl_Job, pr_impl_Job, spec_l2Search.cells, rz_spec_l2Search, pr_spec_l2Search, *]
      rfl) rfl rfl
  · dsimp only at hr
    obtain ⟨rfl, e9⟩ := m2
    have hr_ := Option.some.inj hr; subst hr_
    refine RetF.scal (by
      simp only [c_spec_l4Free, evA, evB, Int.reduceToNat, eq_self, reduceCtorEq, ↓reduceIte, Nat.reduceEqDiff, Nat.reduceAdd, Nat.reduceLT, Nat.reduceLeDiff, Nat.reduceMul, Nat.reduceSub, Nat.reduceBEq, spec_l1Cur.cells, rz_spec_l1Cur, pr_spec_l1Cur, impl_Job.cells, rz_impl_Job, pr_impl_Job, spec_l2Search.cells, rz_spec_l2Search, pr_spec_l2Search, *]
      rfl) rfl rfl

theorem ok_spec_l6Good {cl : Callee} (K_spec_l2Good : K_spec_l2Good x_spec_l2Good (cl n_spec_l2Good)) (K_spec_l4Free : K_spec_l4Free x_spec_l4Free (cl n_spec_l4Free)) : K_spec_l6Good (x_spec_l6Good) (gbody F LL cl c_spec_l6Good) := by
  intro jobs_ r hr
  unfold x_spec_l6Good at hr
  try dsimp only at hr
  obtain ⟨r1, q3, hr⟩ := Option.bind_eq_some_iff.1 hr
  have e2 : ∀ H ng, gcall (shOf F) cl false n_spec_l2Good [.fs (jobs_.map impl_Job.cells)] H ng = some (.bool r1, H, ng, .inert) := fun H ng => call_far s_spec_l2Good rfl (K_spec_l2Good _ _ q3).ret
  by_cases h6 : r1 = true
  · rw [if_pos h6] at hr
    have e4 : r1 = true := h6
    clear h6
    obtain ⟨r7, q9, hr⟩ := Option.bind_eq_some_iff.1 hr
    have e8 : ∀ H ng, gcall (shOf F) cl false n_spec_l4Free [.fs (jobs_.map impl_Job.cells)] H ng = some (.bool r7, H, ng, .inert) := fun H ng => call_far s_spec_l4Free rfl (K_spec_l4Free _ _ q9).ret
    have hr_ := Option.some.inj hr; subst hr_
    refine RetF.scal (by
      simp only [c_spec_l6Good, evA, evB, Int.reduceToNat, eq_self, reduceCtorEq, ↓reduceIte, Nat.reduceEqDiff, Nat.reduceAdd, Nat.reduceLT, Nat.reduceLeDiff, Nat.reduceMul, Nat.reduceSub, Nat.reduceBEq, spec_l1Cur.cells, rz_spec_l1Cur, pr_spec_l1Cur, impl_Job.cells, rz_impl_Job, pr_impl_Job, spec_l2Search.cells, rz_spec_l2Search, pr_spec_l2Search, *]
      rfl) rfl rfl
  · rw [if_neg h6] at hr
    have e5 : r1 = false := Bool.eq_false_iff.2 h6
    clear h6
    have hr_ := Option.some.inj hr; subst hr_
    refine RetF.scal (by
      simp only [c_spec_l6Good, evA, evB, Int.reduceToNat, eq_self, reduceCtorEq, ↓reduceIte, Nat.reduceEqDiff, Nat.reduceAdd, Nat.reduceLT, Nat.reduceLeDiff, Nat.reduceMul, Nat.reduceSub, Nat.reduceBEq, spec_l1Cur.cells, rz_spec_l1Cur, pr_spec_l1Cur, impl_Job.cells, rz_impl_Job, pr_impl_Job, spec_l2Search.cells, rz_spec_l2Search, pr_spec_l2Search, *]
      rfl) rfl rfl

theorem ok_spec_l2Objective {cl : Callee} (K_spec_l1In : K_spec_l1In x_spec_l1In (cl n_spec_l1In)) : K_spec_l2Objective (x_spec_l2Objective) (gbody F LL cl c_spec_l2Objective) := by
  intro objective_ r hr
  unfold x_spec_l2Objective at hr
  try dsimp only at hr
  obtain ⟨r1, q3, hr⟩ := Option.bind_eq_some_iff.1 hr
  have e2 : ∀ H ng, gcall (shOf F) cl false n_spec_l1In [.int .i64 objective_, .int .i64 1, .int .i64 8] H ng = some (.bool r1, H, ng, .inert) := fun H ng => call_far s_spec_l1In rfl (K_spec_l1In _ _ _ _ q3).ret
  have hr_ := Option.some.inj hr; subst hr_
  refine RetF.scal (by
    simp only [c_spec_l2Objective, evA, evB, Int.reduceToNat, eq_self, reduceCtorEq, ↓reduceIte, Nat.reduceEqDiff, Nat.reduceAdd, Nat.reduceLT, Nat.reduceLeDiff, Nat.reduceMul, Nat.reduceSub, Nat.reduceBEq, spec_l1Cur.cells, rz_spec_l1Cur, pr_spec_l1Cur, impl_Job.cells, rz_impl_Job, pr_impl_Job, spec_l2Search.cells, rz_spec_l2Search, pr_spec_l2Search, *]
    rfl) rfl rfl

theorem ok_spec_l2Greatest {cl : Callee} : K_spec_l2Greatest (x_spec_l2Greatest) (gbody F LL cl c_spec_l2Greatest) := by
  intro objective_ r hr
  unfold x_spec_l2Greatest at hr
  try dsimp only at hr
  by_cases h5 : objective_ = 1
  · rw [if_pos h5] at hr
    have e3 : (objective_ = 1) = True := eq_true h5
    clear h5
    have hr_ := Option.some.inj hr; subst hr_
    refine RetF.scal (by
      simp only [c_spec_l2Greatest, evA, evB, Int.reduceToNat, eq_self, reduceCtorEq, ↓reduceIte, Nat.reduceEqDiff, Nat.reduceAdd, Nat.reduceLT, Nat.reduceLeDiff, Nat.reduceMul, Nat.reduceSub, Nat.reduceBEq, spec_l1Cur.cells, rz_spec_l1Cur, pr_spec_l1Cur, impl_Job.cells, rz_impl_Job, pr_impl_Job, spec_l2Search.cells, rz_spec_l2Search, pr_spec_l2Search, *]
      rfl) rfl rfl
  · rw [if_neg h5] at hr
    have e4 : (objective_ = 1) = False := eq_false h5
    clear h5
    have hr_ := Option.some.inj hr; subst hr_
    refine RetF.scal (by
      simp only [c_spec_l2Greatest, evA, evB, Int.reduceToNat, eq_self, reduceCtorEq, ↓reduceIte, Nat.reduceEqDiff, Nat.reduceAdd, Nat.reduceLT, Nat.reduceLeDiff, Nat.reduceMul, Nat.reduceSub, Nat.reduceBEq, spec_l1Cur.cells, rz_spec_l1Cur, pr_spec_l1Cur, impl_Job.cells, rz_impl_Job, pr_impl_Job, spec_l2Search.cells, rz_spec_l2Search, pr_spec_l2Search, *]
      rfl) rfl rfl

theorem ok_spec_l6Sum {cl : Callee} (K_spec_l2Objective : K_spec_l2Objective x_spec_l2Objective (cl n_spec_l2Objective)) (K_spec_l2Greatest : K_spec_l2Greatest x_spec_l2Greatest (cl n_spec_l2Greatest)) : K_spec_l6Sum (x_spec_l6Sum) (gbody F LL cl c_spec_l6Sum) := by
  intro objective_ r hr
  unfold x_spec_l6Sum at hr
  try dsimp only at hr
  obtain ⟨r1, q3, hr⟩ := Option.bind_eq_some_iff.1 hr
  have e2 : ∀ H ng, gcall (shOf F) cl false n_spec_l2Objective [.int .i64 objective_] H ng = some (.bool r1, H, ng, .inert) := fun H ng => call_far s_spec_l2Objective rfl (K_spec_l2Objective _ _ q3).ret
  by_cases h6 : r1 = true
  · rw [if_pos h6] at hr
    have e4 : r1 = true := h6
    clear h6
    obtain ⟨r7, q9, hr⟩ := Option.bind_eq_some_iff.1 hr
    have e8 : ∀ H ng, gcall (shOf F) cl false n_spec_l2Greatest [.int .i64 objective_] H ng = some (.bool r7, H, ng, .inert) := fun H ng => call_far s_spec_l2Greatest rfl (K_spec_l2Greatest _ _ q9).ret
    by_cases h12 : r7 = true
    · rw [if_pos h12] at hr
      have e10 : r7 = true := h12
      clear h12
      have hr_ := Option.some.inj hr; subst hr_
      refine RetF.scal (by
        simp only [c_spec_l6Sum, evA, evB, Int.reduceToNat, eq_self, reduceCtorEq, ↓reduceIte, Nat.reduceEqDiff, Nat.reduceAdd, Nat.reduceLT, Nat.reduceLeDiff, Nat.reduceMul, Nat.reduceSub, Nat.reduceBEq, spec_l1Cur.cells, rz_spec_l1Cur, pr_spec_l1Cur, impl_Job.cells, rz_impl_Job, pr_impl_Job, spec_l2Search.cells, rz_spec_l2Search, pr_spec_l2Search, *]
        rfl) rfl rfl
    · rw [if_neg h12] at hr
      have e11 : r7 = false := Bool.eq_false_iff.2 h12
      clear h12
      have hr_ := Option.some.inj hr; subst hr_
      refine RetF.scal (by
        simp only [c_spec_l6Sum, evA, evB, Int.reduceToNat, eq_self, reduceCtorEq, ↓reduceIte, Nat.reduceEqDiff, Nat.reduceAdd, Nat.reduceLT, Nat.reduceLeDiff, Nat.reduceMul, Nat.reduceSub, Nat.reduceBEq, spec_l1Cur.cells, rz_spec_l1Cur, pr_spec_l1Cur, impl_Job.cells, rz_impl_Job, pr_impl_Job, spec_l2Search.cells, rz_spec_l2Search, pr_spec_l2Search, *]
        rfl) rfl rfl
  · rw [if_neg h6] at hr
    have e5 : r1 = false := Bool.eq_false_iff.2 h6
    clear h6
    have hr_ := Option.some.inj hr; subst hr_
    refine RetF.scal (by
      simp only [c_spec_l6Sum, evA, evB, Int.reduceToNat, eq_self, reduceCtorEq, ↓reduceIte, Nat.reduceEqDiff, Nat.reduceAdd, Nat.reduceLT, Nat.reduceLeDiff, Nat.reduceMul, Nat.reduceSub, Nat.reduceBEq, spec_l1Cur.cells, rz_spec_l1Cur, pr_spec_l1Cur, impl_Job.cells, rz_impl_Job, pr_impl_Job, spec_l2Search.cells, rz_spec_l2Search, pr_spec_l2Search, *]
      rfl) rfl rfl

theorem ok_spec_l1Most {cl : Callee} : K_spec_l1Most (x_spec_l1Most) (gbody F LL cl c_spec_l1Most) := by
  intro a_ b_ r hr
  unfold x_spec_l1Most at hr
  try dsimp only at hr
  by_cases h5 : b_ < a_
  · rw [if_pos h5] at hr
    have e3 : (b_ < a_) = True := eq_true h5
    clear h5
    have hr_ := Option.some.inj hr; subst hr_
    refine RetF.scal (by
      simp only [c_spec_l1Most, evA, evB, Int.reduceToNat, eq_self, reduceCtorEq, ↓reduceIte, Nat.reduceEqDiff, Nat.reduceAdd, Nat.reduceLT, Nat.reduceLeDiff, Nat.reduceMul, Nat.reduceSub, Nat.reduceBEq, spec_l1Cur.cells, rz_spec_l1Cur, pr_spec_l1Cur, impl_Job.cells, rz_impl_Job, pr_impl_Job, spec_l2Search.cells, rz_spec_l2Search, pr_spec_l2Search, *]
      rfl) rfl rfl
  · rw [if_neg h5] at hr
    have e4 : (b_ < a_) = False := eq_false h5
    clear h5
    have hr_ := Option.some.inj hr; subst hr_
    refine RetF.scal (by
      simp only [c_spec_l1Most, evA, evB, Int.reduceToNat, eq_self, reduceCtorEq, ↓reduceIte, Nat.reduceEqDiff, Nat.reduceAdd, Nat.reduceLT, Nat.reduceLeDiff, Nat.reduceMul, Nat.reduceSub, Nat.reduceBEq, spec_l1Cur.cells, rz_spec_l1Cur, pr_spec_l1Cur, impl_Job.cells, rz_impl_Job, pr_impl_Job, spec_l2Search.cells, rz_spec_l2Search, pr_spec_l2Search, *]
      rfl) rfl rfl

theorem ok_spec_l2Cost {cl : Callee} (K_spec_l1Most : K_spec_l1Most x_spec_l1Most (cl n_spec_l1Most)) : K_spec_l2Cost (x_spec_l2Cost) (gbody F LL cl c_spec_l2Cost) := by
  intro j_ end_ objective_ r hr
  unfold x_spec_l2Cost at hr
  try dsimp only at hr
  obtain ⟨r1, q3, hr⟩ := Option.bind_eq_some_iff.1 hr
  have e2 : ∀ H ng, gcall (shOf F) cl false n_spec_l1Most [.int .i64 (subK .i64 end_ j_.Due), .int .i64 0] H ng = some (.int .i64 r1, H, ng, .inert) := fun H ng => call_far s_spec_l1Most rfl (K_spec_l1Most _ _ _ q3).ret
  by_cases h8 : objective_ = 2
  · rw [if_pos h8] at hr
    have e6 : (objective_ = 2) = True := eq_true h8
    clear h8
    have hr_ := Option.some.inj hr; subst hr_
    refine RetF.scal (by
      simp only [c_spec_l2Cost, evA, evB, Int.reduceToNat, eq_self, reduceCtorEq, ↓reduceIte, Nat.reduceEqDiff, Nat.reduceAdd, Nat.reduceLT, Nat.reduceLeDiff, Nat.reduceMul, Nat.reduceSub, Nat.reduceBEq, spec_l1Cur.cells, rz_spec_l1Cur, pr_spec_l1Cur, impl_Job.cells, rz_impl_Job, pr_impl_Job, spec_l2Search.cells, rz_spec_l2Search, pr_spec_l2Search, *]
      rfl) rfl rfl
  · rw [if_neg h8] at hr
    have e7 : (objective_ = 2) = False := eq_false h8
    clear h8
    by_cases h13 : objective_ = 3
    · rw [if_pos h13] at hr
      have e11 : (objective_ = 3) = True := eq_true h13
      clear h13
      have hr_ := Option.some.inj hr; subst hr_
      refine RetF.scal (by
        simp only [c_spec_l2Cost, evA, evB, Int.reduceToNat, eq_self, reduceCtorEq, ↓reduceIte, Nat.reduceEqDiff, Nat.reduceAdd, Nat.reduceLT, Nat.reduceLeDiff, Nat.reduceMul, Nat.reduceSub, Nat.reduceBEq, spec_l1Cur.cells, rz_spec_l1Cur, pr_spec_l1Cur, impl_Job.cells, rz_impl_Job, pr_impl_Job, spec_l2Search.cells, rz_spec_l2Search, pr_spec_l2Search, *]
        rfl) rfl rfl
    · rw [if_neg h13] at hr
      have e12 : (objective_ = 3) = False := eq_false h13
      clear h13
      by_cases h18 : objective_ = 5
      · rw [if_pos h18] at hr
        have e16 : (objective_ = 5) = True := eq_true h18
        clear h18
        have hr_ := Option.some.inj hr; subst hr_
        refine RetF.scal (by
          simp only [c_spec_l2Cost, evA, evB, Int.reduceToNat, eq_self, reduceCtorEq, ↓reduceIte, Nat.reduceEqDiff, Nat.reduceAdd, Nat.reduceLT, Nat.reduceLeDiff, Nat.reduceMul, Nat.reduceSub, Nat.reduceBEq, spec_l1Cur.cells, rz_spec_l1Cur, pr_spec_l1Cur, impl_Job.cells, rz_impl_Job, pr_impl_Job, spec_l2Search.cells, rz_spec_l2Search, pr_spec_l2Search, *]
          rfl) rfl rfl
      · rw [if_neg h18] at hr
        have e17 : (objective_ = 5) = False := eq_false h18
        clear h18
        by_cases h23 : objective_ = 6
        · rw [if_pos h23] at hr
          have e21 : (objective_ = 6) = True := eq_true h23
          clear h23
          have hr_ := Option.some.inj hr; subst hr_
          refine RetF.scal (by
            simp only [c_spec_l2Cost, evA, evB, Int.reduceToNat, eq_self, reduceCtorEq, ↓reduceIte, Nat.reduceEqDiff, Nat.reduceAdd, Nat.reduceLT, Nat.reduceLeDiff, Nat.reduceMul, Nat.reduceSub, Nat.reduceBEq, spec_l1Cur.cells, rz_spec_l1Cur, pr_spec_l1Cur, impl_Job.cells, rz_impl_Job, pr_impl_Job, spec_l2Search.cells, rz_spec_l2Search, pr_spec_l2Search, *]
            rfl) rfl rfl
        · rw [if_neg h23] at hr
          have e22 : (objective_ = 6) = False := eq_false h23
          clear h23
          by_cases h28 : r1 = 0
          · rw [if_pos h28] at hr
            have e26 : (r1 = 0) = True := eq_true h28
            clear h28
            have hr_ := Option.some.inj hr; subst hr_
            refine RetF.scal (by
              simp only [c_spec_l2Cost, evA, evB, Int.reduceToNat, eq_self, reduceCtorEq, ↓reduceIte, Nat.reduceEqDiff, Nat.reduceAdd, Nat.reduceLT, Nat.reduceLeDiff, Nat.reduceMul, Nat.reduceSub, Nat.reduceBEq, spec_l1Cur.cells, rz_spec_l1Cur, pr_spec_l1Cur, impl_Job.cells, rz_impl_Job, pr_impl_Job, spec_l2Search.cells, rz_spec_l2Search, pr_spec_l2Search, *]
              rfl) rfl rfl
          · rw [if_neg h28] at hr
            have e27 : (r1 = 0) = False := eq_false h28
            clear h28
            by_cases h33 : objective_ = 7
            · rw [if_pos h33] at hr
              have e31 : (objective_ = 7) = True := eq_true h33
              clear h33
              have hr_ := Option.some.inj hr; subst hr_
              refine RetF.scal (by
                simp only [c_spec_l2Cost, evA, evB, Int.reduceToNat, eq_self, reduceCtorEq, ↓reduceIte, Nat.reduceEqDiff, Nat.reduceAdd, Nat.reduceLT, Nat.reduceLeDiff, Nat.reduceMul, Nat.reduceSub, Nat.reduceBEq, spec_l1Cur.cells, rz_spec_l1Cur, pr_spec_l1Cur, impl_Job.cells, rz_impl_Job, pr_impl_Job, spec_l2Search.cells, rz_spec_l2Search, pr_spec_l2Search, *]
                rfl) rfl rfl
            · rw [if_neg h33] at hr
              have e32 : (objective_ = 7) = False := eq_false h33
              clear h33
              have hr_ := Option.some.inj hr; subst hr_
              refine RetF.scal (by
                simp only [c_spec_l2Cost, evA, evB, Int.reduceToNat, eq_self, reduceCtorEq, ↓reduceIte, Nat.reduceEqDiff, Nat.reduceAdd, Nat.reduceLT, Nat.reduceLeDiff, Nat.reduceMul, Nat.reduceSub, Nat.reduceBEq, spec_l1Cur.cells, rz_spec_l1Cur, pr_spec_l1Cur, impl_Job.cells, rz_impl_Job, pr_impl_Job, spec_l2Search.cells, rz_spec_l2Search, pr_spec_l2Search, *]
                rfl) rfl rfl

theorem st_spec_l6Times_l0 {cl : Callee} (jobs_ : (List impl_Job)) (code_ : Int) (st_ : (Int × Int)) (c_ : Ctl (Int × Int) (Int)) (hr : x_spec_l6Times_l0 jobs_ code_ st_ = some c_) (T_ : Tm) (H_ : List Blk) (ng : Nat) (hR_ : R_spec_l6Times_l0 jobs_ code_ st_ T_ H_) :
    ∃ e_ T1_ H1_ ng1_, gcode (shOf F) cl LL c_spec_l6Times_l0 ⟨maskT (some [0, 1, 5, 6]) T_, H_, ng⟩ = some (e_, ⟨T1_, H1_, ng1_⟩) ∧ TurnOK (R_spec_l6Times_l0 jobs_ code_) (Q_spec_l6Times_l0 jobs_ code_) 0 c_ e_ T1_ H1_ := by
  obtain ⟨sum_, i_⟩ := st_
  obtain ⟨f0_, f1_, f2_, f3_, rfl⟩ := hR_
  unfold x_spec_l6Times_l0 at hr
  try dsimp only at hr
  by_cases h5 : i_ < (jobs_.length : Int)
  · rw [if_pos h5] at hr
    have e3 : (i_ < (jobs_.length : Int)) = True := eq_true h5
    clear h5
    by_cases h7 : 0 ≤ i_
    · rw [if_pos h7] at hr
      have e6 : binI .shr .i64 code_ .i64 i_ = some (.int .i64 (shrK .i64 code_ i_)) := bi_shr _ _ _ _ h7
      clear h7
      by_cases h12 : (andK .i64 (shrK .i64 code_ i_) 1) = 1
      · rw [if_pos h12] at hr
        have e10 : ((andK .i64 (shrK .i64 code_ i_) 1) = 1) = True := eq_true h12
        clear h12
        obtain ⟨y13, q17, hr⟩ := Option.bind_eq_some_iff.1 hr
        obtain ⟨e14, e15, e16⟩ := ix_some q17
        try simp only [Int.toNat_natCast, Int.toNat_zero, Int.reduceToNat] at e15
        clear q17
        have hr_ := Option.some.inj hr; subst hr_
        refine turn (by
          simp only [c_spec_l6Times_l0, evA, evB, Int.reduceToNat, eq_self, reduceCtorEq, ↓reduceIte, Nat.reduceEqDiff, Nat.reduceAdd, Nat.reduceLT, Nat.reduceLeDiff, Nat.reduceMul, Nat.reduceSub, Nat.reduceBEq, spec_l1Cur.cells, rz_spec_l1Cur, pr_spec_l1Cur, impl_Job.cells, rz_impl_Job, pr_impl_Job, spec_l2Search.cells, rz_spec_l2Search, pr_spec_l2Search, *]
          rfl) ?_
        exact ⟨rfl, rfl, rfl, rfl, rfl, rfl⟩
      · rw [if_neg h12] at hr
        have e11 : ((andK .i64 (shrK .i64 code_ i_) 1) = 1) = False := eq_false h12
        clear h12
        have hr_ := Option.some.inj hr; subst hr_
        refine turn (by
          simp only [c_spec_l6Times_l0, evA, evB, Int.reduceToNat, eq_self, reduceCtorEq, ↓reduceIte, Nat.reduceEqDiff, Nat.reduceAdd, Nat.reduceLT, Nat.reduceLeDiff, Nat.reduceMul, Nat.reduceSub, Nat.reduceBEq, spec_l1Cur.cells, rz_spec_l1Cur, pr_spec_l1Cur, impl_Job.cells, rz_impl_Job, pr_impl_Job, spec_l2Search.cells, rz_spec_l2Search, pr_spec_l2Search, *]
          rfl) ?_
        exact ⟨rfl, rfl, rfl, rfl, rfl, rfl⟩
    · rw [if_neg h7] at hr
      clear h7
      exact nomatch hr
  · rw [if_neg h5] at hr
    have e4 : (i_ < (jobs_.length : Int)) = False := eq_false h5
    clear h5
    have hr_ := Option.some.inj hr; subst hr_
    refine turn (by
      simp only [c_spec_l6Times_l0, evA, evB, Int.reduceToNat, eq_self, reduceCtorEq, ↓reduceIte, Nat.reduceEqDiff, Nat.reduceAdd, Nat.reduceLT, Nat.reduceLeDiff, Nat.reduceMul, Nat.reduceSub, Nat.reduceBEq, spec_l1Cur.cells, rz_spec_l1Cur, pr_spec_l1Cur, impl_Job.cells, rz_impl_Job, pr_impl_Job, spec_l2Search.cells, rz_spec_l2Search, pr_spec_l2Search, *]
      rfl) ?_
    exact ⟨by simp, rfl, rfl, rfl⟩

theorem lp_spec_l6Times_l0 {cl : Callee} (jobs_ : (List impl_Job)) (code_ : Int) (st_ : (Int × Int)) (p_ : (Int)) (hr : loopS (x_spec_l6Times_l0 jobs_ code_) LL st_ = some p_) (T_ : Tm) (H_ : List Blk) (ng : Nat) (hR_ : R_spec_l6Times_l0 jobs_ code_ st_ T_ H_) (hn_ : H_.length = 0) :
    ∃ e_ T1_ H1_ ng1_, gcode (shOf F) cl LL (.loop false (some [0, 1, 5, 6]) c_spec_l6Times_l0) ⟨T_, H_, ng⟩ = some (e_, ⟨T1_, H1_, ng1_⟩) ∧ Q_spec_l6Times_l0 jobs_ code_ p_ e_ T1_ H1_ :=
  sim_loop (n0 := 0) (R_spec_l6Times_l0 jobs_ code_) (Q_spec_l6Times_l0 jobs_ code_) (st_spec_l6Times_l0 jobs_ code_) st_ p_ hr T_ H_ ng hR_ hn_

theorem ok_spec_l6Times {cl : Callee} : K_spec_l6Times (x_spec_l6Times) (gbody F LL cl c_spec_l6Times) := by
  intro jobs_ code_ r hr
  unfold x_spec_l6Times at hr
  try dsimp only at hr
  obtain ⟨p1, q10, hr⟩ := Option.bind_eq_some_iff.1 hr
  obtain ⟨ex7, T4, H5, ng6, l3, m2⟩ := lp_spec_l6Times_l0 (cl := cl)  jobs_ code_ _ _ q10 [(0, .fs (jobs_.map impl_Job.cells)), (1, .int .i64 code_), (5, .int .i64 0), (6, .int .i64 0)] [] 0 (show R_spec_l6Times_l0 jobs_ code_ (0, 0) [(0, .fs (jobs_.map impl_Job.cells)), (1, .int .i64 code_), (5, .int .i64 0), (6, .int .i64 0)] [] from ⟨rfl, rfl, rfl, rfl, rfl⟩) rfl
  obtain ⟨rfl, e8, e9⟩ := m2
  subst e9
  have hr_ := Option.some.inj hr; subst hr_
  refine RetF.scal (by
    simp only [c_spec_l6Times, evA, evB, Int.reduceToNat, eq_self, reduceCtorEq, ↓reduceIte, Nat.reduceEqDiff, Nat.reduceAdd, Nat.reduceLT, Nat.reduceLeDiff, Nat.reduceMul, Nat.reduceSub, Nat.reduceBEq, spec_l1Cur.cells, rz_spec_l1Cur, pr_spec_l1Cur, impl_Job.cells, rz_impl_Job, pr_impl_Job, spec_l2Search.cells, rz_spec_l2Search, pr_spec_l2Search, *]
    rfl) rfl rfl

theorem ok_spec_l6Last {cl : Callee} (K_spec_l2Cost : K_spec_l2Cost x_spec_l2Cost (cl n_spec_l2Cost)) (K_spec_l6Times : K_spec_l6Times x_spec_l6Times (cl n_spec_l6Times)) : K_spec_l6Last (x_spec_l6Last) (gbody F LL cl c_spec_l6Last) := by
  intro jobs_ objective_ values_ code_ i_ r hr
  unfold x_spec_l6Last at hr
  try dsimp only at hr
  by_cases h2 : 0 ≤ i_
  · rw [if_pos h2] at hr
    have e1 : binI .shl .i64 1 .i64 i_ = some (.int .i64 (shlK .i64 1 i_)) := bi_shl _ _ _ _ h2
    clear h2
    obtain ⟨y3, q7, hr⟩ := Option.bind_eq_some_iff.1 hr
    obtain ⟨e4, e5, e6⟩ := ix_some q7
    try simp only [Int.toNat_natCast, Int.toNat_zero, Int.reduceToNat] at e5
    clear q7
    obtain ⟨y8, q12, hr⟩ := Option.bind_eq_some_iff.1 hr
    obtain ⟨e9, e10, e11⟩ := ix_some q12
    try simp only [Int.toNat_natCast, Int.toNat_zero, Int.reduceToNat] at e10
    clear q12
    obtain ⟨r13, q15, hr⟩ := Option.bind_eq_some_iff.1 hr
    have e14 : ∀ H ng, gcall (shOf F) cl false n_spec_l6Times [.fs (jobs_.map impl_Job.cells), .int .i64 code_] H ng = some (.int .i64 r13, H, ng, .inert) := fun H ng => call_far s_spec_l6Times rfl (K_spec_l6Times _ _ _ q15).ret
    obtain ⟨r16, q18, hr⟩ := Option.bind_eq_some_iff.1 hr
    have e17 : ∀ H ng, gcall (shOf F) cl false n_spec_l2Cost [.agg [.int .i64 y8.Time, .int .i64 y8.Weight, .int .i64 y8.Release, .int .i64 y8.Due], .int .i64 r13, .int .i64 objective_] H ng = some (.int .i64 r16, H, ng, .inert) := fun H ng => call_far s_spec_l2Cost rfl (K_spec_l2Cost _ _ _ _ q18).ret
    have hr_ := Option.some.inj hr; subst hr_
    refine RetF.scal (by
      simp only [c_spec_l6Last, evA, evB, Int.reduceToNat, eq_self, reduceCtorEq, ↓reduceIte, Nat.reduceEqDiff, Nat.reduceAdd, Nat.reduceLT, Nat.reduceLeDiff, Nat.reduceMul, Nat.reduceSub, Nat.reduceBEq, spec_l1Cur.cells, rz_spec_l1Cur, pr_spec_l1Cur, impl_Job.cells, rz_impl_Job, pr_impl_Job, spec_l2Search.cells, rz_spec_l2Search, pr_spec_l2Search, *]
      rfl) rfl rfl
  · rw [if_neg h2] at hr
    clear h2
    exact nomatch hr

theorem st_spec_l6Values_l1 {cl : Callee} (K_spec_l6Last : K_spec_l6Last x_spec_l6Last (cl n_spec_l6Last)) (values_ : (List Int)) (jobs_ : (List impl_Job)) (objective_ : Int) (code_ : Int) (st_ : (Int × Int)) (c_ : Ctl (Int × Int) (Int)) (hr : x_spec_l6Values_l1 values_ jobs_ objective_ code_ st_ = some c_) (T_ : Tm) (H_ : List Blk) (ng : Nat) (hR_ : R_spec_l6Values_l1 values_ jobs_ objective_ code_ st_ T_ H_) :
    ∃ e_ T1_ H1_ ng1_, gcode (shOf F) cl LL c_spec_l6Values_l1 ⟨maskT (some [0, 1, 5, 6, 7, 8]) T_, H_, ng⟩ = some (e_, ⟨T1_, H1_, ng1_⟩) ∧ TurnOK (R_spec_l6Values_l1 values_ jobs_ objective_ code_) (Q_spec_l6Values_l1 values_ jobs_ objective_ code_) 1 c_ e_ T1_ H1_ := by
  obtain ⟨best_, i_⟩ := st_
  obtain ⟨g0, f0_, f1_, f2_, f3_, f4_, f5_, rfl⟩ := hR_
  unfold x_spec_l6Values_l1 at hr
  try dsimp only at hr
  by_cases h5 : i_ < (jobs_.length : Int)
  · rw [if_pos h5] at hr
    have e3 : (i_ < (jobs_.length : Int)) = True := eq_true h5
    clear h5
    by_cases h7 : 0 ≤ i_
    · rw [if_pos h7] at hr
      have e6 : binI .shr .i64 code_ .i64 i_ = some (.int .i64 (shrK .i64 code_ i_)) := bi_shr _ _ _ _ h7
      clear h7
      by_cases h12 : (andK .i64 (shrK .i64 code_ i_) 1) = 0
      · rw [if_pos h12] at hr
        have e10 : ((andK .i64 (shrK .i64 code_ i_) 1) = 0) = True := eq_true h12
        clear h12
        have hr_ := Option.some.inj hr; subst hr_
        refine turn (by
          simp only [c_spec_l6Values_l1, evA, evB, Int.reduceToNat, eq_self, reduceCtorEq, ↓reduceIte, Nat.reduceEqDiff, Nat.reduceAdd, Nat.reduceLT, Nat.reduceLeDiff, Nat.reduceMul, Nat.reduceSub, Nat.reduceBEq, spec_l1Cur.cells, rz_spec_l1Cur, pr_spec_l1Cur, impl_Job.cells, rz_impl_Job, pr_impl_Job, spec_l2Search.cells, rz_spec_l2Search, pr_spec_l2Search, *]
          rfl) ?_
        exact ⟨rfl, _, rfl, rfl, rfl, rfl, rfl, rfl, rfl⟩
      · rw [if_neg h12] at hr
        have e11 : ((andK .i64 (shrK .i64 code_ i_) 1) = 0) = False := eq_false h12
        clear h12
        obtain ⟨r13, q17, hr⟩ := Option.bind_eq_some_iff.1 hr
        have x14 : expC (hp [(Blk.mk g0 false 1 (values_.map (cI .i64)))]) 0 expDepth (.os 0 g0 1 0 values_.length) = some (.fs (values_.map (cI .i64))) := (exp_win (b := (Blk.mk g0 false 1 (values_.map (cI .i64)))) (Nat.zero_le _) (by simp [hget, hp]) (by simp) (pr_cI _ _)).trans (by simp [take_map_len])
        have x15 : mapMV (expV (hp [(Blk.mk g0 false 1 (values_.map (cI .i64)))]) 0) [.fs (jobs_.map impl_Job.cells), .int .i64 objective_, .os 0 g0 1 0 values_.length, .int .i64 code_, .int .i64 i_] = some [.fs (jobs_.map impl_Job.cells), .int .i64 objective_, .fs (values_.map (cI .i64)), .int .i64 code_, .int .i64 i_] := by simp only [mapMV, ex_int, ex_bool, ex_fs, ex_agg, ex_os, pureCs, V.pureC, Bool.and_self, x14, Option.bind_some, Option.map_some]
        have e16 : gcall (shOf F) cl false n_spec_l6Last [.fs (jobs_.map impl_Job.cells), .int .i64 objective_, .os 0 g0 1 0 values_.length, .int .i64 code_, .int .i64 i_] [(Blk.mk g0 false 1 (values_.map (cI .i64)))] ng = some (.int .i64 r13, [(Blk.mk g0 false 1 (values_.map (cI .i64)))], ng, .touch (idsVs (hp [(Blk.mk g0 false 1 (values_.map (cI .i64)))]) [.fs (jobs_.map impl_Job.cells), .int .i64 objective_, .os 0 g0 1 0 values_.length, .int .i64 code_, .int .i64 i_]) []) := call_near s_spec_l6Last x15 rfl (K_spec_l6Last _ _ _ _ _ _ q17)
        clear x14 x15
        by_cases h22 : best_ < 0
        · rw [if_pos h22] at hr
          have e20 : (best_ < 0) = True := eq_true h22
          clear h22
          have hr_ := Option.some.inj hr; subst hr_
          refine turn (by
            simp only [c_spec_l6Values_l1, evA, evB, Int.reduceToNat, eq_self, reduceCtorEq, ↓reduceIte, Nat.reduceEqDiff, Nat.reduceAdd, Nat.reduceLT, Nat.reduceLeDiff, Nat.reduceMul, Nat.reduceSub, Nat.reduceBEq, spec_l1Cur.cells, rz_spec_l1Cur, pr_spec_l1Cur, impl_Job.cells, rz_impl_Job, pr_impl_Job, spec_l2Search.cells, rz_spec_l2Search, pr_spec_l2Search, *]
            rfl) ?_
          exact ⟨rfl, _, rfl, rfl, rfl, rfl, rfl, rfl, rfl⟩
        · rw [if_neg h22] at hr
          have e21 : (best_ < 0) = False := eq_false h22
          clear h22
          by_cases h27 : r13 < best_
          · rw [if_pos h27] at hr
            have e25 : (r13 < best_) = True := eq_true h27
            clear h27
            have hr_ := Option.some.inj hr; subst hr_
            refine turn (by
              simp only [c_spec_l6Values_l1, evA, evB, Int.reduceToNat, eq_self, reduceCtorEq, ↓reduceIte, Nat.reduceEqDiff, Nat.reduceAdd, Nat.reduceLT, Nat.reduceLeDiff, Nat.reduceMul, Nat.reduceSub, Nat.reduceBEq, spec_l1Cur.cells, rz_spec_l1Cur, pr_spec_l1Cur, impl_Job.cells, rz_impl_Job, pr_impl_Job, spec_l2Search.cells, rz_spec_l2Search, pr_spec_l2Search, *]
              rfl) ?_
            exact ⟨rfl, _, rfl, rfl, rfl, rfl, rfl, rfl, rfl⟩
          · rw [if_neg h27] at hr
            have e26 : (r13 < best_) = False := eq_false h27
            clear h27
            have hr_ := Option.some.inj hr; subst hr_
            refine turn (by
              simp only [c_spec_l6Values_l1, evA, evB, Int.reduceToNat, eq_self, reduceCtorEq, ↓reduceIte, Nat.reduceEqDiff, Nat.reduceAdd, Nat.reduceLT, Nat.reduceLeDiff, Nat.reduceMul, Nat.reduceSub, Nat.reduceBEq, spec_l1Cur.cells, rz_spec_l1Cur, pr_spec_l1Cur, impl_Job.cells, rz_impl_Job, pr_impl_Job, spec_l2Search.cells, rz_spec_l2Search, pr_spec_l2Search, *]
              rfl) ?_
            exact ⟨rfl, _, rfl, rfl, rfl, rfl, rfl, rfl, rfl⟩
    · rw [if_neg h7] at hr
      clear h7
      exact nomatch hr
  · rw [if_neg h5] at hr
    have e4 : (i_ < (jobs_.length : Int)) = False := eq_false h5
    clear h5
    have hr_ := Option.some.inj hr; subst hr_
    refine turn (by
      simp only [c_spec_l6Values_l1, evA, evB, Int.reduceToNat, eq_self, reduceCtorEq, ↓reduceIte, Nat.reduceEqDiff, Nat.reduceAdd, Nat.reduceLT, Nat.reduceLeDiff, Nat.reduceMul, Nat.reduceSub, Nat.reduceBEq, spec_l1Cur.cells, rz_spec_l1Cur, pr_spec_l1Cur, impl_Job.cells, rz_impl_Job, pr_impl_Job, spec_l2Search.cells, rz_spec_l2Search, pr_spec_l2Search, *]
      rfl) ?_
    exact ⟨by simp, rfl, _, rfl, rfl, rfl, rfl, rfl, rfl⟩

theorem lp_spec_l6Values_l1 {cl : Callee} (K_spec_l6Last : K_spec_l6Last x_spec_l6Last (cl n_spec_l6Last)) (values_ : (List Int)) (jobs_ : (List impl_Job)) (objective_ : Int) (code_ : Int) (st_ : (Int × Int)) (p_ : (Int)) (hr : loopS (x_spec_l6Values_l1 values_ jobs_ objective_ code_) LL st_ = some p_) (T_ : Tm) (H_ : List Blk) (ng : Nat) (hR_ : R_spec_l6Values_l1 values_ jobs_ objective_ code_ st_ T_ H_) (hn_ : H_.length = 1) :
    ∃ e_ T1_ H1_ ng1_, gcode (shOf F) cl LL (.loop false (some [0, 1, 5, 6, 7, 8]) c_spec_l6Values_l1) ⟨T_, H_, ng⟩ = some (e_, ⟨T1_, H1_, ng1_⟩) ∧ Q_spec_l6Values_l1 values_ jobs_ objective_ code_ p_ e_ T1_ H1_ :=
  sim_loop (n0 := 1) (R_spec_l6Values_l1 values_ jobs_ objective_ code_) (Q_spec_l6Values_l1 values_ jobs_ objective_ code_) (st_spec_l6Values_l1 K_spec_l6Last values_ jobs_ objective_ code_) st_ p_ hr T_ H_ ng hR_ hn_

theorem st_spec_l6Values_l0 {cl : Callee} (K_spec_l6Last : K_spec_l6Last x_spec_l6Last (cl n_spec_l6Last)) (jobs_ : (List impl_Job)) (objective_ : Int) (st_ : ((List Int) × Int)) (c_ : Ctl ((List Int) × Int) ((List Int))) (hr : x_spec_l6Values_l0 jobs_ objective_ st_ = some c_) (T_ : Tm) (H_ : List Blk) (ng : Nat) (hR_ : R_spec_l6Values_l0 jobs_ objective_ st_ T_ H_) :
    ∃ e_ T1_ H1_ ng1_, gcode (shOf F) cl LL c_spec_l6Values_l0 ⟨maskT (some [0, 1, 5, 6]) T_, H_, ng⟩ = some (e_, ⟨T1_, H1_, ng1_⟩) ∧ TurnOK (R_spec_l6Values_l0 jobs_ objective_) (Q_spec_l6Values_l0 jobs_ objective_) 1 c_ e_ T1_ H1_ := by
  obtain ⟨values_, code_⟩ := st_
  obtain ⟨g0, f0_, f1_, f2_, f3_, rfl⟩ := hR_
  unfold x_spec_l6Values_l0 at hr
  try dsimp only at hr
  have e30 : binI .shl .i64 1 .i64 (jobs_.length : Int) = some (.int .i64 (shlK .i64 1 (jobs_.length : Int))) := bi_shl _ _ _ _ (Int.natCast_nonneg _)
  by_cases h5 : code_ < (shlK .i64 1 (jobs_.length : Int))
  · rw [if_pos h5] at hr
    have e3 : (code_ < (shlK .i64 1 (jobs_.length : Int))) = True := eq_true h5
    clear h5
    obtain ⟨p6, q29, hr⟩ := Option.bind_eq_some_iff.1 hr
    obtain ⟨ex12, T9, H10, ng11, l8, m7⟩ := lp_spec_l6Values_l1 (cl := cl) K_spec_l6Last  values_ jobs_ objective_ code_ _ _ q29 [(0, .fs (jobs_.map impl_Job.cells)), (1, .int .i64 objective_), (5, .os 0 g0 1 0 values_.length), (6, .int .i64 code_), (7, .int .i64 (-1)), (8, .int .i64 0)] [(Blk.mk g0 false 1 (values_.map (cI .i64)))] ng (show R_spec_l6Values_l1 values_ jobs_ objective_ code_ ((-1), 0) [(0, .fs (jobs_.map impl_Job.cells)), (1, .int .i64 objective_), (5, .os 0 g0 1 0 values_.length), (6, .int .i64 code_), (7, .int .i64 (-1)), (8, .int .i64 0)] [(Blk.mk g0 false 1 (values_.map (cI .i64)))] from ⟨_, rfl, rfl, rfl, rfl, rfl, rfl, rfl⟩) rfl
    obtain ⟨rfl, g13, e14, e15, e16, e17, e18, e19⟩ := m7
    subst e19
    obtain ⟨l20, q28, hr⟩ := Option.bind_eq_some_iff.1 hr
    obtain ⟨e21, e22, e23, e24⟩ := app_some q28
    try simp only [List.length_cons, List.length_nil, Nat.zero_add, Nat.reduceAdd] at e21 e22 e24
    have e25 : (values_.map (cI .i64)) ++ [[.int .i64 p6]] = l20.map (cI .i64) := by rw [← e23, List.map_append] <;> rfl
    have e26 := e21
    have e27 := e22
    rw [e24] at e26 e27
    clear e23 q28
    have hr_ := Option.some.inj hr; subst hr_
    refine turn (by
      simp only [c_spec_l6Values_l0, evA, evB, Int.reduceToNat, eq_self, reduceCtorEq, ↓reduceIte, Nat.reduceEqDiff, Nat.reduceAdd, Nat.reduceLT, Nat.reduceLeDiff, Nat.reduceMul, Nat.reduceSub, Nat.reduceBEq, spec_l1Cur.cells, rz_spec_l1Cur, pr_spec_l1Cur, impl_Job.cells, rz_impl_Job, pr_impl_Job, spec_l2Search.cells, rz_spec_l2Search, pr_spec_l2Search, *]
      rfl) ?_
    exact ⟨rfl, _, rfl, rfl, rfl, rfl, rfl⟩
  · rw [if_neg h5] at hr
    have e4 : (code_ < (shlK .i64 1 (jobs_.length : Int))) = False := eq_false h5
    clear h5
    have hr_ := Option.some.inj hr; subst hr_
    refine turn (by
      simp only [c_spec_l6Values_l0, evA, evB, Int.reduceToNat, eq_self, reduceCtorEq, ↓reduceIte, Nat.reduceEqDiff, Nat.reduceAdd, Nat.reduceLT, Nat.reduceLeDiff, Nat.reduceMul, Nat.reduceSub, Nat.reduceBEq, spec_l1Cur.cells, rz_spec_l1Cur, pr_spec_l1Cur, impl_Job.cells, rz_impl_Job, pr_impl_Job, spec_l2Search.cells, rz_spec_l2Search, pr_spec_l2Search, *]
      rfl) ?_
    exact ⟨by simp, rfl, _, rfl, rfl⟩

theorem lp_spec_l6Values_l0 {cl : Callee} (K_spec_l6Last : K_spec_l6Last x_spec_l6Last (cl n_spec_l6Last)) (jobs_ : (List impl_Job)) (objective_ : Int) (st_ : ((List Int) × Int)) (p_ : ((List Int))) (hr : loopS (x_spec_l6Values_l0 jobs_ objective_) LL st_ = some p_) (T_ : Tm) (H_ : List Blk) (ng : Nat) (hR_ : R_spec_l6Values_l0 jobs_ objective_ st_ T_ H_) (hn_ : H_.length = 1) :
    ∃ e_ T1_ H1_ ng1_, gcode (shOf F) cl LL (.loop false (some [0, 1, 5, 6]) c_spec_l6Values_l0) ⟨T_, H_, ng⟩ = some (e_, ⟨T1_, H1_, ng1_⟩) ∧ Q_spec_l6Values_l0 jobs_ objective_ p_ e_ T1_ H1_ :=
  sim_loop (n0 := 1) (R_spec_l6Values_l0 jobs_ objective_) (Q_spec_l6Values_l0 jobs_ objective_) (st_spec_l6Values_l0 K_spec_l6Last jobs_ objective_) st_ p_ hr T_ H_ ng hR_ hn_

theorem ok_spec_l6Values {cl : Callee} (K_spec_l6Last : K_spec_l6Last x_spec_l6Last (cl n_spec_l6Last)) : K_spec_l6Values (x_spec_l6Values) (gbody F LL cl c_spec_l6Values) := by
  intro jobs_ objective_ r hr
  unfold x_spec_l6Values at hr
  try dsimp only at hr
  obtain ⟨p1, q11, hr⟩ := Option.bind_eq_some_iff.1 hr
  obtain ⟨ex7, T4, H5, ng6, l3, m2⟩ := lp_spec_l6Values_l0 (cl := cl) K_spec_l6Last  jobs_ objective_ _ _ q11 [(0, .fs (jobs_.map impl_Job.cells)), (1, .int .i64 objective_), (5, .os 0 0 1 0 1), (6, .int .i64 1)] [(Blk.mk 0 false 1 [[.int .i64 0]])] 1 (show R_spec_l6Values_l0 jobs_ objective_ ([0], 1) [(0, .fs (jobs_.map impl_Job.cells)), (1, .int .i64 objective_), (5, .os 0 0 1 0 1), (6, .int .i64 1)] [(Blk.mk 0 false 1 [[.int .i64 0]])] from ⟨_, rfl, rfl, rfl, rfl, rfl⟩) rfl
  obtain ⟨rfl, g8, e9, e10⟩ := m2
  subst e10
  have hr_ := Option.some.inj hr; subst hr_
  refine ⟨0, g8, [(Blk.mk g8 false 1 (p1.map (cI .i64)))], ng6, ?_, by simp [hget, hp], sc_cI _ _⟩
  simp only [c_spec_l6Values, evA, evB, Int.reduceToNat, eq_self, reduceCtorEq, ↓reduceIte, Nat.reduceEqDiff, Nat.reduceAdd, Nat.reduceLT, Nat.reduceLeDiff, Nat.reduceMul, Nat.reduceSub, Nat.reduceBEq, spec_l1Cur.cells, rz_spec_l1Cur, pr_spec_l1Cur, impl_Job.cells, rz_impl_Job, pr_impl_Job, spec_l2Search.cells, rz_spec_l2Search, pr_spec_l2Search, *]

theorem ok_spec_SetValues {cl : Callee} (K_spec_l6Good : K_spec_l6Good x_spec_l6Good (cl n_spec_l6Good)) (K_spec_l6Sum : K_spec_l6Sum x_spec_l6Sum (cl n_spec_l6Sum)) (K_spec_l6Values : K_spec_l6Values x_spec_l6Values (cl n_spec_l6Values)) : K_spec_SetValues (x_spec_SetValues) (gbody F LL cl c_spec_SetValues) := by
  intro jobs_ objective_ r hr
  unfold x_spec_SetValues at hr
  try dsimp only at hr
  obtain ⟨r1, q3, hr⟩ := Option.bind_eq_some_iff.1 hr
  have e2 : ∀ H ng, gcall (shOf F) cl false n_spec_l6Good [.fs (jobs_.map impl_Job.cells)] H ng = some (.bool r1, H, ng, .inert) := fun H ng => call_far s_spec_l6Good rfl (K_spec_l6Good _ _ q3).ret
  by_cases h6 : r1 = true
  · rw [if_pos h6] at hr
    have e4 : r1 = true := h6
    clear h6
    obtain ⟨r7, q9, hr⟩ := Option.bind_eq_some_iff.1 hr
    have e8 : ∀ H ng, gcall (shOf F) cl false n_spec_l6Sum [.int .i64 objective_] H ng = some (.bool r7, H, ng, .inert) := fun H ng => call_far s_spec_l6Sum rfl (K_spec_l6Sum _ _ q9).ret
    by_cases h12 : r7 = true
    · rw [if_pos h12] at hr
      have e10 : r7 = true := h12
      clear h12
      obtain ⟨r13, q15, hr⟩ := Option.bind_eq_some_iff.1 hr
      have e14 : ∀ H ng, gcall (shOf F) cl false n_spec_l6Values [.fs (jobs_.map impl_Job.cells), .int .i64 objective_] H ng = some (.fs (r13.map (cI .i64)), H, ng, .inert) := fun H ng => call_far s_spec_l6Values rfl (K_spec_l6Values _ _ _ q15).retF.ret
      have hr_ := Option.some.inj hr; subst hr_
      refine Ret.flat (by
        simp only [c_spec_SetValues, evA, evB, Int.reduceToNat, eq_self, reduceCtorEq, ↓reduceIte, Nat.reduceEqDiff, Nat.reduceAdd, Nat.reduceLT, Nat.reduceLeDiff, Nat.reduceMul, Nat.reduceSub, Nat.reduceBEq, spec_l1Cur.cells, rz_spec_l1Cur, pr_spec_l1Cur, impl_Job.cells, rz_impl_Job, pr_impl_Job, spec_l2Search.cells, rz_spec_l2Search, pr_spec_l2Search, *]
        rfl) rfl
    · rw [if_neg h12] at hr
      have e11 : r7 = false := Bool.eq_false_iff.2 h12
      clear h12
      have hr_ := Option.some.inj hr; subst hr_
      refine Ret.flat (by
        simp only [c_spec_SetValues, evA, evB, Int.reduceToNat, eq_self, reduceCtorEq, ↓reduceIte, Nat.reduceEqDiff, Nat.reduceAdd, Nat.reduceLT, Nat.reduceLeDiff, Nat.reduceMul, Nat.reduceSub, Nat.reduceBEq, spec_l1Cur.cells, rz_spec_l1Cur, pr_spec_l1Cur, impl_Job.cells, rz_impl_Job, pr_impl_Job, spec_l2Search.cells, rz_spec_l2Search, pr_spec_l2Search, *]
        rfl) rfl
  · rw [if_neg h6] at hr
    have e5 : r1 = false := Bool.eq_false_iff.2 h6
    clear h6
    have hr_ := Option.some.inj hr; subst hr_
    refine Ret.flat (by
      simp only [c_spec_SetValues, evA, evB, Int.reduceToNat, eq_self, reduceCtorEq, ↓reduceIte, Nat.reduceEqDiff, Nat.reduceAdd, Nat.reduceLT, Nat.reduceLeDiff, Nat.reduceMul, Nat.reduceSub, Nat.reduceBEq, spec_l1Cur.cells, rz_spec_l1Cur, pr_spec_l1Cur, impl_Job.cells, rz_impl_Job, pr_impl_Job, spec_l2Search.cells, rz_spec_l2Search, pr_spec_l2Search, *]
      rfl) rfl

theorem st_laws_rInts_l0 {cl : Callee} (a_ : (List Int)) (b_ : (List Int)) (st_ : (Int)) (c_ : Ctl (Int) (Unit ⊕ (Bool))) (hr : x_laws_rInts_l0 a_ b_ st_ = some c_) (T_ : Tm) (H_ : List Blk) (ng : Nat) (hR_ : R_laws_rInts_l0 a_ b_ st_ T_ H_) :
    ∃ e_ T1_ H1_ ng1_, gcode (shOf F) cl LL c_laws_rInts_l0 ⟨maskT (some [0, 1, 5]) T_, H_, ng⟩ = some (e_, ⟨T1_, H1_, ng1_⟩) ∧ TurnOK (R_laws_rInts_l0 a_ b_) (Q_laws_rInts_l0 a_ b_) 0 c_ e_ T1_ H1_ := by
  obtain ⟨i_, hst_⟩ : ∃ x, x = st_ := ⟨_, rfl⟩; subst hst_
  obtain ⟨f0_, f1_, f2_, rfl⟩ := hR_
  unfold x_laws_rInts_l0 at hr
  try dsimp only at hr
  by_cases h5 : i_ < (a_.length : Int)
  · rw [if_pos h5] at hr
    have e3 : (i_ < (a_.length : Int)) = True := eq_true h5
    clear h5
    obtain ⟨y6, q10, hr⟩ := Option.bind_eq_some_iff.1 hr
    obtain ⟨e7, e8, e9⟩ := ix_some q10
    try simp only [Int.toNat_natCast, Int.toNat_zero, Int.reduceToNat] at e8
    clear q10
    obtain ⟨y11, q15, hr⟩ := Option.bind_eq_some_iff.1 hr
    obtain ⟨e12, e13, e14⟩ := ix_some q15
    try simp only [Int.toNat_natCast, Int.toNat_zero, Int.reduceToNat] at e13
    clear q15
    by_cases h20 : y6 = y11
    · rw [if_pos h20] at hr
      have e18 : (y6 = y11) = True := eq_true h20
      clear h20
      have hr_ := Option.some.inj hr; subst hr_
      refine turn (by
        simp only [c_laws_rInts_l0, evA, evB, Int.reduceToNat, eq_self, reduceCtorEq, ↓reduceIte, Nat.reduceEqDiff, Nat.reduceAdd, Nat.reduceLT, Nat.reduceLeDiff, Nat.reduceMul, Nat.reduceSub, Nat.reduceBEq, spec_l1Cur.cells, rz_spec_l1Cur, pr_spec_l1Cur, impl_Job.cells, rz_impl_Job, pr_impl_Job, spec_l2Search.cells, rz_spec_l2Search, pr_spec_l2Search, *]
        rfl) ?_
      exact ⟨rfl, rfl, rfl, rfl, rfl⟩
    · rw [if_neg h20] at hr
      have e19 : (y6 = y11) = False := eq_false h20
      clear h20
      have hr_ := Option.some.inj hr; subst hr_
      refine turn (by
        simp only [c_laws_rInts_l0, evA, evB, Int.reduceToNat, eq_self, reduceCtorEq, ↓reduceIte, Nat.reduceEqDiff, Nat.reduceAdd, Nat.reduceLT, Nat.reduceLeDiff, Nat.reduceMul, Nat.reduceSub, Nat.reduceBEq, spec_l1Cur.cells, rz_spec_l1Cur, pr_spec_l1Cur, impl_Job.cells, rz_impl_Job, pr_impl_Job, spec_l2Search.cells, rz_spec_l2Search, pr_spec_l2Search, *]
        rfl) ?_
      exact ⟨by simp, rfl, (by first | rfl | assumption)⟩
  · rw [if_neg h5] at hr
    have e4 : (i_ < (a_.length : Int)) = False := eq_false h5
    clear h5
    have hr_ := Option.some.inj hr; subst hr_
    refine turn (by
      simp only [c_laws_rInts_l0, evA, evB, Int.reduceToNat, eq_self, reduceCtorEq, ↓reduceIte, Nat.reduceEqDiff, Nat.reduceAdd, Nat.reduceLT, Nat.reduceLeDiff, Nat.reduceMul, Nat.reduceSub, Nat.reduceBEq, spec_l1Cur.cells, rz_spec_l1Cur, pr_spec_l1Cur, impl_Job.cells, rz_impl_Job, pr_impl_Job, spec_l2Search.cells, rz_spec_l2Search, pr_spec_l2Search, *]
      rfl) ?_
    exact ⟨by simp, rfl, rfl⟩

theorem lp_laws_rInts_l0 {cl : Callee} (a_ : (List Int)) (b_ : (List Int)) (st_ : (Int)) (p_ : (Unit ⊕ (Bool))) (hr : loopS (x_laws_rInts_l0 a_ b_) LL st_ = some p_) (T_ : Tm) (H_ : List Blk) (ng : Nat) (hR_ : R_laws_rInts_l0 a_ b_ st_ T_ H_) (hn_ : H_.length = 0) :
    ∃ e_ T1_ H1_ ng1_, gcode (shOf F) cl LL (.loop false (some [0, 1, 5]) c_laws_rInts_l0) ⟨T_, H_, ng⟩ = some (e_, ⟨T1_, H1_, ng1_⟩) ∧ Q_laws_rInts_l0 a_ b_ p_ e_ T1_ H1_ :=
  sim_loop (n0 := 0) (R_laws_rInts_l0 a_ b_) (Q_laws_rInts_l0 a_ b_) (st_laws_rInts_l0 a_ b_) st_ p_ hr T_ H_ ng hR_ hn_

theorem ok_laws_rInts {cl : Callee} : K_laws_rInts (x_laws_rInts) (gbody F LL cl c_laws_rInts) := by
  intro a_ b_ r hr
  unfold x_laws_rInts at hr
  try dsimp only at hr
  by_cases h5 : (a_.length : Int) = (b_.length : Int)
  · rw [if_pos h5] at hr
    have e3 : ((a_.length : Int) = (b_.length : Int)) = True := eq_true h5
    clear h5
    obtain ⟨p6, q15, hr⟩ := Option.bind_eq_some_iff.1 hr
    obtain ⟨ex12, T9, H10, ng11, l8, m7⟩ := lp_laws_rInts_l0 (cl := cl)  a_ b_ _ _ q15 [(0, .fs (a_.map (cI .i64))), (1, .fs (b_.map (cI .i64))), (5, .int .i64 0)] [] 0 (show R_laws_rInts_l0 a_ b_ 0 [(0, .fs (a_.map (cI .i64))), (1, .fs (b_.map (cI .i64))), (5, .int .i64 0)] [] from ⟨rfl, rfl, rfl, rfl⟩) rfl
    rcases p6 with p6 | p6
    · dsimp only at hr
      obtain ⟨rfl, e13⟩ := m7
      subst e13
      have hr_ := Option.some.inj hr; subst hr_
      refine RetF.scal (by
        simp only [c_laws_rInts, evA, evB, Int.reduceToNat, eq_self, reduceCtorEq, ↓reduceIte, Nat.reduceEqDiff, Nat.reduceAdd, Nat.reduceLT, Nat.reduceLeDiff, Nat.reduceMul, Nat.reduceSub, Nat.reduceBEq, spec_l1Cur.cells, rz_spec_l1Cur, pr_spec_l1Cur, impl_Job.cells, rz_impl_Job, pr_impl_Job, spec_l2Search.cells, rz_spec_l2Search, pr_spec_l2Search, *]
        rfl) rfl rfl
    · dsimp only at hr
      obtain ⟨rfl, e14⟩ := m7
      have hr_ := Option.some.inj hr; subst hr_
      refine RetF.scal (by
        simp only [c_laws_rInts, evA, evB, Int.reduceToNat, eq_self, reduceCtorEq, ↓reduceIte, Nat.reduceEqDiff, Nat.reduceAdd, Nat.reduceLT, Nat.reduceLeDiff, Nat.reduceMul, Nat.reduceSub, Nat.reduceBEq, spec_l1Cur.cells, rz_spec_l1Cur, pr_spec_l1Cur, impl_Job.cells, rz_impl_Job, pr_impl_Job, spec_l2Search.cells, rz_spec_l2Search, pr_spec_l2Search, *]
        rfl) rfl rfl
  · rw [if_neg h5] at hr
    have e4 : ((a_.length : Int) = (b_.length : Int)) = False := eq_false h5
    clear h5
    have hr_ := Option.some.inj hr; subst hr_
    refine RetF.scal (by
      simp only [c_laws_rInts, evA, evB, Int.reduceToNat, eq_self, reduceCtorEq, ↓reduceIte, Nat.reduceEqDiff, Nat.reduceAdd, Nat.reduceLT, Nat.reduceLeDiff, Nat.reduceMul, Nat.reduceSub, Nat.reduceBEq, spec_l1Cur.cells, rz_spec_l1Cur, pr_spec_l1Cur, impl_Job.cells, rz_impl_Job, pr_impl_Job, spec_l2Search.cells, rz_spec_l2Search, pr_spec_l2Search, *]
      rfl) rfl rfl

theorem st_impl_SetOrder_l1 {cl : Callee} (K_impl_IsPlain : K_impl_IsPlain x_impl_IsPlain (cl n_impl_IsPlain)) (K_impl_isSumObjective : K_impl_isSumObjective x_impl_isSumObjective (cl n_impl_isSumObjective)) (K_impl_setValues : K_impl_setValues x_impl_setValues (cl n_impl_setValues)) (K_impl_listOf : K_impl_listOf x_impl_listOf (cl n_impl_listOf)) (K_impl_add : K_impl_add x_impl_add (cl n_impl_add)) (K_impl_timeOf : K_impl_timeOf x_impl_timeOf (cl n_impl_timeOf)) (jobs_ : (List impl_Job)) (objective_ : Int) (values_ : (List Int)) (k_ : Int) (v : (List Int)) (vz1 : Int) (st_ : ((List Int) × Int × Int)) (c_ : Ctl ((List Int) × Int × Int) ((List Int) × Int)) (hr : x_impl_SetOrder_l1 jobs_ objective_ values_ k_ v vz1 st_ = some c_) (T_ : Tm) (H_ : List Blk) (ng : Nat) (hR_ : R_impl_SetOrder_l1 jobs_ objective_ values_ k_ v vz1 st_ T_ H_) :
    ∃ e_ T1_ H1_ ng1_, gcode (shOf F) cl LL c_impl_SetOrder_l1 ⟨maskT (some [0, 1, 6, 7, 8, 9, 38, 39, 40]) T_, H_, ng⟩ = some (e_, ⟨T1_, H1_, ng1_⟩) ∧ TurnOK (R_impl_SetOrder_l1 jobs_ objective_ values_ k_ v vz1) (Q_impl_SetOrder_l1 jobs_ objective_ values_ k_ v vz1) 1 c_ e_ T1_ H1_ := by
  obtain ⟨out_, set_, vz2⟩ := st_
  obtain ⟨g0, f0_, f1_, f2_, f3_, f4_, f5_, f6_, f7_, f8_, rfl⟩ := hR_
  unfold x_impl_SetOrder_l1 at hr
  try dsimp only at hr
  by_cases h5 : vz2 < vz1
  · rw [if_pos h5] at hr
    have e3 : (vz2 < vz1) = True := eq_true h5
    clear h5
    obtain ⟨y6, q10, hr⟩ := Option.bind_eq_some_iff.1 hr
    obtain ⟨e7, e8, e9⟩ := ix_some q10
    try simp only [Int.toNat_natCast, Int.toNat_zero, Int.reduceToNat] at e8
    clear q10
    by_cases h12 : 0 ≤ y6
    · rw [if_pos h12] at hr
      have e11 : binI .shl .i64 1 .i64 y6 = some (.int .i64 (shlK .i64 1 y6)) := bi_shl _ _ _ _ h12
      clear h12
      obtain ⟨y13, q17, hr⟩ := Option.bind_eq_some_iff.1 hr
      obtain ⟨e14, e15, e16⟩ := ix_some q17
      try simp only [Int.toNat_natCast, Int.toNat_zero, Int.reduceToNat] at e15
      clear q17
      obtain ⟨y18, q22, hr⟩ := Option.bind_eq_some_iff.1 hr
      obtain ⟨e19, e20, e21⟩ := ix_some q22
      try simp only [Int.toNat_natCast, Int.toNat_zero, Int.reduceToNat] at e20
      clear q22
      obtain ⟨r23, q25, hr⟩ := Option.bind_eq_some_iff.1 hr
      have e24 : ∀ H ng, gcall (shOf F) cl false n_impl_timeOf [.fs (jobs_.map impl_Job.cells), .int .i64 set_] H ng = some (.int .i64 r23, H, ng, .inert) := fun H ng => call_far s_impl_timeOf rfl (K_impl_timeOf _ _ _ q25).ret
      obtain ⟨r26, q28, hr⟩ := Option.bind_eq_some_iff.1 hr
      have e27 : ∀ H ng, gcall (shOf F) cl false n_impl_add [.int .i64 y13, .agg [.int .i64 y18.Time, .int .i64 y18.Weight, .int .i64 y18.Release, .int .i64 y18.Due], .int .i64 r23, .int .i64 objective_, .bool false] H ng = some (.int .i64 r26, H, ng, .inert) := fun H ng => call_far s_impl_add rfl (K_impl_add _ _ _ _ _ _ q28).ret
      obtain ⟨y29, q33, hr⟩ := Option.bind_eq_some_iff.1 hr
      obtain ⟨e30, e31, e32⟩ := ix_some q33
      try simp only [Int.toNat_natCast, Int.toNat_zero, Int.reduceToNat] at e31
      clear q33
      by_cases h38 : r26 = y29
      · rw [if_pos h38] at hr
        have e36 : (r26 = y29) = True := eq_true h38
        clear h38
        obtain ⟨y39, q43, hr⟩ := Option.bind_eq_some_iff.1 hr
        obtain ⟨e40, e41, e42⟩ := ix_some q43
        try simp only [Int.toNat_natCast, Int.toNat_zero, Int.reduceToNat] at e41
        clear q43
        obtain ⟨l44, q49, hr⟩ := Option.bind_eq_some_iff.1 hr
        obtain ⟨_, _, e45, e46, _⟩ := put_some q49
        try simp only [Int.toNat_natCast, Int.toNat_zero, Int.reduceToNat] at e45
        have e47 : (out_.map (cI .i64)).set (Int.toNat k_) [.int .i64 y6] = l44.map (cI .i64) := by rw [← e45, List.map_set] <;> rfl
        replace e46 : Keep (out_.length = l44.length) := e46
        clear e45 q49
        by_cases h51 : 0 ≤ y6
        · rw [if_pos h51] at hr
          have e50 : binI .shl .i64 1 .i64 y6 = some (.int .i64 (shlK .i64 1 y6)) := bi_shl _ _ _ _ h51
          clear h51
          have hr_ := Option.some.inj hr; subst hr_
          refine turn (by
            simp only [c_impl_SetOrder_l1, evA, evB, Int.reduceToNat, eq_self, reduceCtorEq, ↓reduceIte, Nat.reduceEqDiff, Nat.reduceAdd, Nat.reduceLT, Nat.reduceLeDiff, Nat.reduceMul, Nat.reduceSub, Nat.reduceBEq, spec_l1Cur.cells, rz_spec_l1Cur, pr_spec_l1Cur, impl_Job.cells, rz_impl_Job, pr_impl_Job, spec_l2Search.cells, rz_spec_l2Search, pr_spec_l2Search, *]
            rfl) ?_
          exact ⟨by simp, rfl, _, rfl, rfl, rfl, (congrArg (fun n_ => V.os 0 g0 1 0 n_) e46), rfl, rfl, rfl⟩
        · rw [if_neg h51] at hr
          clear h51
          exact nomatch hr
      · rw [if_neg h38] at hr
        have e37 : (r26 = y29) = False := eq_false h38
        clear h38
        have hr_ := Option.some.inj hr; subst hr_
        refine turn (by
          simp only [c_impl_SetOrder_l1, evA, evB, Int.reduceToNat, eq_self, reduceCtorEq, ↓reduceIte, Nat.reduceEqDiff, Nat.reduceAdd, Nat.reduceLT, Nat.reduceLeDiff, Nat.reduceMul, Nat.reduceSub, Nat.reduceBEq, spec_l1Cur.cells, rz_spec_l1Cur, pr_spec_l1Cur, impl_Job.cells, rz_impl_Job, pr_impl_Job, spec_l2Search.cells, rz_spec_l2Search, pr_spec_l2Search, *]
          rfl) ?_
        exact ⟨rfl, _, rfl, rfl, rfl, rfl, rfl, rfl, rfl, rfl, rfl, rfl⟩
    · rw [if_neg h12] at hr
      clear h12
      exact nomatch hr
  · rw [if_neg h5] at hr
    have e4 : (vz2 < vz1) = False := eq_false h5
    clear h5
    have hr_ := Option.some.inj hr; subst hr_
    refine turn (by
      simp only [c_impl_SetOrder_l1, evA, evB, Int.reduceToNat, eq_self, reduceCtorEq, ↓reduceIte, Nat.reduceEqDiff, Nat.reduceAdd, Nat.reduceLT, Nat.reduceLeDiff, Nat.reduceMul, Nat.reduceSub, Nat.reduceBEq, spec_l1Cur.cells, rz_spec_l1Cur, pr_spec_l1Cur, impl_Job.cells, rz_impl_Job, pr_impl_Job, spec_l2Search.cells, rz_spec_l2Search, pr_spec_l2Search, *]
      rfl) ?_
    exact ⟨by simp, rfl, _, rfl, rfl, rfl, rfl, rfl, rfl, rfl⟩

theorem lp_impl_SetOrder_l1 {cl : Callee} (K_impl_IsPlain : K_impl_IsPlain x_impl_IsPlain (cl n_impl_IsPlain)) (K_impl_isSumObjective : K_impl_isSumObjective x_impl_isSumObjective (cl n_impl_isSumObjective)) (K_impl_setValues : K_impl_setValues x_impl_setValues (cl n_impl_setValues)) (K_impl_listOf : K_impl_listOf x_impl_listOf (cl n_impl_listOf)) (K_impl_add : K_impl_add x_impl_add (cl n_impl_add)) (K_impl_timeOf : K_impl_timeOf x_impl_timeOf (cl n_impl_timeOf)) (jobs_ : (List impl_Job)) (objective_ : Int) (values_ : (List Int)) (k_ : Int) (v : (List Int)) (vz1 : Int) (st_ : ((List Int) × Int × Int)) (p_ : ((List Int) × Int)) (hr : loopS (x_impl_SetOrder_l1 jobs_ objective_ values_ k_ v vz1) LL st_ = some p_) (T_ : Tm) (H_ : List Blk) (ng : Nat) (hR_ : R_impl_SetOrder_l1 jobs_ objective_ values_ k_ v vz1 st_ T_ H_) (hn_ : H_.length = 1) :
    ∃ e_ T1_ H1_ ng1_, gcode (shOf F) cl LL (.loop false (some [0, 1, 6, 7, 8, 9, 38, 39, 40]) c_impl_SetOrder_l1) ⟨T_, H_, ng⟩ = some (e_, ⟨T1_, H1_, ng1_⟩) ∧ Q_impl_SetOrder_l1 jobs_ objective_ values_ k_ v vz1 p_ e_ T1_ H1_ :=
  sim_loop (n0 := 1) (R_impl_SetOrder_l1 jobs_ objective_ values_ k_ v vz1) (Q_impl_SetOrder_l1 jobs_ objective_ values_ k_ v vz1) (st_impl_SetOrder_l1 K_impl_IsPlain K_impl_isSumObjective K_impl_setValues K_impl_listOf K_impl_add K_impl_timeOf jobs_ objective_ values_ k_ v vz1) st_ p_ hr T_ H_ ng hR_ hn_

theorem st_impl_SetOrder_l0 {cl : Callee} (K_impl_IsPlain : K_impl_IsPlain x_impl_IsPlain (cl n_impl_IsPlain)) (K_impl_isSumObjective : K_impl_isSumObjective x_impl_isSumObjective (cl n_impl_isSumObjective)) (K_impl_setValues : K_impl_setValues x_impl_setValues (cl n_impl_setValues)) (K_impl_listOf : K_impl_listOf x_impl_listOf (cl n_impl_listOf)) (K_impl_add : K_impl_add x_impl_add (cl n_impl_add)) (K_impl_timeOf : K_impl_timeOf x_impl_timeOf (cl n_impl_timeOf)) (jobs_ : (List impl_Job)) (objective_ : Int) (values_ : (List Int)) (st_ : ((List Int) × Int × Int)) (c_ : Ctl ((List Int) × Int × Int) ((List Int))) (hr : x_impl_SetOrder_l0 jobs_ objective_ values_ st_ = some c_) (T_ : Tm) (H_ : List Blk) (ng : Nat) (hR_ : R_impl_SetOrder_l0 jobs_ objective_ values_ st_ T_ H_) :
    ∃ e_ T1_ H1_ ng1_, gcode (shOf F) cl LL c_impl_SetOrder_l0 ⟨maskT (some [0, 1, 6, 7, 8, 9]) T_, H_, ng⟩ = some (e_, ⟨T1_, H1_, ng1_⟩) ∧ TurnOK (R_impl_SetOrder_l0 jobs_ objective_ values_) (Q_impl_SetOrder_l0 jobs_ objective_ values_) 1 c_ e_ T1_ H1_ := by
  obtain ⟨out_, set_, k_⟩ := st_
  obtain ⟨g0, f0_, f1_, f2_, f3_, f4_, f5_, rfl⟩ := hR_
  unfold x_impl_SetOrder_l0 at hr
  try dsimp only at hr
  by_cases h5 : 0 ≤ k_
  · rw [if_pos h5] at hr
    have e3 : (0 ≤ k_) = True := eq_true h5
    clear h5
    obtain ⟨r6, q8, hr⟩ := Option.bind_eq_some_iff.1 hr
    have e7 : ∀ H ng, gcall (shOf F) cl false n_impl_listOf [.int .i64 set_] H ng = some (.fs (r6.map (cI .i64)), H, ng, .inert) := fun H ng => call_far s_impl_listOf rfl (K_impl_listOf _ _ q8).retF.ret
    obtain ⟨p9, q24, hr⟩ := Option.bind_eq_some_iff.1 hr
    obtain ⟨ex15, T12, H13, ng14, l11, m10⟩ := lp_impl_SetOrder_l1 (cl := cl) K_impl_IsPlain K_impl_isSumObjective K_impl_setValues K_impl_listOf K_impl_add K_impl_timeOf  jobs_ objective_ values_ k_ r6 (r6.length : Int) _ _ q24 [(0, .fs (jobs_.map impl_Job.cells)), (1, .int .i64 objective_), (6, .fs (values_.map (cI .i64))), (7, .os 0 g0 1 0 out_.length), (8, .int .i64 set_), (9, .int .i64 k_), (38, .fs (r6.map (cI .i64))), (39, .int .i64 (r6.length : Int)), (40, .int .i64 0)] [(Blk.mk g0 false 1 (out_.map (cI .i64)))] ng (show R_impl_SetOrder_l1 jobs_ objective_ values_ k_ r6 (r6.length : Int) (out_, set_, 0) [(0, .fs (jobs_.map impl_Job.cells)), (1, .int .i64 objective_), (6, .fs (values_.map (cI .i64))), (7, .os 0 g0 1 0 out_.length), (8, .int .i64 set_), (9, .int .i64 k_), (38, .fs (r6.map (cI .i64))), (39, .int .i64 (r6.length : Int)), (40, .int .i64 0)] [(Blk.mk g0 false 1 (out_.map (cI .i64)))] from ⟨_, rfl, rfl, rfl, rfl, rfl, rfl, rfl, rfl, rfl, rfl⟩) rfl
    obtain ⟨rfl, g16, e17, e18, e19, e20, e21, e22, e23⟩ := m10
    subst e23
    have hr_ := Option.some.inj hr; subst hr_
    refine turn (by
      simp only [c_impl_SetOrder_l0, evA, evB, Int.reduceToNat, eq_self, reduceCtorEq, ↓reduceIte, Nat.reduceEqDiff, Nat.reduceAdd, Nat.reduceLT, Nat.reduceLeDiff, Nat.reduceMul, Nat.reduceSub, Nat.reduceBEq, spec_l1Cur.cells, rz_spec_l1Cur, pr_spec_l1Cur, impl_Job.cells, rz_impl_Job, pr_impl_Job, spec_l2Search.cells, rz_spec_l2Search, pr_spec_l2Search, *]
      rfl) ?_
    exact ⟨rfl, _, rfl, rfl, rfl, rfl, rfl, rfl, rfl⟩
  · rw [if_neg h5] at hr
    have e4 : (0 ≤ k_) = False := eq_false h5
    clear h5
    have hr_ := Option.some.inj hr; subst hr_
    refine turn (by
      simp only [c_impl_SetOrder_l0, evA, evB, Int.reduceToNat, eq_self, reduceCtorEq, ↓reduceIte, Nat.reduceEqDiff, Nat.reduceAdd, Nat.reduceLT, Nat.reduceLeDiff, Nat.reduceMul, Nat.reduceSub, Nat.reduceBEq, spec_l1Cur.cells, rz_spec_l1Cur, pr_spec_l1Cur, impl_Job.cells, rz_impl_Job, pr_impl_Job, spec_l2Search.cells, rz_spec_l2Search, pr_spec_l2Search, *]
      rfl) ?_
    exact ⟨by simp, rfl, _, rfl, rfl⟩

theorem lp_impl_SetOrder_l0 {cl : Callee} (K_impl_IsPlain : K_impl_IsPlain x_impl_IsPlain (cl n_impl_IsPlain)) (K_impl_isSumObjective : K_impl_isSumObjective x_impl_isSumObjective (cl n_impl_isSumObjective)) (K_impl_setValues : K_impl_setValues x_impl_setValues (cl n_impl_setValues)) (K_impl_listOf : K_impl_listOf x_impl_listOf (cl n_impl_listOf)) (K_impl_add : K_impl_add x_impl_add (cl n_impl_add)) (K_impl_timeOf : K_impl_timeOf x_impl_timeOf (cl n_impl_timeOf)) (jobs_ : (List impl_Job)) (objective_ : Int) (values_ : (List Int)) (st_ : ((List Int) × Int × Int)) (p_ : ((List Int))) (hr : loopS (x_impl_SetOrder_l0 jobs_ objective_ values_) LL st_ = some p_) (T_ : Tm) (H_ : List Blk) (ng : Nat) (hR_ : R_impl_SetOrder_l0 jobs_ objective_ values_ st_ T_ H_) (hn_ : H_.length = 1) :
    ∃ e_ T1_ H1_ ng1_, gcode (shOf F) cl LL (.loop false (some [0, 1, 6, 7, 8, 9]) c_impl_SetOrder_l0) ⟨T_, H_, ng⟩ = some (e_, ⟨T1_, H1_, ng1_⟩) ∧ Q_impl_SetOrder_l0 jobs_ objective_ values_ p_ e_ T1_ H1_ :=
  sim_loop (n0 := 1) (R_impl_SetOrder_l0 jobs_ objective_ values_) (Q_impl_SetOrder_l0 jobs_ objective_ values_) (st_impl_SetOrder_l0 K_impl_IsPlain K_impl_isSumObjective K_impl_setValues K_impl_listOf K_impl_add K_impl_timeOf jobs_ objective_ values_) st_ p_ hr T_ H_ ng hR_ hn_

theorem ok_impl_SetOrder {cl : Callee} (K_impl_IsPlain : K_impl_IsPlain x_impl_IsPlain (cl n_impl_IsPlain)) (K_impl_isSumObjective : K_impl_isSumObjective x_impl_isSumObjective (cl n_impl_isSumObjective)) (K_impl_setValues : K_impl_setValues x_impl_setValues (cl n_impl_setValues)) (K_impl_listOf : K_impl_listOf x_impl_listOf (cl n_impl_listOf)) (K_impl_add : K_impl_add x_impl_add (cl n_impl_add)) (K_impl_timeOf : K_impl_timeOf x_impl_timeOf (cl n_impl_timeOf)) : K_impl_SetOrder (x_impl_SetOrder) (gbody F LL cl c_impl_SetOrder) := by
  intro jobs_ objective_ r hr
  unfold x_impl_SetOrder at hr
  try dsimp only at hr
  obtain ⟨r1, q3, hr⟩ := Option.bind_eq_some_iff.1 hr
  have e2 : ∀ H ng, gcall (shOf F) cl false n_impl_IsPlain [.fs (jobs_.map impl_Job.cells)] H ng = some (.bool r1, H, ng, .inert) := fun H ng => call_far s_impl_IsPlain rfl (K_impl_IsPlain _ _ q3).ret
  by_cases h6 : r1 = true
  · rw [if_pos h6] at hr
    have e4 : r1 = true := h6
    clear h6
    obtain ⟨r7, q9, hr⟩ := Option.bind_eq_some_iff.1 hr
    have e8 : ∀ H ng, gcall (shOf F) cl false n_impl_isSumObjective [.int .i64 objective_] H ng = some (.bool r7, H, ng, .inert) := fun H ng => call_far s_impl_isSumObjective rfl (K_impl_isSumObjective _ _ q9).ret
    by_cases h12 : r7 = true
    · rw [if_pos h12] at hr
      have e10 : r7 = true := h12
      clear h12
      obtain ⟨r13, q15, hr⟩ := Option.bind_eq_some_iff.1 hr
      have e14 : ∀ H ng, gcall (shOf F) cl false n_impl_setValues [.fs (jobs_.map impl_Job.cells), .int .i64 objective_, .int .i64 0] H ng = some (.fs (r13.map (cI .i64)), H, ng, .inert) := fun H ng => call_far s_impl_setValues rfl (K_impl_setValues _ _ _ _ q15).retF.ret
      obtain ⟨y16, q24, hr⟩ := Option.bind_eq_some_iff.1 hr
      obtain ⟨e17, e18, e19, e20, e21⟩ := mk_some q24
      try simp only [Int.toNat_natCast] at e20 e21
      have e22 : List.replicate jobs_.length [.int .i64 0] = y16.map (cI .i64) := by rw [← e20, List.map_replicate] <;> rfl
      have e23 : Keep (jobs_.length = y16.length) := e21.symm
      clear e20 e21 q24
      have e37 : binI .shl .i64 1 .i64 (jobs_.length : Int) = some (.int .i64 (shlK .i64 1 (jobs_.length : Int))) := bi_shl _ _ _ _ (Int.natCast_nonneg _)
      obtain ⟨p25, q36, hr⟩ := Option.bind_eq_some_iff.1 hr
      obtain ⟨ex31, T28, H29, ng30, l27, m26⟩ := lp_impl_SetOrder_l0 (cl := cl) K_impl_IsPlain K_impl_isSumObjective K_impl_setValues K_impl_listOf K_impl_add K_impl_timeOf  jobs_ objective_ r13 _ _ q36 [(0, .fs (jobs_.map impl_Job.cells)), (1, .int .i64 objective_), (6, .fs (r13.map (cI .i64))), (7, .os 0 0 1 0 jobs_.length), (8, .int .i64 (subK .i64 (shlK .i64 1 (jobs_.length : Int)) 1)), (9, .int .i64 (subK .i64 (jobs_.length : Int) 1))] [(Blk.mk 0 false 1 (y16.map (cI .i64)))] 1 (show R_impl_SetOrder_l0 jobs_ objective_ r13 (y16, (subK .i64 (shlK .i64 1 (jobs_.length : Int)) 1), (subK .i64 (jobs_.length : Int) 1)) [(0, .fs (jobs_.map impl_Job.cells)), (1, .int .i64 objective_), (6, .fs (r13.map (cI .i64))), (7, .os 0 0 1 0 jobs_.length), (8, .int .i64 (subK .i64 (shlK .i64 1 (jobs_.length : Int)) 1)), (9, .int .i64 (subK .i64 (jobs_.length : Int) 1))] [(Blk.mk 0 false 1 (y16.map (cI .i64)))] from ⟨_, rfl, rfl, rfl, (congrArg (fun n_ => V.os 0 0 1 0 n_) e23), rfl, rfl, rfl⟩) rfl
      obtain ⟨rfl, g32, e33, e34⟩ := m26
      subst e34
      have hr_ := Option.some.inj hr; subst hr_
      refine ⟨.tup [.os 0 g32 1 0 p25.length, .bool true], [(Blk.mk g32 false 1 (p25.map (cI .i64)))], ng30, ?_, ?_, ?_⟩
      · simp only [c_impl_SetOrder, evA, evB, Int.reduceToNat, eq_self, reduceCtorEq, ↓reduceIte, Nat.reduceEqDiff, Nat.reduceAdd, Nat.reduceLT, Nat.reduceLeDiff, Nat.reduceMul, Nat.reduceSub, Nat.reduceBEq, spec_l1Cur.cells, rz_spec_l1Cur, pr_spec_l1Cur, impl_Job.cells, rz_impl_Job, pr_impl_Job, spec_l2Search.cells, rz_spec_l2Search, pr_spec_l2Search, *]
      · simp [freshV, freshV.freshTs, freshC, freshCs, hget, hp, sc_cI, sc_cB, sc_impl_Job]
      · intro H0_ ng0_
        have x35 : expC (hp [(Blk.mk g32 false 1 (p25.map (cI .i64)))]) 0 expDepth (.os 0 g32 1 0 p25.length) = some (.fs (p25.map (cI .i64))) := (exp_win (b := (Blk.mk g32 false 1 (p25.map (cI .i64)))) (by simp) (by simp [hget, hp]) (by simp) (pr_cI _ _)).trans (by simp [take_map_len])
        simp [outR, outV, outVs, outC, outCs, x35]
    · rw [if_neg h12] at hr
      have e11 : r7 = false := Bool.eq_false_iff.2 h12
      clear h12
      have hr_ := Option.some.inj hr; subst hr_
      refine RetF.scal (by
        simp only [c_impl_SetOrder, evA, evB, Int.reduceToNat, eq_self, reduceCtorEq, ↓reduceIte, Nat.reduceEqDiff, Nat.reduceAdd, Nat.reduceLT, Nat.reduceLeDiff, Nat.reduceMul, Nat.reduceSub, Nat.reduceBEq, spec_l1Cur.cells, rz_spec_l1Cur, pr_spec_l1Cur, impl_Job.cells, rz_impl_Job, pr_impl_Job, spec_l2Search.cells, rz_spec_l2Search, pr_spec_l2Search, *]
        rfl) rfl rfl
  · rw [if_neg h6] at hr
    have e5 : r1 = false := Bool.eq_false_iff.2 h6
    clear h6
    have hr_ := Option.some.inj hr; subst hr_
    refine RetF.scal (by
      simp only [c_impl_SetOrder, evA, evB, Int.reduceToNat, eq_self, reduceCtorEq, ↓reduceIte, Nat.reduceEqDiff, Nat.reduceAdd, Nat.reduceLT, Nat.reduceLeDiff, Nat.reduceMul, Nat.reduceSub, Nat.reduceBEq, spec_l1Cur.cells, rz_spec_l1Cur, pr_spec_l1Cur, impl_Job.cells, rz_impl_Job, pr_impl_Job, spec_l2Search.cells, rz_spec_l2Search, pr_spec_l2Search, *]
      rfl) rfl rfl

end Gh
