/- The ghost answers as the shallow functions do, part 2. Written by program. -/
import Derived.Test.YtmjdjnphjpcfcaaSa
namespace Gh
open Go
set_option linter.unusedSimpArgs false
set_option linter.unusedVariables false
set_option maxRecDepth 100000
set_option maxHeartbeats 20000000

theorem st_spec_SetOrder_l1 {cl : Callee} (K_spec_l6Good : K_spec_l6Good x_spec_l6Good (cl n_spec_l6Good)) (K_spec_l6Sum : K_spec_l6Sum x_spec_l6Sum (cl n_spec_l6Sum)) (K_spec_l6Values : K_spec_l6Values x_spec_l6Values (cl n_spec_l6Values)) (K_spec_l6Last : K_spec_l6Last x_spec_l6Last (cl n_spec_l6Last)) (jobs_ : (List impl_Job)) (objective_ : Int) (out_ : (List Int)) (values_ : (List Int)) (code_ : Int) (st_ : (Int)) (c_ : Ctl (Int) (Int)) (hr : x_spec_SetOrder_l1 jobs_ objective_ out_ values_ code_ st_ = some c_) (T_ : Tm) (H_ : List Blk) (ng : Nat) (hR_ : R_spec_SetOrder_l1 jobs_ objective_ out_ values_ code_ st_ T_ H_) :
    ∃ e_ T1_ H1_ ng1_, gcode (shOf F) cl LL c_spec_SetOrder_l1 ⟨maskT (some [0, 1, 6, 7, 8, 9]) T_, H_, ng⟩ = some (e_, ⟨T1_, H1_, ng1_⟩) ∧ TurnOK (R_spec_SetOrder_l1 jobs_ objective_ out_ values_ code_) (Q_spec_SetOrder_l1 jobs_ objective_ out_ values_ code_) 0 c_ e_ T1_ H1_ := by
  obtain ⟨i_, hst_⟩ : ∃ x, x = st_ := ⟨_, rfl⟩; subst hst_
  obtain ⟨f0_, f1_, f2_, f3_, f4_, f5_, rfl⟩ := hR_
  unfold x_spec_SetOrder_l1 at hr
  try dsimp only at hr
  by_cases h2 : 0 ≤ i_
  · rw [if_pos h2] at hr
    have e1 : binI .shr .i64 code_ .i64 i_ = some (.int .i64 (shrK .i64 code_ i_)) := bi_shr _ _ _ _ h2
    clear h2
    by_cases h7 : (andK .i64 (shrK .i64 code_ i_) 1) = 0
    · rw [if_pos h7] at hr
      have e5 : ((andK .i64 (shrK .i64 code_ i_) 1) = 0) = True := eq_true h7
      clear h7
      have hr_ := Option.some.inj hr; subst hr_
      refine turn (by
        simp only [c_spec_SetOrder_l1, evA, evB, Int.reduceToNat, eq_self, reduceCtorEq, ↓reduceIte, Nat.reduceEqDiff, Nat.reduceAdd, Nat.reduceLT, Nat.reduceLeDiff, Nat.reduceMul, Nat.reduceSub, Nat.reduceBEq, spec_l1Cur.cells, rz_spec_l1Cur, pr_spec_l1Cur, impl_Job.cells, rz_impl_Job, pr_impl_Job, spec_l2Search.cells, rz_spec_l2Search, pr_spec_l2Search, *]
        rfl) ?_
      exact ⟨rfl, rfl, rfl, rfl, rfl, rfl, rfl, rfl⟩
    · rw [if_neg h7] at hr
      have e6 : ((andK .i64 (shrK .i64 code_ i_) 1) = 0) = False := eq_false h7
      clear h7
      obtain ⟨r8, q10, hr⟩ := Option.bind_eq_some_iff.1 hr
      have e9 : ∀ H ng, gcall (shOf F) cl false n_spec_l6Last [.fs (jobs_.map impl_Job.cells), .int .i64 objective_, .fs (values_.map (cI .i64)), .int .i64 code_, .int .i64 i_] H ng = some (.int .i64 r8, H, ng, .inert) := fun H ng => call_far s_spec_l6Last rfl (K_spec_l6Last _ _ _ _ _ _ q10).ret
      obtain ⟨y11, q15, hr⟩ := Option.bind_eq_some_iff.1 hr
      obtain ⟨e12, e13, e14⟩ := ix_some q15
      try simp only [Int.toNat_natCast, Int.toNat_zero, Int.reduceToNat] at e13
      clear q15
      by_cases h20 : r8 = y11
      · rw [if_pos h20] at hr
        have e18 : (r8 = y11) = True := eq_true h20
        clear h20
        have hr_ := Option.some.inj hr; subst hr_
        refine turn (by
          simp only [c_spec_SetOrder_l1, evA, evB, Int.reduceToNat, eq_self, reduceCtorEq, ↓reduceIte, Nat.reduceEqDiff, Nat.reduceAdd, Nat.reduceLT, Nat.reduceLeDiff, Nat.reduceMul, Nat.reduceSub, Nat.reduceBEq, spec_l1Cur.cells, rz_spec_l1Cur, pr_spec_l1Cur, impl_Job.cells, rz_impl_Job, pr_impl_Job, spec_l2Search.cells, rz_spec_l2Search, pr_spec_l2Search, *]
          rfl) ?_
        exact ⟨by simp, rfl, rfl, rfl, rfl, rfl, rfl, rfl, rfl⟩
      · rw [if_neg h20] at hr
        have e19 : (r8 = y11) = False := eq_false h20
        clear h20
        have hr_ := Option.some.inj hr; subst hr_
        refine turn (by
          simp only [c_spec_SetOrder_l1, evA, evB, Int.reduceToNat, eq_self, reduceCtorEq, ↓reduceIte, Nat.reduceEqDiff, Nat.reduceAdd, Nat.reduceLT, Nat.reduceLeDiff, Nat.reduceMul, Nat.reduceSub, Nat.reduceBEq, spec_l1Cur.cells, rz_spec_l1Cur, pr_spec_l1Cur, impl_Job.cells, rz_impl_Job, pr_impl_Job, spec_l2Search.cells, rz_spec_l2Search, pr_spec_l2Search, *]
          rfl) ?_
        exact ⟨rfl, rfl, rfl, rfl, rfl, rfl, rfl, rfl⟩
  · rw [if_neg h2] at hr
    clear h2
    exact nomatch hr

theorem lp_spec_SetOrder_l1 {cl : Callee} (K_spec_l6Good : K_spec_l6Good x_spec_l6Good (cl n_spec_l6Good)) (K_spec_l6Sum : K_spec_l6Sum x_spec_l6Sum (cl n_spec_l6Sum)) (K_spec_l6Values : K_spec_l6Values x_spec_l6Values (cl n_spec_l6Values)) (K_spec_l6Last : K_spec_l6Last x_spec_l6Last (cl n_spec_l6Last)) (jobs_ : (List impl_Job)) (objective_ : Int) (out_ : (List Int)) (values_ : (List Int)) (code_ : Int) (st_ : (Int)) (p_ : (Int)) (hr : loopS (x_spec_SetOrder_l1 jobs_ objective_ out_ values_ code_) LL st_ = some p_) (T_ : Tm) (H_ : List Blk) (ng : Nat) (hR_ : R_spec_SetOrder_l1 jobs_ objective_ out_ values_ code_ st_ T_ H_) (hn_ : H_.length = 0) :
    ∃ e_ T1_ H1_ ng1_, gcode (shOf F) cl LL (.loop false (some [0, 1, 6, 7, 8, 9]) c_spec_SetOrder_l1) ⟨T_, H_, ng⟩ = some (e_, ⟨T1_, H1_, ng1_⟩) ∧ Q_spec_SetOrder_l1 jobs_ objective_ out_ values_ code_ p_ e_ T1_ H1_ :=
  sim_loop (n0 := 0) (R_spec_SetOrder_l1 jobs_ objective_ out_ values_ code_) (Q_spec_SetOrder_l1 jobs_ objective_ out_ values_ code_) (st_spec_SetOrder_l1 K_spec_l6Good K_spec_l6Sum K_spec_l6Values K_spec_l6Last jobs_ objective_ out_ values_ code_) st_ p_ hr T_ H_ ng hR_ hn_

theorem st_spec_SetOrder_l0 {cl : Callee} (K_spec_l6Good : K_spec_l6Good x_spec_l6Good (cl n_spec_l6Good)) (K_spec_l6Sum : K_spec_l6Sum x_spec_l6Sum (cl n_spec_l6Sum)) (K_spec_l6Values : K_spec_l6Values x_spec_l6Values (cl n_spec_l6Values)) (K_spec_l6Last : K_spec_l6Last x_spec_l6Last (cl n_spec_l6Last)) (jobs_ : (List impl_Job)) (objective_ : Int) (values_ : (List Int)) (st_ : ((List Int) × Int)) (c_ : Ctl ((List Int) × Int) ((List Int))) (hr : x_spec_SetOrder_l0 jobs_ objective_ values_ st_ = some c_) (T_ : Tm) (H_ : List Blk) (ng : Nat) (hR_ : R_spec_SetOrder_l0 jobs_ objective_ values_ st_ T_ H_) :
    ∃ e_ T1_ H1_ ng1_, gcode (shOf F) cl LL c_spec_SetOrder_l0 ⟨maskT (some [0, 1, 6, 7, 8]) T_, H_, ng⟩ = some (e_, ⟨T1_, H1_, ng1_⟩) ∧ TurnOK (R_spec_SetOrder_l0 jobs_ objective_ values_) (Q_spec_SetOrder_l0 jobs_ objective_ values_) 0 c_ e_ T1_ H1_ := by
  obtain ⟨out_, code_⟩ := st_
  obtain ⟨f0_, f1_, f2_, f3_, f4_, rfl⟩ := hR_
  unfold x_spec_SetOrder_l0 at hr
  try dsimp only at hr
  by_cases h5 : 0 < code_
  · rw [if_pos h5] at hr
    have e3 : (0 < code_) = True := eq_true h5
    clear h5
    obtain ⟨p6, q31, hr⟩ := Option.bind_eq_some_iff.1 hr
    obtain ⟨ex12, T9, H10, ng11, l8, m7⟩ := lp_spec_SetOrder_l1 (cl := cl) K_spec_l6Good K_spec_l6Sum K_spec_l6Values K_spec_l6Last  jobs_ objective_ out_ values_ code_ _ _ q31 [(0, .fs (jobs_.map impl_Job.cells)), (1, .int .i64 objective_), (6, .fs (out_.map (cI .i64))), (7, .fs (values_.map (cI .i64))), (8, .int .i64 code_), (9, .int .i64 0)] [] ng (show R_spec_SetOrder_l1 jobs_ objective_ out_ values_ code_ 0 [(0, .fs (jobs_.map impl_Job.cells)), (1, .int .i64 objective_), (6, .fs (out_.map (cI .i64))), (7, .fs (values_.map (cI .i64))), (8, .int .i64 code_), (9, .int .i64 0)] [] from ⟨rfl, rfl, rfl, rfl, rfl, rfl, rfl⟩) rfl
    obtain ⟨rfl, e13, e14, e15, e16, e17, e18, e19⟩ := m7
    subst e19
    obtain ⟨l20, q28, hr⟩ := Option.bind_eq_some_iff.1 hr
    obtain ⟨e21, e22, e23, e24⟩ := app_some q28
    simp only [List.length_cons, List.length_nil, Nat.zero_add, Nat.reduceAdd] at e21 e22 e24
    have e25 : [.int .i64 p6] :: (out_.map (cI .i64)) = l20.map (cI .i64) := by rw [← e23, List.map_append] <;> rfl
    have e26 := e21
    have e27 := e22
    rw [e24] at e26 e27
    clear e23 q28
    by_cases h30 : 0 ≤ p6
    · rw [if_pos h30] at hr
      have e29 : binI .shl .i64 1 .i64 p6 = some (.int .i64 (shlK .i64 1 p6)) := bi_shl _ _ _ _ h30
      clear h30
      have hr_ := Option.some.inj hr; subst hr_
      refine turn (by
        simp only [c_spec_SetOrder_l0, evA, evB, Int.reduceToNat, eq_self, reduceCtorEq, ↓reduceIte, Nat.reduceEqDiff, Nat.reduceAdd, Nat.reduceLT, Nat.reduceLeDiff, Nat.reduceMul, Nat.reduceSub, Nat.reduceBEq, spec_l1Cur.cells, rz_spec_l1Cur, pr_spec_l1Cur, impl_Job.cells, rz_impl_Job, pr_impl_Job, spec_l2Search.cells, rz_spec_l2Search, pr_spec_l2Search, *]
        rfl) ?_
      exact ⟨rfl, rfl, rfl, rfl, rfl, rfl, rfl⟩
    · rw [if_neg h30] at hr
      clear h30
      exact nomatch hr
  · rw [if_neg h5] at hr
    have e4 : (0 < code_) = False := eq_false h5
    clear h5
    have hr_ := Option.some.inj hr; subst hr_
    refine turn (by
      simp only [c_spec_SetOrder_l0, evA, evB, Int.reduceToNat, eq_self, reduceCtorEq, ↓reduceIte, Nat.reduceEqDiff, Nat.reduceAdd, Nat.reduceLT, Nat.reduceLeDiff, Nat.reduceMul, Nat.reduceSub, Nat.reduceBEq, spec_l1Cur.cells, rz_spec_l1Cur, pr_spec_l1Cur, impl_Job.cells, rz_impl_Job, pr_impl_Job, spec_l2Search.cells, rz_spec_l2Search, pr_spec_l2Search, *]
      rfl) ?_
    exact ⟨by simp, rfl, rfl, rfl⟩

theorem lp_spec_SetOrder_l0 {cl : Callee} (K_spec_l6Good : K_spec_l6Good x_spec_l6Good (cl n_spec_l6Good)) (K_spec_l6Sum : K_spec_l6Sum x_spec_l6Sum (cl n_spec_l6Sum)) (K_spec_l6Values : K_spec_l6Values x_spec_l6Values (cl n_spec_l6Values)) (K_spec_l6Last : K_spec_l6Last x_spec_l6Last (cl n_spec_l6Last)) (jobs_ : (List impl_Job)) (objective_ : Int) (values_ : (List Int)) (st_ : ((List Int) × Int)) (p_ : ((List Int))) (hr : loopS (x_spec_SetOrder_l0 jobs_ objective_ values_) LL st_ = some p_) (T_ : Tm) (H_ : List Blk) (ng : Nat) (hR_ : R_spec_SetOrder_l0 jobs_ objective_ values_ st_ T_ H_) (hn_ : H_.length = 0) :
    ∃ e_ T1_ H1_ ng1_, gcode (shOf F) cl LL (.loop false (some [0, 1, 6, 7, 8]) c_spec_SetOrder_l0) ⟨T_, H_, ng⟩ = some (e_, ⟨T1_, H1_, ng1_⟩) ∧ Q_spec_SetOrder_l0 jobs_ objective_ values_ p_ e_ T1_ H1_ :=
  sim_loop (n0 := 0) (R_spec_SetOrder_l0 jobs_ objective_ values_) (Q_spec_SetOrder_l0 jobs_ objective_ values_) (st_spec_SetOrder_l0 K_spec_l6Good K_spec_l6Sum K_spec_l6Values K_spec_l6Last jobs_ objective_ values_) st_ p_ hr T_ H_ ng hR_ hn_

theorem ok_spec_SetOrder {cl : Callee} (K_spec_l6Good : K_spec_l6Good x_spec_l6Good (cl n_spec_l6Good)) (K_spec_l6Sum : K_spec_l6Sum x_spec_l6Sum (cl n_spec_l6Sum)) (K_spec_l6Values : K_spec_l6Values x_spec_l6Values (cl n_spec_l6Values)) (K_spec_l6Last : K_spec_l6Last x_spec_l6Last (cl n_spec_l6Last)) : K_spec_SetOrder (x_spec_SetOrder) (gbody F LL cl c_spec_SetOrder) := by
  intro jobs_ objective_ r hr
  unfold x_spec_SetOrder at hr
  try dsimp only at hr
  obtain ⟨r1, q3, hr⟩ := Option.bind_eq_some_iff.1 hr
  have e2 : ∀ H ng, gcall (shOf F) cl false n_spec_l6Good [.fs (jobs_.map impl_Job.cells)] H ng = some (.bool r1, H, ng, .inert) := fun H ng => call_far s_spec_l6Good rfl (K_spec_l6Good _ _ q3).ret
  by_cases h6 : r1 = true
  · rw [if_pos h6] at hr
    have e4 : r1 = true := h6
    clear h6
    obtain ⟨r7, q9, hr⟩ := Option.bind_eq_some_iff.1 hr
    have e8 : ∀ H ng, gcall (shOf F) cl false n_spec_l6Sum [.int .i64 objective_] H ng = some (.bool r7, H, ng, .inert) := fun H ng => call_far s_spec_l6Sum rfl (K_spec_l6Sum _ _ q9).ret
    by_cases h12 : r7 = true
    · rw [if_pos h12] at hr
      have e10 : r7 = true := h12
      clear h12
      obtain ⟨r13, q15, hr⟩ := Option.bind_eq_some_iff.1 hr
      have e14 : ∀ H ng, gcall (shOf F) cl false n_spec_l6Values [.fs (jobs_.map impl_Job.cells), .int .i64 objective_] H ng = some (.fs (r13.map (cI .i64)), H, ng, .inert) := fun H ng => call_far s_spec_l6Values rfl (K_spec_l6Values _ _ _ q15).retF.ret
      have e26 : binI .shl .i64 1 .i64 (jobs_.length : Int) = some (.int .i64 (shlK .i64 1 (jobs_.length : Int))) := bi_shl _ _ _ _ (Int.natCast_nonneg _)
      obtain ⟨p16, q25, hr⟩ := Option.bind_eq_some_iff.1 hr
      obtain ⟨ex22, T19, H20, ng21, l18, m17⟩ := lp_spec_SetOrder_l0 (cl := cl) K_spec_l6Good K_spec_l6Sum K_spec_l6Values K_spec_l6Last  jobs_ objective_ r13 _ _ q25 [(0, .fs (jobs_.map impl_Job.cells)), (1, .int .i64 objective_), (6, .fs []), (7, .fs (r13.map (cI .i64))), (8, .int .i64 (subK .i64 (shlK .i64 1 (jobs_.length : Int)) 1))] [] 0 (show R_spec_SetOrder_l0 jobs_ objective_ r13 (([] : List Int), (subK .i64 (shlK .i64 1 (jobs_.length : Int)) 1)) [(0, .fs (jobs_.map impl_Job.cells)), (1, .int .i64 objective_), (6, .fs []), (7, .fs (r13.map (cI .i64))), (8, .int .i64 (subK .i64 (shlK .i64 1 (jobs_.length : Int)) 1))] [] from ⟨rfl, rfl, rfl, rfl, rfl, rfl⟩) rfl
      obtain ⟨rfl, e23, e24⟩ := m17
      subst e24
      have hr_ := Option.some.inj hr; subst hr_
      refine Ret.flat (by
        simp only [c_spec_SetOrder, evA, evB, Int.reduceToNat, eq_self, reduceCtorEq, ↓reduceIte, Nat.reduceEqDiff, Nat.reduceAdd, Nat.reduceLT, Nat.reduceLeDiff, Nat.reduceMul, Nat.reduceSub, Nat.reduceBEq, spec_l1Cur.cells, rz_spec_l1Cur, pr_spec_l1Cur, impl_Job.cells, rz_impl_Job, pr_impl_Job, spec_l2Search.cells, rz_spec_l2Search, pr_spec_l2Search, *]
        rfl) rfl
    · rw [if_neg h12] at hr
      have e11 : r7 = false := Bool.eq_false_iff.2 h12
      clear h12
      have hr_ := Option.some.inj hr; subst hr_
      refine Ret.flat (by
        simp only [c_spec_SetOrder, evA, evB, Int.reduceToNat, eq_self, reduceCtorEq, ↓reduceIte, Nat.reduceEqDiff, Nat.reduceAdd, Nat.reduceLT, Nat.reduceLeDiff, Nat.reduceMul, Nat.reduceSub, Nat.reduceBEq, spec_l1Cur.cells, rz_spec_l1Cur, pr_spec_l1Cur, impl_Job.cells, rz_impl_Job, pr_impl_Job, spec_l2Search.cells, rz_spec_l2Search, pr_spec_l2Search, *]
        rfl) rfl
  · rw [if_neg h6] at hr
    have e5 : r1 = false := Bool.eq_false_iff.2 h6
    clear h6
    have hr_ := Option.some.inj hr; subst hr_
    refine Ret.flat (by
      simp only [c_spec_SetOrder, evA, evB, Int.reduceToNat, eq_self, reduceCtorEq, ↓reduceIte, Nat.reduceEqDiff, Nat.reduceAdd, Nat.reduceLT, Nat.reduceLeDiff, Nat.reduceMul, Nat.reduceSub, Nat.reduceBEq, spec_l1Cur.cells, rz_spec_l1Cur, pr_spec_l1Cur, impl_Job.cells, rz_impl_Job, pr_impl_Job, spec_l2Search.cells, rz_spec_l2Search, pr_spec_l2Search, *]
      rfl) rfl

theorem st_impl_totalOf_l0 {cl : Callee} (v : (List impl_Job)) (vz1 : Int) (st_ : (Int × Int)) (c_ : Ctl (Int × Int) (Int)) (hr : x_impl_totalOf_l0 v vz1 st_ = some c_) (T_ : Tm) (H_ : List Blk) (ng : Nat) (hR_ : R_impl_totalOf_l0 v vz1 st_ T_ H_) :
    ∃ e_ T1_ H1_ ng1_, gcode (shOf F) cl LL c_impl_totalOf_l0 ⟨maskT (some [3, 6, 7, 8]) T_, H_, ng⟩ = some (e_, ⟨T1_, H1_, ng1_⟩) ∧ TurnOK (R_impl_totalOf_l0 v vz1) (Q_impl_totalOf_l0 v vz1) 0 c_ e_ T1_ H1_ := by
  obtain ⟨total_, vz2⟩ := st_
  obtain ⟨f0_, f1_, f2_, f3_, rfl⟩ := hR_
  unfold x_impl_totalOf_l0 at hr
  try dsimp only at hr
  by_cases h5 : vz2 < vz1
  · rw [if_pos h5] at hr
    have e3 : (vz2 < vz1) = True := eq_true h5
    clear h5
    obtain ⟨y6, q10, hr⟩ := Option.bind_eq_some_iff.1 hr
    obtain ⟨e7, e8, e9⟩ := ix_some q10
    try simp only [Int.toNat_natCast, Int.toNat_zero, Int.reduceToNat] at e8
    clear q10
    have hr_ := Option.some.inj hr; subst hr_
    refine turn (by
      simp only [c_impl_totalOf_l0, evA, evB, Int.reduceToNat, eq_self, reduceCtorEq, ↓reduceIte, Nat.reduceEqDiff, Nat.reduceAdd, Nat.reduceLT, Nat.reduceLeDiff, Nat.reduceMul, Nat.reduceSub, Nat.reduceBEq, spec_l1Cur.cells, rz_spec_l1Cur, pr_spec_l1Cur, impl_Job.cells, rz_impl_Job, pr_impl_Job, spec_l2Search.cells, rz_spec_l2Search, pr_spec_l2Search, *]
      rfl) ?_
    exact ⟨rfl, rfl, rfl, rfl, rfl, rfl⟩
  · rw [if_neg h5] at hr
    have e4 : (vz2 < vz1) = False := eq_false h5
    clear h5
    have hr_ := Option.some.inj hr; subst hr_
    refine turn (by
      simp only [c_impl_totalOf_l0, evA, evB, Int.reduceToNat, eq_self, reduceCtorEq, ↓reduceIte, Nat.reduceEqDiff, Nat.reduceAdd, Nat.reduceLT, Nat.reduceLeDiff, Nat.reduceMul, Nat.reduceSub, Nat.reduceBEq, spec_l1Cur.cells, rz_spec_l1Cur, pr_spec_l1Cur, impl_Job.cells, rz_impl_Job, pr_impl_Job, spec_l2Search.cells, rz_spec_l2Search, pr_spec_l2Search, *]
      rfl) ?_
    exact ⟨by simp, rfl, rfl, rfl⟩

theorem lp_impl_totalOf_l0 {cl : Callee} (v : (List impl_Job)) (vz1 : Int) (st_ : (Int × Int)) (p_ : (Int)) (hr : loopS (x_impl_totalOf_l0 v vz1) LL st_ = some p_) (T_ : Tm) (H_ : List Blk) (ng : Nat) (hR_ : R_impl_totalOf_l0 v vz1 st_ T_ H_) (hn_ : H_.length = 0) :
    ∃ e_ T1_ H1_ ng1_, gcode (shOf F) cl LL (.loop false (some [3, 6, 7, 8]) c_impl_totalOf_l0) ⟨T_, H_, ng⟩ = some (e_, ⟨T1_, H1_, ng1_⟩) ∧ Q_impl_totalOf_l0 v vz1 p_ e_ T1_ H1_ :=
  sim_loop (n0 := 0) (R_impl_totalOf_l0 v vz1) (Q_impl_totalOf_l0 v vz1) (st_impl_totalOf_l0 v vz1) st_ p_ hr T_ H_ ng hR_ hn_

theorem ok_impl_totalOf {cl : Callee} : K_impl_totalOf (x_impl_totalOf) (gbody F LL cl c_impl_totalOf) := by
  intro jobs_ r hr
  unfold x_impl_totalOf at hr
  try dsimp only at hr
  obtain ⟨p1, q10, hr⟩ := Option.bind_eq_some_iff.1 hr
  obtain ⟨ex7, T4, H5, ng6, l3, m2⟩ := lp_impl_totalOf_l0 (cl := cl)  jobs_ (jobs_.length : Int) _ _ q10 [(3, .int .i64 0), (6, .fs (jobs_.map impl_Job.cells)), (7, .int .i64 (jobs_.length : Int)), (8, .int .i64 0)] [] 0 (show R_impl_totalOf_l0 jobs_ (jobs_.length : Int) (0, 0) [(3, .int .i64 0), (6, .fs (jobs_.map impl_Job.cells)), (7, .int .i64 (jobs_.length : Int)), (8, .int .i64 0)] [] from ⟨rfl, rfl, rfl, rfl, rfl⟩) rfl
  obtain ⟨rfl, e8, e9⟩ := m2
  subst e9
  have hr_ := Option.some.inj hr; subst hr_
  refine RetF.scal (by
    simp only [c_impl_totalOf, evA, evB, Int.reduceToNat, eq_self, reduceCtorEq, ↓reduceIte, Nat.reduceEqDiff, Nat.reduceAdd, Nat.reduceLT, Nat.reduceLeDiff, Nat.reduceMul, Nat.reduceSub, Nat.reduceBEq, spec_l1Cur.cells, rz_spec_l1Cur, pr_spec_l1Cur, impl_Job.cells, rz_impl_Job, pr_impl_Job, spec_l2Search.cells, rz_spec_l2Search, pr_spec_l2Search, *]
    rfl) rfl rfl

theorem ok_impl_TotalTime {cl : Callee} (K_impl_IsPlain : K_impl_IsPlain x_impl_IsPlain (cl n_impl_IsPlain)) (K_impl_totalOf : K_impl_totalOf x_impl_totalOf (cl n_impl_totalOf)) : K_impl_TotalTime (x_impl_TotalTime) (gbody F LL cl c_impl_TotalTime) := by
  intro jobs_ r hr
  unfold x_impl_TotalTime at hr
  try dsimp only at hr
  obtain ⟨r1, q3, hr⟩ := Option.bind_eq_some_iff.1 hr
  have e2 : ∀ H ng, gcall (shOf F) cl false n_impl_IsPlain [.fs (jobs_.map impl_Job.cells)] H ng = some (.bool r1, H, ng, .inert) := fun H ng => call_far s_impl_IsPlain rfl (K_impl_IsPlain _ _ q3).ret
  by_cases h6 : r1 = true
  · rw [if_pos h6] at hr
    have e4 : r1 = true := h6
    clear h6
    obtain ⟨r7, q9, hr⟩ := Option.bind_eq_some_iff.1 hr
    have e8 : ∀ H ng, gcall (shOf F) cl false n_impl_totalOf [.fs (jobs_.map impl_Job.cells)] H ng = some (.int .i64 r7, H, ng, .inert) := fun H ng => call_far s_impl_totalOf rfl (K_impl_totalOf _ _ q9).ret
    have hr_ := Option.some.inj hr; subst hr_
    refine RetF.scal (by
      simp only [c_impl_TotalTime, evA, evB, Int.reduceToNat, eq_self, reduceCtorEq, ↓reduceIte, Nat.reduceEqDiff, Nat.reduceAdd, Nat.reduceLT, Nat.reduceLeDiff, Nat.reduceMul, Nat.reduceSub, Nat.reduceBEq, spec_l1Cur.cells, rz_spec_l1Cur, pr_spec_l1Cur, impl_Job.cells, rz_impl_Job, pr_impl_Job, spec_l2Search.cells, rz_spec_l2Search, pr_spec_l2Search, *]
      rfl) rfl rfl
  · rw [if_neg h6] at hr
    have e5 : r1 = false := Bool.eq_false_iff.2 h6
    clear h6
    have hr_ := Option.some.inj hr; subst hr_
    refine RetF.scal (by
      simp only [c_impl_TotalTime, evA, evB, Int.reduceToNat, eq_self, reduceCtorEq, ↓reduceIte, Nat.reduceEqDiff, Nat.reduceAdd, Nat.reduceLT, Nat.reduceLeDiff, Nat.reduceMul, Nat.reduceSub, Nat.reduceBEq, spec_l1Cur.cells, rz_spec_l1Cur, pr_spec_l1Cur, impl_Job.cells, rz_impl_Job, pr_impl_Job, spec_l2Search.cells, rz_spec_l2Search, pr_spec_l2Search, *]
      rfl) rfl rfl

theorem st_spec_l2Times_l0 {cl : Callee} (jobs_ : (List impl_Job)) (st_ : (Int × Int)) (c_ : Ctl (Int × Int) (Int)) (hr : x_spec_l2Times_l0 jobs_ st_ = some c_) (T_ : Tm) (H_ : List Blk) (ng : Nat) (hR_ : R_spec_l2Times_l0 jobs_ st_ T_ H_) :
    ∃ e_ T1_ H1_ ng1_, gcode (shOf F) cl LL c_spec_l2Times_l0 ⟨maskT (some [0, 3, 4]) T_, H_, ng⟩ = some (e_, ⟨T1_, H1_, ng1_⟩) ∧ TurnOK (R_spec_l2Times_l0 jobs_) (Q_spec_l2Times_l0 jobs_) 0 c_ e_ T1_ H1_ := by
  obtain ⟨sum_, i_⟩ := st_
  obtain ⟨f0_, f1_, f2_, rfl⟩ := hR_
  unfold x_spec_l2Times_l0 at hr
  try dsimp only at hr
  by_cases h5 : i_ < (jobs_.length : Int)
  · rw [if_pos h5] at hr
    have e3 : (i_ < (jobs_.length : Int)) = True := eq_true h5
    clear h5
    obtain ⟨y6, q10, hr⟩ := Option.bind_eq_some_iff.1 hr
    obtain ⟨e7, e8, e9⟩ := ix_some q10
    try simp only [Int.toNat_natCast, Int.toNat_zero, Int.reduceToNat] at e8
    clear q10
    have hr_ := Option.some.inj hr; subst hr_
    refine turn (by
      simp only [c_spec_l2Times_l0, evA, evB, Int.reduceToNat, eq_self, reduceCtorEq, ↓reduceIte, Nat.reduceEqDiff, Nat.reduceAdd, Nat.reduceLT, Nat.reduceLeDiff, Nat.reduceMul, Nat.reduceSub, Nat.reduceBEq, spec_l1Cur.cells, rz_spec_l1Cur, pr_spec_l1Cur, impl_Job.cells, rz_impl_Job, pr_impl_Job, spec_l2Search.cells, rz_spec_l2Search, pr_spec_l2Search, *]
      rfl) ?_
    exact ⟨rfl, rfl, rfl, rfl, rfl⟩
  · rw [if_neg h5] at hr
    have e4 : (i_ < (jobs_.length : Int)) = False := eq_false h5
    clear h5
    have hr_ := Option.some.inj hr; subst hr_
    refine turn (by
      simp only [c_spec_l2Times_l0, evA, evB, Int.reduceToNat, eq_self, reduceCtorEq, ↓reduceIte, Nat.reduceEqDiff, Nat.reduceAdd, Nat.reduceLT, Nat.reduceLeDiff, Nat.reduceMul, Nat.reduceSub, Nat.reduceBEq, spec_l1Cur.cells, rz_spec_l1Cur, pr_spec_l1Cur, impl_Job.cells, rz_impl_Job, pr_impl_Job, spec_l2Search.cells, rz_spec_l2Search, pr_spec_l2Search, *]
      rfl) ?_
    exact ⟨by simp, rfl, rfl, rfl⟩

theorem lp_spec_l2Times_l0 {cl : Callee} (jobs_ : (List impl_Job)) (st_ : (Int × Int)) (p_ : (Int)) (hr : loopS (x_spec_l2Times_l0 jobs_) LL st_ = some p_) (T_ : Tm) (H_ : List Blk) (ng : Nat) (hR_ : R_spec_l2Times_l0 jobs_ st_ T_ H_) (hn_ : H_.length = 0) :
    ∃ e_ T1_ H1_ ng1_, gcode (shOf F) cl LL (.loop false (some [0, 3, 4]) c_spec_l2Times_l0) ⟨T_, H_, ng⟩ = some (e_, ⟨T1_, H1_, ng1_⟩) ∧ Q_spec_l2Times_l0 jobs_ p_ e_ T1_ H1_ :=
  sim_loop (n0 := 0) (R_spec_l2Times_l0 jobs_) (Q_spec_l2Times_l0 jobs_) (st_spec_l2Times_l0 jobs_) st_ p_ hr T_ H_ ng hR_ hn_

theorem ok_spec_l2Times {cl : Callee} : K_spec_l2Times (x_spec_l2Times) (gbody F LL cl c_spec_l2Times) := by
  intro jobs_ r hr
  unfold x_spec_l2Times at hr
  try dsimp only at hr
  obtain ⟨p1, q10, hr⟩ := Option.bind_eq_some_iff.1 hr
  obtain ⟨ex7, T4, H5, ng6, l3, m2⟩ := lp_spec_l2Times_l0 (cl := cl)  jobs_ _ _ q10 [(0, .fs (jobs_.map impl_Job.cells)), (3, .int .i64 0), (4, .int .i64 0)] [] 0 (show R_spec_l2Times_l0 jobs_ (0, 0) [(0, .fs (jobs_.map impl_Job.cells)), (3, .int .i64 0), (4, .int .i64 0)] [] from ⟨rfl, rfl, rfl, rfl⟩) rfl
  obtain ⟨rfl, e8, e9⟩ := m2
  subst e9
  have hr_ := Option.some.inj hr; subst hr_
  refine RetF.scal (by
    simp only [c_spec_l2Times, evA, evB, Int.reduceToNat, eq_self, reduceCtorEq, ↓reduceIte, Nat.reduceEqDiff, Nat.reduceAdd, Nat.reduceLT, Nat.reduceLeDiff, Nat.reduceMul, Nat.reduceSub, Nat.reduceBEq, spec_l1Cur.cells, rz_spec_l1Cur, pr_spec_l1Cur, impl_Job.cells, rz_impl_Job, pr_impl_Job, spec_l2Search.cells, rz_spec_l2Search, pr_spec_l2Search, *]
    rfl) rfl rfl

theorem ok_spec_TotalTime {cl : Callee} (K_spec_l6Good : K_spec_l6Good x_spec_l6Good (cl n_spec_l6Good)) (K_spec_l2Times : K_spec_l2Times x_spec_l2Times (cl n_spec_l2Times)) : K_spec_TotalTime (x_spec_TotalTime) (gbody F LL cl c_spec_TotalTime) := by
  intro jobs_ r hr
  unfold x_spec_TotalTime at hr
  try dsimp only at hr
  obtain ⟨r1, q3, hr⟩ := Option.bind_eq_some_iff.1 hr
  have e2 : ∀ H ng, gcall (shOf F) cl false n_spec_l6Good [.fs (jobs_.map impl_Job.cells)] H ng = some (.bool r1, H, ng, .inert) := fun H ng => call_far s_spec_l6Good rfl (K_spec_l6Good _ _ q3).ret
  by_cases h6 : r1 = true
  · rw [if_pos h6] at hr
    have e4 : r1 = true := h6
    clear h6
    obtain ⟨r7, q9, hr⟩ := Option.bind_eq_some_iff.1 hr
    have e8 : ∀ H ng, gcall (shOf F) cl false n_spec_l2Times [.fs (jobs_.map impl_Job.cells)] H ng = some (.int .i64 r7, H, ng, .inert) := fun H ng => call_far s_spec_l2Times rfl (K_spec_l2Times _ _ q9).ret
    have hr_ := Option.some.inj hr; subst hr_
    refine RetF.scal (by
      simp only [c_spec_TotalTime, evA, evB, Int.reduceToNat, eq_self, reduceCtorEq, ↓reduceIte, Nat.reduceEqDiff, Nat.reduceAdd, Nat.reduceLT, Nat.reduceLeDiff, Nat.reduceMul, Nat.reduceSub, Nat.reduceBEq, spec_l1Cur.cells, rz_spec_l1Cur, pr_spec_l1Cur, impl_Job.cells, rz_impl_Job, pr_impl_Job, spec_l2Search.cells, rz_spec_l2Search, pr_spec_l2Search, *]
      rfl) rfl rfl
  · rw [if_neg h6] at hr
    have e5 : r1 = false := Bool.eq_false_iff.2 h6
    clear h6
    have hr_ := Option.some.inj hr; subst hr_
    refine RetF.scal (by
      simp only [c_spec_TotalTime, evA, evB, Int.reduceToNat, eq_self, reduceCtorEq, ↓reduceIte, Nat.reduceEqDiff, Nat.reduceAdd, Nat.reduceLT, Nat.reduceLeDiff, Nat.reduceMul, Nat.reduceSub, Nat.reduceBEq, spec_l1Cur.cells, rz_spec_l1Cur, pr_spec_l1Cur, impl_Job.cells, rz_impl_Job, pr_impl_Job, spec_l2Search.cells, rz_spec_l2Search, pr_spec_l2Search, *]
      rfl) rfl rfl

theorem st_impl_numbersTo_l0 {cl : Callee} (n_ : Int) (st_ : ((List Int) × Int)) (c_ : Ctl ((List Int) × Int) ((List Int))) (hr : x_impl_numbersTo_l0 n_ st_ = some c_) (T_ : Tm) (H_ : List Blk) (ng : Nat) (hR_ : R_impl_numbersTo_l0 n_ st_ T_ H_) :
    ∃ e_ T1_ H1_ ng1_, gcode (shOf F) cl LL c_impl_numbersTo_l0 ⟨maskT (some [0, 3, 4]) T_, H_, ng⟩ = some (e_, ⟨T1_, H1_, ng1_⟩) ∧ TurnOK (R_impl_numbersTo_l0 n_) (Q_impl_numbersTo_l0 n_) 2 c_ e_ T1_ H1_ := by
  obtain ⟨out_, i_⟩ := st_
  obtain ⟨b0, g1, f0_, f1_, f2_, rfl⟩ := hR_
  unfold x_impl_numbersTo_l0 at hr
  try dsimp only at hr
  by_cases h5 : i_ < n_
  · rw [if_pos h5] at hr
    have e3 : (i_ < n_) = True := eq_true h5
    clear h5
    obtain ⟨l6, q14, hr⟩ := Option.bind_eq_some_iff.1 hr
    obtain ⟨e7, e8, e9, e10⟩ := app_some q14
    try simp only [List.length_cons, List.length_nil, Nat.zero_add, Nat.reduceAdd] at e7 e8 e10
    have e11 : (out_.map (cI .i64)) ++ [[.int .i64 i_]] = l6.map (cI .i64) := by rw [← e9, List.map_append] <;> rfl
    have e12 := e7
    have e13 := e8
    rw [e10] at e12 e13
    clear e9 q14
    have hr_ := Option.some.inj hr; subst hr_
    refine turn (by
      simp only [c_impl_numbersTo_l0, evA, evB, Int.reduceToNat, eq_self, reduceCtorEq, ↓reduceIte, Nat.reduceEqDiff, Nat.reduceAdd, Nat.reduceLT, Nat.reduceLeDiff, Nat.reduceMul, Nat.reduceSub, Nat.reduceBEq, spec_l1Cur.cells, rz_spec_l1Cur, pr_spec_l1Cur, impl_Job.cells, rz_impl_Job, pr_impl_Job, spec_l2Search.cells, rz_spec_l2Search, pr_spec_l2Search, *]
      rfl) ?_
    exact ⟨rfl, _, _, rfl, rfl, rfl, rfl⟩
  · rw [if_neg h5] at hr
    have e4 : (i_ < n_) = False := eq_false h5
    clear h5
    have hr_ := Option.some.inj hr; subst hr_
    refine turn (by
      simp only [c_impl_numbersTo_l0, evA, evB, Int.reduceToNat, eq_self, reduceCtorEq, ↓reduceIte, Nat.reduceEqDiff, Nat.reduceAdd, Nat.reduceLT, Nat.reduceLeDiff, Nat.reduceMul, Nat.reduceSub, Nat.reduceBEq, spec_l1Cur.cells, rz_spec_l1Cur, pr_spec_l1Cur, impl_Job.cells, rz_impl_Job, pr_impl_Job, spec_l2Search.cells, rz_spec_l2Search, pr_spec_l2Search, *]
      rfl) ?_
    exact ⟨by simp, rfl, _, _, rfl, rfl⟩

theorem lp_impl_numbersTo_l0 {cl : Callee} (n_ : Int) (st_ : ((List Int) × Int)) (p_ : ((List Int))) (hr : loopS (x_impl_numbersTo_l0 n_) LL st_ = some p_) (T_ : Tm) (H_ : List Blk) (ng : Nat) (hR_ : R_impl_numbersTo_l0 n_ st_ T_ H_) (hn_ : H_.length = 2) :
    ∃ e_ T1_ H1_ ng1_, gcode (shOf F) cl LL (.loop false (some [0, 3, 4]) c_impl_numbersTo_l0) ⟨T_, H_, ng⟩ = some (e_, ⟨T1_, H1_, ng1_⟩) ∧ Q_impl_numbersTo_l0 n_ p_ e_ T1_ H1_ :=
  sim_loop (n0 := 2) (R_impl_numbersTo_l0 n_) (Q_impl_numbersTo_l0 n_) (st_impl_numbersTo_l0 n_) st_ p_ hr T_ H_ ng hR_ hn_

theorem ok_impl_numbersTo {cl : Callee} : K_impl_numbersTo (x_impl_numbersTo) (gbody F LL cl c_impl_numbersTo) := by
  intro n_ r hr
  unfold x_impl_numbersTo at hr
  try dsimp only at hr
  obtain ⟨p1, q12, hr⟩ := Option.bind_eq_some_iff.1 hr
  obtain ⟨ex7, T4, H5, ng6, l3, m2⟩ := lp_impl_numbersTo_l0 (cl := cl)  n_ _ _ q12 [(0, .int .i64 n_), (3, .os 1 1 1 0 0), (4, .int .i64 0)] [(Blk.mk 0 false 1 []), (Blk.mk 1 false 1 [])] 2 (show R_impl_numbersTo_l0 n_ (([] : List Int), 0) [(0, .int .i64 n_), (3, .os 1 1 1 0 0), (4, .int .i64 0)] [(Blk.mk 0 false 1 []), (Blk.mk 1 false 1 [])] from ⟨_, _, rfl, rfl, rfl, rfl⟩) rfl
  obtain ⟨rfl, b8, g9, e10, e11⟩ := m2
  subst e11
  have hr_ := Option.some.inj hr; subst hr_
  refine ⟨1, g9, [b8, (Blk.mk g9 false 1 (p1.map (cI .i64)))], ng6, ?_, by simp [hget, hp], sc_cI _ _⟩
  simp only [c_impl_numbersTo, evA, evB, Int.reduceToNat, eq_self, reduceCtorEq, ↓reduceIte, Nat.reduceEqDiff, Nat.reduceAdd, Nat.reduceLT, Nat.reduceLeDiff, Nat.reduceMul, Nat.reduceSub, Nat.reduceBEq, spec_l1Cur.cells, rz_spec_l1Cur, pr_spec_l1Cur, impl_Job.cells, rz_impl_Job, pr_impl_Job, spec_l2Search.cells, rz_spec_l2Search, pr_spec_l2Search, *]

theorem st_impl_nextOrder_l0 {cl : Callee} (order_ : (List Int)) (H0 : List Blk) (id g : Nat) (hid : id < H0.length) (st_ : (Int)) (c_ : Ctl (Int) (Int)) (hr : x_impl_nextOrder_l0 order_ st_ = some c_) (T_ : Tm) (H_ : List Blk) (ng : Nat) (hR_ : R_impl_nextOrder_l0 H0 id g order_ st_ T_ H_) :
    ∃ e_ T1_ H1_ ng1_, gcode (shOf F) cl LL c_impl_nextOrder_l0 ⟨maskT (some [0, 3]) T_, H_, ng⟩ = some (e_, ⟨T1_, H1_, ng1_⟩) ∧ TurnOK (R_impl_nextOrder_l0 H0 id g order_) (Q_impl_nextOrder_l0 H0 id g order_) H0.length c_ e_ T1_ H1_ := by
  obtain ⟨i_, hst_⟩ : ∃ x, x = st_ := ⟨_, rfl⟩; subst hst_
  obtain ⟨f0_, f1_, rfl⟩ := hR_
  unfold x_impl_nextOrder_l0 at hr
  try dsimp only at hr
  have w1_ : ∀ b, (H0.set id b)[id]? = some b := fun b => hs_get b hid
  have w2_ : ∀ b B, (H0.set id b ++ B)[id]? = some b := fun b B => hs_getA b hid
  have w3_ : ∀ a b B, (H0.set id a ++ B).set id b = H0.set id b ++ B := fun a b B => hs_setA a b hid
  by_cases h5 : 0 ≤ i_
  · rw [if_pos h5] at hr
    have e3 : (0 ≤ i_) = True := eq_true h5
    clear h5
    obtain ⟨y6, q10, hr⟩ := Option.bind_eq_some_iff.1 hr
    obtain ⟨e7, e8, e9⟩ := ix_some q10
    try simp only [Int.toNat_natCast, Int.toNat_zero, Int.reduceToNat] at e8
    clear q10
    obtain ⟨y11, q15, hr⟩ := Option.bind_eq_some_iff.1 hr
    obtain ⟨e12, e13, e14⟩ := ix_some q15
    try simp only [Int.toNat_natCast, Int.toNat_zero, Int.reduceToNat] at e13
    clear q15
    by_cases h20 : y11 < y6
    · rw [if_pos h20] at hr
      have e18 : (y11 < y6) = True := eq_true h20
      clear h20
      have hr_ := Option.some.inj hr; subst hr_
      refine turn (by
        simp only [c_impl_nextOrder_l0, evA, evB, Int.reduceToNat, eq_self, reduceCtorEq, ↓reduceIte, Nat.reduceEqDiff, Nat.reduceAdd, Nat.reduceLT, Nat.reduceLeDiff, Nat.reduceMul, Nat.reduceSub, Nat.reduceBEq, spec_l1Cur.cells, rz_spec_l1Cur, pr_spec_l1Cur, impl_Job.cells, rz_impl_Job, pr_impl_Job, spec_l2Search.cells, rz_spec_l2Search, pr_spec_l2Search, *]
        rfl) ?_
      exact ⟨rfl, rfl, rfl, (by simp only [hs_takek, hs_take0, hs_take, List.take_succ_cons, List.take_zero, List.append_nil] <;> rfl)⟩
    · rw [if_neg h20] at hr
      have e19 : (y11 < y6) = False := eq_false h20
      clear h20
      have hr_ := Option.some.inj hr; subst hr_
      refine turn (by
        simp only [c_impl_nextOrder_l0, evA, evB, Int.reduceToNat, eq_self, reduceCtorEq, ↓reduceIte, Nat.reduceEqDiff, Nat.reduceAdd, Nat.reduceLT, Nat.reduceLeDiff, Nat.reduceMul, Nat.reduceSub, Nat.reduceBEq, spec_l1Cur.cells, rz_spec_l1Cur, pr_spec_l1Cur, impl_Job.cells, rz_impl_Job, pr_impl_Job, spec_l2Search.cells, rz_spec_l2Search, pr_spec_l2Search, *]
        rfl) ?_
      exact ⟨by simp, rfl, rfl, rfl, rfl⟩
  · rw [if_neg h5] at hr
    have e4 : (0 ≤ i_) = False := eq_false h5
    clear h5
    have hr_ := Option.some.inj hr; subst hr_
    refine turn (by
      simp only [c_impl_nextOrder_l0, evA, evB, Int.reduceToNat, eq_self, reduceCtorEq, ↓reduceIte, Nat.reduceEqDiff, Nat.reduceAdd, Nat.reduceLT, Nat.reduceLeDiff, Nat.reduceMul, Nat.reduceSub, Nat.reduceBEq, spec_l1Cur.cells, rz_spec_l1Cur, pr_spec_l1Cur, impl_Job.cells, rz_impl_Job, pr_impl_Job, spec_l2Search.cells, rz_spec_l2Search, pr_spec_l2Search, *]
      rfl) ?_
    exact ⟨by simp, rfl, rfl, rfl, rfl⟩

theorem lp_impl_nextOrder_l0 {cl : Callee} (order_ : (List Int)) (H0 : List Blk) (id g : Nat) (hid : id < H0.length) (st_ : (Int)) (p_ : (Int)) (hr : loopS (x_impl_nextOrder_l0 order_) LL st_ = some p_) (T_ : Tm) (H_ : List Blk) (ng : Nat) (hR_ : R_impl_nextOrder_l0 H0 id g order_ st_ T_ H_) (hn_ : H_.length = H0.length) :
    ∃ e_ T1_ H1_ ng1_, gcode (shOf F) cl LL (.loop false (some [0, 3]) c_impl_nextOrder_l0) ⟨T_, H_, ng⟩ = some (e_, ⟨T1_, H1_, ng1_⟩) ∧ Q_impl_nextOrder_l0 H0 id g order_ p_ e_ T1_ H1_ :=
  sim_loop (n0 := H0.length) (R_impl_nextOrder_l0 H0 id g order_) (Q_impl_nextOrder_l0 H0 id g order_) (st_impl_nextOrder_l0 order_ H0 id g hid) st_ p_ hr T_ H_ ng hR_ hn_

theorem st_impl_nextOrder_l1 {cl : Callee} (order_ : (List Int)) (i_ : Int) (H0 : List Blk) (id g : Nat) (hid : id < H0.length) (st_ : (Int)) (c_ : Ctl (Int) (Int)) (hr : x_impl_nextOrder_l1 order_ i_ st_ = some c_) (T_ : Tm) (H_ : List Blk) (ng : Nat) (hR_ : R_impl_nextOrder_l1 H0 id g order_ i_ st_ T_ H_) :
    ∃ e_ T1_ H1_ ng1_, gcode (shOf F) cl LL c_impl_nextOrder_l1 ⟨maskT (some [0, 3, 4]) T_, H_, ng⟩ = some (e_, ⟨T1_, H1_, ng1_⟩) ∧ TurnOK (R_impl_nextOrder_l1 H0 id g order_ i_) (Q_impl_nextOrder_l1 H0 id g order_ i_) H0.length c_ e_ T1_ H1_ := by
  obtain ⟨k_, hst_⟩ : ∃ x, x = st_ := ⟨_, rfl⟩; subst hst_
  obtain ⟨f0_, f1_, f2_, rfl⟩ := hR_
  unfold x_impl_nextOrder_l1 at hr
  try dsimp only at hr
  have w1_ : ∀ b, (H0.set id b)[id]? = some b := fun b => hs_get b hid
  have w2_ : ∀ b B, (H0.set id b ++ B)[id]? = some b := fun b B => hs_getA b hid
  have w3_ : ∀ a b B, (H0.set id a ++ B).set id b = H0.set id b ++ B := fun a b B => hs_setA a b hid
  obtain ⟨y1, q5, hr⟩ := Option.bind_eq_some_iff.1 hr
  obtain ⟨e2, e3, e4⟩ := ix_some q5
  try simp only [Int.toNat_natCast, Int.toNat_zero, Int.reduceToNat] at e3
  clear q5
  obtain ⟨y6, q10, hr⟩ := Option.bind_eq_some_iff.1 hr
  obtain ⟨e7, e8, e9⟩ := ix_some q10
  try simp only [Int.toNat_natCast, Int.toNat_zero, Int.reduceToNat] at e8
  clear q10
  by_cases h15 : y1 < y6
  · rw [if_pos h15] at hr
    have e13 : (y1 < y6) = True := eq_true h15
    clear h15
    have hr_ := Option.some.inj hr; subst hr_
    refine turn (by
      simp only [c_impl_nextOrder_l1, evA, evB, Int.reduceToNat, eq_self, reduceCtorEq, ↓reduceIte, Nat.reduceEqDiff, Nat.reduceAdd, Nat.reduceLT, Nat.reduceLeDiff, Nat.reduceMul, Nat.reduceSub, Nat.reduceBEq, spec_l1Cur.cells, rz_spec_l1Cur, pr_spec_l1Cur, impl_Job.cells, rz_impl_Job, pr_impl_Job, spec_l2Search.cells, rz_spec_l2Search, pr_spec_l2Search, *]
      rfl) ?_
    exact ⟨rfl, rfl, rfl, rfl, (by simp only [hs_takek, hs_take0, hs_take, List.take_succ_cons, List.take_zero, List.append_nil] <;> rfl)⟩
  · rw [if_neg h15] at hr
    have e14 : (y1 < y6) = False := eq_false h15
    clear h15
    have hr_ := Option.some.inj hr; subst hr_
    refine turn (by
      simp only [c_impl_nextOrder_l1, evA, evB, Int.reduceToNat, eq_self, reduceCtorEq, ↓reduceIte, Nat.reduceEqDiff, Nat.reduceAdd, Nat.reduceLT, Nat.reduceLeDiff, Nat.reduceMul, Nat.reduceSub, Nat.reduceBEq, spec_l1Cur.cells, rz_spec_l1Cur, pr_spec_l1Cur, impl_Job.cells, rz_impl_Job, pr_impl_Job, spec_l2Search.cells, rz_spec_l2Search, pr_spec_l2Search, *]
      rfl) ?_
    exact ⟨by simp, rfl, rfl, rfl, rfl, rfl⟩

theorem lp_impl_nextOrder_l1 {cl : Callee} (order_ : (List Int)) (i_ : Int) (H0 : List Blk) (id g : Nat) (hid : id < H0.length) (st_ : (Int)) (p_ : (Int)) (hr : loopS (x_impl_nextOrder_l1 order_ i_) LL st_ = some p_) (T_ : Tm) (H_ : List Blk) (ng : Nat) (hR_ : R_impl_nextOrder_l1 H0 id g order_ i_ st_ T_ H_) (hn_ : H_.length = H0.length) :
    ∃ e_ T1_ H1_ ng1_, gcode (shOf F) cl LL (.loop false (some [0, 3, 4]) c_impl_nextOrder_l1) ⟨T_, H_, ng⟩ = some (e_, ⟨T1_, H1_, ng1_⟩) ∧ Q_impl_nextOrder_l1 H0 id g order_ i_ p_ e_ T1_ H1_ :=
  sim_loop (n0 := H0.length) (R_impl_nextOrder_l1 H0 id g order_ i_) (Q_impl_nextOrder_l1 H0 id g order_ i_) (st_impl_nextOrder_l1 order_ i_ H0 id g hid) st_ p_ hr T_ H_ ng hR_ hn_

theorem st_impl_nextOrder_l2 {cl : Callee} (H0 : List Blk) (id g : Nat) (hid : id < H0.length) (st_ : ((List Int) × Int × Int)) (c_ : Ctl ((List Int) × Int × Int) ((List Int))) (hr : x_impl_nextOrder_l2 st_ = some c_) (T_ : Tm) (H_ : List Blk) (ng : Nat) (hR_ : R_impl_nextOrder_l2 H0 id g st_ T_ H_) :
    ∃ e_ T1_ H1_ ng1_, gcode (shOf F) cl LL c_impl_nextOrder_l2 ⟨maskT (some [0, 5, 6]) T_, H_, ng⟩ = some (e_, ⟨T1_, H1_, ng1_⟩) ∧ TurnOK (R_impl_nextOrder_l2 H0 id g) (Q_impl_nextOrder_l2 H0 id g) H0.length c_ e_ T1_ H1_ := by
  obtain ⟨order_, a_, b_⟩ := st_
  obtain ⟨f0_, f1_, f2_, rfl⟩ := hR_
  unfold x_impl_nextOrder_l2 at hr
  try dsimp only at hr
  have w1_ : ∀ b, (H0.set id b)[id]? = some b := fun b => hs_get b hid
  have w2_ : ∀ b B, (H0.set id b ++ B)[id]? = some b := fun b B => hs_getA b hid
  have w3_ : ∀ a b B, (H0.set id a ++ B).set id b = H0.set id b ++ B := fun a b B => hs_setA a b hid
  by_cases h5 : a_ < b_
  · rw [if_pos h5] at hr
    have e3 : (a_ < b_) = True := eq_true h5
    clear h5
    obtain ⟨y6, q10, hr⟩ := Option.bind_eq_some_iff.1 hr
    obtain ⟨e7, e8, e9⟩ := ix_some q10
    try simp only [Int.toNat_natCast, Int.toNat_zero, Int.reduceToNat] at e8
    clear q10
    obtain ⟨y11, q15, hr⟩ := Option.bind_eq_some_iff.1 hr
    obtain ⟨e12, e13, e14⟩ := ix_some q15
    try simp only [Int.toNat_natCast, Int.toNat_zero, Int.reduceToNat] at e13
    clear q15
    obtain ⟨l16, q21, hr⟩ := Option.bind_eq_some_iff.1 hr
    obtain ⟨_, _, e17, e18, _⟩ := put_some q21
    try simp only [Int.toNat_natCast, Int.toNat_zero, Int.reduceToNat] at e17
    have e19 : (order_.map (cI .i64)).set (Int.toNat a_) [.int .i64 y6] = l16.map (cI .i64) := by rw [← e17, List.map_set] <;> rfl
    replace e18 : Keep (order_.length = l16.length) := e18
    clear e17 q21
    obtain ⟨y22, q27, hr⟩ := Option.bind_eq_some_iff.1 hr
    obtain ⟨e23, e24, e25⟩ := ix_some q27
    have e26 : (b_ < ((order_.length : Nat) : Int)) = True := by rw [show order_.length = _ from e18]; exact e25
    try simp only [Int.toNat_natCast, Int.toNat_zero, Int.reduceToNat] at e24
    clear q27
    obtain ⟨l28, q33, hr⟩ := Option.bind_eq_some_iff.1 hr
    obtain ⟨_, _, e29, e30, _⟩ := put_some q33
    try simp only [Int.toNat_natCast, Int.toNat_zero, Int.reduceToNat] at e29
    have e31 : (l16.map (cI .i64)).set (Int.toNat b_) [.int .i64 y11] = l28.map (cI .i64) := by rw [← e29, List.map_set] <;> rfl
    replace e30 : Keep (l16.length = l28.length) := e30
    clear e29 q33
    have hr_ := Option.some.inj hr; subst hr_
    refine turn (by
      simp only [c_impl_nextOrder_l2, evA, evB, Int.reduceToNat, eq_self, reduceCtorEq, ↓reduceIte, Nat.reduceEqDiff, Nat.reduceAdd, Nat.reduceLT, Nat.reduceLeDiff, Nat.reduceMul, Nat.reduceSub, Nat.reduceBEq, spec_l1Cur.cells, rz_spec_l1Cur, pr_spec_l1Cur, impl_Job.cells, rz_impl_Job, pr_impl_Job, spec_l2Search.cells, rz_spec_l2Search, pr_spec_l2Search, *]
      rfl) ?_
    exact ⟨rfl, (congrArg (fun n_ => V.os id g 1 0 n_) (Eq.trans e18 e30)), rfl, rfl, (by simp only [hs_takek, hs_take0, hs_take, List.take_succ_cons, List.take_zero, List.append_nil] <;> rfl)⟩
  · rw [if_neg h5] at hr
    have e4 : (a_ < b_) = False := eq_false h5
    clear h5
    have hr_ := Option.some.inj hr; subst hr_
    refine turn (by
      simp only [c_impl_nextOrder_l2, evA, evB, Int.reduceToNat, eq_self, reduceCtorEq, ↓reduceIte, Nat.reduceEqDiff, Nat.reduceAdd, Nat.reduceLT, Nat.reduceLeDiff, Nat.reduceMul, Nat.reduceSub, Nat.reduceBEq, spec_l1Cur.cells, rz_spec_l1Cur, pr_spec_l1Cur, impl_Job.cells, rz_impl_Job, pr_impl_Job, spec_l2Search.cells, rz_spec_l2Search, pr_spec_l2Search, *]
      rfl) ?_
    exact ⟨by simp, rfl, rfl⟩

theorem lp_impl_nextOrder_l2 {cl : Callee} (H0 : List Blk) (id g : Nat) (hid : id < H0.length) (st_ : ((List Int) × Int × Int)) (p_ : ((List Int))) (hr : loopS (x_impl_nextOrder_l2) LL st_ = some p_) (T_ : Tm) (H_ : List Blk) (ng : Nat) (hR_ : R_impl_nextOrder_l2 H0 id g st_ T_ H_) (hn_ : H_.length = H0.length) :
    ∃ e_ T1_ H1_ ng1_, gcode (shOf F) cl LL (.loop false (some [0, 5, 6]) c_impl_nextOrder_l2) ⟨T_, H_, ng⟩ = some (e_, ⟨T1_, H1_, ng1_⟩) ∧ Q_impl_nextOrder_l2 H0 id g p_ e_ T1_ H1_ :=
  sim_loop (n0 := H0.length) (R_impl_nextOrder_l2 H0 id g) (Q_impl_nextOrder_l2 H0 id g) (st_impl_nextOrder_l2 H0 id g hid) st_ p_ hr T_ H_ ng hR_ hn_

theorem ok_impl_nextOrder {cl : Callee} : K_impl_nextOrder (x_impl_nextOrder) (gbody F LL cl c_impl_nextOrder) := by
  intro order_ r hr
  intro H0 id g ng hid
  have w1_ : ∀ b, (H0.set id b)[id]? = some b := fun b => hs_get b hid
  have w2_ : ∀ b B, (H0.set id b ++ B)[id]? = some b := fun b B => hs_getA b hid
  have w3_ : ∀ a b B, (H0.set id a ++ B).set id b = H0.set id b ++ B := fun a b B => hs_setA a b hid
  unfold x_impl_nextOrder at hr
  try dsimp only at hr
  obtain ⟨p1, q65, hr⟩ := Option.bind_eq_some_iff.1 hr
  obtain ⟨ex7, T4, H5, ng6, l3, m2⟩ := lp_impl_nextOrder_l0 (cl := cl)  order_ H0 id g hid _ _ q65 [(0, .os id g 1 0 order_.length), (3, .int .i64 (subK .i64 ((order_.length : Nat) : Int) 2))] (H0.set id (Blk.mk g false 1 (order_.map (cI .i64)))) ng (show R_impl_nextOrder_l0 H0 id g order_ (subK .i64 ((order_.length : Nat) : Int) 2) [(0, .os id g 1 0 order_.length), (3, .int .i64 (subK .i64 ((order_.length : Nat) : Int) 2))] (H0.set id (Blk.mk g false 1 (order_.map (cI .i64)))) from ⟨rfl, rfl, rfl⟩) (by simp)
  obtain ⟨rfl, e8, e9, e10⟩ := m2
  subst e10
  by_cases h15 : p1 < 0
  · rw [if_pos h15] at hr
    have e13 : (p1 < 0) = True := eq_true h15
    clear h15
    have hr_ := Option.some.inj hr; subst hr_
    refine ⟨.bool false, [], ng6, ?_, ?_⟩
    · simp only [c_impl_nextOrder, evA, evB, Int.reduceToNat, eq_self, reduceCtorEq, ↓reduceIte, Nat.reduceEqDiff, Nat.reduceAdd, Nat.reduceLT, Nat.reduceLeDiff, Nat.reduceMul, Nat.reduceSub, Nat.reduceBEq, spec_l1Cur.cells, rz_spec_l1Cur, pr_spec_l1Cur, impl_Job.cells, rz_impl_Job, pr_impl_Job, spec_l2Search.cells, rz_spec_l2Search, pr_spec_l2Search, *]
    · exact outR_flat rfl
  · rw [if_neg h15] at hr
    have e14 : (p1 < 0) = False := eq_false h15
    clear h15
    obtain ⟨p16, q64, hr⟩ := Option.bind_eq_some_iff.1 hr
    obtain ⟨ex22, T19, H20, ng21, l18, m17⟩ := lp_impl_nextOrder_l1 (cl := cl)  order_ p1 H0 id g hid _ _ q64 [(0, .os id g 1 0 order_.length), (3, .int .i64 p1), (4, .int .i64 (subK .i64 ((order_.length : Nat) : Int) 1))] (H0.set id (Blk.mk g false 1 (order_.map (cI .i64)))) ng6 (show R_impl_nextOrder_l1 H0 id g order_ p1 (subK .i64 ((order_.length : Nat) : Int) 1) [(0, .os id g 1 0 order_.length), (3, .int .i64 p1), (4, .int .i64 (subK .i64 ((order_.length : Nat) : Int) 1))] (H0.set id (Blk.mk g false 1 (order_.map (cI .i64)))) from ⟨rfl, rfl, rfl, rfl⟩) (by simp)
    obtain ⟨rfl, e23, e24, e25, e26⟩ := m17
    subst e26
    obtain ⟨y27, q31, hr⟩ := Option.bind_eq_some_iff.1 hr
    obtain ⟨e28, e29, e30⟩ := ix_some q31
    try simp only [Int.toNat_natCast, Int.toNat_zero, Int.reduceToNat] at e29
    clear q31
    obtain ⟨y32, q36, hr⟩ := Option.bind_eq_some_iff.1 hr
    obtain ⟨e33, e34, e35⟩ := ix_some q36
    try simp only [Int.toNat_natCast, Int.toNat_zero, Int.reduceToNat] at e34
    clear q36
    obtain ⟨l37, q42, hr⟩ := Option.bind_eq_some_iff.1 hr
    obtain ⟨_, _, e38, e39, _⟩ := put_some q42
    try simp only [Int.toNat_natCast, Int.toNat_zero, Int.reduceToNat] at e38
    have e40 : (order_.map (cI .i64)).set (Int.toNat p1) [.int .i64 y27] = l37.map (cI .i64) := by rw [← e38, List.map_set] <;> rfl
    replace e39 : Keep (order_.length = l37.length) := e39
    clear e38 q42
    obtain ⟨y43, q48, hr⟩ := Option.bind_eq_some_iff.1 hr
    obtain ⟨e44, e45, e46⟩ := ix_some q48
    have e47 : (p16 < ((order_.length : Nat) : Int)) = True := by rw [show order_.length = _ from e39]; exact e46
    try simp only [Int.toNat_natCast, Int.toNat_zero, Int.reduceToNat] at e45
    clear q48
    obtain ⟨l49, q54, hr⟩ := Option.bind_eq_some_iff.1 hr
    obtain ⟨_, _, e50, e51, _⟩ := put_some q54
    try simp only [Int.toNat_natCast, Int.toNat_zero, Int.reduceToNat] at e50
    have e52 : (l37.map (cI .i64)).set (Int.toNat p16) [.int .i64 y32] = l49.map (cI .i64) := by rw [← e50, List.map_set] <;> rfl
    replace e51 : Keep (l37.length = l49.length) := e51
    clear e50 q54
    obtain ⟨p55, q63, hr⟩ := Option.bind_eq_some_iff.1 hr
    obtain ⟨ex61, T58, H59, ng60, l57, m56⟩ := lp_impl_nextOrder_l2 (cl := cl)  H0 id g hid _ _ q63 [(0, .os id g 1 0 order_.length), (5, .int .i64 (addK .i64 p1 1)), (6, .int .i64 (subK .i64 ((order_.length : Nat) : Int) 1))] (H0.set id (Blk.mk g false 1 (l49.map (cI .i64)))) ng21 (show R_impl_nextOrder_l2 H0 id g (l49, (addK .i64 p1 1), (subK .i64 ((order_.length : Nat) : Int) 1)) [(0, .os id g 1 0 order_.length), (5, .int .i64 (addK .i64 p1 1)), (6, .int .i64 (subK .i64 ((order_.length : Nat) : Int) 1))] (H0.set id (Blk.mk g false 1 (l49.map (cI .i64)))) from ⟨(congrArg (fun n_ => V.os id g 1 0 n_) (Eq.trans e39 e51)), rfl, rfl, rfl⟩) (by simp)
    obtain ⟨rfl, e62⟩ := m56
    subst e62
    have hr_ := Option.some.inj hr; subst hr_
    refine ⟨.bool true, [], ng60, ?_, ?_⟩
    · simp only [c_impl_nextOrder, evA, evB, Int.reduceToNat, eq_self, reduceCtorEq, ↓reduceIte, Nat.reduceEqDiff, Nat.reduceAdd, Nat.reduceLT, Nat.reduceLeDiff, Nat.reduceMul, Nat.reduceSub, Nat.reduceBEq, spec_l1Cur.cells, rz_spec_l1Cur, pr_spec_l1Cur, impl_Job.cells, rz_impl_Job, pr_impl_Job, spec_l2Search.cells, rz_spec_l2Search, pr_spec_l2Search, *]
    · exact outR_flat rfl

abbrev R_impl_eachOrder {σ : Type} (enc : σ → List Blk) (m nc : Nat) (cp : List V) (p : σ × List Int) (T : Tm) (H : List Blk) : Prop :=
  ∃ g, look T 1 = .fn nc cp ∧ look T 4 = .os m g 1 0 p.2.length ∧ H = enc p.1 ++ [⟨g, false, 1, p.2.map (cI .i64)⟩]

theorem ok_impl_eachOrder {cl : Callee} (K_nextOrder : K_impl_nextOrder x_impl_nextOrder (cl n_impl_nextOrder)) (K_numbersTo : K_impl_numbersTo x_impl_numbersTo (cl n_impl_numbersTo))
    {σ : Type} (enc : σ → List Blk) (m : Nat) (hm : ∀ s, (enc s).length = m) (nc : Nat) (cp : List V) (step : σ → List Int → Option σ)
    (hstep : ∀ s o s', step s o = some s' → ∀ g ng, ∃ ng', gcall (shOf F) cl false nc (.os m g 1 0 o.length :: cp) (enc s ++ [⟨g, false, 1, o.map (cI .i64)⟩]) ng = some (.tup [], enc s' ++ [⟨g, false, 1, o.map (cI .i64)⟩], ng', .all))
    (n : Int) (s s' : σ) (hr : x_impl_eachOrder n step s = some s') (ng : Nat) : ∃ X ng', gbody F LL cl c_impl_eachOrder [.int .i64 n, .fn nc cp] (enc s) ng = some (.tup [], enc s' ++ X, ng') := by
  unfold x_impl_eachOrder at hr
  obtain ⟨o, q1, hr⟩ := Option.bind_eq_some_iff.1 hr
  have e1 : ∀ H ng, gcall (shOf F) cl true n_impl_numbersTo [.int .i64 n] H ng = some (.os H.length ng 1 0 o.length, H ++ [⟨ng, false, 1, o.map (cI .i64)⟩], ng + 1, .touch [] []) := fun H ng => by
    have := call_far_own (H := H) (ng := ng) s_impl_numbersTo rfl (K_numbersTo _ _ q1)
    simp only [List.length_map] at this
    exact this
  have hl := sim_loop (sb := x_impl_eachOrder_l0 step) (sh := shOf F) (cl := cl) (lv := some [1, 4]) (b := c_impl_eachOrder_l0) (n0 := m + 1) (R_impl_eachOrder enc m nc cp) (fun p e T H => e = .ret ∧ ∃ X, H = enc p ++ X) (by
    rintro ⟨s1, o1⟩ c hb T H ng1 ⟨g, f1, f4, rfl⟩
    unfold x_impl_eachOrder_l0 at hb
    obtain ⟨s2, q2, hb⟩ := Option.bind_eq_some_iff.1 hb
    obtain ⟨r, q3, hb⟩ := Option.bind_eq_some_iff.1 hb
    obtain ⟨ng2, e2⟩ := hstep _ _ _ q2 g ng1
    have hS := K_nextOrder _ _ q3
    obtain ⟨ng3, e3⟩ := call_S s_impl_nextOrder hS (enc s2) [] g ng2
    by_cases hlen : r.2.length = o1.length
    case neg => rw [if_neg hlen] at hb; exact nomatch hb
    rw [if_pos hlen] at hb
    simp only [hm, List.length_map] at e3
    have hlen' : o1.length = r.2.length := hlen.symm
    simp only at f4
    cases h3 : r.1 with
    | true =>
      rw [h3] at e3
      simp only [h3, if_true, Option.some.injEq] at hb
      subst hb
      refine turn (by
        simp only [c_impl_eachOrder_l0, evA, evB, Int.reduceToNat, eq_self, reduceCtorEq, ↓reduceIte, Nat.reduceEqDiff, Nat.reduceAdd, Nat.reduceLT, Nat.reduceLeDiff, Nat.reduceMul, Nat.reduceSub, Nat.reduceBEq, spec_l1Cur.cells, rz_spec_l1Cur, pr_spec_l1Cur, impl_Job.cells, rz_impl_Job, pr_impl_Job, spec_l2Search.cells, rz_spec_l2Search, pr_spec_l2Search, f1, f4, e2, e3, h3]
        rfl) ?_
      exact ⟨rfl, g, rfl, by simp [look, hlen'], by rw [List.take_of_length_le (by simp [hm])]⟩
    | false =>
      rw [h3] at e3
      simp only [h3, Bool.false_eq_true, if_false, Option.some.injEq] at hb
      subst hb
      refine turn (by
        simp only [c_impl_eachOrder_l0, evA, evB, Int.reduceToNat, eq_self, reduceCtorEq, ↓reduceIte, Nat.reduceEqDiff, Nat.reduceAdd, Nat.reduceLT, Nat.reduceLeDiff, Nat.reduceMul, Nat.reduceSub, Nat.reduceBEq, spec_l1Cur.cells, rz_spec_l1Cur, pr_spec_l1Cur, impl_Job.cells, rz_impl_Job, pr_impl_Job, spec_l2Search.cells, rz_spec_l2Search, pr_spec_l2Search, f1, f4, e2, e3, h3]
        rfl) ?_
      exact ⟨by simp, rfl, _, rfl⟩)
  obtain ⟨e, T', H', ng', l1, rfl, X, rfl⟩ := hl (s, o) s' hr [(1, .fn nc cp), (4, .os m ng 1 0 o.length)] (enc s ++ [⟨ng, false, 1, o.map (cI .i64)⟩]) (ng + 1) ⟨ng, rfl, rfl, rfl⟩ (by simp [hm])
  refine ⟨X, ng', ?_⟩
  simp only [c_impl_eachOrder, evA, evB, Int.reduceToNat, eq_self, reduceCtorEq, ↓reduceIte, Nat.reduceEqDiff, Nat.reduceAdd, Nat.reduceLT, Nat.reduceLeDiff, Nat.reduceMul, Nat.reduceSub, Nat.reduceBEq, spec_l1Cur.cells, rz_spec_l1Cur, pr_spec_l1Cur, impl_Job.cells, rz_impl_Job, pr_impl_Job, spec_l2Search.cells, rz_spec_l2Search, pr_spec_l2Search, e1, hm, l1]


theorem st_impl_endsOf_l0 {cl : Callee} (jobs_ : (List impl_Job)) (v : (List Int)) (vz1 : Int) (st_ : ((List Int) × Int × Int)) (c_ : Ctl ((List Int) × Int × Int) ((List Int))) (hr : x_impl_endsOf_l0 jobs_ v vz1 st_ = some c_) (T_ : Tm) (H_ : List Blk) (ng : Nat) (hR_ : R_impl_endsOf_l0 jobs_ v vz1 st_ T_ H_) :
    ∃ e_ T1_ H1_ ng1_, gcode (shOf F) cl LL c_impl_endsOf_l0 ⟨maskT (some [0, 5, 6, 12, 13, 14]) T_, H_, ng⟩ = some (e_, ⟨T1_, H1_, ng1_⟩) ∧ TurnOK (R_impl_endsOf_l0 jobs_ v vz1) (Q_impl_endsOf_l0 jobs_ v vz1) 1 c_ e_ T1_ H1_ := by
  obtain ⟨out_, end_, vz2⟩ := st_
  obtain ⟨g0, f0_, f1_, f2_, f3_, f4_, f5_, rfl⟩ := hR_
  unfold x_impl_endsOf_l0 at hr
  try dsimp only at hr
  by_cases h5 : vz2 < vz1
  · rw [if_pos h5] at hr
    have e3 : (vz2 < vz1) = True := eq_true h5
    clear h5
    obtain ⟨y6, q10, hr⟩ := Option.bind_eq_some_iff.1 hr
    obtain ⟨e7, e8, e9⟩ := ix_some q10
    try simp only [Int.toNat_natCast, Int.toNat_zero, Int.reduceToNat] at e8
    clear q10
    obtain ⟨y11, q15, hr⟩ := Option.bind_eq_some_iff.1 hr
    obtain ⟨e12, e13, e14⟩ := ix_some q15
    try simp only [Int.toNat_natCast, Int.toNat_zero, Int.reduceToNat] at e13
    clear q15
    obtain ⟨y16, q20, hr⟩ := Option.bind_eq_some_iff.1 hr
    obtain ⟨e17, e18, e19⟩ := ix_some q20
    try simp only [Int.toNat_natCast, Int.toNat_zero, Int.reduceToNat] at e18
    clear q20
    obtain ⟨l21, q26, hr⟩ := Option.bind_eq_some_iff.1 hr
    obtain ⟨_, _, e22, e23, _⟩ := put_some q26
    try simp only [Int.toNat_natCast, Int.toNat_zero, Int.reduceToNat] at e22
    have e24 : (out_.map (cI .i64)).set (Int.toNat y6) [.int .i64 (addK .i64 (mxK end_ y11.Release) y11.Time)] = l21.map (cI .i64) := by rw [← e22, List.map_set] <;> rfl
    replace e23 : Keep (out_.length = l21.length) := e23
    clear e22 q26
    have hr_ := Option.some.inj hr; subst hr_
    refine turn (by
      simp only [c_impl_endsOf_l0, evA, evB, Int.reduceToNat, eq_self, reduceCtorEq, ↓reduceIte, Nat.reduceEqDiff, Nat.reduceAdd, Nat.reduceLT, Nat.reduceLeDiff, Nat.reduceMul, Nat.reduceSub, Nat.reduceBEq, spec_l1Cur.cells, rz_spec_l1Cur, pr_spec_l1Cur, impl_Job.cells, rz_impl_Job, pr_impl_Job, spec_l2Search.cells, rz_spec_l2Search, pr_spec_l2Search, *]
      rfl) ?_
    exact ⟨rfl, _, rfl, (congrArg (fun n_ => V.os 0 g0 1 0 n_) e23), rfl, rfl, rfl, rfl, rfl⟩
  · rw [if_neg h5] at hr
    have e4 : (vz2 < vz1) = False := eq_false h5
    clear h5
    have hr_ := Option.some.inj hr; subst hr_
    refine turn (by
      simp only [c_impl_endsOf_l0, evA, evB, Int.reduceToNat, eq_self, reduceCtorEq, ↓reduceIte, Nat.reduceEqDiff, Nat.reduceAdd, Nat.reduceLT, Nat.reduceLeDiff, Nat.reduceMul, Nat.reduceSub, Nat.reduceBEq, spec_l1Cur.cells, rz_spec_l1Cur, pr_spec_l1Cur, impl_Job.cells, rz_impl_Job, pr_impl_Job, spec_l2Search.cells, rz_spec_l2Search, pr_spec_l2Search, *]
      rfl) ?_
    exact ⟨by simp, rfl, _, rfl, rfl⟩

theorem lp_impl_endsOf_l0 {cl : Callee} (jobs_ : (List impl_Job)) (v : (List Int)) (vz1 : Int) (st_ : ((List Int) × Int × Int)) (p_ : ((List Int))) (hr : loopS (x_impl_endsOf_l0 jobs_ v vz1) LL st_ = some p_) (T_ : Tm) (H_ : List Blk) (ng : Nat) (hR_ : R_impl_endsOf_l0 jobs_ v vz1 st_ T_ H_) (hn_ : H_.length = 1) :
    ∃ e_ T1_ H1_ ng1_, gcode (shOf F) cl LL (.loop false (some [0, 5, 6, 12, 13, 14]) c_impl_endsOf_l0) ⟨T_, H_, ng⟩ = some (e_, ⟨T1_, H1_, ng1_⟩) ∧ Q_impl_endsOf_l0 jobs_ v vz1 p_ e_ T1_ H1_ :=
  sim_loop (n0 := 1) (R_impl_endsOf_l0 jobs_ v vz1) (Q_impl_endsOf_l0 jobs_ v vz1) (st_impl_endsOf_l0 jobs_ v vz1) st_ p_ hr T_ H_ ng hR_ hn_

theorem ok_impl_endsOf {cl : Callee} : K_impl_endsOf (x_impl_endsOf) (gbody F LL cl c_impl_endsOf) := by
  intro jobs_ order_ r hr
  unfold x_impl_endsOf at hr
  try dsimp only at hr
  obtain ⟨y1, q9, hr⟩ := Option.bind_eq_some_iff.1 hr
  obtain ⟨e2, e3, e4, e5, e6⟩ := mk_some q9
  try simp only [Int.toNat_natCast] at e5 e6
  have e7 : List.replicate jobs_.length [.int .i64 0] = y1.map (cI .i64) := by rw [← e5, List.map_replicate] <;> rfl
  have e8 : Keep (jobs_.length = y1.length) := e6.symm
  clear e5 e6 q9
  obtain ⟨p10, q20, hr⟩ := Option.bind_eq_some_iff.1 hr
  obtain ⟨ex16, T13, H14, ng15, l12, m11⟩ := lp_impl_endsOf_l0 (cl := cl)  jobs_ order_ (order_.length : Int) _ _ q20 [(0, .fs (jobs_.map impl_Job.cells)), (5, .os 0 0 1 0 jobs_.length), (6, .int .i64 0), (12, .fs (order_.map (cI .i64))), (13, .int .i64 (order_.length : Int)), (14, .int .i64 0)] [(Blk.mk 0 false 1 (y1.map (cI .i64)))] 1 (show R_impl_endsOf_l0 jobs_ order_ (order_.length : Int) (y1, 0, 0) [(0, .fs (jobs_.map impl_Job.cells)), (5, .os 0 0 1 0 jobs_.length), (6, .int .i64 0), (12, .fs (order_.map (cI .i64))), (13, .int .i64 (order_.length : Int)), (14, .int .i64 0)] [(Blk.mk 0 false 1 (y1.map (cI .i64)))] from ⟨_, rfl, (congrArg (fun n_ => V.os 0 0 1 0 n_) e8), rfl, rfl, rfl, rfl, rfl⟩) rfl
  obtain ⟨rfl, g17, e18, e19⟩ := m11
  subst e19
  have hr_ := Option.some.inj hr; subst hr_
  refine ⟨0, g17, [(Blk.mk g17 false 1 (p10.map (cI .i64)))], ng15, ?_, by simp [hget, hp], sc_cI _ _⟩
  simp only [c_impl_endsOf, evA, evB, Int.reduceToNat, eq_self, reduceCtorEq, ↓reduceIte, Nat.reduceEqDiff, Nat.reduceAdd, Nat.reduceLT, Nat.reduceLeDiff, Nat.reduceMul, Nat.reduceSub, Nat.reduceBEq, spec_l1Cur.cells, rz_spec_l1Cur, pr_spec_l1Cur, impl_Job.cells, rz_impl_Job, pr_impl_Job, spec_l2Search.cells, rz_spec_l2Search, pr_spec_l2Search, *]

theorem st_impl_valueOfEnds_l0 {cl : Callee} (K_impl_add : K_impl_add x_impl_add (cl n_impl_add)) (ends_ : (List Int)) (objective_ : Int) (v : (List impl_Job)) (vz1 : Int) (st_ : (Int × Int)) (c_ : Ctl (Int × Int) (Int)) (hr : x_impl_valueOfEnds_l0 ends_ objective_ v vz1 st_ = some c_) (T_ : Tm) (H_ : List Blk) (ng : Nat) (hR_ : R_impl_valueOfEnds_l0 ends_ objective_ v vz1 st_ T_ H_) :
    ∃ e_ T1_ H1_ ng1_, gcode (shOf F) cl LL c_impl_valueOfEnds_l0 ⟨maskT (some [1, 2, 7, 10, 11, 12]) T_, H_, ng⟩ = some (e_, ⟨T1_, H1_, ng1_⟩) ∧ TurnOK (R_impl_valueOfEnds_l0 ends_ objective_ v vz1) (Q_impl_valueOfEnds_l0 ends_ objective_ v vz1) 0 c_ e_ T1_ H1_ := by
  obtain ⟨value_, vz2⟩ := st_
  obtain ⟨f0_, f1_, f2_, f3_, f4_, f5_, rfl⟩ := hR_
  unfold x_impl_valueOfEnds_l0 at hr
  try dsimp only at hr
  by_cases h5 : vz2 < vz1
  · rw [if_pos h5] at hr
    have e3 : (vz2 < vz1) = True := eq_true h5
    clear h5
    obtain ⟨y6, q10, hr⟩ := Option.bind_eq_some_iff.1 hr
    obtain ⟨e7, e8, e9⟩ := ix_some q10
    try simp only [Int.toNat_natCast, Int.toNat_zero, Int.reduceToNat] at e8
    clear q10
    obtain ⟨y11, q15, hr⟩ := Option.bind_eq_some_iff.1 hr
    obtain ⟨e12, e13, e14⟩ := ix_some q15
    try simp only [Int.toNat_natCast, Int.toNat_zero, Int.reduceToNat] at e13
    clear q15
    obtain ⟨r16, q18, hr⟩ := Option.bind_eq_some_iff.1 hr
    have e17 : ∀ H ng, gcall (shOf F) cl false n_impl_add [.int .i64 value_, .agg [.int .i64 y6.Time, .int .i64 y6.Weight, .int .i64 y6.Release, .int .i64 y6.Due], .int .i64 y11, .int .i64 objective_, .bool (decide (vz2 = 0))] H ng = some (.int .i64 r16, H, ng, .inert) := fun H ng => call_far s_impl_add rfl (K_impl_add _ _ _ _ _ _ q18).ret
    have hr_ := Option.some.inj hr; subst hr_
    refine turn (by
      simp only [c_impl_valueOfEnds_l0, evA, evB, Int.reduceToNat, eq_self, reduceCtorEq, ↓reduceIte, Nat.reduceEqDiff, Nat.reduceAdd, Nat.reduceLT, Nat.reduceLeDiff, Nat.reduceMul, Nat.reduceSub, Nat.reduceBEq, spec_l1Cur.cells, rz_spec_l1Cur, pr_spec_l1Cur, impl_Job.cells, rz_impl_Job, pr_impl_Job, spec_l2Search.cells, rz_spec_l2Search, pr_spec_l2Search, *]
      rfl) ?_
    exact ⟨rfl, rfl, rfl, rfl, rfl, rfl, rfl, rfl⟩
  · rw [if_neg h5] at hr
    have e4 : (vz2 < vz1) = False := eq_false h5
    clear h5
    have hr_ := Option.some.inj hr; subst hr_
    refine turn (by
      simp only [c_impl_valueOfEnds_l0, evA, evB, Int.reduceToNat, eq_self, reduceCtorEq, ↓reduceIte, Nat.reduceEqDiff, Nat.reduceAdd, Nat.reduceLT, Nat.reduceLeDiff, Nat.reduceMul, Nat.reduceSub, Nat.reduceBEq, spec_l1Cur.cells, rz_spec_l1Cur, pr_spec_l1Cur, impl_Job.cells, rz_impl_Job, pr_impl_Job, spec_l2Search.cells, rz_spec_l2Search, pr_spec_l2Search, *]
      rfl) ?_
    exact ⟨by simp, rfl, rfl, rfl⟩

theorem lp_impl_valueOfEnds_l0 {cl : Callee} (K_impl_add : K_impl_add x_impl_add (cl n_impl_add)) (ends_ : (List Int)) (objective_ : Int) (v : (List impl_Job)) (vz1 : Int) (st_ : (Int × Int)) (p_ : (Int)) (hr : loopS (x_impl_valueOfEnds_l0 ends_ objective_ v vz1) LL st_ = some p_) (T_ : Tm) (H_ : List Blk) (ng : Nat) (hR_ : R_impl_valueOfEnds_l0 ends_ objective_ v vz1 st_ T_ H_) (hn_ : H_.length = 0) :
    ∃ e_ T1_ H1_ ng1_, gcode (shOf F) cl LL (.loop false (some [1, 2, 7, 10, 11, 12]) c_impl_valueOfEnds_l0) ⟨T_, H_, ng⟩ = some (e_, ⟨T1_, H1_, ng1_⟩) ∧ Q_impl_valueOfEnds_l0 ends_ objective_ v vz1 p_ e_ T1_ H1_ :=
  sim_loop (n0 := 0) (R_impl_valueOfEnds_l0 ends_ objective_ v vz1) (Q_impl_valueOfEnds_l0 ends_ objective_ v vz1) (st_impl_valueOfEnds_l0 K_impl_add ends_ objective_ v vz1) st_ p_ hr T_ H_ ng hR_ hn_

theorem ok_impl_valueOfEnds {cl : Callee} (K_impl_add : K_impl_add x_impl_add (cl n_impl_add)) : K_impl_valueOfEnds (x_impl_valueOfEnds) (gbody F LL cl c_impl_valueOfEnds) := by
  intro jobs_ ends_ objective_ r hr
  unfold x_impl_valueOfEnds at hr
  try dsimp only at hr
  obtain ⟨p1, q10, hr⟩ := Option.bind_eq_some_iff.1 hr
  obtain ⟨ex7, T4, H5, ng6, l3, m2⟩ := lp_impl_valueOfEnds_l0 (cl := cl) K_impl_add  ends_ objective_ jobs_ (jobs_.length : Int) _ _ q10 [(1, .fs (ends_.map (cI .i64))), (2, .int .i64 objective_), (7, .int .i64 0), (10, .fs (jobs_.map impl_Job.cells)), (11, .int .i64 (jobs_.length : Int)), (12, .int .i64 0)] [] 0 (show R_impl_valueOfEnds_l0 ends_ objective_ jobs_ (jobs_.length : Int) (0, 0) [(1, .fs (ends_.map (cI .i64))), (2, .int .i64 objective_), (7, .int .i64 0), (10, .fs (jobs_.map impl_Job.cells)), (11, .int .i64 (jobs_.length : Int)), (12, .int .i64 0)] [] from ⟨rfl, rfl, rfl, rfl, rfl, rfl, rfl⟩) rfl
  obtain ⟨rfl, e8, e9⟩ := m2
  subst e9
  have hr_ := Option.some.inj hr; subst hr_
  refine RetF.scal (by
    simp only [c_impl_valueOfEnds, evA, evB, Int.reduceToNat, eq_self, reduceCtorEq, ↓reduceIte, Nat.reduceEqDiff, Nat.reduceAdd, Nat.reduceLT, Nat.reduceLeDiff, Nat.reduceMul, Nat.reduceSub, Nat.reduceBEq, spec_l1Cur.cells, rz_spec_l1Cur, pr_spec_l1Cur, impl_Job.cells, rz_impl_Job, pr_impl_Job, spec_l2Search.cells, rz_spec_l2Search, pr_spec_l2Search, *]
    rfl) rfl rfl

theorem ok_impl_valueOf {cl : Callee} (K_impl_endsOf : K_impl_endsOf x_impl_endsOf (cl n_impl_endsOf)) (K_impl_valueOfEnds : K_impl_valueOfEnds x_impl_valueOfEnds (cl n_impl_valueOfEnds)) : K_impl_valueOf (x_impl_valueOf) (gbody F LL cl c_impl_valueOf) := by
  intro jobs_ order_ objective_ r hr
  unfold x_impl_valueOf at hr
  try dsimp only at hr
  obtain ⟨r1, q3, hr⟩ := Option.bind_eq_some_iff.1 hr
  have e2 : ∀ H ng, gcall (shOf F) cl false n_impl_endsOf [.fs (jobs_.map impl_Job.cells), .fs (order_.map (cI .i64))] H ng = some (.fs (r1.map (cI .i64)), H, ng, .inert) := fun H ng => call_far s_impl_endsOf rfl (K_impl_endsOf _ _ _ q3).retF.ret
  obtain ⟨r4, q6, hr⟩ := Option.bind_eq_some_iff.1 hr
  have e5 : ∀ H ng, gcall (shOf F) cl false n_impl_valueOfEnds [.fs (jobs_.map impl_Job.cells), .fs (r1.map (cI .i64)), .int .i64 objective_] H ng = some (.int .i64 r4, H, ng, .inert) := fun H ng => call_far s_impl_valueOfEnds rfl (K_impl_valueOfEnds _ _ _ _ q6).ret
  have hr_ := Option.some.inj hr; subst hr_
  refine RetF.scal (by
    simp only [c_impl_valueOf, evA, evB, Int.reduceToNat, eq_self, reduceCtorEq, ↓reduceIte, Nat.reduceEqDiff, Nat.reduceAdd, Nat.reduceLT, Nat.reduceLeDiff, Nat.reduceMul, Nat.reduceSub, Nat.reduceBEq, spec_l1Cur.cells, rz_spec_l1Cur, pr_spec_l1Cur, impl_Job.cells, rz_impl_Job, pr_impl_Job, spec_l2Search.cells, rz_spec_l2Search, pr_spec_l2Search, *]
    rfl) rfl rfl

theorem ok_impl_copyInts {cl : Callee} : K_impl_copyInts (x_impl_copyInts) (gbody F LL cl c_impl_copyInts) := by
  intro list_ r hr
  unfold x_impl_copyInts at hr
  try dsimp only at hr
  by_cases h3 : fits list_.length 8
  · rw [if_pos h3] at hr
    have e1 : (list_.length * 8 ≤ room) = True := eq_true h3.1
    have e2 : (list_.length ≤ room) = True := eq_true h3.2
    clear h3
    have hr_ := Option.some.inj hr; subst hr_
    refine ⟨0, 1, [(Blk.mk 1 false 1 (list_.map (cI .i64)))], 2, ?_, by simp [hget, hp], sc_cI _ _⟩
    simp only [c_impl_copyInts, evA, evB, Int.reduceToNat, eq_self, reduceCtorEq, ↓reduceIte, Nat.reduceEqDiff, Nat.reduceAdd, Nat.reduceLT, Nat.reduceLeDiff, Nat.reduceMul, Nat.reduceSub, Nat.reduceBEq, spec_l1Cur.cells, rz_spec_l1Cur, pr_spec_l1Cur, impl_Job.cells, rz_impl_Job, pr_impl_Job, spec_l2Search.cells, rz_spec_l2Search, pr_spec_l2Search, *]
  · rw [if_neg h3] at hr
    clear h3
    exact nomatch hr

theorem ok_impl_best_c1 {cl : Callee} (K_impl_valueOf : K_impl_valueOf x_impl_valueOf (cl n_impl_valueOf)) (K_impl_copyInts : K_impl_copyInts x_impl_copyInts (cl n_impl_copyInts)) : K_impl_best_c1 x_impl_best_c1 (gbody F LL cl c_impl_best_c1) := by
  intro x0_0 x1_0 st_ order_ r hr g0 g1 g2 g3 g4 g ng
  obtain ⟨x2_0, x3_0, x4_0⟩ := st_
  unfold x_impl_best_c1 at hr
  try dsimp only at hr
  obtain ⟨r1, q5, hr⟩ := Option.bind_eq_some_iff.1 hr
  have x2 : expC (hp [(Blk.mk g0 false 1 [[.fs (x0_0.map impl_Job.cells)]]), (Blk.mk g1 false 1 [[.int .i64 x1_0]]), (Blk.mk g2 false 1 [[.fs (x2_0.map (cI .i64))]]), (Blk.mk g3 false 1 [[.int .i64 x3_0]]), (Blk.mk g4 false 1 [[.int .i64 x4_0]]), (Blk.mk g false 1 (order_.map (cI .i64)))]) 0 expDepth (.os 5 g 1 0 order_.length) = some (.fs (order_.map (cI .i64))) := (exp_win (b := (Blk.mk g false 1 (order_.map (cI .i64)))) (Nat.zero_le _) (by simp [hget, hp]) (by simp) (pr_cI _ _)).trans (by simp [take_map_len])
  have x3 : mapMV (expV (hp [(Blk.mk g0 false 1 [[.fs (x0_0.map impl_Job.cells)]]), (Blk.mk g1 false 1 [[.int .i64 x1_0]]), (Blk.mk g2 false 1 [[.fs (x2_0.map (cI .i64))]]), (Blk.mk g3 false 1 [[.int .i64 x3_0]]), (Blk.mk g4 false 1 [[.int .i64 x4_0]]), (Blk.mk g false 1 (order_.map (cI .i64)))]) 0) [.fs (x0_0.map impl_Job.cells), .os 5 g 1 0 order_.length, .int .i64 x1_0] = some [.fs (x0_0.map impl_Job.cells), .fs (order_.map (cI .i64)), .int .i64 x1_0] := by simp only [mapMV, ex_int, ex_bool, ex_fs, ex_agg, ex_os, pureCs, V.pureC, Bool.and_self, x2, Option.bind_some, Option.map_some]
  have e4 : gcall (shOf F) cl false n_impl_valueOf [.fs (x0_0.map impl_Job.cells), .os 5 g 1 0 order_.length, .int .i64 x1_0] [(Blk.mk g0 false 1 [[.fs (x0_0.map impl_Job.cells)]]), (Blk.mk g1 false 1 [[.int .i64 x1_0]]), (Blk.mk g2 false 1 [[.fs (x2_0.map (cI .i64))]]), (Blk.mk g3 false 1 [[.int .i64 x3_0]]), (Blk.mk g4 false 1 [[.int .i64 x4_0]]), (Blk.mk g false 1 (order_.map (cI .i64)))] ng = some (.int .i64 r1, [(Blk.mk g0 false 1 [[.fs (x0_0.map impl_Job.cells)]]), (Blk.mk g1 false 1 [[.int .i64 x1_0]]), (Blk.mk g2 false 1 [[.fs (x2_0.map (cI .i64))]]), (Blk.mk g3 false 1 [[.int .i64 x3_0]]), (Blk.mk g4 false 1 [[.int .i64 x4_0]]), (Blk.mk g false 1 (order_.map (cI .i64)))], ng, .touch (idsVs (hp [(Blk.mk g0 false 1 [[.fs (x0_0.map impl_Job.cells)]]), (Blk.mk g1 false 1 [[.int .i64 x1_0]]), (Blk.mk g2 false 1 [[.fs (x2_0.map (cI .i64))]]), (Blk.mk g3 false 1 [[.int .i64 x3_0]]), (Blk.mk g4 false 1 [[.int .i64 x4_0]]), (Blk.mk g false 1 (order_.map (cI .i64)))]) [.fs (x0_0.map impl_Job.cells), .os 5 g 1 0 order_.length, .int .i64 x1_0]) []) := call_near s_impl_valueOf x3 rfl (K_impl_valueOf _ _ _ _ q5)
  clear x2 x3
  by_cases h10 : x4_0 = 0
  · rw [if_pos h10] at hr
    have e8 : (x4_0 = 0) = True := eq_true h10
    clear h10
    obtain ⟨r11, q15, hr⟩ := Option.bind_eq_some_iff.1 hr
    have x12 : expC (hp [(Blk.mk g0 false 1 [[.fs (x0_0.map impl_Job.cells)]]), (Blk.mk g1 false 1 [[.int .i64 x1_0]]), (Blk.mk g2 false 1 [[.fs (x2_0.map (cI .i64))]]), (Blk.mk g3 false 1 [[.int .i64 x3_0]]), (Blk.mk g4 false 1 [[.int .i64 x4_0]]), (Blk.mk g false 1 (order_.map (cI .i64)))]) 0 expDepth (.os 5 g 1 0 order_.length) = some (.fs (order_.map (cI .i64))) := (exp_win (b := (Blk.mk g false 1 (order_.map (cI .i64)))) (Nat.zero_le _) (by simp [hget, hp]) (by simp) (pr_cI _ _)).trans (by simp [take_map_len])
    have x13 : mapMV (expV (hp [(Blk.mk g0 false 1 [[.fs (x0_0.map impl_Job.cells)]]), (Blk.mk g1 false 1 [[.int .i64 x1_0]]), (Blk.mk g2 false 1 [[.fs (x2_0.map (cI .i64))]]), (Blk.mk g3 false 1 [[.int .i64 x3_0]]), (Blk.mk g4 false 1 [[.int .i64 x4_0]]), (Blk.mk g false 1 (order_.map (cI .i64)))]) 0) [.os 5 g 1 0 order_.length] = some [.fs (order_.map (cI .i64))] := by simp only [mapMV, ex_int, ex_bool, ex_fs, ex_agg, ex_os, pureCs, V.pureC, Bool.and_self, x12, Option.bind_some, Option.map_some]
    have e14 : gcall (shOf F) cl false n_impl_copyInts [.os 5 g 1 0 order_.length] [(Blk.mk g0 false 1 [[.fs (x0_0.map impl_Job.cells)]]), (Blk.mk g1 false 1 [[.int .i64 x1_0]]), (Blk.mk g2 false 1 [[.fs (x2_0.map (cI .i64))]]), (Blk.mk g3 false 1 [[.int .i64 x3_0]]), (Blk.mk g4 false 1 [[.int .i64 x4_0]]), (Blk.mk g false 1 (order_.map (cI .i64)))] ng = some (.fs (r11.map (cI .i64)), [(Blk.mk g0 false 1 [[.fs (x0_0.map impl_Job.cells)]]), (Blk.mk g1 false 1 [[.int .i64 x1_0]]), (Blk.mk g2 false 1 [[.fs (x2_0.map (cI .i64))]]), (Blk.mk g3 false 1 [[.int .i64 x3_0]]), (Blk.mk g4 false 1 [[.int .i64 x4_0]]), (Blk.mk g false 1 (order_.map (cI .i64)))], ng, .touch (idsVs (hp [(Blk.mk g0 false 1 [[.fs (x0_0.map impl_Job.cells)]]), (Blk.mk g1 false 1 [[.int .i64 x1_0]]), (Blk.mk g2 false 1 [[.fs (x2_0.map (cI .i64))]]), (Blk.mk g3 false 1 [[.int .i64 x3_0]]), (Blk.mk g4 false 1 [[.int .i64 x4_0]]), (Blk.mk g false 1 (order_.map (cI .i64)))]) [.os 5 g 1 0 order_.length]) []) := call_near s_impl_copyInts x13 rfl (K_impl_copyInts _ _ q15).retF
    clear x12 x13
    have hr_ := Option.some.inj hr; subst hr_
    refine ⟨[], ng, ?_⟩
    simp only [c_impl_best_c1, evA, evB, Int.reduceToNat, eq_self, reduceCtorEq, ↓reduceIte, Nat.reduceEqDiff, Nat.reduceAdd, Nat.reduceLT, Nat.reduceLeDiff, Nat.reduceMul, Nat.reduceSub, Nat.reduceBEq, spec_l1Cur.cells, rz_spec_l1Cur, pr_spec_l1Cur, impl_Job.cells, rz_impl_Job, pr_impl_Job, spec_l2Search.cells, rz_spec_l2Search, pr_spec_l2Search, *]
  · rw [if_neg h10] at hr
    have e9 : (x4_0 = 0) = False := eq_false h10
    clear h10
    by_cases h20 : r1 < x3_0
    · rw [if_pos h20] at hr
      have e18 : (r1 < x3_0) = True := eq_true h20
      clear h20
      obtain ⟨r21, q25, hr⟩ := Option.bind_eq_some_iff.1 hr
      have x22 : expC (hp [(Blk.mk g0 false 1 [[.fs (x0_0.map impl_Job.cells)]]), (Blk.mk g1 false 1 [[.int .i64 x1_0]]), (Blk.mk g2 false 1 [[.fs (x2_0.map (cI .i64))]]), (Blk.mk g3 false 1 [[.int .i64 x3_0]]), (Blk.mk g4 false 1 [[.int .i64 x4_0]]), (Blk.mk g false 1 (order_.map (cI .i64)))]) 0 expDepth (.os 5 g 1 0 order_.length) = some (.fs (order_.map (cI .i64))) := (exp_win (b := (Blk.mk g false 1 (order_.map (cI .i64)))) (Nat.zero_le _) (by simp [hget, hp]) (by simp) (pr_cI _ _)).trans (by simp [take_map_len])
      have x23 : mapMV (expV (hp [(Blk.mk g0 false 1 [[.fs (x0_0.map impl_Job.cells)]]), (Blk.mk g1 false 1 [[.int .i64 x1_0]]), (Blk.mk g2 false 1 [[.fs (x2_0.map (cI .i64))]]), (Blk.mk g3 false 1 [[.int .i64 x3_0]]), (Blk.mk g4 false 1 [[.int .i64 x4_0]]), (Blk.mk g false 1 (order_.map (cI .i64)))]) 0) [.os 5 g 1 0 order_.length] = some [.fs (order_.map (cI .i64))] := by simp only [mapMV, ex_int, ex_bool, ex_fs, ex_agg, ex_os, pureCs, V.pureC, Bool.and_self, x22, Option.bind_some, Option.map_some]
      have e24 : gcall (shOf F) cl false n_impl_copyInts [.os 5 g 1 0 order_.length] [(Blk.mk g0 false 1 [[.fs (x0_0.map impl_Job.cells)]]), (Blk.mk g1 false 1 [[.int .i64 x1_0]]), (Blk.mk g2 false 1 [[.fs (x2_0.map (cI .i64))]]), (Blk.mk g3 false 1 [[.int .i64 x3_0]]), (Blk.mk g4 false 1 [[.int .i64 x4_0]]), (Blk.mk g false 1 (order_.map (cI .i64)))] ng = some (.fs (r21.map (cI .i64)), [(Blk.mk g0 false 1 [[.fs (x0_0.map impl_Job.cells)]]), (Blk.mk g1 false 1 [[.int .i64 x1_0]]), (Blk.mk g2 false 1 [[.fs (x2_0.map (cI .i64))]]), (Blk.mk g3 false 1 [[.int .i64 x3_0]]), (Blk.mk g4 false 1 [[.int .i64 x4_0]]), (Blk.mk g false 1 (order_.map (cI .i64)))], ng, .touch (idsVs (hp [(Blk.mk g0 false 1 [[.fs (x0_0.map impl_Job.cells)]]), (Blk.mk g1 false 1 [[.int .i64 x1_0]]), (Blk.mk g2 false 1 [[.fs (x2_0.map (cI .i64))]]), (Blk.mk g3 false 1 [[.int .i64 x3_0]]), (Blk.mk g4 false 1 [[.int .i64 x4_0]]), (Blk.mk g false 1 (order_.map (cI .i64)))]) [.os 5 g 1 0 order_.length]) []) := call_near s_impl_copyInts x23 rfl (K_impl_copyInts _ _ q25).retF
      clear x22 x23
      have hr_ := Option.some.inj hr; subst hr_
      refine ⟨[], ng, ?_⟩
      simp only [c_impl_best_c1, evA, evB, Int.reduceToNat, eq_self, reduceCtorEq, ↓reduceIte, Nat.reduceEqDiff, Nat.reduceAdd, Nat.reduceLT, Nat.reduceLeDiff, Nat.reduceMul, Nat.reduceSub, Nat.reduceBEq, spec_l1Cur.cells, rz_spec_l1Cur, pr_spec_l1Cur, impl_Job.cells, rz_impl_Job, pr_impl_Job, spec_l2Search.cells, rz_spec_l2Search, pr_spec_l2Search, *]
    · rw [if_neg h20] at hr
      have e19 : (r1 < x3_0) = False := eq_false h20
      clear h20
      by_cases h30 : r1 = x3_0
      · rw [if_pos h30] at hr
        have e28 : (r1 = x3_0) = True := eq_true h30
        clear h30
        have hr_ := Option.some.inj hr; subst hr_
        refine ⟨[], ng, ?_⟩
        simp only [c_impl_best_c1, evA, evB, Int.reduceToNat, eq_self, reduceCtorEq, ↓reduceIte, Nat.reduceEqDiff, Nat.reduceAdd, Nat.reduceLT, Nat.reduceLeDiff, Nat.reduceMul, Nat.reduceSub, Nat.reduceBEq, spec_l1Cur.cells, rz_spec_l1Cur, pr_spec_l1Cur, impl_Job.cells, rz_impl_Job, pr_impl_Job, spec_l2Search.cells, rz_spec_l2Search, pr_spec_l2Search, *]
      · rw [if_neg h30] at hr
        have e29 : (r1 = x3_0) = False := eq_false h30
        clear h30
        have hr_ := Option.some.inj hr; subst hr_
        refine ⟨[], ng, ?_⟩
        simp only [c_impl_best_c1, evA, evB, Int.reduceToNat, eq_self, reduceCtorEq, ↓reduceIte, Nat.reduceEqDiff, Nat.reduceAdd, Nat.reduceLT, Nat.reduceLeDiff, Nat.reduceMul, Nat.reduceSub, Nat.reduceBEq, spec_l1Cur.cells, rz_spec_l1Cur, pr_spec_l1Cur, impl_Job.cells, rz_impl_Job, pr_impl_Job, spec_l2Search.cells, rz_spec_l2Search, pr_spec_l2Search, *]

theorem ok_impl_best {cl : Callee} (K_impl_eachOrder__impl_best_c1 : K_impl_eachOrder__impl_best_c1 (cl n_impl_eachOrder)) : K_impl_best (x_impl_best) (gbody F LL cl c_impl_best) := by
  intro jobs_ objective_ r hr
  unfold x_impl_best at hr
  try dsimp only at hr
  obtain ⟨r3, q4, hr⟩ := Option.bind_eq_some_iff.1 hr
  obtain ⟨ng1, e2⟩ : ∃ ng', gcall (shOf F) cl false n_impl_eachOrder [.int .i64 (jobs_.length : Int), .fn n_impl_best_c1 [.ptr 0 0 0 0, .ptr 1 1 0 0, .ptr 4 4 0 0, .ptr 3 3 0 0, .ptr 2 2 0 0]] [(Blk.mk 0 false 1 [[.fs (jobs_.map impl_Job.cells)]]), (Blk.mk 1 false 1 [[.int .i64 objective_]]), (Blk.mk 2 false 1 [[.fs []]]), (Blk.mk 3 false 1 [[.int .i64 0]]), (Blk.mk 4 false 1 [[.int .i64 0]])] 5 = some (.tup [], [(Blk.mk 0 false 1 [[.fs (jobs_.map impl_Job.cells)]]), (Blk.mk 1 false 1 [[.int .i64 objective_]]), (Blk.mk 2 false 1 [[.fs (r3.1.map (cI .i64))]]), (Blk.mk 3 false 1 [[.int .i64 r3.2.1]]), (Blk.mk 4 false 1 [[.int .i64 r3.2.2]])], ng', .all) := call_P' s_impl_eachOrder (K_impl_eachOrder__impl_best_c1 _ _ _ _ _ q4 _ _ _ _ _ 5) rfl
  have hr_ := Option.some.inj hr; subst hr_
  refine Ret.flat (by
    simp only [c_impl_best, evA, evB, Int.reduceToNat, eq_self, reduceCtorEq, ↓reduceIte, Nat.reduceEqDiff, Nat.reduceAdd, Nat.reduceLT, Nat.reduceLeDiff, Nat.reduceMul, Nat.reduceSub, Nat.reduceBEq, spec_l1Cur.cells, rz_spec_l1Cur, pr_spec_l1Cur, impl_Job.cells, rz_impl_Job, pr_impl_Job, spec_l2Search.cells, rz_spec_l2Search, pr_spec_l2Search, *]
    rfl) rfl

theorem ok_impl_BestValue {cl : Callee} (K_impl_isObjective : K_impl_isObjective x_impl_isObjective (cl n_impl_isObjective)) (K_impl_IsJobs : K_impl_IsJobs x_impl_IsJobs (cl n_impl_IsJobs)) (K_impl_best : K_impl_best x_impl_best (cl n_impl_best)) : K_impl_BestValue (x_impl_BestValue) (gbody F LL cl c_impl_BestValue) := by
  intro jobs_ objective_ r hr
  unfold x_impl_BestValue at hr
  try dsimp only at hr
  obtain ⟨r1, q3, hr⟩ := Option.bind_eq_some_iff.1 hr
  have e2 : ∀ H ng, gcall (shOf F) cl false n_impl_IsJobs [.fs (jobs_.map impl_Job.cells)] H ng = some (.bool r1, H, ng, .inert) := fun H ng => call_far s_impl_IsJobs rfl (K_impl_IsJobs _ _ q3).ret
  by_cases h6 : r1 = true
  · rw [if_pos h6] at hr
    have e4 : r1 = true := h6
    clear h6
    obtain ⟨r7, q9, hr⟩ := Option.bind_eq_some_iff.1 hr
    have e8 : ∀ H ng, gcall (shOf F) cl false n_impl_isObjective [.int .i64 objective_] H ng = some (.bool r7, H, ng, .inert) := fun H ng => call_far s_impl_isObjective rfl (K_impl_isObjective _ _ q9).ret
    by_cases h12 : r7 = true
    · rw [if_pos h12] at hr
      have e10 : r7 = true := h12
      clear h12
      obtain ⟨r13, q15, hr⟩ := Option.bind_eq_some_iff.1 hr
      have e14 : ∀ H ng, gcall (shOf F) cl false n_impl_best [.fs (jobs_.map impl_Job.cells), .int .i64 objective_] H ng = some (.tup [.fs (r13.1.map (cI .i64)), .int .i64 r13.2.1, .int .i64 r13.2.2], H, ng, .inert) := fun H ng => call_far s_impl_best rfl (K_impl_best _ _ _ q15)
      have hr_ := Option.some.inj hr; subst hr_
      refine RetF.scal (by
        simp only [c_impl_BestValue, evA, evB, Int.reduceToNat, eq_self, reduceCtorEq, ↓reduceIte, Nat.reduceEqDiff, Nat.reduceAdd, Nat.reduceLT, Nat.reduceLeDiff, Nat.reduceMul, Nat.reduceSub, Nat.reduceBEq, spec_l1Cur.cells, rz_spec_l1Cur, pr_spec_l1Cur, impl_Job.cells, rz_impl_Job, pr_impl_Job, spec_l2Search.cells, rz_spec_l2Search, pr_spec_l2Search, *]
        rfl) rfl rfl
    · rw [if_neg h12] at hr
      have e11 : r7 = false := Bool.eq_false_iff.2 h12
      clear h12
      have hr_ := Option.some.inj hr; subst hr_
      refine RetF.scal (by
        simp only [c_impl_BestValue, evA, evB, Int.reduceToNat, eq_self, reduceCtorEq, ↓reduceIte, Nat.reduceEqDiff, Nat.reduceAdd, Nat.reduceLT, Nat.reduceLeDiff, Nat.reduceMul, Nat.reduceSub, Nat.reduceBEq, spec_l1Cur.cells, rz_spec_l1Cur, pr_spec_l1Cur, impl_Job.cells, rz_impl_Job, pr_impl_Job, spec_l2Search.cells, rz_spec_l2Search, pr_spec_l2Search, *]
        rfl) rfl rfl
  · rw [if_neg h6] at hr
    have e5 : r1 = false := Bool.eq_false_iff.2 h6
    clear h6
    have hr_ := Option.some.inj hr; subst hr_
    refine RetF.scal (by
      simp only [c_impl_BestValue, evA, evB, Int.reduceToNat, eq_self, reduceCtorEq, ↓reduceIte, Nat.reduceEqDiff, Nat.reduceAdd, Nat.reduceLT, Nat.reduceLeDiff, Nat.reduceMul, Nat.reduceSub, Nat.reduceBEq, spec_l1Cur.cells, rz_spec_l1Cur, pr_spec_l1Cur, impl_Job.cells, rz_impl_Job, pr_impl_Job, spec_l2Search.cells, rz_spec_l2Search, pr_spec_l2Search, *]
      rfl) rfl rfl

theorem st_spec_l1Has_l0 {cl : Callee} (l_ : (List Int)) (n_ : Int) (st_ : (Int)) (c_ : Ctl (Int) (Unit ⊕ (Bool))) (hr : x_spec_l1Has_l0 l_ n_ st_ = some c_) (T_ : Tm) (H_ : List Blk) (ng : Nat) (hR_ : R_spec_l1Has_l0 l_ n_ st_ T_ H_) :
    ∃ e_ T1_ H1_ ng1_, gcode (shOf F) cl LL c_spec_l1Has_l0 ⟨maskT (some [0, 1, 5]) T_, H_, ng⟩ = some (e_, ⟨T1_, H1_, ng1_⟩) ∧ TurnOK (R_spec_l1Has_l0 l_ n_) (Q_spec_l1Has_l0 l_ n_) 0 c_ e_ T1_ H1_ := by
  obtain ⟨i_, hst_⟩ : ∃ x, x = st_ := ⟨_, rfl⟩; subst hst_
  obtain ⟨f0_, f1_, f2_, rfl⟩ := hR_
  unfold x_spec_l1Has_l0 at hr
  try dsimp only at hr
  by_cases h5 : i_ < (l_.length : Int)
  · rw [if_pos h5] at hr
    have e3 : (i_ < (l_.length : Int)) = True := eq_true h5
    clear h5
    obtain ⟨y6, q10, hr⟩ := Option.bind_eq_some_iff.1 hr
    obtain ⟨e7, e8, e9⟩ := ix_some q10
    try simp only [Int.toNat_natCast, Int.toNat_zero, Int.reduceToNat] at e8
    clear q10
    by_cases h15 : y6 = n_
    · rw [if_pos h15] at hr
      have e13 : (y6 = n_) = True := eq_true h15
      clear h15
      have hr_ := Option.some.inj hr; subst hr_
      refine turn (by
        simp only [c_spec_l1Has_l0, evA, evB, Int.reduceToNat, eq_self, reduceCtorEq, ↓reduceIte, Nat.reduceEqDiff, Nat.reduceAdd, Nat.reduceLT, Nat.reduceLeDiff, Nat.reduceMul, Nat.reduceSub, Nat.reduceBEq, spec_l1Cur.cells, rz_spec_l1Cur, pr_spec_l1Cur, impl_Job.cells, rz_impl_Job, pr_impl_Job, spec_l2Search.cells, rz_spec_l2Search, pr_spec_l2Search, *]
        rfl) ?_
      exact ⟨by simp, rfl, (by first | rfl | assumption)⟩
    · rw [if_neg h15] at hr
      have e14 : (y6 = n_) = False := eq_false h15
      clear h15
      have hr_ := Option.some.inj hr; subst hr_
      refine turn (by
        simp only [c_spec_l1Has_l0, evA, evB, Int.reduceToNat, eq_self, reduceCtorEq, ↓reduceIte, Nat.reduceEqDiff, Nat.reduceAdd, Nat.reduceLT, Nat.reduceLeDiff, Nat.reduceMul, Nat.reduceSub, Nat.reduceBEq, spec_l1Cur.cells, rz_spec_l1Cur, pr_spec_l1Cur, impl_Job.cells, rz_impl_Job, pr_impl_Job, spec_l2Search.cells, rz_spec_l2Search, pr_spec_l2Search, *]
        rfl) ?_
      exact ⟨rfl, rfl, rfl, rfl, rfl⟩
  · rw [if_neg h5] at hr
    have e4 : (i_ < (l_.length : Int)) = False := eq_false h5
    clear h5
    have hr_ := Option.some.inj hr; subst hr_
    refine turn (by
      simp only [c_spec_l1Has_l0, evA, evB, Int.reduceToNat, eq_self, reduceCtorEq, ↓reduceIte, Nat.reduceEqDiff, Nat.reduceAdd, Nat.reduceLT, Nat.reduceLeDiff, Nat.reduceMul, Nat.reduceSub, Nat.reduceBEq, spec_l1Cur.cells, rz_spec_l1Cur, pr_spec_l1Cur, impl_Job.cells, rz_impl_Job, pr_impl_Job, spec_l2Search.cells, rz_spec_l2Search, pr_spec_l2Search, *]
      rfl) ?_
    exact ⟨by simp, rfl, rfl⟩

theorem lp_spec_l1Has_l0 {cl : Callee} (l_ : (List Int)) (n_ : Int) (st_ : (Int)) (p_ : (Unit ⊕ (Bool))) (hr : loopS (x_spec_l1Has_l0 l_ n_) LL st_ = some p_) (T_ : Tm) (H_ : List Blk) (ng : Nat) (hR_ : R_spec_l1Has_l0 l_ n_ st_ T_ H_) (hn_ : H_.length = 0) :
    ∃ e_ T1_ H1_ ng1_, gcode (shOf F) cl LL (.loop false (some [0, 1, 5]) c_spec_l1Has_l0) ⟨T_, H_, ng⟩ = some (e_, ⟨T1_, H1_, ng1_⟩) ∧ Q_spec_l1Has_l0 l_ n_ p_ e_ T1_ H1_ :=
  sim_loop (n0 := 0) (R_spec_l1Has_l0 l_ n_) (Q_spec_l1Has_l0 l_ n_) (st_spec_l1Has_l0 l_ n_) st_ p_ hr T_ H_ ng hR_ hn_

theorem ok_spec_l1Has {cl : Callee} : K_spec_l1Has (x_spec_l1Has) (gbody F LL cl c_spec_l1Has) := by
  intro l_ n_ r hr
  unfold x_spec_l1Has at hr
  try dsimp only at hr
  obtain ⟨p1, q10, hr⟩ := Option.bind_eq_some_iff.1 hr
  obtain ⟨ex7, T4, H5, ng6, l3, m2⟩ := lp_spec_l1Has_l0 (cl := cl)  l_ n_ _ _ q10 [(0, .fs (l_.map (cI .i64))), (1, .int .i64 n_), (5, .int .i64 0)] [] 0 (show R_spec_l1Has_l0 l_ n_ 0 [(0, .fs (l_.map (cI .i64))), (1, .int .i64 n_), (5, .int .i64 0)] [] from ⟨rfl, rfl, rfl, rfl⟩) rfl
  rcases p1 with p1 | p1
  · dsimp only at hr
    obtain ⟨rfl, e8⟩ := m2
    subst e8
    have hr_ := Option.some.inj hr; subst hr_
    refine RetF.scal (by
      simp only [c_spec_l1Has, evA, evB, Int.reduceToNat, eq_self, reduceCtorEq, ↓reduceIte, Nat.reduceEqDiff, Nat.reduceAdd, Nat.reduceLT, Nat.reduceLeDiff, Nat.reduceMul, Nat.reduceSub, Nat.reduceBEq, spec_l1Cur.cells, rz_spec_l1Cur, pr_spec_l1Cur, impl_Job.cells, rz_impl_Job, pr_impl_Job, spec_l2Search.cells, rz_spec_l2Search, pr_spec_l2Search, *]
      rfl) rfl rfl
  · dsimp only at hr
    obtain ⟨rfl, e9⟩ := m2
    have hr_ := Option.some.inj hr; subst hr_
    refine RetF.scal (by
      simp only [c_spec_l1Has, evA, evB, Int.reduceToNat, eq_self, reduceCtorEq, ↓reduceIte, Nat.reduceEqDiff, Nat.reduceAdd, Nat.reduceLT, Nat.reduceLeDiff, Nat.reduceMul, Nat.reduceSub, Nat.reduceBEq, spec_l1Cur.cells, rz_spec_l1Cur, pr_spec_l1Cur, impl_Job.cells, rz_impl_Job, pr_impl_Job, spec_l2Search.cells, rz_spec_l2Search, pr_spec_l2Search, *]
      rfl) rfl rfl

theorem ok_spec_l1Own {cl : Callee} : K_spec_l1Own (x_spec_l1Own) (gbody F LL cl c_spec_l1Own) := by
  intro l_ r hr
  unfold x_spec_l1Own at hr
  try dsimp only at hr
  by_cases h3 : fits l_.length 8
  · rw [if_pos h3] at hr
    have e1 : (l_.length * 8 ≤ room) = True := eq_true h3.1
    have e2 : (l_.length ≤ room) = True := eq_true h3.2
    clear h3
    have hr_ := Option.some.inj hr; subst hr_
    refine ⟨1, 2, [(Blk.mk 0 false 1 []), (Blk.mk 2 false 1 (l_.map (cI .i64)))], 3, ?_, by simp [hget, hp], sc_cI _ _⟩
    simp only [c_spec_l1Own, evA, evB, Int.reduceToNat, eq_self, reduceCtorEq, ↓reduceIte, Nat.reduceEqDiff, Nat.reduceAdd, Nat.reduceLT, Nat.reduceLeDiff, Nat.reduceMul, Nat.reduceSub, Nat.reduceBEq, spec_l1Cur.cells, rz_spec_l1Cur, pr_spec_l1Cur, impl_Job.cells, rz_impl_Job, pr_impl_Job, spec_l2Search.cells, rz_spec_l2Search, pr_spec_l2Search, *]
  · rw [if_neg h3] at hr
    clear h3
    exact nomatch hr

theorem st_spec_l2Starts_l0 {cl : Callee} (K_spec_l1Most : K_spec_l1Most x_spec_l1Most (cl n_spec_l1Most)) (jobs_ : (List impl_Job)) (order_ : (List Int)) (st_ : ((List Int) × Int × Int)) (c_ : Ctl ((List Int) × Int × Int) ((List Int))) (hr : x_spec_l2Starts_l0 jobs_ order_ st_ = some c_) (T_ : Tm) (H_ : List Blk) (ng : Nat) (hR_ : R_spec_l2Starts_l0 jobs_ order_ st_ T_ H_) :
    ∃ e_ T1_ H1_ ng1_, gcode (shOf F) cl LL c_spec_l2Starts_l0 ⟨maskT (some [0, 1, 5, 6, 7]) T_, H_, ng⟩ = some (e_, ⟨T1_, H1_, ng1_⟩) ∧ TurnOK (R_spec_l2Starts_l0 jobs_ order_) (Q_spec_l2Starts_l0 jobs_ order_) 2 c_ e_ T1_ H1_ := by
  obtain ⟨out_, now_, i_⟩ := st_
  obtain ⟨b0, g1, f0_, f1_, f2_, f3_, f4_, rfl⟩ := hR_
  unfold x_spec_l2Starts_l0 at hr
  try dsimp only at hr
  by_cases h5 : i_ < (order_.length : Int)
  · rw [if_pos h5] at hr
    have e3 : (i_ < (order_.length : Int)) = True := eq_true h5
    clear h5
    obtain ⟨y6, q10, hr⟩ := Option.bind_eq_some_iff.1 hr
    obtain ⟨e7, e8, e9⟩ := ix_some q10
    try simp only [Int.toNat_natCast, Int.toNat_zero, Int.reduceToNat] at e8
    clear q10
    obtain ⟨y11, q15, hr⟩ := Option.bind_eq_some_iff.1 hr
    obtain ⟨e12, e13, e14⟩ := ix_some q15
    try simp only [Int.toNat_natCast, Int.toNat_zero, Int.reduceToNat] at e13
    clear q15
    obtain ⟨r16, q18, hr⟩ := Option.bind_eq_some_iff.1 hr
    have e17 : ∀ H ng, gcall (shOf F) cl false n_spec_l1Most [.int .i64 now_, .int .i64 y11.Release] H ng = some (.int .i64 r16, H, ng, .inert) := fun H ng => call_far s_spec_l1Most rfl (K_spec_l1Most _ _ _ q18).ret
    obtain ⟨y19, q23, hr⟩ := Option.bind_eq_some_iff.1 hr
    obtain ⟨e20, e21, e22⟩ := ix_some q23
    try simp only [Int.toNat_natCast, Int.toNat_zero, Int.reduceToNat] at e21
    clear q23
    obtain ⟨l24, q29, hr⟩ := Option.bind_eq_some_iff.1 hr
    obtain ⟨_, _, e25, e26, _⟩ := put_some q29
    try simp only [Int.toNat_natCast, Int.toNat_zero, Int.reduceToNat] at e25
    have e27 : (out_.map (cI .i64)).set (Int.toNat y6) [.int .i64 r16] = l24.map (cI .i64) := by rw [← e25, List.map_set] <;> rfl
    replace e26 : Keep (out_.length = l24.length) := e26
    clear e25 q29
    obtain ⟨y30, q35, hr⟩ := Option.bind_eq_some_iff.1 hr
    obtain ⟨e31, e32, e33⟩ := ix_some q35
    have e34 : (y6 < ((out_.length : Nat) : Int)) = True := by rw [show out_.length = _ from e26]; exact e33
    try simp only [Int.toNat_natCast, Int.toNat_zero, Int.reduceToNat] at e32
    clear q35
    have hr_ := Option.some.inj hr; subst hr_
    refine turn (by
      simp only [c_spec_l2Starts_l0, evA, evB, Int.reduceToNat, eq_self, reduceCtorEq, ↓reduceIte, Nat.reduceEqDiff, Nat.reduceAdd, Nat.reduceLT, Nat.reduceLeDiff, Nat.reduceMul, Nat.reduceSub, Nat.reduceBEq, spec_l1Cur.cells, rz_spec_l1Cur, pr_spec_l1Cur, impl_Job.cells, rz_impl_Job, pr_impl_Job, spec_l2Search.cells, rz_spec_l2Search, pr_spec_l2Search, *]
      rfl) ?_
    exact ⟨rfl, _, _, rfl, rfl, (congrArg (fun n_ => V.os 1 g1 1 0 n_) e26), rfl, rfl, rfl⟩
  · rw [if_neg h5] at hr
    have e4 : (i_ < (order_.length : Int)) = False := eq_false h5
    clear h5
    have hr_ := Option.some.inj hr; subst hr_
    refine turn (by
      simp only [c_spec_l2Starts_l0, evA, evB, Int.reduceToNat, eq_self, reduceCtorEq, ↓reduceIte, Nat.reduceEqDiff, Nat.reduceAdd, Nat.reduceLT, Nat.reduceLeDiff, Nat.reduceMul, Nat.reduceSub, Nat.reduceBEq, spec_l1Cur.cells, rz_spec_l1Cur, pr_spec_l1Cur, impl_Job.cells, rz_impl_Job, pr_impl_Job, spec_l2Search.cells, rz_spec_l2Search, pr_spec_l2Search, *]
      rfl) ?_
    exact ⟨by simp, rfl, _, _, rfl, rfl⟩

theorem lp_spec_l2Starts_l0 {cl : Callee} (K_spec_l1Most : K_spec_l1Most x_spec_l1Most (cl n_spec_l1Most)) (jobs_ : (List impl_Job)) (order_ : (List Int)) (st_ : ((List Int) × Int × Int)) (p_ : ((List Int))) (hr : loopS (x_spec_l2Starts_l0 jobs_ order_) LL st_ = some p_) (T_ : Tm) (H_ : List Blk) (ng : Nat) (hR_ : R_spec_l2Starts_l0 jobs_ order_ st_ T_ H_) (hn_ : H_.length = 2) :
    ∃ e_ T1_ H1_ ng1_, gcode (shOf F) cl LL (.loop false (some [0, 1, 5, 6, 7]) c_spec_l2Starts_l0) ⟨T_, H_, ng⟩ = some (e_, ⟨T1_, H1_, ng1_⟩) ∧ Q_spec_l2Starts_l0 jobs_ order_ p_ e_ T1_ H1_ :=
  sim_loop (n0 := 2) (R_spec_l2Starts_l0 jobs_ order_) (Q_spec_l2Starts_l0 jobs_ order_) (st_spec_l2Starts_l0 K_spec_l1Most jobs_ order_) st_ p_ hr T_ H_ ng hR_ hn_

theorem ok_spec_l2Starts {cl : Callee} (K_spec_l1Most : K_spec_l1Most x_spec_l1Most (cl n_spec_l1Most)) : K_spec_l2Starts (x_spec_l2Starts) (gbody F LL cl c_spec_l2Starts) := by
  intro jobs_ order_ r hr
  unfold x_spec_l2Starts at hr
  try dsimp only at hr
  obtain ⟨y1, q9, hr⟩ := Option.bind_eq_some_iff.1 hr
  obtain ⟨e2, e3, e4, e5, e6⟩ := mk_some q9
  try simp only [Int.toNat_natCast] at e5 e6
  have e7 : List.replicate jobs_.length [.int .i64 0] = y1.map (cI .i64) := by rw [← e5, List.map_replicate] <;> rfl
  have e8 : Keep (jobs_.length = y1.length) := e6.symm
  clear e5 e6 q9
  obtain ⟨p10, q21, hr⟩ := Option.bind_eq_some_iff.1 hr
  obtain ⟨ex16, T13, H14, ng15, l12, m11⟩ := lp_spec_l2Starts_l0 (cl := cl) K_spec_l1Most  jobs_ order_ _ _ q21 [(0, .fs (jobs_.map impl_Job.cells)), (1, .fs (order_.map (cI .i64))), (5, .os 1 1 1 0 jobs_.length), (6, .int .i64 0), (7, .int .i64 0)] [(Blk.mk 0 false 1 []), (Blk.mk 1 false 1 (y1.map (cI .i64)))] 2 (show R_spec_l2Starts_l0 jobs_ order_ (y1, 0, 0) [(0, .fs (jobs_.map impl_Job.cells)), (1, .fs (order_.map (cI .i64))), (5, .os 1 1 1 0 jobs_.length), (6, .int .i64 0), (7, .int .i64 0)] [(Blk.mk 0 false 1 []), (Blk.mk 1 false 1 (y1.map (cI .i64)))] from ⟨_, _, rfl, rfl, (congrArg (fun n_ => V.os 1 1 1 0 n_) e8), rfl, rfl, rfl⟩) rfl
  obtain ⟨rfl, b17, g18, e19, e20⟩ := m11
  subst e20
  have hr_ := Option.some.inj hr; subst hr_
  refine ⟨1, g18, [b17, (Blk.mk g18 false 1 (p10.map (cI .i64)))], ng15, ?_, by simp [hget, hp], sc_cI _ _⟩
  simp only [c_spec_l2Starts, evA, evB, Int.reduceToNat, eq_self, reduceCtorEq, ↓reduceIte, Nat.reduceEqDiff, Nat.reduceAdd, Nat.reduceLT, Nat.reduceLeDiff, Nat.reduceMul, Nat.reduceSub, Nat.reduceBEq, spec_l1Cur.cells, rz_spec_l1Cur, pr_spec_l1Cur, impl_Job.cells, rz_impl_Job, pr_impl_Job, spec_l2Search.cells, rz_spec_l2Search, pr_spec_l2Search, *]

theorem st_spec_l2Ends_l0 {cl : Callee} (K_spec_l2Starts : K_spec_l2Starts x_spec_l2Starts (cl n_spec_l2Starts)) (jobs_ : (List impl_Job)) (st_ : ((List Int) × Int)) (c_ : Ctl ((List Int) × Int) ((List Int))) (hr : x_spec_l2Ends_l0 jobs_ st_ = some c_) (T_ : Tm) (H_ : List Blk) (ng : Nat) (hR_ : R_spec_l2Ends_l0 jobs_ st_ T_ H_) :
    ∃ e_ T1_ H1_ ng1_, gcode (shOf F) cl LL c_spec_l2Ends_l0 ⟨maskT (some [0, 5, 6]) T_, H_, ng⟩ = some (e_, ⟨T1_, H1_, ng1_⟩) ∧ TurnOK (R_spec_l2Ends_l0 jobs_) (Q_spec_l2Ends_l0 jobs_) 1 c_ e_ T1_ H1_ := by
  obtain ⟨out_, i_⟩ := st_
  obtain ⟨g0, f0_, f1_, f2_, rfl⟩ := hR_
  unfold x_spec_l2Ends_l0 at hr
  try dsimp only at hr
  by_cases h5 : i_ < (jobs_.length : Int)
  · rw [if_pos h5] at hr
    have e3 : (i_ < (jobs_.length : Int)) = True := eq_true h5
    clear h5
    obtain ⟨y6, q10, hr⟩ := Option.bind_eq_some_iff.1 hr
    obtain ⟨e7, e8, e9⟩ := ix_some q10
    try simp only [Int.toNat_natCast, Int.toNat_zero, Int.reduceToNat] at e8
    clear q10
    obtain ⟨y11, q15, hr⟩ := Option.bind_eq_some_iff.1 hr
    obtain ⟨e12, e13, e14⟩ := ix_some q15
    try simp only [Int.toNat_natCast, Int.toNat_zero, Int.reduceToNat] at e13
    clear q15
    obtain ⟨l16, q21, hr⟩ := Option.bind_eq_some_iff.1 hr
    obtain ⟨_, _, e17, e18, _⟩ := put_some q21
    try simp only [Int.toNat_natCast, Int.toNat_zero, Int.reduceToNat] at e17
    have e19 : (out_.map (cI .i64)).set (Int.toNat i_) [.int .i64 (addK .i64 y6 y11.Time)] = l16.map (cI .i64) := by rw [← e17, List.map_set] <;> rfl
    replace e18 : Keep (out_.length = l16.length) := e18
    clear e17 q21
    have hr_ := Option.some.inj hr; subst hr_
    refine turn (by
      simp only [c_spec_l2Ends_l0, evA, evB, Int.reduceToNat, eq_self, reduceCtorEq, ↓reduceIte, Nat.reduceEqDiff, Nat.reduceAdd, Nat.reduceLT, Nat.reduceLeDiff, Nat.reduceMul, Nat.reduceSub, Nat.reduceBEq, spec_l1Cur.cells, rz_spec_l1Cur, pr_spec_l1Cur, impl_Job.cells, rz_impl_Job, pr_impl_Job, spec_l2Search.cells, rz_spec_l2Search, pr_spec_l2Search, *]
      rfl) ?_
    exact ⟨rfl, _, rfl, (congrArg (fun n_ => V.os 0 g0 1 0 n_) e18), rfl, rfl⟩
  · rw [if_neg h5] at hr
    have e4 : (i_ < (jobs_.length : Int)) = False := eq_false h5
    clear h5
    have hr_ := Option.some.inj hr; subst hr_
    refine turn (by
      simp only [c_spec_l2Ends_l0, evA, evB, Int.reduceToNat, eq_self, reduceCtorEq, ↓reduceIte, Nat.reduceEqDiff, Nat.reduceAdd, Nat.reduceLT, Nat.reduceLeDiff, Nat.reduceMul, Nat.reduceSub, Nat.reduceBEq, spec_l1Cur.cells, rz_spec_l1Cur, pr_spec_l1Cur, impl_Job.cells, rz_impl_Job, pr_impl_Job, spec_l2Search.cells, rz_spec_l2Search, pr_spec_l2Search, *]
      rfl) ?_
    exact ⟨by simp, rfl, _, rfl, rfl⟩

theorem lp_spec_l2Ends_l0 {cl : Callee} (K_spec_l2Starts : K_spec_l2Starts x_spec_l2Starts (cl n_spec_l2Starts)) (jobs_ : (List impl_Job)) (st_ : ((List Int) × Int)) (p_ : ((List Int))) (hr : loopS (x_spec_l2Ends_l0 jobs_) LL st_ = some p_) (T_ : Tm) (H_ : List Blk) (ng : Nat) (hR_ : R_spec_l2Ends_l0 jobs_ st_ T_ H_) (hn_ : H_.length = 1) :
    ∃ e_ T1_ H1_ ng1_, gcode (shOf F) cl LL (.loop false (some [0, 5, 6]) c_spec_l2Ends_l0) ⟨T_, H_, ng⟩ = some (e_, ⟨T1_, H1_, ng1_⟩) ∧ Q_spec_l2Ends_l0 jobs_ p_ e_ T1_ H1_ :=
  sim_loop (n0 := 1) (R_spec_l2Ends_l0 jobs_) (Q_spec_l2Ends_l0 jobs_) (st_spec_l2Ends_l0 K_spec_l2Starts jobs_) st_ p_ hr T_ H_ ng hR_ hn_

theorem ok_spec_l2Ends {cl : Callee} (K_spec_l2Starts : K_spec_l2Starts x_spec_l2Starts (cl n_spec_l2Starts)) : K_spec_l2Ends (x_spec_l2Ends) (gbody F LL cl c_spec_l2Ends) := by
  intro jobs_ order_ r hr
  unfold x_spec_l2Ends at hr
  try dsimp only at hr
  obtain ⟨r1, q3, hr⟩ := Option.bind_eq_some_iff.1 hr
  have e2 : ∀ H ng, gcall (shOf F) cl true n_spec_l2Starts [.fs (jobs_.map impl_Job.cells), .fs (order_.map (cI .i64))] H ng = some (.os H.length ng 1 0 r1.length, H ++ [⟨ng, false, 1, (r1.map (cI .i64))⟩], ng + 1, .touch [] []) := fun H ng => by have := call_far_own (H := H) (ng := ng) s_spec_l2Starts rfl (K_spec_l2Starts _ _ _ q3); simp only [List.length_map] at this; exact this
  obtain ⟨p4, q14, hr⟩ := Option.bind_eq_some_iff.1 hr
  obtain ⟨ex10, T7, H8, ng9, l6, m5⟩ := lp_spec_l2Ends_l0 (cl := cl) K_spec_l2Starts  jobs_ _ _ q14 [(0, .fs (jobs_.map impl_Job.cells)), (5, .os 0 0 1 0 r1.length), (6, .int .i64 0)] [(Blk.mk 0 false 1 (r1.map (cI .i64)))] 1 (show R_spec_l2Ends_l0 jobs_ (r1, 0) [(0, .fs (jobs_.map impl_Job.cells)), (5, .os 0 0 1 0 r1.length), (6, .int .i64 0)] [(Blk.mk 0 false 1 (r1.map (cI .i64)))] from ⟨_, rfl, rfl, rfl, rfl⟩) rfl
  obtain ⟨rfl, g11, e12, e13⟩ := m5
  subst e13
  have hr_ := Option.some.inj hr; subst hr_
  refine ⟨0, g11, [(Blk.mk g11 false 1 (p4.map (cI .i64)))], ng9, ?_, by simp [hget, hp], sc_cI _ _⟩
  simp only [c_spec_l2Ends, evA, evB, Int.reduceToNat, eq_self, reduceCtorEq, ↓reduceIte, Nat.reduceEqDiff, Nat.reduceAdd, Nat.reduceLT, Nat.reduceLeDiff, Nat.reduceMul, Nat.reduceSub, Nat.reduceBEq, spec_l1Cur.cells, rz_spec_l1Cur, pr_spec_l1Cur, impl_Job.cells, rz_impl_Job, pr_impl_Job, spec_l2Search.cells, rz_spec_l2Search, pr_spec_l2Search, *]

theorem st_spec_l2Of_l0 {cl : Callee} (K_spec_l2Greatest : K_spec_l2Greatest x_spec_l2Greatest (cl n_spec_l2Greatest)) (K_spec_l2Cost : K_spec_l2Cost x_spec_l2Cost (cl n_spec_l2Cost)) (jobs_ : (List impl_Job)) (ends_ : (List Int)) (objective_ : Int) (st_ : (Int × Int)) (c_ : Ctl (Int × Int) (Int)) (hr : x_spec_l2Of_l0 jobs_ ends_ objective_ st_ = some c_) (T_ : Tm) (H_ : List Blk) (ng : Nat) (hR_ : R_spec_l2Of_l0 jobs_ ends_ objective_ st_ T_ H_) :
    ∃ e_ T1_ H1_ ng1_, gcode (shOf F) cl LL c_spec_l2Of_l0 ⟨maskT (some [0, 1, 2, 7, 8]) T_, H_, ng⟩ = some (e_, ⟨T1_, H1_, ng1_⟩) ∧ TurnOK (R_spec_l2Of_l0 jobs_ ends_ objective_) (Q_spec_l2Of_l0 jobs_ ends_ objective_) 0 c_ e_ T1_ H1_ := by
  obtain ⟨out_, i_⟩ := st_
  obtain ⟨f0_, f1_, f2_, f3_, f4_, rfl⟩ := hR_
  unfold x_spec_l2Of_l0 at hr
  try dsimp only at hr
  by_cases h5 : i_ < (jobs_.length : Int)
  · rw [if_pos h5] at hr
    have e3 : (i_ < (jobs_.length : Int)) = True := eq_true h5
    clear h5
    obtain ⟨r6, q8, hr⟩ := Option.bind_eq_some_iff.1 hr
    have e7 : ∀ H ng, gcall (shOf F) cl false n_spec_l2Greatest [.int .i64 objective_] H ng = some (.bool r6, H, ng, .inert) := fun H ng => call_far s_spec_l2Greatest rfl (K_spec_l2Greatest _ _ q8).ret
    by_cases h11 : r6 = true
    · rw [if_pos h11] at hr
      have e9 : r6 = true := h11
      clear h11
      obtain ⟨y12, q16, hr⟩ := Option.bind_eq_some_iff.1 hr
      obtain ⟨e13, e14, e15⟩ := ix_some q16
      try simp only [Int.toNat_natCast, Int.toNat_zero, Int.reduceToNat] at e14
      clear q16
      by_cases h21 : objective_ = 4
      · rw [if_pos h21] at hr
        have e19 : (objective_ = 4) = True := eq_true h21
        clear h21
        obtain ⟨y22, q26, hr⟩ := Option.bind_eq_some_iff.1 hr
        obtain ⟨e23, e24, e25⟩ := ix_some q26
        try simp only [Int.toNat_natCast, Int.toNat_zero, Int.reduceToNat] at e24
        clear q26
        by_cases h31 : i_ = 0
        · rw [if_pos h31] at hr
          have e29 : (i_ = 0) = True := eq_true h31
          clear h31
          have hr_ := Option.some.inj hr; subst hr_
          refine turn (by
            simp only [c_spec_l2Of_l0, evA, evB, Int.reduceToNat, eq_self, reduceCtorEq, ↓reduceIte, Nat.reduceEqDiff, Nat.reduceAdd, Nat.reduceLT, Nat.reduceLeDiff, Nat.reduceMul, Nat.reduceSub, Nat.reduceBEq, spec_l1Cur.cells, rz_spec_l1Cur, pr_spec_l1Cur, impl_Job.cells, rz_impl_Job, pr_impl_Job, spec_l2Search.cells, rz_spec_l2Search, pr_spec_l2Search, *]
            rfl) ?_
          exact ⟨rfl, rfl, rfl, rfl, rfl, rfl, rfl⟩
        · rw [if_neg h31] at hr
          have e30 : (i_ = 0) = False := eq_false h31
          clear h31
          by_cases h36 : out_ < (subK .i64 y12 y22.Due)
          · rw [if_pos h36] at hr
            have e34 : (out_ < (subK .i64 y12 y22.Due)) = True := eq_true h36
            clear h36
            have hr_ := Option.some.inj hr; subst hr_
            refine turn (by
              simp only [c_spec_l2Of_l0, evA, evB, Int.reduceToNat, eq_self, reduceCtorEq, ↓reduceIte, Nat.reduceEqDiff, Nat.reduceAdd, Nat.reduceLT, Nat.reduceLeDiff, Nat.reduceMul, Nat.reduceSub, Nat.reduceBEq, spec_l1Cur.cells, rz_spec_l1Cur, pr_spec_l1Cur, impl_Job.cells, rz_impl_Job, pr_impl_Job, spec_l2Search.cells, rz_spec_l2Search, pr_spec_l2Search, *]
              rfl) ?_
            exact ⟨rfl, rfl, rfl, rfl, rfl, rfl, rfl⟩
          · rw [if_neg h36] at hr
            have e35 : (out_ < (subK .i64 y12 y22.Due)) = False := eq_false h36
            clear h36
            have hr_ := Option.some.inj hr; subst hr_
            refine turn (by
              simp only [c_spec_l2Of_l0, evA, evB, Int.reduceToNat, eq_self, reduceCtorEq, ↓reduceIte, Nat.reduceEqDiff, Nat.reduceAdd, Nat.reduceLT, Nat.reduceLeDiff, Nat.reduceMul, Nat.reduceSub, Nat.reduceBEq, spec_l1Cur.cells, rz_spec_l1Cur, pr_spec_l1Cur, impl_Job.cells, rz_impl_Job, pr_impl_Job, spec_l2Search.cells, rz_spec_l2Search, pr_spec_l2Search, *]
              rfl) ?_
            exact ⟨rfl, rfl, rfl, rfl, rfl, rfl, rfl⟩
      · rw [if_neg h21] at hr
        have e20 : (objective_ = 4) = False := eq_false h21
        clear h21
        by_cases h41 : i_ = 0
        · rw [if_pos h41] at hr
          have e39 : (i_ = 0) = True := eq_true h41
          clear h41
          have hr_ := Option.some.inj hr; subst hr_
          refine turn (by
            simp only [c_spec_l2Of_l0, evA, evB, Int.reduceToNat, eq_self, reduceCtorEq, ↓reduceIte, Nat.reduceEqDiff, Nat.reduceAdd, Nat.reduceLT, Nat.reduceLeDiff, Nat.reduceMul, Nat.reduceSub, Nat.reduceBEq, spec_l1Cur.cells, rz_spec_l1Cur, pr_spec_l1Cur, impl_Job.cells, rz_impl_Job, pr_impl_Job, spec_l2Search.cells, rz_spec_l2Search, pr_spec_l2Search, *]
            rfl) ?_
          exact ⟨rfl, rfl, rfl, rfl, rfl, rfl, rfl⟩
        · rw [if_neg h41] at hr
          have e40 : (i_ = 0) = False := eq_false h41
          clear h41
          by_cases h46 : out_ < y12
          · rw [if_pos h46] at hr
            have e44 : (out_ < y12) = True := eq_true h46
            clear h46
            have hr_ := Option.some.inj hr; subst hr_
            refine turn (by
              simp only [c_spec_l2Of_l0, evA, evB, Int.reduceToNat, eq_self, reduceCtorEq, ↓reduceIte, Nat.reduceEqDiff, Nat.reduceAdd, Nat.reduceLT, Nat.reduceLeDiff, Nat.reduceMul, Nat.reduceSub, Nat.reduceBEq, spec_l1Cur.cells, rz_spec_l1Cur, pr_spec_l1Cur, impl_Job.cells, rz_impl_Job, pr_impl_Job, spec_l2Search.cells, rz_spec_l2Search, pr_spec_l2Search, *]
              rfl) ?_
            exact ⟨rfl, rfl, rfl, rfl, rfl, rfl, rfl⟩
          · rw [if_neg h46] at hr
            have e45 : (out_ < y12) = False := eq_false h46
            clear h46
            have hr_ := Option.some.inj hr; subst hr_
            refine turn (by
              simp only [c_spec_l2Of_l0, evA, evB, Int.reduceToNat, eq_self, reduceCtorEq, ↓reduceIte, Nat.reduceEqDiff, Nat.reduceAdd, Nat.reduceLT, Nat.reduceLeDiff, Nat.reduceMul, Nat.reduceSub, Nat.reduceBEq, spec_l1Cur.cells, rz_spec_l1Cur, pr_spec_l1Cur, impl_Job.cells, rz_impl_Job, pr_impl_Job, spec_l2Search.cells, rz_spec_l2Search, pr_spec_l2Search, *]
              rfl) ?_
            exact ⟨rfl, rfl, rfl, rfl, rfl, rfl, rfl⟩
    · rw [if_neg h11] at hr
      have e10 : r6 = false := Bool.eq_false_iff.2 h11
      clear h11
      obtain ⟨y47, q51, hr⟩ := Option.bind_eq_some_iff.1 hr
      obtain ⟨e48, e49, e50⟩ := ix_some q51
      try simp only [Int.toNat_natCast, Int.toNat_zero, Int.reduceToNat] at e49
      clear q51
      obtain ⟨y52, q56, hr⟩ := Option.bind_eq_some_iff.1 hr
      obtain ⟨e53, e54, e55⟩ := ix_some q56
      try simp only [Int.toNat_natCast, Int.toNat_zero, Int.reduceToNat] at e54
      clear q56
      obtain ⟨r57, q59, hr⟩ := Option.bind_eq_some_iff.1 hr
      have e58 : ∀ H ng, gcall (shOf F) cl false n_spec_l2Cost [.agg [.int .i64 y47.Time, .int .i64 y47.Weight, .int .i64 y47.Release, .int .i64 y47.Due], .int .i64 y52, .int .i64 objective_] H ng = some (.int .i64 r57, H, ng, .inert) := fun H ng => call_far s_spec_l2Cost rfl (K_spec_l2Cost _ _ _ _ q59).ret
      have hr_ := Option.some.inj hr; subst hr_
      refine turn (by
        simp only [c_spec_l2Of_l0, evA, evB, Int.reduceToNat, eq_self, reduceCtorEq, ↓reduceIte, Nat.reduceEqDiff, Nat.reduceAdd, Nat.reduceLT, Nat.reduceLeDiff, Nat.reduceMul, Nat.reduceSub, Nat.reduceBEq, spec_l1Cur.cells, rz_spec_l1Cur, pr_spec_l1Cur, impl_Job.cells, rz_impl_Job, pr_impl_Job, spec_l2Search.cells, rz_spec_l2Search, pr_spec_l2Search, *]
        rfl) ?_
      exact ⟨rfl, rfl, rfl, rfl, rfl, rfl, rfl⟩
  · rw [if_neg h5] at hr
    have e4 : (i_ < (jobs_.length : Int)) = False := eq_false h5
    clear h5
    have hr_ := Option.some.inj hr; subst hr_
    refine turn (by
      simp only [c_spec_l2Of_l0, evA, evB, Int.reduceToNat, eq_self, reduceCtorEq, ↓reduceIte, Nat.reduceEqDiff, Nat.reduceAdd, Nat.reduceLT, Nat.reduceLeDiff, Nat.reduceMul, Nat.reduceSub, Nat.reduceBEq, spec_l1Cur.cells, rz_spec_l1Cur, pr_spec_l1Cur, impl_Job.cells, rz_impl_Job, pr_impl_Job, spec_l2Search.cells, rz_spec_l2Search, pr_spec_l2Search, *]
      rfl) ?_
    exact ⟨by simp, rfl, rfl, rfl⟩

theorem lp_spec_l2Of_l0 {cl : Callee} (K_spec_l2Greatest : K_spec_l2Greatest x_spec_l2Greatest (cl n_spec_l2Greatest)) (K_spec_l2Cost : K_spec_l2Cost x_spec_l2Cost (cl n_spec_l2Cost)) (jobs_ : (List impl_Job)) (ends_ : (List Int)) (objective_ : Int) (st_ : (Int × Int)) (p_ : (Int)) (hr : loopS (x_spec_l2Of_l0 jobs_ ends_ objective_) LL st_ = some p_) (T_ : Tm) (H_ : List Blk) (ng : Nat) (hR_ : R_spec_l2Of_l0 jobs_ ends_ objective_ st_ T_ H_) (hn_ : H_.length = 0) :
    ∃ e_ T1_ H1_ ng1_, gcode (shOf F) cl LL (.loop false (some [0, 1, 2, 7, 8]) c_spec_l2Of_l0) ⟨T_, H_, ng⟩ = some (e_, ⟨T1_, H1_, ng1_⟩) ∧ Q_spec_l2Of_l0 jobs_ ends_ objective_ p_ e_ T1_ H1_ :=
  sim_loop (n0 := 0) (R_spec_l2Of_l0 jobs_ ends_ objective_) (Q_spec_l2Of_l0 jobs_ ends_ objective_) (st_spec_l2Of_l0 K_spec_l2Greatest K_spec_l2Cost jobs_ ends_ objective_) st_ p_ hr T_ H_ ng hR_ hn_

theorem ok_spec_l2Of {cl : Callee} (K_spec_l2Greatest : K_spec_l2Greatest x_spec_l2Greatest (cl n_spec_l2Greatest)) (K_spec_l2Cost : K_spec_l2Cost x_spec_l2Cost (cl n_spec_l2Cost)) : K_spec_l2Of (x_spec_l2Of) (gbody F LL cl c_spec_l2Of) := by
  intro jobs_ ends_ objective_ r hr
  unfold x_spec_l2Of at hr
  try dsimp only at hr
  obtain ⟨p1, q10, hr⟩ := Option.bind_eq_some_iff.1 hr
  obtain ⟨ex7, T4, H5, ng6, l3, m2⟩ := lp_spec_l2Of_l0 (cl := cl) K_spec_l2Greatest K_spec_l2Cost  jobs_ ends_ objective_ _ _ q10 [(0, .fs (jobs_.map impl_Job.cells)), (1, .fs (ends_.map (cI .i64))), (2, .int .i64 objective_), (7, .int .i64 0), (8, .int .i64 0)] [] 0 (show R_spec_l2Of_l0 jobs_ ends_ objective_ (0, 0) [(0, .fs (jobs_.map impl_Job.cells)), (1, .fs (ends_.map (cI .i64))), (2, .int .i64 objective_), (7, .int .i64 0), (8, .int .i64 0)] [] from ⟨rfl, rfl, rfl, rfl, rfl, rfl⟩) rfl
  obtain ⟨rfl, e8, e9⟩ := m2
  subst e9
  have hr_ := Option.some.inj hr; subst hr_
  refine RetF.scal (by
    simp only [c_spec_l2Of, evA, evB, Int.reduceToNat, eq_self, reduceCtorEq, ↓reduceIte, Nat.reduceEqDiff, Nat.reduceAdd, Nat.reduceLT, Nat.reduceLeDiff, Nat.reduceMul, Nat.reduceSub, Nat.reduceBEq, spec_l1Cur.cells, rz_spec_l1Cur, pr_spec_l1Cur, impl_Job.cells, rz_impl_Job, pr_impl_Job, spec_l2Search.cells, rz_spec_l2Search, pr_spec_l2Search, *]
    rfl) rfl rfl

theorem ok_spec_l2Value {cl : Callee} (K_spec_l2Ends : K_spec_l2Ends x_spec_l2Ends (cl n_spec_l2Ends)) (K_spec_l2Of : K_spec_l2Of x_spec_l2Of (cl n_spec_l2Of)) : K_spec_l2Value (x_spec_l2Value) (gbody F LL cl c_spec_l2Value) := by
  intro jobs_ order_ objective_ r hr
  unfold x_spec_l2Value at hr
  try dsimp only at hr
  obtain ⟨r1, q3, hr⟩ := Option.bind_eq_some_iff.1 hr
  have e2 : ∀ H ng, gcall (shOf F) cl false n_spec_l2Ends [.fs (jobs_.map impl_Job.cells), .fs (order_.map (cI .i64))] H ng = some (.fs (r1.map (cI .i64)), H, ng, .inert) := fun H ng => call_far s_spec_l2Ends rfl (K_spec_l2Ends _ _ _ q3).retF.ret
  obtain ⟨r4, q6, hr⟩ := Option.bind_eq_some_iff.1 hr
  have e5 : ∀ H ng, gcall (shOf F) cl false n_spec_l2Of [.fs (jobs_.map impl_Job.cells), .fs (r1.map (cI .i64)), .int .i64 objective_] H ng = some (.int .i64 r4, H, ng, .inert) := fun H ng => call_far s_spec_l2Of rfl (K_spec_l2Of _ _ _ _ q6).ret
  have hr_ := Option.some.inj hr; subst hr_
  refine RetF.scal (by
    simp only [c_spec_l2Value, evA, evB, Int.reduceToNat, eq_self, reduceCtorEq, ↓reduceIte, Nat.reduceEqDiff, Nat.reduceAdd, Nat.reduceLT, Nat.reduceLeDiff, Nat.reduceMul, Nat.reduceSub, Nat.reduceBEq, spec_l1Cur.cells, rz_spec_l1Cur, pr_spec_l1Cur, impl_Job.cells, rz_impl_Job, pr_impl_Job, spec_l2Search.cells, rz_spec_l2Search, pr_spec_l2Search, *]
    rfl) rfl rfl

theorem st_spec_l2Try_l0 {cl : Callee} (K_spec_l1Has : K_spec_l1Has x_spec_l1Has (cl n_spec_l1Has)) (K_spec_l1Own : K_spec_l1Own x_spec_l1Own (cl n_spec_l1Own)) (K_spec_l2Value : K_spec_l2Value x_spec_l2Value (cl n_spec_l2Value)) (rc : (List impl_Job) → (List Int) → Int → spec_l2Search → Option spec_l2Search) (Krc : K_spec_l2Try rc (cl n_spec_l2Try)) (x1_0 : (List Int)) (x1_1 : Int) (x1_2 : Int) (jobs_ : (List impl_Job)) (begun_ : (List Int)) (objective_ : Int) (st_ : ((List Int) × Int × Int × Int)) (c_ : Ctl ((List Int) × Int × Int × Int) ((List Int) × Int × Int)) (hr : x_spec_l2Try_l0 rc x1_0 x1_1 x1_2 jobs_ begun_ objective_ st_ = some c_) (T_ : Tm) (H_ : List Blk) (ng : Nat) (hR_ : R_spec_l2Try_l0 x1_0 x1_1 x1_2 jobs_ begun_ objective_ st_ T_ H_) :
    ∃ e_ T1_ H1_ ng1_, gcode (shOf F) cl LL c_spec_l2Try_l0 ⟨maskT (some [0, 1, 2, 7, 8, 10]) T_, H_, ng⟩ = some (e_, ⟨T1_, H1_, ng1_⟩) ∧ TurnOK (R_spec_l2Try_l0 x1_0 x1_1 x1_2 jobs_ begun_ objective_) (Q_spec_l2Try_l0 x1_0 x1_1 x1_2 jobs_ begun_ objective_) 2 c_ e_ T1_ H1_ := by
  obtain ⟨x0_0, x0_1, x0_2, j_⟩ := st_
  obtain ⟨g0, g1, f0_, f1_, f2_, f3_, f4_, f5_, rfl⟩ := hR_
  unfold x_spec_l2Try_l0 at hr
  try dsimp only at hr
  by_cases h5 : j_ < (jobs_.length : Int)
  · rw [if_pos h5] at hr
    have e3 : (j_ < (jobs_.length : Int)) = True := eq_true h5
    clear h5
    obtain ⟨r6, q8, hr⟩ := Option.bind_eq_some_iff.1 hr
    have e7 : ∀ H ng, gcall (shOf F) cl false n_spec_l1Has [.fs (begun_.map (cI .i64)), .int .i64 j_] H ng = some (.bool r6, H, ng, .inert) := fun H ng => call_far s_spec_l1Has rfl (K_spec_l1Has _ _ _ q8).ret
    by_cases h11 : r6 = true
    · rw [if_pos h11] at hr
      have e9 : r6 = true := h11
      clear h11
      have hr_ := Option.some.inj hr; subst hr_
      refine turn (by
        simp only [c_spec_l2Try_l0, evA, evB, Int.reduceToNat, eq_self, reduceCtorEq, ↓reduceIte, Nat.reduceEqDiff, Nat.reduceAdd, Nat.reduceLT, Nat.reduceLeDiff, Nat.reduceMul, Nat.reduceSub, Nat.reduceBEq, spec_l1Cur.cells, rz_spec_l1Cur, pr_spec_l1Cur, impl_Job.cells, rz_impl_Job, pr_impl_Job, spec_l2Search.cells, rz_spec_l2Search, pr_spec_l2Search, *]
        rfl) ?_
      exact ⟨rfl, _, _, rfl, rfl, rfl, rfl, rfl, rfl, rfl⟩
    · rw [if_neg h11] at hr
      have e10 : r6 = false := Bool.eq_false_iff.2 h11
      clear h11
      obtain ⟨r12, q14, hr⟩ := Option.bind_eq_some_iff.1 hr
      have e13 : ∀ H ng, gcall (shOf F) cl true n_spec_l1Own [.fs (begun_.map (cI .i64))] H ng = some (.os H.length ng 1 0 r12.length, H ++ [⟨ng, false, 1, (r12.map (cI .i64))⟩], ng + 1, .touch [] []) := fun H ng => by have := call_far_own (H := H) (ng := ng) s_spec_l1Own rfl (K_spec_l1Own _ _ q14); simp only [List.length_map] at this; exact this
      obtain ⟨l15, q23, hr⟩ := Option.bind_eq_some_iff.1 hr
      obtain ⟨e16, e17, e18, e19⟩ := app_some q23
      try simp only [List.length_cons, List.length_nil, Nat.zero_add, Nat.reduceAdd] at e16 e17 e19
      have e20 : (r12.map (cI .i64)) ++ [[.int .i64 j_]] = l15.map (cI .i64) := by rw [← e18, List.map_append] <;> rfl
      have e21 := e16
      have e22 := e17
      rw [e19] at e21 e22
      clear e18 q23
      obtain ⟨r24, q26, hr⟩ := Option.bind_eq_some_iff.1 hr
      have e25 : ∀ H ng, gcall (shOf F) cl false n_spec_l2Try [.fs (jobs_.map impl_Job.cells), .fs (l15.map (cI .i64)), .int .i64 objective_, .agg [.fs (x0_0.map (cI .i64)), .int .i64 x0_1, .int .i64 x0_2]] H ng = some (.agg [.fs (r24.order.map (cI .i64)), .int .i64 r24.value, .int .i64 r24.count], H, ng, .inert) := fun H ng => call_far s_spec_l2Try rfl (Krc _ _ _ _ _ q26)
      have hr_ := Option.some.inj hr; subst hr_
      refine turn (by
        simp only [c_spec_l2Try_l0, evA, evB, Int.reduceToNat, eq_self, reduceCtorEq, ↓reduceIte, Nat.reduceEqDiff, Nat.reduceAdd, Nat.reduceLT, Nat.reduceLeDiff, Nat.reduceMul, Nat.reduceSub, Nat.reduceBEq, spec_l1Cur.cells, rz_spec_l1Cur, pr_spec_l1Cur, impl_Job.cells, rz_impl_Job, pr_impl_Job, spec_l2Search.cells, rz_spec_l2Search, pr_spec_l2Search, *]
        rfl) ?_
      exact ⟨rfl, _, _, rfl, rfl, rfl, rfl, rfl, rfl, rfl⟩
  · rw [if_neg h5] at hr
    have e4 : (j_ < (jobs_.length : Int)) = False := eq_false h5
    clear h5
    have hr_ := Option.some.inj hr; subst hr_
    refine turn (by
      simp only [c_spec_l2Try_l0, evA, evB, Int.reduceToNat, eq_self, reduceCtorEq, ↓reduceIte, Nat.reduceEqDiff, Nat.reduceAdd, Nat.reduceLT, Nat.reduceLeDiff, Nat.reduceMul, Nat.reduceSub, Nat.reduceBEq, spec_l1Cur.cells, rz_spec_l1Cur, pr_spec_l1Cur, impl_Job.cells, rz_impl_Job, pr_impl_Job, spec_l2Search.cells, rz_spec_l2Search, pr_spec_l2Search, *]
      rfl) ?_
    exact ⟨by simp, rfl, _, _, rfl, rfl, rfl⟩

theorem lp_spec_l2Try_l0 {cl : Callee} (K_spec_l1Has : K_spec_l1Has x_spec_l1Has (cl n_spec_l1Has)) (K_spec_l1Own : K_spec_l1Own x_spec_l1Own (cl n_spec_l1Own)) (K_spec_l2Value : K_spec_l2Value x_spec_l2Value (cl n_spec_l2Value)) (rc : (List impl_Job) → (List Int) → Int → spec_l2Search → Option spec_l2Search) (Krc : K_spec_l2Try rc (cl n_spec_l2Try)) (x1_0 : (List Int)) (x1_1 : Int) (x1_2 : Int) (jobs_ : (List impl_Job)) (begun_ : (List Int)) (objective_ : Int) (st_ : ((List Int) × Int × Int × Int)) (p_ : ((List Int) × Int × Int)) (hr : loopS (x_spec_l2Try_l0 rc x1_0 x1_1 x1_2 jobs_ begun_ objective_) LL st_ = some p_) (T_ : Tm) (H_ : List Blk) (ng : Nat) (hR_ : R_spec_l2Try_l0 x1_0 x1_1 x1_2 jobs_ begun_ objective_ st_ T_ H_) (hn_ : H_.length = 2) :
    ∃ e_ T1_ H1_ ng1_, gcode (shOf F) cl LL (.loop false (some [0, 1, 2, 7, 8, 10]) c_spec_l2Try_l0) ⟨T_, H_, ng⟩ = some (e_, ⟨T1_, H1_, ng1_⟩) ∧ Q_spec_l2Try_l0 x1_0 x1_1 x1_2 jobs_ begun_ objective_ p_ e_ T1_ H1_ :=
  sim_loop (n0 := 2) (R_spec_l2Try_l0 x1_0 x1_1 x1_2 jobs_ begun_ objective_) (Q_spec_l2Try_l0 x1_0 x1_1 x1_2 jobs_ begun_ objective_) (st_spec_l2Try_l0 K_spec_l1Has K_spec_l1Own K_spec_l2Value rc Krc x1_0 x1_1 x1_2 jobs_ begun_ objective_) st_ p_ hr T_ H_ ng hR_ hn_

theorem ok_spec_l2Try {cl : Callee} (K_spec_l1Has : K_spec_l1Has x_spec_l1Has (cl n_spec_l1Has)) (K_spec_l1Own : K_spec_l1Own x_spec_l1Own (cl n_spec_l1Own)) (K_spec_l2Value : K_spec_l2Value x_spec_l2Value (cl n_spec_l2Value)) (rc : (List impl_Job) → (List Int) → Int → spec_l2Search → Option spec_l2Search) (Krc : K_spec_l2Try rc (cl n_spec_l2Try)) : K_spec_l2Try (x_spec_l2Try_b rc) (gbody F LL cl c_spec_l2Try) := by
  intro jobs_ begun_ objective_ best_ r hr
  unfold x_spec_l2Try_b at hr
  try dsimp only at hr
  by_cases h5 : (begun_.length : Int) = (jobs_.length : Int)
  · rw [if_pos h5] at hr
    have e3 : ((begun_.length : Int) = (jobs_.length : Int)) = True := eq_true h5
    clear h5
    obtain ⟨r6, q8, hr⟩ := Option.bind_eq_some_iff.1 hr
    have e7 : ∀ H ng, gcall (shOf F) cl false n_spec_l2Value [.fs (jobs_.map impl_Job.cells), .fs (begun_.map (cI .i64)), .int .i64 objective_] H ng = some (.int .i64 r6, H, ng, .inert) := fun H ng => call_far s_spec_l2Value rfl (K_spec_l2Value _ _ _ _ q8).ret
    by_cases h13 : best_.count = 0
    · rw [if_pos h13] at hr
      have e11 : (best_.count = 0) = True := eq_true h13
      clear h13
      obtain ⟨r14, q16, hr⟩ := Option.bind_eq_some_iff.1 hr
      have e15 : ∀ H ng, gcall (shOf F) cl false n_spec_l1Own [.fs (begun_.map (cI .i64))] H ng = some (.fs (r14.map (cI .i64)), H, ng, .inert) := fun H ng => call_far s_spec_l1Own rfl (K_spec_l1Own _ _ q16).retF.ret
      have hr_ := Option.some.inj hr; subst hr_
      refine Ret.flat (by
        simp only [c_spec_l2Try, evA, evB, Int.reduceToNat, eq_self, reduceCtorEq, ↓reduceIte, Nat.reduceEqDiff, Nat.reduceAdd, Nat.reduceLT, Nat.reduceLeDiff, Nat.reduceMul, Nat.reduceSub, Nat.reduceBEq, spec_l1Cur.cells, rz_spec_l1Cur, pr_spec_l1Cur, impl_Job.cells, rz_impl_Job, pr_impl_Job, spec_l2Search.cells, rz_spec_l2Search, pr_spec_l2Search, *]
        rfl) rfl
    · rw [if_neg h13] at hr
      have e12 : (best_.count = 0) = False := eq_false h13
      clear h13
      by_cases h21 : r6 < best_.value
      · rw [if_pos h21] at hr
        have e19 : (r6 < best_.value) = True := eq_true h21
        clear h21
        obtain ⟨r22, q24, hr⟩ := Option.bind_eq_some_iff.1 hr
        have e23 : ∀ H ng, gcall (shOf F) cl false n_spec_l1Own [.fs (begun_.map (cI .i64))] H ng = some (.fs (r22.map (cI .i64)), H, ng, .inert) := fun H ng => call_far s_spec_l1Own rfl (K_spec_l1Own _ _ q24).retF.ret
        have hr_ := Option.some.inj hr; subst hr_
        refine Ret.flat (by
          simp only [c_spec_l2Try, evA, evB, Int.reduceToNat, eq_self, reduceCtorEq, ↓reduceIte, Nat.reduceEqDiff, Nat.reduceAdd, Nat.reduceLT, Nat.reduceLeDiff, Nat.reduceMul, Nat.reduceSub, Nat.reduceBEq, spec_l1Cur.cells, rz_spec_l1Cur, pr_spec_l1Cur, impl_Job.cells, rz_impl_Job, pr_impl_Job, spec_l2Search.cells, rz_spec_l2Search, pr_spec_l2Search, *]
          rfl) rfl
      · rw [if_neg h21] at hr
        have e20 : (r6 < best_.value) = False := eq_false h21
        clear h21
        by_cases h29 : r6 = best_.value
        · rw [if_pos h29] at hr
          have e27 : (r6 = best_.value) = True := eq_true h29
          clear h29
          have hr_ := Option.some.inj hr; subst hr_
          refine Ret.flat (by
            simp only [c_spec_l2Try, evA, evB, Int.reduceToNat, eq_self, reduceCtorEq, ↓reduceIte, Nat.reduceEqDiff, Nat.reduceAdd, Nat.reduceLT, Nat.reduceLeDiff, Nat.reduceMul, Nat.reduceSub, Nat.reduceBEq, spec_l1Cur.cells, rz_spec_l1Cur, pr_spec_l1Cur, impl_Job.cells, rz_impl_Job, pr_impl_Job, spec_l2Search.cells, rz_spec_l2Search, pr_spec_l2Search, *]
            rfl) rfl
        · rw [if_neg h29] at hr
          have e28 : (r6 = best_.value) = False := eq_false h29
          clear h29
          have hr_ := Option.some.inj hr; subst hr_
          refine Ret.flat (by
            simp only [c_spec_l2Try, evA, evB, Int.reduceToNat, eq_self, reduceCtorEq, ↓reduceIte, Nat.reduceEqDiff, Nat.reduceAdd, Nat.reduceLT, Nat.reduceLeDiff, Nat.reduceMul, Nat.reduceSub, Nat.reduceBEq, spec_l1Cur.cells, rz_spec_l1Cur, pr_spec_l1Cur, impl_Job.cells, rz_impl_Job, pr_impl_Job, spec_l2Search.cells, rz_spec_l2Search, pr_spec_l2Search, *]
            rfl) rfl
  · rw [if_neg h5] at hr
    have e4 : ((begun_.length : Int) = (jobs_.length : Int)) = False := eq_false h5
    clear h5
    obtain ⟨p30, q42, hr⟩ := Option.bind_eq_some_iff.1 hr
    obtain ⟨ex36, T33, H34, ng35, l32, m31⟩ := lp_spec_l2Try_l0 (cl := cl) K_spec_l1Has K_spec_l1Own K_spec_l2Value  rc Krc ([] : List Int) 0 0 jobs_ begun_ objective_ _ _ q42 [(0, .fs (jobs_.map impl_Job.cells)), (1, .fs (begun_.map (cI .i64))), (2, .int .i64 objective_), (7, .ptr 0 0 0 0), (8, .ptr 1 1 0 0), (10, .int .i64 0)] [(Blk.mk 0 false 3 [[.fs (best_.order.map (cI .i64)), .int .i64 best_.value, .int .i64 best_.count]]), (Blk.mk 1 false 3 [[.fs [], .int .i64 0, .int .i64 0]])] 2 (show R_spec_l2Try_l0 ([] : List Int) 0 0 jobs_ begun_ objective_ (best_.order, best_.value, best_.count, 0) [(0, .fs (jobs_.map impl_Job.cells)), (1, .fs (begun_.map (cI .i64))), (2, .int .i64 objective_), (7, .ptr 0 0 0 0), (8, .ptr 1 1 0 0), (10, .int .i64 0)] [(Blk.mk 0 false 3 [[.fs (best_.order.map (cI .i64)), .int .i64 best_.value, .int .i64 best_.count]]), (Blk.mk 1 false 3 [[.fs [], .int .i64 0, .int .i64 0]])] from ⟨_, _, rfl, rfl, rfl, rfl, rfl, rfl, rfl⟩) rfl
    obtain ⟨rfl, g37, g38, e39, e40, e41⟩ := m31
    subst e41
    have hr_ := Option.some.inj hr; subst hr_
    refine Ret.flat (by
      simp only [c_spec_l2Try, evA, evB, Int.reduceToNat, eq_self, reduceCtorEq, ↓reduceIte, Nat.reduceEqDiff, Nat.reduceAdd, Nat.reduceLT, Nat.reduceLeDiff, Nat.reduceMul, Nat.reduceSub, Nat.reduceBEq, spec_l1Cur.cells, rz_spec_l1Cur, pr_spec_l1Cur, impl_Job.cells, rz_impl_Job, pr_impl_Job, spec_l2Search.cells, rz_spec_l2Search, pr_spec_l2Search, *]
      rfl) rfl

theorem ok_spec_l2All {cl : Callee} (K_spec_l2Try : K_spec_l2Try (x_spec_l2Try DD) (cl n_spec_l2Try)) : K_spec_l2All (x_spec_l2All) (gbody F LL cl c_spec_l2All) := by
  intro jobs_ objective_ r hr
  unfold x_spec_l2All at hr
  try dsimp only at hr
  obtain ⟨r1, q3, hr⟩ := Option.bind_eq_some_iff.1 hr
  have e2 : ∀ H ng, gcall (shOf F) cl false n_spec_l2Try [.fs (jobs_.map impl_Job.cells), .fs [], .int .i64 objective_, .agg [.fs [], .int .i64 0, .int .i64 0]] H ng = some (.agg [.fs (r1.order.map (cI .i64)), .int .i64 r1.value, .int .i64 r1.count], H, ng, .inert) := fun H ng => call_far s_spec_l2Try rfl (K_spec_l2Try _ _ _ _ _ q3)
  have hr_ := Option.some.inj hr; subst hr_
  refine Ret.flat (by
    simp only [c_spec_l2All, evA, evB, Int.reduceToNat, eq_self, reduceCtorEq, ↓reduceIte, Nat.reduceEqDiff, Nat.reduceAdd, Nat.reduceLT, Nat.reduceLeDiff, Nat.reduceMul, Nat.reduceSub, Nat.reduceBEq, spec_l1Cur.cells, rz_spec_l1Cur, pr_spec_l1Cur, impl_Job.cells, rz_impl_Job, pr_impl_Job, spec_l2Search.cells, rz_spec_l2Search, pr_spec_l2Search, *]
    rfl) rfl

theorem ok_spec_l2Best {cl : Callee} (K_spec_l2All : K_spec_l2All x_spec_l2All (cl n_spec_l2All)) : K_spec_l2Best (x_spec_l2Best) (gbody F LL cl c_spec_l2Best) := by
  intro jobs_ objective_ r hr
  unfold x_spec_l2Best at hr
  try dsimp only at hr
  obtain ⟨r1, q3, hr⟩ := Option.bind_eq_some_iff.1 hr
  have e2 : ∀ H ng, gcall (shOf F) cl false n_spec_l2All [.fs (jobs_.map impl_Job.cells), .int .i64 objective_] H ng = some (.agg [.fs (r1.order.map (cI .i64)), .int .i64 r1.value, .int .i64 r1.count], H, ng, .inert) := fun H ng => call_far s_spec_l2All rfl (K_spec_l2All _ _ _ q3)
  have hr_ := Option.some.inj hr; subst hr_
  refine Ret.flat (by
    simp only [c_spec_l2Best, evA, evB, Int.reduceToNat, eq_self, reduceCtorEq, ↓reduceIte, Nat.reduceEqDiff, Nat.reduceAdd, Nat.reduceLT, Nat.reduceLeDiff, Nat.reduceMul, Nat.reduceSub, Nat.reduceBEq, spec_l1Cur.cells, rz_spec_l1Cur, pr_spec_l1Cur, impl_Job.cells, rz_impl_Job, pr_impl_Job, spec_l2Search.cells, rz_spec_l2Search, pr_spec_l2Search, *]
    rfl) rfl

end Gh
