/- The ghost answers as the shallow functions do, part 2. Written by program. -/
import Derived.Test.YtebflkckndibiaaSa
namespace Gh
open Go
set_option linter.unusedSimpArgs false
set_option linter.unusedVariables false
set_option maxRecDepth 100000
set_option maxHeartbeats 20000000

theorem st_impl_inversions_l1 {cl : Callee} (K_impl_difference : K_impl_difference x_impl_difference (cl n_impl_difference)) (jobs_ : (List impl_Job)) (order_ : (List Int)) (objective_ : Int) (x_ : Int) (v : (List Int)) (vz1 : Int) (vz2 : Int) (vz3 : (List Int)) (vz4 : Int) (st_ : ((List arr_2_int) × Int)) (c_ : Ctl ((List arr_2_int) × Int) ((List arr_2_int))) (hr : x_impl_inversions_l1 jobs_ order_ objective_ x_ v vz1 vz2 vz3 vz4 st_ = some c_) (T_ : Tm) (H_ : List Blk) (ng : Nat) (hR_ : R_impl_inversions_l1 jobs_ order_ objective_ x_ v vz1 vz2 vz3 vz4 st_ T_ H_) :
    ∃ e_ T1_ H1_ ng1_, gcode (shOf F) cl LL c_impl_inversions_l1 ⟨maskT (some [0, 1, 2, 7, 9, 12, 13, 14, 22, 23, 24]) T_, H_, ng⟩ = some (e_, ⟨T1_, H1_, ng1_⟩) ∧ TurnOK (R_impl_inversions_l1 jobs_ order_ objective_ x_ v vz1 vz2 vz3 vz4) (Q_impl_inversions_l1 jobs_ order_ objective_ x_ v vz1 vz2 vz3 vz4) 1 c_ e_ T1_ H1_ := by
  obtain ⟨out_, vz5⟩ := st_
  obtain ⟨g0, f0_, f1_, f2_, f3_, f4_, f5_, f6_, f7_, f8_, f9_, f10_, rfl⟩ := hR_
  unfold x_impl_inversions_l1 at hr
  try dsimp only at hr
  by_cases h5 : vz5 < vz4
  · rw [if_pos h5] at hr
    have e3 : (vz5 < vz4) = True := eq_true h5
    clear h5
    obtain ⟨y6, q10, hr⟩ := Option.bind_eq_some_iff.1 hr
    obtain ⟨e7, e8, e9⟩ := ix_some q10
    try simp only [Int.toNat_natCast, Int.toNat_zero, Int.reduceToNat] at e8
    clear q10
    obtain ⟨y11, q15, hr⟩ := Option.bind_eq_some_iff.1 hr
    obtain ⟨e12, e13, e14⟩ := ix_some q15
    try simp only [Int.toNat_natCast, Int.toNat_zero, Int.reduceToNat] at e13
    clear q15
    obtain ⟨y16, q20, hr⟩ := Option.bind_eq_some_iff.1 hr
    obtain ⟨e17, e18, e19⟩ := ix_some q20
    try simp only [Int.toNat_natCast, Int.toNat_zero, Int.reduceToNat] at e18
    clear q20
    obtain ⟨r21, q23, hr⟩ := Option.bind_eq_some_iff.1 hr
    have e22 : ∀ H ng, gcall (shOf F) cl false n_impl_difference [.agg [.int .i64 y11.Time, .int .i64 y11.Weight, .int .i64 y11.Release, .int .i64 y11.Due], .agg [.int .i64 y16.Time, .int .i64 y16.Weight, .int .i64 y16.Release, .int .i64 y16.Due], .int .i64 objective_] H ng = some (.int .i64 r21, H, ng, .inert) := fun H ng => call_far s_impl_difference rfl (K_impl_difference _ _ _ _ q23).ret
    by_cases h28 : r21 < 0
    · rw [if_pos h28] at hr
      have e26 : (r21 < 0) = True := eq_true h28
      clear h28
      obtain ⟨l29, q37, hr⟩ := Option.bind_eq_some_iff.1 hr
      obtain ⟨e30, e31, e32, e33⟩ := app_some q37
      try simp only [List.length_cons, List.length_nil, Nat.zero_add, Nat.reduceAdd] at e30 e31 e33
      have e34 : (out_.map arr_2_int.cells) ++ [[.int .i64 x_, .int .i64 y6]] = l29.map arr_2_int.cells := by rw [← e32, List.map_append] <;> rfl
      have e35 := e30
      have e36 := e31
      rw [e33] at e35 e36
      clear e32 q37
      have hr_ := Option.some.inj hr; subst hr_
      refine turn (by
        simp only [c_impl_inversions_l1, evA, evB, Int.reduceToNat, eq_self, reduceCtorEq, ↓reduceIte, Nat.reduceEqDiff, Nat.reduceAdd, Nat.reduceLT, Nat.reduceLeDiff, Nat.reduceMul, Nat.reduceSub, Nat.reduceBEq, impl_Job.cells, rz_impl_Job, pr_impl_Job, spec_l1Cur.cells, rz_spec_l1Cur, pr_spec_l1Cur, arr_2_int.cells, rz_arr_2_int, pr_arr_2_int, *]
        rfl) ?_
      exact ⟨rfl, _, rfl, rfl, rfl, rfl, rfl, rfl, rfl, rfl, rfl, rfl, rfl, rfl⟩
    · rw [if_neg h28] at hr
      have e27 : (r21 < 0) = False := eq_false h28
      clear h28
      have hr_ := Option.some.inj hr; subst hr_
      refine turn (by
        simp only [c_impl_inversions_l1, evA, evB, Int.reduceToNat, eq_self, reduceCtorEq, ↓reduceIte, Nat.reduceEqDiff, Nat.reduceAdd, Nat.reduceLT, Nat.reduceLeDiff, Nat.reduceMul, Nat.reduceSub, Nat.reduceBEq, impl_Job.cells, rz_impl_Job, pr_impl_Job, spec_l1Cur.cells, rz_spec_l1Cur, pr_spec_l1Cur, arr_2_int.cells, rz_arr_2_int, pr_arr_2_int, *]
        rfl) ?_
      exact ⟨rfl, _, rfl, rfl, rfl, rfl, rfl, rfl, rfl, rfl, rfl, rfl, rfl, rfl⟩
  · rw [if_neg h5] at hr
    have e4 : (vz5 < vz4) = False := eq_false h5
    clear h5
    have hr_ := Option.some.inj hr; subst hr_
    refine turn (by
      simp only [c_impl_inversions_l1, evA, evB, Int.reduceToNat, eq_self, reduceCtorEq, ↓reduceIte, Nat.reduceEqDiff, Nat.reduceAdd, Nat.reduceLT, Nat.reduceLeDiff, Nat.reduceMul, Nat.reduceSub, Nat.reduceBEq, impl_Job.cells, rz_impl_Job, pr_impl_Job, spec_l1Cur.cells, rz_spec_l1Cur, pr_spec_l1Cur, arr_2_int.cells, rz_arr_2_int, pr_arr_2_int, *]
      rfl) ?_
    exact ⟨by simp, rfl, _, rfl, rfl, rfl, rfl, rfl, rfl, rfl, rfl⟩

theorem lp_impl_inversions_l1 {cl : Callee} (K_impl_difference : K_impl_difference x_impl_difference (cl n_impl_difference)) (jobs_ : (List impl_Job)) (order_ : (List Int)) (objective_ : Int) (x_ : Int) (v : (List Int)) (vz1 : Int) (vz2 : Int) (vz3 : (List Int)) (vz4 : Int) (st_ : ((List arr_2_int) × Int)) (p_ : ((List arr_2_int))) (hr : loopS (x_impl_inversions_l1 jobs_ order_ objective_ x_ v vz1 vz2 vz3 vz4) LL st_ = some p_) (T_ : Tm) (H_ : List Blk) (ng : Nat) (hR_ : R_impl_inversions_l1 jobs_ order_ objective_ x_ v vz1 vz2 vz3 vz4 st_ T_ H_) (hn_ : H_.length = 1) :
    ∃ e_ T1_ H1_ ng1_, gcode (shOf F) cl LL (.loop false (some [0, 1, 2, 7, 9, 12, 13, 14, 22, 23, 24]) c_impl_inversions_l1) ⟨T_, H_, ng⟩ = some (e_, ⟨T1_, H1_, ng1_⟩) ∧ Q_impl_inversions_l1 jobs_ order_ objective_ x_ v vz1 vz2 vz3 vz4 p_ e_ T1_ H1_ :=
  sim_loop (n0 := 1) (R_impl_inversions_l1 jobs_ order_ objective_ x_ v vz1 vz2 vz3 vz4) (Q_impl_inversions_l1 jobs_ order_ objective_ x_ v vz1 vz2 vz3 vz4) (st_impl_inversions_l1 K_impl_difference jobs_ order_ objective_ x_ v vz1 vz2 vz3 vz4) st_ p_ hr T_ H_ ng hR_ hn_

theorem st_impl_inversions_l0 {cl : Callee} (K_impl_difference : K_impl_difference x_impl_difference (cl n_impl_difference)) (jobs_ : (List impl_Job)) (order_ : (List Int)) (objective_ : Int) (v : (List Int)) (vz1 : Int) (st_ : ((List arr_2_int) × Int)) (c_ : Ctl ((List arr_2_int) × Int) ((List arr_2_int))) (hr : x_impl_inversions_l0 jobs_ order_ objective_ v vz1 st_ = some c_) (T_ : Tm) (H_ : List Blk) (ng : Nat) (hR_ : R_impl_inversions_l0 jobs_ order_ objective_ v vz1 st_ T_ H_) :
    ∃ e_ T1_ H1_ ng1_, gcode (shOf F) cl LL c_impl_inversions_l0 ⟨maskT (some [0, 1, 2, 7, 12, 13, 14]) T_, H_, ng⟩ = some (e_, ⟨T1_, H1_, ng1_⟩) ∧ TurnOK (R_impl_inversions_l0 jobs_ order_ objective_ v vz1) (Q_impl_inversions_l0 jobs_ order_ objective_ v vz1) 1 c_ e_ T1_ H1_ := by
  obtain ⟨out_, vz2⟩ := st_
  obtain ⟨g0, f0_, f1_, f2_, f3_, f4_, f5_, f6_, rfl⟩ := hR_
  unfold x_impl_inversions_l0 at hr
  try dsimp only at hr
  by_cases h5 : vz2 < vz1
  · rw [if_pos h5] at hr
    have e3 : (vz2 < vz1) = True := eq_true h5
    clear h5
    obtain ⟨y6, q10, hr⟩ := Option.bind_eq_some_iff.1 hr
    obtain ⟨e7, e8, e9⟩ := ix_some q10
    try simp only [Int.toNat_natCast, Int.toNat_zero, Int.reduceToNat] at e8
    clear q10
    obtain ⟨y11, q18, hr⟩ := Option.bind_eq_some_iff.1 hr
    obtain ⟨e12, e13, e14, e15, e16⟩ := cut_some q18
    try simp only [Int.toNat_natCast, Int.toNat_zero, Int.reduceToNat, List.drop_zero] at e15
    have e17 : List.drop (Int.toNat (addK .i64 vz2 1)) ((order_.map (cI .i64))) = y11.map (cI .i64) := by rw [← e15]; simp only [List.map_drop, List.map_take, take_map_len]
    clear q18 e16
    obtain ⟨p19, q35, hr⟩ := Option.bind_eq_some_iff.1 hr
    obtain ⟨ex25, T22, H23, ng24, l21, m20⟩ := lp_impl_inversions_l1 (cl := cl) K_impl_difference  jobs_ order_ objective_ y6 v vz1 vz2 y11 (y11.length : Int) _ _ q35 [(0, .fs (jobs_.map impl_Job.cells)), (1, .fs (order_.map (cI .i64))), (2, .int .i64 objective_), (7, .os 0 g0 2 0 out_.length), (9, .int .i64 y6), (12, .fs (v.map (cI .i64))), (13, .int .i64 vz1), (14, .int .i64 vz2), (22, .fs (y11.map (cI .i64))), (23, .int .i64 (y11.length : Int)), (24, .int .i64 0)] [(Blk.mk g0 false 2 (out_.map arr_2_int.cells))] ng (show R_impl_inversions_l1 jobs_ order_ objective_ y6 v vz1 vz2 y11 (y11.length : Int) (out_, 0) [(0, .fs (jobs_.map impl_Job.cells)), (1, .fs (order_.map (cI .i64))), (2, .int .i64 objective_), (7, .os 0 g0 2 0 out_.length), (9, .int .i64 y6), (12, .fs (v.map (cI .i64))), (13, .int .i64 vz1), (14, .int .i64 vz2), (22, .fs (y11.map (cI .i64))), (23, .int .i64 (y11.length : Int)), (24, .int .i64 0)] [(Blk.mk g0 false 2 (out_.map arr_2_int.cells))] from ⟨_, rfl, rfl, rfl, rfl, rfl, rfl, rfl, rfl, rfl, rfl, rfl, rfl⟩) rfl
    obtain ⟨rfl, g26, e27, e28, e29, e30, e31, e32, e33, e34⟩ := m20
    subst e34
    have hr_ := Option.some.inj hr; subst hr_
    refine turn (by
      simp only [c_impl_inversions_l0, evA, evB, Int.reduceToNat, eq_self, reduceCtorEq, ↓reduceIte, Nat.reduceEqDiff, Nat.reduceAdd, Nat.reduceLT, Nat.reduceLeDiff, Nat.reduceMul, Nat.reduceSub, Nat.reduceBEq, impl_Job.cells, rz_impl_Job, pr_impl_Job, spec_l1Cur.cells, rz_spec_l1Cur, pr_spec_l1Cur, arr_2_int.cells, rz_arr_2_int, pr_arr_2_int, *]
      rfl) ?_
    exact ⟨rfl, _, rfl, rfl, rfl, rfl, rfl, rfl, rfl, rfl⟩
  · rw [if_neg h5] at hr
    have e4 : (vz2 < vz1) = False := eq_false h5
    clear h5
    have hr_ := Option.some.inj hr; subst hr_
    refine turn (by
      simp only [c_impl_inversions_l0, evA, evB, Int.reduceToNat, eq_self, reduceCtorEq, ↓reduceIte, Nat.reduceEqDiff, Nat.reduceAdd, Nat.reduceLT, Nat.reduceLeDiff, Nat.reduceMul, Nat.reduceSub, Nat.reduceBEq, impl_Job.cells, rz_impl_Job, pr_impl_Job, spec_l1Cur.cells, rz_spec_l1Cur, pr_spec_l1Cur, arr_2_int.cells, rz_arr_2_int, pr_arr_2_int, *]
      rfl) ?_
    exact ⟨by simp, rfl, _, rfl, rfl⟩

theorem lp_impl_inversions_l0 {cl : Callee} (K_impl_difference : K_impl_difference x_impl_difference (cl n_impl_difference)) (jobs_ : (List impl_Job)) (order_ : (List Int)) (objective_ : Int) (v : (List Int)) (vz1 : Int) (st_ : ((List arr_2_int) × Int)) (p_ : ((List arr_2_int))) (hr : loopS (x_impl_inversions_l0 jobs_ order_ objective_ v vz1) LL st_ = some p_) (T_ : Tm) (H_ : List Blk) (ng : Nat) (hR_ : R_impl_inversions_l0 jobs_ order_ objective_ v vz1 st_ T_ H_) (hn_ : H_.length = 1) :
    ∃ e_ T1_ H1_ ng1_, gcode (shOf F) cl LL (.loop false (some [0, 1, 2, 7, 12, 13, 14]) c_impl_inversions_l0) ⟨T_, H_, ng⟩ = some (e_, ⟨T1_, H1_, ng1_⟩) ∧ Q_impl_inversions_l0 jobs_ order_ objective_ v vz1 p_ e_ T1_ H1_ :=
  sim_loop (n0 := 1) (R_impl_inversions_l0 jobs_ order_ objective_ v vz1) (Q_impl_inversions_l0 jobs_ order_ objective_ v vz1) (st_impl_inversions_l0 K_impl_difference jobs_ order_ objective_ v vz1) st_ p_ hr T_ H_ ng hR_ hn_

theorem ok_impl_inversions {cl : Callee} (K_impl_difference : K_impl_difference x_impl_difference (cl n_impl_difference)) : K_impl_inversions (x_impl_inversions) (gbody F LL cl c_impl_inversions) := by
  intro jobs_ order_ objective_ r hr
  unfold x_impl_inversions at hr
  try dsimp only at hr
  obtain ⟨p1, q11, hr⟩ := Option.bind_eq_some_iff.1 hr
  obtain ⟨ex7, T4, H5, ng6, l3, m2⟩ := lp_impl_inversions_l0 (cl := cl) K_impl_difference  jobs_ order_ objective_ order_ (order_.length : Int) _ _ q11 [(0, .fs (jobs_.map impl_Job.cells)), (1, .fs (order_.map (cI .i64))), (2, .int .i64 objective_), (7, .os 0 0 2 0 0), (12, .fs (order_.map (cI .i64))), (13, .int .i64 (order_.length : Int)), (14, .int .i64 0)] [(Blk.mk 0 false 2 [])] 1 (show R_impl_inversions_l0 jobs_ order_ objective_ order_ (order_.length : Int) (([] : List arr_2_int), 0) [(0, .fs (jobs_.map impl_Job.cells)), (1, .fs (order_.map (cI .i64))), (2, .int .i64 objective_), (7, .os 0 0 2 0 0), (12, .fs (order_.map (cI .i64))), (13, .int .i64 (order_.length : Int)), (14, .int .i64 0)] [(Blk.mk 0 false 2 [])] from ⟨_, rfl, rfl, rfl, rfl, rfl, rfl, rfl, rfl⟩) rfl
  obtain ⟨rfl, g8, e9, e10⟩ := m2
  subst e10
  have hr_ := Option.some.inj hr; subst hr_
  refine ⟨0, g8, [(Blk.mk g8 false 2 (p1.map arr_2_int.cells))], ng6, ?_, by simp [hget, hp], sc_arr_2_int _⟩
  simp only [c_impl_inversions, evA, evB, Int.reduceToNat, eq_self, reduceCtorEq, ↓reduceIte, Nat.reduceEqDiff, Nat.reduceAdd, Nat.reduceLT, Nat.reduceLeDiff, Nat.reduceMul, Nat.reduceSub, Nat.reduceBEq, impl_Job.cells, rz_impl_Job, pr_impl_Job, spec_l1Cur.cells, rz_spec_l1Cur, pr_spec_l1Cur, arr_2_int.cells, rz_arr_2_int, pr_arr_2_int, *]

theorem st_impl_PairLoss_l0 {cl : Callee} (K_impl_isRuledAndOrdered : K_impl_isRuledAndOrdered x_impl_isRuledAndOrdered (cl n_impl_isRuledAndOrdered)) (K_impl_difference : K_impl_difference x_impl_difference (cl n_impl_difference)) (K_impl_inversions : K_impl_inversions x_impl_inversions (cl n_impl_inversions)) (jobs_ : (List impl_Job)) (v : (List arr_2_int)) (vz1 : Int) (st_ : (Int × Int)) (c_ : Ctl (Int × Int) (Int)) (hr : x_impl_PairLoss_l0 jobs_ v vz1 st_ = some c_) (T_ : Tm) (H_ : List Blk) (ng : Nat) (hR_ : R_impl_PairLoss_l0 jobs_ v vz1 st_ T_ H_) :
    ∃ e_ T1_ H1_ ng1_, gcode (shOf F) cl LL c_impl_PairLoss_l0 ⟨maskT (some [0, 6, 15, 16, 17]) T_, H_, ng⟩ = some (e_, ⟨T1_, H1_, ng1_⟩) ∧ TurnOK (R_impl_PairLoss_l0 jobs_ v vz1) (Q_impl_PairLoss_l0 jobs_ v vz1) 0 c_ e_ T1_ H1_ := by
  obtain ⟨loss_, vz2⟩ := st_
  obtain ⟨f0_, f1_, f2_, f3_, f4_, rfl⟩ := hR_
  unfold x_impl_PairLoss_l0 at hr
  try dsimp only at hr
  by_cases h5 : vz2 < vz1
  · rw [if_pos h5] at hr
    have e3 : (vz2 < vz1) = True := eq_true h5
    clear h5
    obtain ⟨y6, q10, hr⟩ := Option.bind_eq_some_iff.1 hr
    obtain ⟨e7, e8, e9⟩ := ix_some q10
    try simp only [Int.toNat_natCast, Int.toNat_zero, Int.reduceToNat] at e8
    clear q10
    obtain ⟨y11, q15, hr⟩ := Option.bind_eq_some_iff.1 hr
    obtain ⟨e12, e13, e14⟩ := ix_some q15
    try simp only [Int.toNat_natCast, Int.toNat_zero, Int.reduceToNat] at e13
    clear q15
    obtain ⟨y16, q20, hr⟩ := Option.bind_eq_some_iff.1 hr
    obtain ⟨e17, e18, e19⟩ := ix_some q20
    try simp only [Int.toNat_natCast, Int.toNat_zero, Int.reduceToNat] at e18
    clear q20
    obtain ⟨r21, q23, hr⟩ := Option.bind_eq_some_iff.1 hr
    have e22 : ∀ H ng, gcall (shOf F) cl false n_impl_difference [.agg [.int .i64 y11.Time, .int .i64 y11.Weight, .int .i64 y11.Release, .int .i64 y11.Due], .agg [.int .i64 y16.Time, .int .i64 y16.Weight, .int .i64 y16.Release, .int .i64 y16.Due], .int .i64 3] H ng = some (.int .i64 r21, H, ng, .inert) := fun H ng => call_far s_impl_difference rfl (K_impl_difference _ _ _ _ q23).ret
    have hr_ := Option.some.inj hr; subst hr_
    refine turn (by
      simp only [c_impl_PairLoss_l0, evA, evB, Int.reduceToNat, eq_self, reduceCtorEq, ↓reduceIte, Nat.reduceEqDiff, Nat.reduceAdd, Nat.reduceLT, Nat.reduceLeDiff, Nat.reduceMul, Nat.reduceSub, Nat.reduceBEq, impl_Job.cells, rz_impl_Job, pr_impl_Job, spec_l1Cur.cells, rz_spec_l1Cur, pr_spec_l1Cur, arr_2_int.cells, rz_arr_2_int, pr_arr_2_int, *]
      rfl) ?_
    exact ⟨rfl, rfl, rfl, rfl, rfl, rfl, rfl⟩
  · rw [if_neg h5] at hr
    have e4 : (vz2 < vz1) = False := eq_false h5
    clear h5
    have hr_ := Option.some.inj hr; subst hr_
    refine turn (by
      simp only [c_impl_PairLoss_l0, evA, evB, Int.reduceToNat, eq_self, reduceCtorEq, ↓reduceIte, Nat.reduceEqDiff, Nat.reduceAdd, Nat.reduceLT, Nat.reduceLeDiff, Nat.reduceMul, Nat.reduceSub, Nat.reduceBEq, impl_Job.cells, rz_impl_Job, pr_impl_Job, spec_l1Cur.cells, rz_spec_l1Cur, pr_spec_l1Cur, arr_2_int.cells, rz_arr_2_int, pr_arr_2_int, *]
      rfl) ?_
    exact ⟨by simp, rfl, rfl, rfl⟩

theorem lp_impl_PairLoss_l0 {cl : Callee} (K_impl_isRuledAndOrdered : K_impl_isRuledAndOrdered x_impl_isRuledAndOrdered (cl n_impl_isRuledAndOrdered)) (K_impl_difference : K_impl_difference x_impl_difference (cl n_impl_difference)) (K_impl_inversions : K_impl_inversions x_impl_inversions (cl n_impl_inversions)) (jobs_ : (List impl_Job)) (v : (List arr_2_int)) (vz1 : Int) (st_ : (Int × Int)) (p_ : (Int)) (hr : loopS (x_impl_PairLoss_l0 jobs_ v vz1) LL st_ = some p_) (T_ : Tm) (H_ : List Blk) (ng : Nat) (hR_ : R_impl_PairLoss_l0 jobs_ v vz1 st_ T_ H_) (hn_ : H_.length = 0) :
    ∃ e_ T1_ H1_ ng1_, gcode (shOf F) cl LL (.loop false (some [0, 6, 15, 16, 17]) c_impl_PairLoss_l0) ⟨T_, H_, ng⟩ = some (e_, ⟨T1_, H1_, ng1_⟩) ∧ Q_impl_PairLoss_l0 jobs_ v vz1 p_ e_ T1_ H1_ :=
  sim_loop (n0 := 0) (R_impl_PairLoss_l0 jobs_ v vz1) (Q_impl_PairLoss_l0 jobs_ v vz1) (st_impl_PairLoss_l0 K_impl_isRuledAndOrdered K_impl_difference K_impl_inversions jobs_ v vz1) st_ p_ hr T_ H_ ng hR_ hn_

theorem ok_impl_PairLoss {cl : Callee} (K_impl_isRuledAndOrdered : K_impl_isRuledAndOrdered x_impl_isRuledAndOrdered (cl n_impl_isRuledAndOrdered)) (K_impl_difference : K_impl_difference x_impl_difference (cl n_impl_difference)) (K_impl_inversions : K_impl_inversions x_impl_inversions (cl n_impl_inversions)) : K_impl_PairLoss (x_impl_PairLoss) (gbody F LL cl c_impl_PairLoss) := by
  intro jobs_ order_ r hr
  unfold x_impl_PairLoss at hr
  try dsimp only at hr
  obtain ⟨r1, q3, hr⟩ := Option.bind_eq_some_iff.1 hr
  have e2 : ∀ H ng, gcall (shOf F) cl false n_impl_isRuledAndOrdered [.fs (jobs_.map impl_Job.cells), .fs (order_.map (cI .i64)), .int .i64 3] H ng = some (.bool r1, H, ng, .inert) := fun H ng => call_far s_impl_isRuledAndOrdered rfl (K_impl_isRuledAndOrdered _ _ _ _ q3).ret
  by_cases h6 : r1 = true
  · rw [if_pos h6] at hr
    have e4 : r1 = true := h6
    clear h6
    obtain ⟨r7, q9, hr⟩ := Option.bind_eq_some_iff.1 hr
    have e8 : ∀ H ng, gcall (shOf F) cl false n_impl_inversions [.fs (jobs_.map impl_Job.cells), .fs (order_.map (cI .i64)), .int .i64 3] H ng = some (.fs (r7.map arr_2_int.cells), H, ng, .inert) := fun H ng => call_far s_impl_inversions rfl (K_impl_inversions _ _ _ _ q9).retF.ret
    obtain ⟨p10, q19, hr⟩ := Option.bind_eq_some_iff.1 hr
    obtain ⟨ex16, T13, H14, ng15, l12, m11⟩ := lp_impl_PairLoss_l0 (cl := cl) K_impl_isRuledAndOrdered K_impl_difference K_impl_inversions  jobs_ r7 (r7.length : Int) _ _ q19 [(0, .fs (jobs_.map impl_Job.cells)), (6, .int .i64 0), (15, .fs (r7.map arr_2_int.cells)), (16, .int .i64 (r7.length : Int)), (17, .int .i64 0)] [] 0 (show R_impl_PairLoss_l0 jobs_ r7 (r7.length : Int) (0, 0) [(0, .fs (jobs_.map impl_Job.cells)), (6, .int .i64 0), (15, .fs (r7.map arr_2_int.cells)), (16, .int .i64 (r7.length : Int)), (17, .int .i64 0)] [] from ⟨rfl, rfl, rfl, rfl, rfl, rfl⟩) rfl
    obtain ⟨rfl, e17, e18⟩ := m11
    subst e18
    have hr_ := Option.some.inj hr; subst hr_
    refine RetF.scal (by
      simp only [c_impl_PairLoss, evA, evB, Int.reduceToNat, eq_self, reduceCtorEq, ↓reduceIte, Nat.reduceEqDiff, Nat.reduceAdd, Nat.reduceLT, Nat.reduceLeDiff, Nat.reduceMul, Nat.reduceSub, Nat.reduceBEq, impl_Job.cells, rz_impl_Job, pr_impl_Job, spec_l1Cur.cells, rz_spec_l1Cur, pr_spec_l1Cur, arr_2_int.cells, rz_arr_2_int, pr_arr_2_int, *]
      rfl) rfl rfl
  · rw [if_neg h6] at hr
    have e5 : r1 = false := Bool.eq_false_iff.2 h6
    clear h6
    have hr_ := Option.some.inj hr; subst hr_
    refine RetF.scal (by
      simp only [c_impl_PairLoss, evA, evB, Int.reduceToNat, eq_self, reduceCtorEq, ↓reduceIte, Nat.reduceEqDiff, Nat.reduceAdd, Nat.reduceLT, Nat.reduceLeDiff, Nat.reduceMul, Nat.reduceSub, Nat.reduceBEq, impl_Job.cells, rz_impl_Job, pr_impl_Job, spec_l1Cur.cells, rz_spec_l1Cur, pr_spec_l1Cur, arr_2_int.cells, rz_arr_2_int, pr_arr_2_int, *]
      rfl) rfl rfl

theorem ok_spec_l1In {cl : Callee} : K_spec_l1In (x_spec_l1In) (gbody F LL cl c_spec_l1In) := by
  intro x_ a_ b_ r hr
  unfold x_spec_l1In at hr
  try dsimp only at hr
  by_cases h5 : a_ ≤ x_
  · rw [if_pos h5] at hr
    have e3 : (a_ ≤ x_) = True := eq_true h5
    clear h5
    have hr_ := Option.some.inj hr; subst hr_
    refine RetF.scal (by
      simp only [c_spec_l1In, evA, evB, Int.reduceToNat, eq_self, reduceCtorEq, ↓reduceIte, Nat.reduceEqDiff, Nat.reduceAdd, Nat.reduceLT, Nat.reduceLeDiff, Nat.reduceMul, Nat.reduceSub, Nat.reduceBEq, impl_Job.cells, rz_impl_Job, pr_impl_Job, spec_l1Cur.cells, rz_spec_l1Cur, pr_spec_l1Cur, arr_2_int.cells, rz_arr_2_int, pr_arr_2_int, *]
      rfl) rfl rfl
  · rw [if_neg h5] at hr
    have e4 : (a_ ≤ x_) = False := eq_false h5
    clear h5
    have hr_ := Option.some.inj hr; subst hr_
    refine RetF.scal (by
      simp only [c_spec_l1In, evA, evB, Int.reduceToNat, eq_self, reduceCtorEq, ↓reduceIte, Nat.reduceEqDiff, Nat.reduceAdd, Nat.reduceLT, Nat.reduceLeDiff, Nat.reduceMul, Nat.reduceSub, Nat.reduceBEq, impl_Job.cells, rz_impl_Job, pr_impl_Job, spec_l1Cur.cells, rz_spec_l1Cur, pr_spec_l1Cur, arr_2_int.cells, rz_arr_2_int, pr_arr_2_int, *]
      rfl) rfl rfl

theorem ok_spec_l2Job {cl : Callee} (K_spec_l1In : K_spec_l1In x_spec_l1In (cl n_spec_l1In)) : K_spec_l2Job (x_spec_l2Job) (gbody F LL cl c_spec_l2Job) := by
  intro j_ r hr
  unfold x_spec_l2Job at hr
  try dsimp only at hr
  obtain ⟨r1, q3, hr⟩ := Option.bind_eq_some_iff.1 hr
  have e2 : ∀ H ng, gcall (shOf F) cl false n_spec_l1In [.int .i64 j_.Time, .int .i64 1, .int .i64 50] H ng = some (.bool r1, H, ng, .inert) := fun H ng => call_far s_spec_l1In rfl (K_spec_l1In _ _ _ _ q3).ret
  by_cases h6 : r1 = true
  · rw [if_pos h6] at hr
    have e4 : r1 = true := h6
    clear h6
    obtain ⟨r7, q9, hr⟩ := Option.bind_eq_some_iff.1 hr
    have e8 : ∀ H ng, gcall (shOf F) cl false n_spec_l1In [.int .i64 j_.Weight, .int .i64 0, .int .i64 50] H ng = some (.bool r7, H, ng, .inert) := fun H ng => call_far s_spec_l1In rfl (K_spec_l1In _ _ _ _ q9).ret
    by_cases h12 : r7 = true
    · rw [if_pos h12] at hr
      have e10 : r7 = true := h12
      clear h12
      obtain ⟨r13, q15, hr⟩ := Option.bind_eq_some_iff.1 hr
      have e14 : ∀ H ng, gcall (shOf F) cl false n_spec_l1In [.int .i64 j_.Release, .int .i64 0, .int .i64 500] H ng = some (.bool r13, H, ng, .inert) := fun H ng => call_far s_spec_l1In rfl (K_spec_l1In _ _ _ _ q15).ret
      by_cases h18 : r13 = true
      · rw [if_pos h18] at hr
        have e16 : r13 = true := h18
        clear h18
        obtain ⟨r19, q21, hr⟩ := Option.bind_eq_some_iff.1 hr
        have e20 : ∀ H ng, gcall (shOf F) cl false n_spec_l1In [.int .i64 j_.Due, .int .i64 0, .int .i64 500] H ng = some (.bool r19, H, ng, .inert) := fun H ng => call_far s_spec_l1In rfl (K_spec_l1In _ _ _ _ q21).ret
        have hr_ := Option.some.inj hr; subst hr_
        refine RetF.scal (by
          simp only [c_spec_l2Job, evA, evB, Int.reduceToNat, eq_self, reduceCtorEq, ↓reduceIte, Nat.reduceEqDiff, Nat.reduceAdd, Nat.reduceLT, Nat.reduceLeDiff, Nat.reduceMul, Nat.reduceSub, Nat.reduceBEq, impl_Job.cells, rz_impl_Job, pr_impl_Job, spec_l1Cur.cells, rz_spec_l1Cur, pr_spec_l1Cur, arr_2_int.cells, rz_arr_2_int, pr_arr_2_int, *]
          rfl) rfl rfl
      · rw [if_neg h18] at hr
        have e17 : r13 = false := Bool.eq_false_iff.2 h18
        clear h18
        have hr_ := Option.some.inj hr; subst hr_
        refine RetF.scal (by
          simp only [c_spec_l2Job, evA, evB, Int.reduceToNat, eq_self, reduceCtorEq, ↓reduceIte, Nat.reduceEqDiff, Nat.reduceAdd, Nat.reduceLT, Nat.reduceLeDiff, Nat.reduceMul, Nat.reduceSub, Nat.reduceBEq, impl_Job.cells, rz_impl_Job, pr_impl_Job, spec_l1Cur.cells, rz_spec_l1Cur, pr_spec_l1Cur, arr_2_int.cells, rz_arr_2_int, pr_arr_2_int, *]
          rfl) rfl rfl
    · rw [if_neg h12] at hr
      have e11 : r7 = false := Bool.eq_false_iff.2 h12
      clear h12
      have hr_ := Option.some.inj hr; subst hr_
      refine RetF.scal (by
        simp only [c_spec_l2Job, evA, evB, Int.reduceToNat, eq_self, reduceCtorEq, ↓reduceIte, Nat.reduceEqDiff, Nat.reduceAdd, Nat.reduceLT, Nat.reduceLeDiff, Nat.reduceMul, Nat.reduceSub, Nat.reduceBEq, impl_Job.cells, rz_impl_Job, pr_impl_Job, spec_l1Cur.cells, rz_spec_l1Cur, pr_spec_l1Cur, arr_2_int.cells, rz_arr_2_int, pr_arr_2_int, *]
        rfl) rfl rfl
  · rw [if_neg h6] at hr
    have e5 : r1 = false := Bool.eq_false_iff.2 h6
    clear h6
    have hr_ := Option.some.inj hr; subst hr_
    refine RetF.scal (by
      simp only [c_spec_l2Job, evA, evB, Int.reduceToNat, eq_self, reduceCtorEq, ↓reduceIte, Nat.reduceEqDiff, Nat.reduceAdd, Nat.reduceLT, Nat.reduceLeDiff, Nat.reduceMul, Nat.reduceSub, Nat.reduceBEq, impl_Job.cells, rz_impl_Job, pr_impl_Job, spec_l1Cur.cells, rz_spec_l1Cur, pr_spec_l1Cur, arr_2_int.cells, rz_arr_2_int, pr_arr_2_int, *]
      rfl) rfl rfl

theorem st_spec_l2Good_l0 {cl : Callee} (K_spec_l2Job : K_spec_l2Job x_spec_l2Job (cl n_spec_l2Job)) (jobs_ : (List impl_Job)) (st_ : (Int)) (c_ : Ctl (Int) (Unit ⊕ (Bool))) (hr : x_spec_l2Good_l0 jobs_ st_ = some c_) (T_ : Tm) (H_ : List Blk) (ng : Nat) (hR_ : R_spec_l2Good_l0 jobs_ st_ T_ H_) :
    ∃ e_ T1_ H1_ ng1_, gcode (shOf F) cl LL c_spec_l2Good_l0 ⟨maskT (some [0, 3]) T_, H_, ng⟩ = some (e_, ⟨T1_, H1_, ng1_⟩) ∧ TurnOK (R_spec_l2Good_l0 jobs_) (Q_spec_l2Good_l0 jobs_) 0 c_ e_ T1_ H1_ := by
  obtain ⟨i_, hst_⟩ : ∃ x, x = st_ := ⟨_, rfl⟩; subst hst_
  obtain ⟨f0_, f1_, rfl⟩ := hR_
  unfold x_spec_l2Good_l0 at hr
  try dsimp only at hr
  by_cases h5 : i_ < (jobs_.length : Int)
  · rw [if_pos h5] at hr
    have e3 : (i_ < (jobs_.length : Int)) = True := eq_true h5
    clear h5
    obtain ⟨y6, q10, hr⟩ := Option.bind_eq_some_iff.1 hr
    obtain ⟨e7, e8, e9⟩ := ix_some q10
    try simp only [Int.toNat_natCast, Int.toNat_zero, Int.reduceToNat] at e8
    clear q10
    obtain ⟨r11, q13, hr⟩ := Option.bind_eq_some_iff.1 hr
    have e12 : ∀ H ng, gcall (shOf F) cl false n_spec_l2Job [.agg [.int .i64 y6.Time, .int .i64 y6.Weight, .int .i64 y6.Release, .int .i64 y6.Due]] H ng = some (.bool r11, H, ng, .inert) := fun H ng => call_far s_spec_l2Job rfl (K_spec_l2Job _ _ q13).ret
    by_cases h16 : r11 = true
    · rw [if_pos h16] at hr
      have e14 : r11 = true := h16
      clear h16
      have hr_ := Option.some.inj hr; subst hr_
      refine turn (by
        simp only [c_spec_l2Good_l0, evA, evB, Int.reduceToNat, eq_self, reduceCtorEq, ↓reduceIte, Nat.reduceEqDiff, Nat.reduceAdd, Nat.reduceLT, Nat.reduceLeDiff, Nat.reduceMul, Nat.reduceSub, Nat.reduceBEq, impl_Job.cells, rz_impl_Job, pr_impl_Job, spec_l1Cur.cells, rz_spec_l1Cur, pr_spec_l1Cur, arr_2_int.cells, rz_arr_2_int, pr_arr_2_int, *]
        rfl) ?_
      exact ⟨rfl, rfl, rfl, rfl⟩
    · rw [if_neg h16] at hr
      have e15 : r11 = false := Bool.eq_false_iff.2 h16
      clear h16
      have hr_ := Option.some.inj hr; subst hr_
      refine turn (by
        simp only [c_spec_l2Good_l0, evA, evB, Int.reduceToNat, eq_self, reduceCtorEq, ↓reduceIte, Nat.reduceEqDiff, Nat.reduceAdd, Nat.reduceLT, Nat.reduceLeDiff, Nat.reduceMul, Nat.reduceSub, Nat.reduceBEq, impl_Job.cells, rz_impl_Job, pr_impl_Job, spec_l1Cur.cells, rz_spec_l1Cur, pr_spec_l1Cur, arr_2_int.cells, rz_arr_2_int, pr_arr_2_int, *]
        rfl) ?_
      exact ⟨by simp, rfl, rfl⟩
  · rw [if_neg h5] at hr
    have e4 : (i_ < (jobs_.length : Int)) = False := eq_false h5
    clear h5
    have hr_ := Option.some.inj hr; subst hr_
    refine turn (by
      simp only [c_spec_l2Good_l0, evA, evB, Int.reduceToNat, eq_self, reduceCtorEq, ↓reduceIte, Nat.reduceEqDiff, Nat.reduceAdd, Nat.reduceLT, Nat.reduceLeDiff, Nat.reduceMul, Nat.reduceSub, Nat.reduceBEq, impl_Job.cells, rz_impl_Job, pr_impl_Job, spec_l1Cur.cells, rz_spec_l1Cur, pr_spec_l1Cur, arr_2_int.cells, rz_arr_2_int, pr_arr_2_int, *]
      rfl) ?_
    exact ⟨by simp, rfl, rfl, rfl⟩

theorem lp_spec_l2Good_l0 {cl : Callee} (K_spec_l2Job : K_spec_l2Job x_spec_l2Job (cl n_spec_l2Job)) (jobs_ : (List impl_Job)) (st_ : (Int)) (p_ : (Unit ⊕ (Bool))) (hr : loopS (x_spec_l2Good_l0 jobs_) LL st_ = some p_) (T_ : Tm) (H_ : List Blk) (ng : Nat) (hR_ : R_spec_l2Good_l0 jobs_ st_ T_ H_) (hn_ : H_.length = 0) :
    ∃ e_ T1_ H1_ ng1_, gcode (shOf F) cl LL (.loop false (some [0, 3]) c_spec_l2Good_l0) ⟨T_, H_, ng⟩ = some (e_, ⟨T1_, H1_, ng1_⟩) ∧ Q_spec_l2Good_l0 jobs_ p_ e_ T1_ H1_ :=
  sim_loop (n0 := 0) (R_spec_l2Good_l0 jobs_) (Q_spec_l2Good_l0 jobs_) (st_spec_l2Good_l0 K_spec_l2Job jobs_) st_ p_ hr T_ H_ ng hR_ hn_

theorem ok_spec_l2Good {cl : Callee} (K_spec_l2Job : K_spec_l2Job x_spec_l2Job (cl n_spec_l2Job)) : K_spec_l2Good (x_spec_l2Good) (gbody F LL cl c_spec_l2Good) := by
  intro jobs_ r hr
  unfold x_spec_l2Good at hr
  try dsimp only at hr
  obtain ⟨p1, q11, hr⟩ := Option.bind_eq_some_iff.1 hr
  obtain ⟨ex7, T4, H5, ng6, l3, m2⟩ := lp_spec_l2Good_l0 (cl := cl) K_spec_l2Job  jobs_ _ _ q11 [(0, .fs (jobs_.map impl_Job.cells)), (3, .int .i64 0)] [] 0 (show R_spec_l2Good_l0 jobs_ 0 [(0, .fs (jobs_.map impl_Job.cells)), (3, .int .i64 0)] [] from ⟨rfl, rfl, rfl⟩) rfl
  rcases p1 with p1 | p1
  · dsimp only at hr
    obtain ⟨rfl, e8, e9⟩ := m2
    subst e9
    have hr_ := Option.some.inj hr; subst hr_
    refine RetF.scal (by
      simp only [c_spec_l2Good, evA, evB, Int.reduceToNat, eq_self, reduceCtorEq, ↓reduceIte, Nat.reduceEqDiff, Nat.reduceAdd, Nat.reduceLT, Nat.reduceLeDiff, Nat.reduceMul, Nat.reduceSub, Nat.reduceBEq, impl_Job.cells, rz_impl_Job, pr_impl_Job, spec_l1Cur.cells, rz_spec_l1Cur, pr_spec_l1Cur, arr_2_int.cells, rz_arr_2_int, pr_arr_2_int, *]
      rfl) rfl rfl
  · dsimp only at hr
    obtain ⟨rfl, e10⟩ := m2
    have hr_ := Option.some.inj hr; subst hr_
    refine RetF.scal (by
      simp only [c_spec_l2Good, evA, evB, Int.reduceToNat, eq_self, reduceCtorEq, ↓reduceIte, Nat.reduceEqDiff, Nat.reduceAdd, Nat.reduceLT, Nat.reduceLeDiff, Nat.reduceMul, Nat.reduceSub, Nat.reduceBEq, impl_Job.cells, rz_impl_Job, pr_impl_Job, spec_l1Cur.cells, rz_spec_l1Cur, pr_spec_l1Cur, arr_2_int.cells, rz_arr_2_int, pr_arr_2_int, *]
      rfl) rfl rfl

theorem st_spec_l3Plain_l0 {cl : Callee} (jobs_ : (List impl_Job)) (st_ : (Int)) (c_ : Ctl (Int) (Unit ⊕ (Bool))) (hr : x_spec_l3Plain_l0 jobs_ st_ = some c_) (T_ : Tm) (H_ : List Blk) (ng : Nat) (hR_ : R_spec_l3Plain_l0 jobs_ st_ T_ H_) :
    ∃ e_ T1_ H1_ ng1_, gcode (shOf F) cl LL c_spec_l3Plain_l0 ⟨maskT (some [0, 3]) T_, H_, ng⟩ = some (e_, ⟨T1_, H1_, ng1_⟩) ∧ TurnOK (R_spec_l3Plain_l0 jobs_) (Q_spec_l3Plain_l0 jobs_) 0 c_ e_ T1_ H1_ := by
  obtain ⟨i_, hst_⟩ : ∃ x, x = st_ := ⟨_, rfl⟩; subst hst_
  obtain ⟨f0_, f1_, rfl⟩ := hR_
  unfold x_spec_l3Plain_l0 at hr
  try dsimp only at hr
  by_cases h5 : i_ < (jobs_.length : Int)
  · rw [if_pos h5] at hr
    have e3 : (i_ < (jobs_.length : Int)) = True := eq_true h5
    clear h5
    obtain ⟨y6, q10, hr⟩ := Option.bind_eq_some_iff.1 hr
    obtain ⟨e7, e8, e9⟩ := ix_some q10
    try simp only [Int.toNat_natCast, Int.toNat_zero, Int.reduceToNat] at e8
    clear q10
    by_cases h15 : y6.Release = 0
    · rw [if_pos h15] at hr
      have e13 : (y6.Release = 0) = True := eq_true h15
      clear h15
      have hr_ := Option.some.inj hr; subst hr_
      refine turn (by
        simp only [c_spec_l3Plain_l0, evA, evB, Int.reduceToNat, eq_self, reduceCtorEq, ↓reduceIte, Nat.reduceEqDiff, Nat.reduceAdd, Nat.reduceLT, Nat.reduceLeDiff, Nat.reduceMul, Nat.reduceSub, Nat.reduceBEq, impl_Job.cells, rz_impl_Job, pr_impl_Job, spec_l1Cur.cells, rz_spec_l1Cur, pr_spec_l1Cur, arr_2_int.cells, rz_arr_2_int, pr_arr_2_int, *]
        rfl) ?_
      exact ⟨rfl, rfl, rfl, rfl⟩
    · rw [if_neg h15] at hr
      have e14 : (y6.Release = 0) = False := eq_false h15
      clear h15
      have hr_ := Option.some.inj hr; subst hr_
      refine turn (by
        simp only [c_spec_l3Plain_l0, evA, evB, Int.reduceToNat, eq_self, reduceCtorEq, ↓reduceIte, Nat.reduceEqDiff, Nat.reduceAdd, Nat.reduceLT, Nat.reduceLeDiff, Nat.reduceMul, Nat.reduceSub, Nat.reduceBEq, impl_Job.cells, rz_impl_Job, pr_impl_Job, spec_l1Cur.cells, rz_spec_l1Cur, pr_spec_l1Cur, arr_2_int.cells, rz_arr_2_int, pr_arr_2_int, *]
        rfl) ?_
      exact ⟨by simp, rfl, rfl⟩
  · rw [if_neg h5] at hr
    have e4 : (i_ < (jobs_.length : Int)) = False := eq_false h5
    clear h5
    have hr_ := Option.some.inj hr; subst hr_
    refine turn (by
      simp only [c_spec_l3Plain_l0, evA, evB, Int.reduceToNat, eq_self, reduceCtorEq, ↓reduceIte, Nat.reduceEqDiff, Nat.reduceAdd, Nat.reduceLT, Nat.reduceLeDiff, Nat.reduceMul, Nat.reduceSub, Nat.reduceBEq, impl_Job.cells, rz_impl_Job, pr_impl_Job, spec_l1Cur.cells, rz_spec_l1Cur, pr_spec_l1Cur, arr_2_int.cells, rz_arr_2_int, pr_arr_2_int, *]
      rfl) ?_
    exact ⟨by simp, rfl, rfl⟩

theorem lp_spec_l3Plain_l0 {cl : Callee} (jobs_ : (List impl_Job)) (st_ : (Int)) (p_ : (Unit ⊕ (Bool))) (hr : loopS (x_spec_l3Plain_l0 jobs_) LL st_ = some p_) (T_ : Tm) (H_ : List Blk) (ng : Nat) (hR_ : R_spec_l3Plain_l0 jobs_ st_ T_ H_) (hn_ : H_.length = 0) :
    ∃ e_ T1_ H1_ ng1_, gcode (shOf F) cl LL (.loop false (some [0, 3]) c_spec_l3Plain_l0) ⟨T_, H_, ng⟩ = some (e_, ⟨T1_, H1_, ng1_⟩) ∧ Q_spec_l3Plain_l0 jobs_ p_ e_ T1_ H1_ :=
  sim_loop (n0 := 0) (R_spec_l3Plain_l0 jobs_) (Q_spec_l3Plain_l0 jobs_) (st_spec_l3Plain_l0 jobs_) st_ p_ hr T_ H_ ng hR_ hn_

theorem ok_spec_l3Plain {cl : Callee} : K_spec_l3Plain (x_spec_l3Plain) (gbody F LL cl c_spec_l3Plain) := by
  intro jobs_ r hr
  unfold x_spec_l3Plain at hr
  try dsimp only at hr
  obtain ⟨p1, q10, hr⟩ := Option.bind_eq_some_iff.1 hr
  obtain ⟨ex7, T4, H5, ng6, l3, m2⟩ := lp_spec_l3Plain_l0 (cl := cl)  jobs_ _ _ q10 [(0, .fs (jobs_.map impl_Job.cells)), (3, .int .i64 0)] [] 0 (show R_spec_l3Plain_l0 jobs_ 0 [(0, .fs (jobs_.map impl_Job.cells)), (3, .int .i64 0)] [] from ⟨rfl, rfl, rfl⟩) rfl
  rcases p1 with p1 | p1
  · dsimp only at hr
    obtain ⟨rfl, e8⟩ := m2
    subst e8
    have hr_ := Option.some.inj hr; subst hr_
    refine RetF.scal (by
      simp only [c_spec_l3Plain, evA, evB, Int.reduceToNat, eq_self, reduceCtorEq, ↓reduceIte, Nat.reduceEqDiff, Nat.reduceAdd, Nat.reduceLT, Nat.reduceLeDiff, Nat.reduceMul, Nat.reduceSub, Nat.reduceBEq, impl_Job.cells, rz_impl_Job, pr_impl_Job, spec_l1Cur.cells, rz_spec_l1Cur, pr_spec_l1Cur, arr_2_int.cells, rz_arr_2_int, pr_arr_2_int, *]
      rfl) rfl rfl
  · dsimp only at hr
    obtain ⟨rfl, e9⟩ := m2
    have hr_ := Option.some.inj hr; subst hr_
    refine RetF.scal (by
      simp only [c_spec_l3Plain, evA, evB, Int.reduceToNat, eq_self, reduceCtorEq, ↓reduceIte, Nat.reduceEqDiff, Nat.reduceAdd, Nat.reduceLT, Nat.reduceLeDiff, Nat.reduceMul, Nat.reduceSub, Nat.reduceBEq, impl_Job.cells, rz_impl_Job, pr_impl_Job, spec_l1Cur.cells, rz_spec_l1Cur, pr_spec_l1Cur, arr_2_int.cells, rz_arr_2_int, pr_arr_2_int, *]
      rfl) rfl rfl

theorem ok_spec_l3Ruled {cl : Callee} (K_spec_l2Good : K_spec_l2Good x_spec_l2Good (cl n_spec_l2Good)) (K_spec_l3Plain : K_spec_l3Plain x_spec_l3Plain (cl n_spec_l3Plain)) (K_spec_l1In : K_spec_l1In x_spec_l1In (cl n_spec_l1In)) : K_spec_l3Ruled (x_spec_l3Ruled) (gbody F LL cl c_spec_l3Ruled) := by
  intro jobs_ objective_ r hr
  unfold x_spec_l3Ruled at hr
  try dsimp only at hr
  obtain ⟨r1, q3, hr⟩ := Option.bind_eq_some_iff.1 hr
  have e2 : ∀ H ng, gcall (shOf F) cl false n_spec_l2Good [.fs (jobs_.map impl_Job.cells)] H ng = some (.bool r1, H, ng, .inert) := fun H ng => call_far s_spec_l2Good rfl (K_spec_l2Good _ _ q3).ret
  by_cases h6 : r1 = true
  · rw [if_pos h6] at hr
    have e4 : r1 = true := h6
    clear h6
    obtain ⟨r7, q9, hr⟩ := Option.bind_eq_some_iff.1 hr
    have e8 : ∀ H ng, gcall (shOf F) cl false n_spec_l1In [.int .i64 objective_, .int .i64 1, .int .i64 4] H ng = some (.bool r7, H, ng, .inert) := fun H ng => call_far s_spec_l1In rfl (K_spec_l1In _ _ _ _ q9).ret
    by_cases h12 : r7 = true
    · rw [if_pos h12] at hr
      have e10 : r7 = true := h12
      clear h12
      by_cases h17 : objective_ = 1
      · rw [if_pos h17] at hr
        have e15 : (objective_ = 1) = True := eq_true h17
        clear h17
        have hr_ := Option.some.inj hr; subst hr_
        refine RetF.scal (by
          simp only [c_spec_l3Ruled, evA, evB, Int.reduceToNat, eq_self, reduceCtorEq, ↓reduceIte, Nat.reduceEqDiff, Nat.reduceAdd, Nat.reduceLT, Nat.reduceLeDiff, Nat.reduceMul, Nat.reduceSub, Nat.reduceBEq, impl_Job.cells, rz_impl_Job, pr_impl_Job, spec_l1Cur.cells, rz_spec_l1Cur, pr_spec_l1Cur, arr_2_int.cells, rz_arr_2_int, pr_arr_2_int, *]
          rfl) rfl rfl
      · rw [if_neg h17] at hr
        have e16 : (objective_ = 1) = False := eq_false h17
        clear h17
        obtain ⟨r18, q20, hr⟩ := Option.bind_eq_some_iff.1 hr
        have e19 : ∀ H ng, gcall (shOf F) cl false n_spec_l3Plain [.fs (jobs_.map impl_Job.cells)] H ng = some (.bool r18, H, ng, .inert) := fun H ng => call_far s_spec_l3Plain rfl (K_spec_l3Plain _ _ q20).ret
        have hr_ := Option.some.inj hr; subst hr_
        refine RetF.scal (by
          simp only [c_spec_l3Ruled, evA, evB, Int.reduceToNat, eq_self, reduceCtorEq, ↓reduceIte, Nat.reduceEqDiff, Nat.reduceAdd, Nat.reduceLT, Nat.reduceLeDiff, Nat.reduceMul, Nat.reduceSub, Nat.reduceBEq, impl_Job.cells, rz_impl_Job, pr_impl_Job, spec_l1Cur.cells, rz_spec_l1Cur, pr_spec_l1Cur, arr_2_int.cells, rz_arr_2_int, pr_arr_2_int, *]
          rfl) rfl rfl
    · rw [if_neg h12] at hr
      have e11 : r7 = false := Bool.eq_false_iff.2 h12
      clear h12
      have hr_ := Option.some.inj hr; subst hr_
      refine RetF.scal (by
        simp only [c_spec_l3Ruled, evA, evB, Int.reduceToNat, eq_self, reduceCtorEq, ↓reduceIte, Nat.reduceEqDiff, Nat.reduceAdd, Nat.reduceLT, Nat.reduceLeDiff, Nat.reduceMul, Nat.reduceSub, Nat.reduceBEq, impl_Job.cells, rz_impl_Job, pr_impl_Job, spec_l1Cur.cells, rz_spec_l1Cur, pr_spec_l1Cur, arr_2_int.cells, rz_arr_2_int, pr_arr_2_int, *]
        rfl) rfl rfl
  · rw [if_neg h6] at hr
    have e5 : r1 = false := Bool.eq_false_iff.2 h6
    clear h6
    have hr_ := Option.some.inj hr; subst hr_
    refine RetF.scal (by
      simp only [c_spec_l3Ruled, evA, evB, Int.reduceToNat, eq_self, reduceCtorEq, ↓reduceIte, Nat.reduceEqDiff, Nat.reduceAdd, Nat.reduceLT, Nat.reduceLeDiff, Nat.reduceMul, Nat.reduceSub, Nat.reduceBEq, impl_Job.cells, rz_impl_Job, pr_impl_Job, spec_l1Cur.cells, rz_spec_l1Cur, pr_spec_l1Cur, arr_2_int.cells, rz_arr_2_int, pr_arr_2_int, *]
      rfl) rfl rfl

theorem st_spec_l1Has_l0 {cl : Callee} (l_ : (List Int)) (n_ : Int) (st_ : (Int)) (c_ : Ctl (Int) (Unit ⊕ (Bool))) (hr : x_spec_l1Has_l0 l_ n_ st_ = some c_) (T_ : Tm) (H_ : List Blk) (ng : Nat) (hR_ : R_spec_l1Has_l0 l_ n_ st_ T_ H_) :
    ∃ e_ T1_ H1_ ng1_, gcode (shOf F) cl LL c_spec_l1Has_l0 ⟨maskT (some [0, 1, 5]) T_, H_, ng⟩ = some (e_, ⟨T1_, H1_, ng1_⟩) ∧ TurnOK (R_spec_l1Has_l0 l_ n_) (Q_spec_l1Has_l0 l_ n_) 0 c_ e_ T1_ H1_ := by
  obtain ⟨i_, hst_⟩ : ∃ x, x = st_ := ⟨_, rfl⟩; subst hst_
  obtain ⟨f0_, f1_, f2_, rfl⟩ := hR_
  unfold x_spec_l1Has_l0 at hr
  try dsimp only at hr
  by_cases h5 : i_ < (l_.length : Int)
  · rw [if_pos h5] at hr
    have e3 : (i_ < (l_.length : Int)) = True := eq_true h5
    clear h5
    obtain ⟨y6, q10, hr⟩ := Option.bind_eq_some_iff.1 hr
    obtain ⟨e7, e8, e9⟩ := ix_some q10
    try simp only [Int.toNat_natCast, Int.toNat_zero, Int.reduceToNat] at e8
    clear q10
    by_cases h15 : y6 = n_
    · rw [if_pos h15] at hr
      have e13 : (y6 = n_) = True := eq_true h15
      clear h15
      have hr_ := Option.some.inj hr; subst hr_
      refine turn (by
        simp only [c_spec_l1Has_l0, evA, evB, Int.reduceToNat, eq_self, reduceCtorEq, ↓reduceIte, Nat.reduceEqDiff, Nat.reduceAdd, Nat.reduceLT, Nat.reduceLeDiff, Nat.reduceMul, Nat.reduceSub, Nat.reduceBEq, impl_Job.cells, rz_impl_Job, pr_impl_Job, spec_l1Cur.cells, rz_spec_l1Cur, pr_spec_l1Cur, arr_2_int.cells, rz_arr_2_int, pr_arr_2_int, *]
        rfl) ?_
      exact ⟨by simp, rfl, rfl⟩
    · rw [if_neg h15] at hr
      have e14 : (y6 = n_) = False := eq_false h15
      clear h15
      have hr_ := Option.some.inj hr; subst hr_
      refine turn (by
        simp only [c_spec_l1Has_l0, evA, evB, Int.reduceToNat, eq_self, reduceCtorEq, ↓reduceIte, Nat.reduceEqDiff, Nat.reduceAdd, Nat.reduceLT, Nat.reduceLeDiff, Nat.reduceMul, Nat.reduceSub, Nat.reduceBEq, impl_Job.cells, rz_impl_Job, pr_impl_Job, spec_l1Cur.cells, rz_spec_l1Cur, pr_spec_l1Cur, arr_2_int.cells, rz_arr_2_int, pr_arr_2_int, *]
        rfl) ?_
      exact ⟨rfl, rfl, rfl, rfl, rfl⟩
  · rw [if_neg h5] at hr
    have e4 : (i_ < (l_.length : Int)) = False := eq_false h5
    clear h5
    have hr_ := Option.some.inj hr; subst hr_
    refine turn (by
      simp only [c_spec_l1Has_l0, evA, evB, Int.reduceToNat, eq_self, reduceCtorEq, ↓reduceIte, Nat.reduceEqDiff, Nat.reduceAdd, Nat.reduceLT, Nat.reduceLeDiff, Nat.reduceMul, Nat.reduceSub, Nat.reduceBEq, impl_Job.cells, rz_impl_Job, pr_impl_Job, spec_l1Cur.cells, rz_spec_l1Cur, pr_spec_l1Cur, arr_2_int.cells, rz_arr_2_int, pr_arr_2_int, *]
      rfl) ?_
    exact ⟨by simp, rfl, rfl⟩

theorem lp_spec_l1Has_l0 {cl : Callee} (l_ : (List Int)) (n_ : Int) (st_ : (Int)) (p_ : (Unit ⊕ (Bool))) (hr : loopS (x_spec_l1Has_l0 l_ n_) LL st_ = some p_) (T_ : Tm) (H_ : List Blk) (ng : Nat) (hR_ : R_spec_l1Has_l0 l_ n_ st_ T_ H_) (hn_ : H_.length = 0) :
    ∃ e_ T1_ H1_ ng1_, gcode (shOf F) cl LL (.loop false (some [0, 1, 5]) c_spec_l1Has_l0) ⟨T_, H_, ng⟩ = some (e_, ⟨T1_, H1_, ng1_⟩) ∧ Q_spec_l1Has_l0 l_ n_ p_ e_ T1_ H1_ :=
  sim_loop (n0 := 0) (R_spec_l1Has_l0 l_ n_) (Q_spec_l1Has_l0 l_ n_) (st_spec_l1Has_l0 l_ n_) st_ p_ hr T_ H_ ng hR_ hn_

theorem ok_spec_l1Has {cl : Callee} : K_spec_l1Has (x_spec_l1Has) (gbody F LL cl c_spec_l1Has) := by
  intro l_ n_ r hr
  unfold x_spec_l1Has at hr
  try dsimp only at hr
  obtain ⟨p1, q10, hr⟩ := Option.bind_eq_some_iff.1 hr
  obtain ⟨ex7, T4, H5, ng6, l3, m2⟩ := lp_spec_l1Has_l0 (cl := cl)  l_ n_ _ _ q10 [(0, .fs (l_.map (cI .i64))), (1, .int .i64 n_), (5, .int .i64 0)] [] 0 (show R_spec_l1Has_l0 l_ n_ 0 [(0, .fs (l_.map (cI .i64))), (1, .int .i64 n_), (5, .int .i64 0)] [] from ⟨rfl, rfl, rfl, rfl⟩) rfl
  rcases p1 with p1 | p1
  · dsimp only at hr
    obtain ⟨rfl, e8⟩ := m2
    subst e8
    have hr_ := Option.some.inj hr; subst hr_
    refine RetF.scal (by
      simp only [c_spec_l1Has, evA, evB, Int.reduceToNat, eq_self, reduceCtorEq, ↓reduceIte, Nat.reduceEqDiff, Nat.reduceAdd, Nat.reduceLT, Nat.reduceLeDiff, Nat.reduceMul, Nat.reduceSub, Nat.reduceBEq, impl_Job.cells, rz_impl_Job, pr_impl_Job, spec_l1Cur.cells, rz_spec_l1Cur, pr_spec_l1Cur, arr_2_int.cells, rz_arr_2_int, pr_arr_2_int, *]
      rfl) rfl rfl
  · dsimp only at hr
    obtain ⟨rfl, e9⟩ := m2
    have hr_ := Option.some.inj hr; subst hr_
    refine RetF.scal (by
      simp only [c_spec_l1Has, evA, evB, Int.reduceToNat, eq_self, reduceCtorEq, ↓reduceIte, Nat.reduceEqDiff, Nat.reduceAdd, Nat.reduceLT, Nat.reduceLeDiff, Nat.reduceMul, Nat.reduceSub, Nat.reduceBEq, impl_Job.cells, rz_impl_Job, pr_impl_Job, spec_l1Cur.cells, rz_spec_l1Cur, pr_spec_l1Cur, arr_2_int.cells, rz_arr_2_int, pr_arr_2_int, *]
      rfl) rfl rfl

theorem st_spec_l2Order_l0 {cl : Callee} (K_spec_l1In : K_spec_l1In x_spec_l1In (cl n_spec_l1In)) (K_spec_l1Has : K_spec_l1Has x_spec_l1Has (cl n_spec_l1Has)) (n_ : Int) (order_ : (List Int)) (st_ : (Int)) (c_ : Ctl (Int) (Unit ⊕ (Bool))) (hr : x_spec_l2Order_l0 n_ order_ st_ = some c_) (T_ : Tm) (H_ : List Blk) (ng : Nat) (hR_ : R_spec_l2Order_l0 n_ order_ st_ T_ H_) :
    ∃ e_ T1_ H1_ ng1_, gcode (shOf F) cl LL c_spec_l2Order_l0 ⟨maskT (some [0, 1, 5]) T_, H_, ng⟩ = some (e_, ⟨T1_, H1_, ng1_⟩) ∧ TurnOK (R_spec_l2Order_l0 n_ order_) (Q_spec_l2Order_l0 n_ order_) 0 c_ e_ T1_ H1_ := by
  obtain ⟨i_, hst_⟩ : ∃ x, x = st_ := ⟨_, rfl⟩; subst hst_
  obtain ⟨f0_, f1_, f2_, rfl⟩ := hR_
  unfold x_spec_l2Order_l0 at hr
  try dsimp only at hr
  by_cases h5 : i_ < n_
  · rw [if_pos h5] at hr
    have e3 : (i_ < n_) = True := eq_true h5
    clear h5
    obtain ⟨r6, q8, hr⟩ := Option.bind_eq_some_iff.1 hr
    have e7 : ∀ H ng, gcall (shOf F) cl false n_spec_l1Has [.fs (order_.map (cI .i64)), .int .i64 i_] H ng = some (.bool r6, H, ng, .inert) := fun H ng => call_far s_spec_l1Has rfl (K_spec_l1Has _ _ _ q8).ret
    by_cases h11 : r6 = true
    · rw [if_pos h11] at hr
      have e9 : r6 = true := h11
      clear h11
      have hr_ := Option.some.inj hr; subst hr_
      refine turn (by
        simp only [c_spec_l2Order_l0, evA, evB, Int.reduceToNat, eq_self, reduceCtorEq, ↓reduceIte, Nat.reduceEqDiff, Nat.reduceAdd, Nat.reduceLT, Nat.reduceLeDiff, Nat.reduceMul, Nat.reduceSub, Nat.reduceBEq, impl_Job.cells, rz_impl_Job, pr_impl_Job, spec_l1Cur.cells, rz_spec_l1Cur, pr_spec_l1Cur, arr_2_int.cells, rz_arr_2_int, pr_arr_2_int, *]
        rfl) ?_
      exact ⟨rfl, rfl, rfl, rfl, rfl⟩
    · rw [if_neg h11] at hr
      have e10 : r6 = false := Bool.eq_false_iff.2 h11
      clear h11
      have hr_ := Option.some.inj hr; subst hr_
      refine turn (by
        simp only [c_spec_l2Order_l0, evA, evB, Int.reduceToNat, eq_self, reduceCtorEq, ↓reduceIte, Nat.reduceEqDiff, Nat.reduceAdd, Nat.reduceLT, Nat.reduceLeDiff, Nat.reduceMul, Nat.reduceSub, Nat.reduceBEq, impl_Job.cells, rz_impl_Job, pr_impl_Job, spec_l1Cur.cells, rz_spec_l1Cur, pr_spec_l1Cur, arr_2_int.cells, rz_arr_2_int, pr_arr_2_int, *]
        rfl) ?_
      exact ⟨by simp, rfl, rfl⟩
  · rw [if_neg h5] at hr
    have e4 : (i_ < n_) = False := eq_false h5
    clear h5
    have hr_ := Option.some.inj hr; subst hr_
    refine turn (by
      simp only [c_spec_l2Order_l0, evA, evB, Int.reduceToNat, eq_self, reduceCtorEq, ↓reduceIte, Nat.reduceEqDiff, Nat.reduceAdd, Nat.reduceLT, Nat.reduceLeDiff, Nat.reduceMul, Nat.reduceSub, Nat.reduceBEq, impl_Job.cells, rz_impl_Job, pr_impl_Job, spec_l1Cur.cells, rz_spec_l1Cur, pr_spec_l1Cur, arr_2_int.cells, rz_arr_2_int, pr_arr_2_int, *]
      rfl) ?_
    exact ⟨by simp, rfl, rfl⟩

theorem lp_spec_l2Order_l0 {cl : Callee} (K_spec_l1In : K_spec_l1In x_spec_l1In (cl n_spec_l1In)) (K_spec_l1Has : K_spec_l1Has x_spec_l1Has (cl n_spec_l1Has)) (n_ : Int) (order_ : (List Int)) (st_ : (Int)) (p_ : (Unit ⊕ (Bool))) (hr : loopS (x_spec_l2Order_l0 n_ order_) LL st_ = some p_) (T_ : Tm) (H_ : List Blk) (ng : Nat) (hR_ : R_spec_l2Order_l0 n_ order_ st_ T_ H_) (hn_ : H_.length = 0) :
    ∃ e_ T1_ H1_ ng1_, gcode (shOf F) cl LL (.loop false (some [0, 1, 5]) c_spec_l2Order_l0) ⟨T_, H_, ng⟩ = some (e_, ⟨T1_, H1_, ng1_⟩) ∧ Q_spec_l2Order_l0 n_ order_ p_ e_ T1_ H1_ :=
  sim_loop (n0 := 0) (R_spec_l2Order_l0 n_ order_) (Q_spec_l2Order_l0 n_ order_) (st_spec_l2Order_l0 K_spec_l1In K_spec_l1Has n_ order_) st_ p_ hr T_ H_ ng hR_ hn_

theorem ok_spec_l2Order {cl : Callee} (K_spec_l1In : K_spec_l1In x_spec_l1In (cl n_spec_l1In)) (K_spec_l1Has : K_spec_l1Has x_spec_l1Has (cl n_spec_l1Has)) : K_spec_l2Order (x_spec_l2Order) (gbody F LL cl c_spec_l2Order) := by
  intro n_ order_ r hr
  unfold x_spec_l2Order at hr
  try dsimp only at hr
  obtain ⟨r1, q3, hr⟩ := Option.bind_eq_some_iff.1 hr
  have e2 : ∀ H ng, gcall (shOf F) cl false n_spec_l1In [.int .i64 n_, .int .i64 0, .int .i64 8] H ng = some (.bool r1, H, ng, .inert) := fun H ng => call_far s_spec_l1In rfl (K_spec_l1In _ _ _ _ q3).ret
  by_cases h6 : r1 = true
  · rw [if_pos h6] at hr
    have e4 : r1 = true := h6
    clear h6
    by_cases h11 : (order_.length : Int) = n_
    · rw [if_pos h11] at hr
      have e9 : ((order_.length : Int) = n_) = True := eq_true h11
      clear h11
      obtain ⟨p12, q21, hr⟩ := Option.bind_eq_some_iff.1 hr
      obtain ⟨ex18, T15, H16, ng17, l14, m13⟩ := lp_spec_l2Order_l0 (cl := cl) K_spec_l1In K_spec_l1Has  n_ order_ _ _ q21 [(0, .int .i64 n_), (1, .fs (order_.map (cI .i64))), (5, .int .i64 0)] [] 0 (show R_spec_l2Order_l0 n_ order_ 0 [(0, .int .i64 n_), (1, .fs (order_.map (cI .i64))), (5, .int .i64 0)] [] from ⟨rfl, rfl, rfl, rfl⟩) rfl
      rcases p12 with p12 | p12
      · dsimp only at hr
        obtain ⟨rfl, e19⟩ := m13
        subst e19
        have hr_ := Option.some.inj hr; subst hr_
        refine RetF.scal (by
          simp only [c_spec_l2Order, evA, evB, Int.reduceToNat, eq_self, reduceCtorEq, ↓reduceIte, Nat.reduceEqDiff, Nat.reduceAdd, Nat.reduceLT, Nat.reduceLeDiff, Nat.reduceMul, Nat.reduceSub, Nat.reduceBEq, impl_Job.cells, rz_impl_Job, pr_impl_Job, spec_l1Cur.cells, rz_spec_l1Cur, pr_spec_l1Cur, arr_2_int.cells, rz_arr_2_int, pr_arr_2_int, *]
          rfl) rfl rfl
      · dsimp only at hr
        obtain ⟨rfl, e20⟩ := m13
        have hr_ := Option.some.inj hr; subst hr_
        refine RetF.scal (by
          simp only [c_spec_l2Order, evA, evB, Int.reduceToNat, eq_self, reduceCtorEq, ↓reduceIte, Nat.reduceEqDiff, Nat.reduceAdd, Nat.reduceLT, Nat.reduceLeDiff, Nat.reduceMul, Nat.reduceSub, Nat.reduceBEq, impl_Job.cells, rz_impl_Job, pr_impl_Job, spec_l1Cur.cells, rz_spec_l1Cur, pr_spec_l1Cur, arr_2_int.cells, rz_arr_2_int, pr_arr_2_int, *]
          rfl) rfl rfl
    · rw [if_neg h11] at hr
      have e10 : ((order_.length : Int) = n_) = False := eq_false h11
      clear h11
      have hr_ := Option.some.inj hr; subst hr_
      refine RetF.scal (by
        simp only [c_spec_l2Order, evA, evB, Int.reduceToNat, eq_self, reduceCtorEq, ↓reduceIte, Nat.reduceEqDiff, Nat.reduceAdd, Nat.reduceLT, Nat.reduceLeDiff, Nat.reduceMul, Nat.reduceSub, Nat.reduceBEq, impl_Job.cells, rz_impl_Job, pr_impl_Job, spec_l1Cur.cells, rz_spec_l1Cur, pr_spec_l1Cur, arr_2_int.cells, rz_arr_2_int, pr_arr_2_int, *]
        rfl) rfl rfl
  · rw [if_neg h6] at hr
    have e5 : r1 = false := Bool.eq_false_iff.2 h6
    clear h6
    have hr_ := Option.some.inj hr; subst hr_
    refine RetF.scal (by
      simp only [c_spec_l2Order, evA, evB, Int.reduceToNat, eq_self, reduceCtorEq, ↓reduceIte, Nat.reduceEqDiff, Nat.reduceAdd, Nat.reduceLT, Nat.reduceLeDiff, Nat.reduceMul, Nat.reduceSub, Nat.reduceBEq, impl_Job.cells, rz_impl_Job, pr_impl_Job, spec_l1Cur.cells, rz_spec_l1Cur, pr_spec_l1Cur, arr_2_int.cells, rz_arr_2_int, pr_arr_2_int, *]
      rfl) rfl rfl

theorem ok_spec_l3Both {cl : Callee} (K_spec_l3Ruled : K_spec_l3Ruled x_spec_l3Ruled (cl n_spec_l3Ruled)) (K_spec_l2Order : K_spec_l2Order x_spec_l2Order (cl n_spec_l2Order)) : K_spec_l3Both (x_spec_l3Both) (gbody F LL cl c_spec_l3Both) := by
  intro jobs_ order_ objective_ r hr
  unfold x_spec_l3Both at hr
  try dsimp only at hr
  obtain ⟨r1, q3, hr⟩ := Option.bind_eq_some_iff.1 hr
  have e2 : ∀ H ng, gcall (shOf F) cl false n_spec_l3Ruled [.fs (jobs_.map impl_Job.cells), .int .i64 objective_] H ng = some (.bool r1, H, ng, .inert) := fun H ng => call_far s_spec_l3Ruled rfl (K_spec_l3Ruled _ _ _ q3).ret
  by_cases h6 : r1 = true
  · rw [if_pos h6] at hr
    have e4 : r1 = true := h6
    clear h6
    obtain ⟨r7, q9, hr⟩ := Option.bind_eq_some_iff.1 hr
    have e8 : ∀ H ng, gcall (shOf F) cl false n_spec_l2Order [.int .i64 (jobs_.length : Int), .fs (order_.map (cI .i64))] H ng = some (.bool r7, H, ng, .inert) := fun H ng => call_far s_spec_l2Order rfl (K_spec_l2Order _ _ _ q9).ret
    have hr_ := Option.some.inj hr; subst hr_
    refine RetF.scal (by
      simp only [c_spec_l3Both, evA, evB, Int.reduceToNat, eq_self, reduceCtorEq, ↓reduceIte, Nat.reduceEqDiff, Nat.reduceAdd, Nat.reduceLT, Nat.reduceLeDiff, Nat.reduceMul, Nat.reduceSub, Nat.reduceBEq, impl_Job.cells, rz_impl_Job, pr_impl_Job, spec_l1Cur.cells, rz_spec_l1Cur, pr_spec_l1Cur, arr_2_int.cells, rz_arr_2_int, pr_arr_2_int, *]
      rfl) rfl rfl
  · rw [if_neg h6] at hr
    have e5 : r1 = false := Bool.eq_false_iff.2 h6
    clear h6
    have hr_ := Option.some.inj hr; subst hr_
    refine RetF.scal (by
      simp only [c_spec_l3Both, evA, evB, Int.reduceToNat, eq_self, reduceCtorEq, ↓reduceIte, Nat.reduceEqDiff, Nat.reduceAdd, Nat.reduceLT, Nat.reduceLeDiff, Nat.reduceMul, Nat.reduceSub, Nat.reduceBEq, impl_Job.cells, rz_impl_Job, pr_impl_Job, spec_l1Cur.cells, rz_spec_l1Cur, pr_spec_l1Cur, arr_2_int.cells, rz_arr_2_int, pr_arr_2_int, *]
      rfl) rfl rfl

theorem ok_spec_l3Gap {cl : Callee} : K_spec_l3Gap (x_spec_l3Gap) (gbody F LL cl c_spec_l3Gap) := by
  intro jobs_ objective_ i_ j_ r hr
  unfold x_spec_l3Gap at hr
  try dsimp only at hr
  obtain ⟨y1, q5, hr⟩ := Option.bind_eq_some_iff.1 hr
  obtain ⟨e2, e3, e4⟩ := ix_some q5
  try simp only [Int.toNat_natCast, Int.toNat_zero, Int.reduceToNat] at e3
  clear q5
  obtain ⟨y6, q10, hr⟩ := Option.bind_eq_some_iff.1 hr
  obtain ⟨e7, e8, e9⟩ := ix_some q10
  try simp only [Int.toNat_natCast, Int.toNat_zero, Int.reduceToNat] at e8
  clear q10
  by_cases h15 : objective_ = 1
  · rw [if_pos h15] at hr
    have e13 : (objective_ = 1) = True := eq_true h15
    clear h15
    have hr_ := Option.some.inj hr; subst hr_
    refine RetF.scal (by
      simp only [c_spec_l3Gap, evA, evB, Int.reduceToNat, eq_self, reduceCtorEq, ↓reduceIte, Nat.reduceEqDiff, Nat.reduceAdd, Nat.reduceLT, Nat.reduceLeDiff, Nat.reduceMul, Nat.reduceSub, Nat.reduceBEq, impl_Job.cells, rz_impl_Job, pr_impl_Job, spec_l1Cur.cells, rz_spec_l1Cur, pr_spec_l1Cur, arr_2_int.cells, rz_arr_2_int, pr_arr_2_int, *]
      rfl) rfl rfl
  · rw [if_neg h15] at hr
    have e14 : (objective_ = 1) = False := eq_false h15
    clear h15
    by_cases h20 : objective_ = 2
    · rw [if_pos h20] at hr
      have e18 : (objective_ = 2) = True := eq_true h20
      clear h20
      have hr_ := Option.some.inj hr; subst hr_
      refine RetF.scal (by
        simp only [c_spec_l3Gap, evA, evB, Int.reduceToNat, eq_self, reduceCtorEq, ↓reduceIte, Nat.reduceEqDiff, Nat.reduceAdd, Nat.reduceLT, Nat.reduceLeDiff, Nat.reduceMul, Nat.reduceSub, Nat.reduceBEq, impl_Job.cells, rz_impl_Job, pr_impl_Job, spec_l1Cur.cells, rz_spec_l1Cur, pr_spec_l1Cur, arr_2_int.cells, rz_arr_2_int, pr_arr_2_int, *]
        rfl) rfl rfl
    · rw [if_neg h20] at hr
      have e19 : (objective_ = 2) = False := eq_false h20
      clear h20
      by_cases h25 : objective_ = 3
      · rw [if_pos h25] at hr
        have e23 : (objective_ = 3) = True := eq_true h25
        clear h25
        have hr_ := Option.some.inj hr; subst hr_
        refine RetF.scal (by
          simp only [c_spec_l3Gap, evA, evB, Int.reduceToNat, eq_self, reduceCtorEq, ↓reduceIte, Nat.reduceEqDiff, Nat.reduceAdd, Nat.reduceLT, Nat.reduceLeDiff, Nat.reduceMul, Nat.reduceSub, Nat.reduceBEq, impl_Job.cells, rz_impl_Job, pr_impl_Job, spec_l1Cur.cells, rz_spec_l1Cur, pr_spec_l1Cur, arr_2_int.cells, rz_arr_2_int, pr_arr_2_int, *]
          rfl) rfl rfl
      · rw [if_neg h25] at hr
        have e24 : (objective_ = 3) = False := eq_false h25
        clear h25
        have hr_ := Option.some.inj hr; subst hr_
        refine RetF.scal (by
          simp only [c_spec_l3Gap, evA, evB, Int.reduceToNat, eq_self, reduceCtorEq, ↓reduceIte, Nat.reduceEqDiff, Nat.reduceAdd, Nat.reduceLT, Nat.reduceLeDiff, Nat.reduceMul, Nat.reduceSub, Nat.reduceBEq, impl_Job.cells, rz_impl_Job, pr_impl_Job, spec_l1Cur.cells, rz_spec_l1Cur, pr_spec_l1Cur, arr_2_int.cells, rz_arr_2_int, pr_arr_2_int, *]
          rfl) rfl rfl

theorem st_spec_l3Inversions_l1 {cl : Callee} (K_spec_l3Gap : K_spec_l3Gap x_spec_l3Gap (cl n_spec_l3Gap)) (jobs_ : (List impl_Job)) (order_ : (List Int)) (objective_ : Int) (i_ : Int) (st_ : ((List arr_2_int) × Int)) (c_ : Ctl ((List arr_2_int) × Int) ((List arr_2_int))) (hr : x_spec_l3Inversions_l1 jobs_ order_ objective_ i_ st_ = some c_) (T_ : Tm) (H_ : List Blk) (ng : Nat) (hR_ : R_spec_l3Inversions_l1 jobs_ order_ objective_ i_ st_ T_ H_) :
    ∃ e_ T1_ H1_ ng1_, gcode (shOf F) cl LL c_spec_l3Inversions_l1 ⟨maskT (some [0, 1, 2, 7, 8, 9]) T_, H_, ng⟩ = some (e_, ⟨T1_, H1_, ng1_⟩) ∧ TurnOK (R_spec_l3Inversions_l1 jobs_ order_ objective_ i_) (Q_spec_l3Inversions_l1 jobs_ order_ objective_ i_) 1 c_ e_ T1_ H1_ := by
  obtain ⟨out_, k_⟩ := st_
  obtain ⟨g0, f0_, f1_, f2_, f3_, f4_, f5_, rfl⟩ := hR_
  unfold x_spec_l3Inversions_l1 at hr
  try dsimp only at hr
  by_cases h5 : k_ < (order_.length : Int)
  · rw [if_pos h5] at hr
    have e3 : (k_ < (order_.length : Int)) = True := eq_true h5
    clear h5
    obtain ⟨y6, q10, hr⟩ := Option.bind_eq_some_iff.1 hr
    obtain ⟨e7, e8, e9⟩ := ix_some q10
    try simp only [Int.toNat_natCast, Int.toNat_zero, Int.reduceToNat] at e8
    clear q10
    obtain ⟨y11, q15, hr⟩ := Option.bind_eq_some_iff.1 hr
    obtain ⟨e12, e13, e14⟩ := ix_some q15
    try simp only [Int.toNat_natCast, Int.toNat_zero, Int.reduceToNat] at e13
    clear q15
    obtain ⟨r16, q18, hr⟩ := Option.bind_eq_some_iff.1 hr
    have e17 : ∀ H ng, gcall (shOf F) cl false n_spec_l3Gap [.fs (jobs_.map impl_Job.cells), .int .i64 objective_, .int .i64 y6, .int .i64 y11] H ng = some (.int .i64 r16, H, ng, .inert) := fun H ng => call_far s_spec_l3Gap rfl (K_spec_l3Gap _ _ _ _ _ q18).ret
    by_cases h23 : 0 < r16
    · rw [if_pos h23] at hr
      have e21 : (0 < r16) = True := eq_true h23
      clear h23
      obtain ⟨l24, q32, hr⟩ := Option.bind_eq_some_iff.1 hr
      obtain ⟨e25, e26, e27, e28⟩ := app_some q32
      try simp only [List.length_cons, List.length_nil, Nat.zero_add, Nat.reduceAdd] at e25 e26 e28
      have e29 : (out_.map arr_2_int.cells) ++ [[.int .i64 y6, .int .i64 y11]] = l24.map arr_2_int.cells := by rw [← e27, List.map_append] <;> rfl
      have e30 := e25
      have e31 := e26
      rw [e28] at e30 e31
      clear e27 q32
      have hr_ := Option.some.inj hr; subst hr_
      refine turn (by
        simp only [c_spec_l3Inversions_l1, evA, evB, Int.reduceToNat, eq_self, reduceCtorEq, ↓reduceIte, Nat.reduceEqDiff, Nat.reduceAdd, Nat.reduceLT, Nat.reduceLeDiff, Nat.reduceMul, Nat.reduceSub, Nat.reduceBEq, impl_Job.cells, rz_impl_Job, pr_impl_Job, spec_l1Cur.cells, rz_spec_l1Cur, pr_spec_l1Cur, arr_2_int.cells, rz_arr_2_int, pr_arr_2_int, *]
        rfl) ?_
      exact ⟨rfl, _, rfl, rfl, rfl, rfl, rfl, rfl, rfl⟩
    · rw [if_neg h23] at hr
      have e22 : (0 < r16) = False := eq_false h23
      clear h23
      have hr_ := Option.some.inj hr; subst hr_
      refine turn (by
        simp only [c_spec_l3Inversions_l1, evA, evB, Int.reduceToNat, eq_self, reduceCtorEq, ↓reduceIte, Nat.reduceEqDiff, Nat.reduceAdd, Nat.reduceLT, Nat.reduceLeDiff, Nat.reduceMul, Nat.reduceSub, Nat.reduceBEq, impl_Job.cells, rz_impl_Job, pr_impl_Job, spec_l1Cur.cells, rz_spec_l1Cur, pr_spec_l1Cur, arr_2_int.cells, rz_arr_2_int, pr_arr_2_int, *]
        rfl) ?_
      exact ⟨rfl, _, rfl, rfl, rfl, rfl, rfl, rfl, rfl⟩
  · rw [if_neg h5] at hr
    have e4 : (k_ < (order_.length : Int)) = False := eq_false h5
    clear h5
    have hr_ := Option.some.inj hr; subst hr_
    refine turn (by
      simp only [c_spec_l3Inversions_l1, evA, evB, Int.reduceToNat, eq_self, reduceCtorEq, ↓reduceIte, Nat.reduceEqDiff, Nat.reduceAdd, Nat.reduceLT, Nat.reduceLeDiff, Nat.reduceMul, Nat.reduceSub, Nat.reduceBEq, impl_Job.cells, rz_impl_Job, pr_impl_Job, spec_l1Cur.cells, rz_spec_l1Cur, pr_spec_l1Cur, arr_2_int.cells, rz_arr_2_int, pr_arr_2_int, *]
      rfl) ?_
    exact ⟨by simp, rfl, _, rfl, rfl, rfl, rfl, rfl, rfl⟩

theorem lp_spec_l3Inversions_l1 {cl : Callee} (K_spec_l3Gap : K_spec_l3Gap x_spec_l3Gap (cl n_spec_l3Gap)) (jobs_ : (List impl_Job)) (order_ : (List Int)) (objective_ : Int) (i_ : Int) (st_ : ((List arr_2_int) × Int)) (p_ : ((List arr_2_int))) (hr : loopS (x_spec_l3Inversions_l1 jobs_ order_ objective_ i_) LL st_ = some p_) (T_ : Tm) (H_ : List Blk) (ng : Nat) (hR_ : R_spec_l3Inversions_l1 jobs_ order_ objective_ i_ st_ T_ H_) (hn_ : H_.length = 1) :
    ∃ e_ T1_ H1_ ng1_, gcode (shOf F) cl LL (.loop false (some [0, 1, 2, 7, 8, 9]) c_spec_l3Inversions_l1) ⟨T_, H_, ng⟩ = some (e_, ⟨T1_, H1_, ng1_⟩) ∧ Q_spec_l3Inversions_l1 jobs_ order_ objective_ i_ p_ e_ T1_ H1_ :=
  sim_loop (n0 := 1) (R_spec_l3Inversions_l1 jobs_ order_ objective_ i_) (Q_spec_l3Inversions_l1 jobs_ order_ objective_ i_) (st_spec_l3Inversions_l1 K_spec_l3Gap jobs_ order_ objective_ i_) st_ p_ hr T_ H_ ng hR_ hn_

theorem st_spec_l3Inversions_l0 {cl : Callee} (K_spec_l3Gap : K_spec_l3Gap x_spec_l3Gap (cl n_spec_l3Gap)) (jobs_ : (List impl_Job)) (order_ : (List Int)) (objective_ : Int) (st_ : ((List arr_2_int) × Int)) (c_ : Ctl ((List arr_2_int) × Int) ((List arr_2_int))) (hr : x_spec_l3Inversions_l0 jobs_ order_ objective_ st_ = some c_) (T_ : Tm) (H_ : List Blk) (ng : Nat) (hR_ : R_spec_l3Inversions_l0 jobs_ order_ objective_ st_ T_ H_) :
    ∃ e_ T1_ H1_ ng1_, gcode (shOf F) cl LL c_spec_l3Inversions_l0 ⟨maskT (some [0, 1, 2, 7, 8]) T_, H_, ng⟩ = some (e_, ⟨T1_, H1_, ng1_⟩) ∧ TurnOK (R_spec_l3Inversions_l0 jobs_ order_ objective_) (Q_spec_l3Inversions_l0 jobs_ order_ objective_) 1 c_ e_ T1_ H1_ := by
  obtain ⟨out_, i_⟩ := st_
  obtain ⟨g0, f0_, f1_, f2_, f3_, f4_, rfl⟩ := hR_
  unfold x_spec_l3Inversions_l0 at hr
  try dsimp only at hr
  by_cases h5 : i_ < (order_.length : Int)
  · rw [if_pos h5] at hr
    have e3 : (i_ < (order_.length : Int)) = True := eq_true h5
    clear h5
    obtain ⟨p6, q20, hr⟩ := Option.bind_eq_some_iff.1 hr
    obtain ⟨ex12, T9, H10, ng11, l8, m7⟩ := lp_spec_l3Inversions_l1 (cl := cl) K_spec_l3Gap  jobs_ order_ objective_ i_ _ _ q20 [(0, .fs (jobs_.map impl_Job.cells)), (1, .fs (order_.map (cI .i64))), (2, .int .i64 objective_), (7, .os 0 g0 2 0 out_.length), (8, .int .i64 i_), (9, .int .i64 (addK .i64 i_ 1))] [(Blk.mk g0 false 2 (out_.map arr_2_int.cells))] ng (show R_spec_l3Inversions_l1 jobs_ order_ objective_ i_ (out_, (addK .i64 i_ 1)) [(0, .fs (jobs_.map impl_Job.cells)), (1, .fs (order_.map (cI .i64))), (2, .int .i64 objective_), (7, .os 0 g0 2 0 out_.length), (8, .int .i64 i_), (9, .int .i64 (addK .i64 i_ 1))] [(Blk.mk g0 false 2 (out_.map arr_2_int.cells))] from ⟨_, rfl, rfl, rfl, rfl, rfl, rfl, rfl⟩) rfl
    obtain ⟨rfl, g13, e14, e15, e16, e17, e18, e19⟩ := m7
    subst e19
    have hr_ := Option.some.inj hr; subst hr_
    refine turn (by
      simp only [c_spec_l3Inversions_l0, evA, evB, Int.reduceToNat, eq_self, reduceCtorEq, ↓reduceIte, Nat.reduceEqDiff, Nat.reduceAdd, Nat.reduceLT, Nat.reduceLeDiff, Nat.reduceMul, Nat.reduceSub, Nat.reduceBEq, impl_Job.cells, rz_impl_Job, pr_impl_Job, spec_l1Cur.cells, rz_spec_l1Cur, pr_spec_l1Cur, arr_2_int.cells, rz_arr_2_int, pr_arr_2_int, *]
      rfl) ?_
    exact ⟨rfl, _, rfl, rfl, rfl, rfl, rfl, rfl⟩
  · rw [if_neg h5] at hr
    have e4 : (i_ < (order_.length : Int)) = False := eq_false h5
    clear h5
    have hr_ := Option.some.inj hr; subst hr_
    refine turn (by
      simp only [c_spec_l3Inversions_l0, evA, evB, Int.reduceToNat, eq_self, reduceCtorEq, ↓reduceIte, Nat.reduceEqDiff, Nat.reduceAdd, Nat.reduceLT, Nat.reduceLeDiff, Nat.reduceMul, Nat.reduceSub, Nat.reduceBEq, impl_Job.cells, rz_impl_Job, pr_impl_Job, spec_l1Cur.cells, rz_spec_l1Cur, pr_spec_l1Cur, arr_2_int.cells, rz_arr_2_int, pr_arr_2_int, *]
      rfl) ?_
    exact ⟨by simp, rfl, _, rfl, rfl⟩

theorem lp_spec_l3Inversions_l0 {cl : Callee} (K_spec_l3Gap : K_spec_l3Gap x_spec_l3Gap (cl n_spec_l3Gap)) (jobs_ : (List impl_Job)) (order_ : (List Int)) (objective_ : Int) (st_ : ((List arr_2_int) × Int)) (p_ : ((List arr_2_int))) (hr : loopS (x_spec_l3Inversions_l0 jobs_ order_ objective_) LL st_ = some p_) (T_ : Tm) (H_ : List Blk) (ng : Nat) (hR_ : R_spec_l3Inversions_l0 jobs_ order_ objective_ st_ T_ H_) (hn_ : H_.length = 1) :
    ∃ e_ T1_ H1_ ng1_, gcode (shOf F) cl LL (.loop false (some [0, 1, 2, 7, 8]) c_spec_l3Inversions_l0) ⟨T_, H_, ng⟩ = some (e_, ⟨T1_, H1_, ng1_⟩) ∧ Q_spec_l3Inversions_l0 jobs_ order_ objective_ p_ e_ T1_ H1_ :=
  sim_loop (n0 := 1) (R_spec_l3Inversions_l0 jobs_ order_ objective_) (Q_spec_l3Inversions_l0 jobs_ order_ objective_) (st_spec_l3Inversions_l0 K_spec_l3Gap jobs_ order_ objective_) st_ p_ hr T_ H_ ng hR_ hn_

theorem ok_spec_l3Inversions {cl : Callee} (K_spec_l3Gap : K_spec_l3Gap x_spec_l3Gap (cl n_spec_l3Gap)) : K_spec_l3Inversions (x_spec_l3Inversions) (gbody F LL cl c_spec_l3Inversions) := by
  intro jobs_ order_ objective_ r hr
  unfold x_spec_l3Inversions at hr
  try dsimp only at hr
  obtain ⟨p1, q11, hr⟩ := Option.bind_eq_some_iff.1 hr
  obtain ⟨ex7, T4, H5, ng6, l3, m2⟩ := lp_spec_l3Inversions_l0 (cl := cl) K_spec_l3Gap  jobs_ order_ objective_ _ _ q11 [(0, .fs (jobs_.map impl_Job.cells)), (1, .fs (order_.map (cI .i64))), (2, .int .i64 objective_), (7, .os 0 0 2 0 0), (8, .int .i64 0)] [(Blk.mk 0 false 2 [])] 1 (show R_spec_l3Inversions_l0 jobs_ order_ objective_ (([] : List arr_2_int), 0) [(0, .fs (jobs_.map impl_Job.cells)), (1, .fs (order_.map (cI .i64))), (2, .int .i64 objective_), (7, .os 0 0 2 0 0), (8, .int .i64 0)] [(Blk.mk 0 false 2 [])] from ⟨_, rfl, rfl, rfl, rfl, rfl, rfl⟩) rfl
  obtain ⟨rfl, g8, e9, e10⟩ := m2
  subst e10
  have hr_ := Option.some.inj hr; subst hr_
  refine ⟨0, g8, [(Blk.mk g8 false 2 (p1.map arr_2_int.cells))], ng6, ?_, by simp [hget, hp], sc_arr_2_int _⟩
  simp only [c_spec_l3Inversions, evA, evB, Int.reduceToNat, eq_self, reduceCtorEq, ↓reduceIte, Nat.reduceEqDiff, Nat.reduceAdd, Nat.reduceLT, Nat.reduceLeDiff, Nat.reduceMul, Nat.reduceSub, Nat.reduceBEq, impl_Job.cells, rz_impl_Job, pr_impl_Job, spec_l1Cur.cells, rz_spec_l1Cur, pr_spec_l1Cur, arr_2_int.cells, rz_arr_2_int, pr_arr_2_int, *]

theorem st_spec_PairLoss_l0 {cl : Callee} (K_spec_l3Both : K_spec_l3Both x_spec_l3Both (cl n_spec_l3Both)) (K_spec_l3Gap : K_spec_l3Gap x_spec_l3Gap (cl n_spec_l3Gap)) (K_spec_l3Inversions : K_spec_l3Inversions x_spec_l3Inversions (cl n_spec_l3Inversions)) (jobs_ : (List impl_Job)) (list_ : (List arr_2_int)) (st_ : (Int × Int)) (c_ : Ctl (Int × Int) (Int)) (hr : x_spec_PairLoss_l0 jobs_ list_ st_ = some c_) (T_ : Tm) (H_ : List Blk) (ng : Nat) (hR_ : R_spec_PairLoss_l0 jobs_ list_ st_ T_ H_) :
    ∃ e_ T1_ H1_ ng1_, gcode (shOf F) cl LL c_spec_PairLoss_l0 ⟨maskT (some [0, 6, 7, 8]) T_, H_, ng⟩ = some (e_, ⟨T1_, H1_, ng1_⟩) ∧ TurnOK (R_spec_PairLoss_l0 jobs_ list_) (Q_spec_PairLoss_l0 jobs_ list_) 0 c_ e_ T1_ H1_ := by
  obtain ⟨sum_, i_⟩ := st_
  obtain ⟨f0_, f1_, f2_, f3_, rfl⟩ := hR_
  unfold x_spec_PairLoss_l0 at hr
  try dsimp only at hr
  by_cases h5 : i_ < (list_.length : Int)
  · rw [if_pos h5] at hr
    have e3 : (i_ < (list_.length : Int)) = True := eq_true h5
    clear h5
    obtain ⟨y6, q10, hr⟩ := Option.bind_eq_some_iff.1 hr
    obtain ⟨e7, e8, e9⟩ := ix_some q10
    try simp only [Int.toNat_natCast, Int.toNat_zero, Int.reduceToNat] at e8
    clear q10
    obtain ⟨r11, q13, hr⟩ := Option.bind_eq_some_iff.1 hr
    have e12 : ∀ H ng, gcall (shOf F) cl false n_spec_l3Gap [.fs (jobs_.map impl_Job.cells), .int .i64 3, .int .i64 y6.a0, .int .i64 y6.a1] H ng = some (.int .i64 r11, H, ng, .inert) := fun H ng => call_far s_spec_l3Gap rfl (K_spec_l3Gap _ _ _ _ _ q13).ret
    have hr_ := Option.some.inj hr; subst hr_
    refine turn (by
      simp only [c_spec_PairLoss_l0, evA, evB, Int.reduceToNat, eq_self, reduceCtorEq, ↓reduceIte, Nat.reduceEqDiff, Nat.reduceAdd, Nat.reduceLT, Nat.reduceLeDiff, Nat.reduceMul, Nat.reduceSub, Nat.reduceBEq, impl_Job.cells, rz_impl_Job, pr_impl_Job, spec_l1Cur.cells, rz_spec_l1Cur, pr_spec_l1Cur, arr_2_int.cells, rz_arr_2_int, pr_arr_2_int, *]
      rfl) ?_
    exact ⟨rfl, rfl, rfl, rfl, rfl, rfl⟩
  · rw [if_neg h5] at hr
    have e4 : (i_ < (list_.length : Int)) = False := eq_false h5
    clear h5
    have hr_ := Option.some.inj hr; subst hr_
    refine turn (by
      simp only [c_spec_PairLoss_l0, evA, evB, Int.reduceToNat, eq_self, reduceCtorEq, ↓reduceIte, Nat.reduceEqDiff, Nat.reduceAdd, Nat.reduceLT, Nat.reduceLeDiff, Nat.reduceMul, Nat.reduceSub, Nat.reduceBEq, impl_Job.cells, rz_impl_Job, pr_impl_Job, spec_l1Cur.cells, rz_spec_l1Cur, pr_spec_l1Cur, arr_2_int.cells, rz_arr_2_int, pr_arr_2_int, *]
      rfl) ?_
    exact ⟨by simp, rfl, rfl, rfl⟩

theorem lp_spec_PairLoss_l0 {cl : Callee} (K_spec_l3Both : K_spec_l3Both x_spec_l3Both (cl n_spec_l3Both)) (K_spec_l3Gap : K_spec_l3Gap x_spec_l3Gap (cl n_spec_l3Gap)) (K_spec_l3Inversions : K_spec_l3Inversions x_spec_l3Inversions (cl n_spec_l3Inversions)) (jobs_ : (List impl_Job)) (list_ : (List arr_2_int)) (st_ : (Int × Int)) (p_ : (Int)) (hr : loopS (x_spec_PairLoss_l0 jobs_ list_) LL st_ = some p_) (T_ : Tm) (H_ : List Blk) (ng : Nat) (hR_ : R_spec_PairLoss_l0 jobs_ list_ st_ T_ H_) (hn_ : H_.length = 0) :
    ∃ e_ T1_ H1_ ng1_, gcode (shOf F) cl LL (.loop false (some [0, 6, 7, 8]) c_spec_PairLoss_l0) ⟨T_, H_, ng⟩ = some (e_, ⟨T1_, H1_, ng1_⟩) ∧ Q_spec_PairLoss_l0 jobs_ list_ p_ e_ T1_ H1_ :=
  sim_loop (n0 := 0) (R_spec_PairLoss_l0 jobs_ list_) (Q_spec_PairLoss_l0 jobs_ list_) (st_spec_PairLoss_l0 K_spec_l3Both K_spec_l3Gap K_spec_l3Inversions jobs_ list_) st_ p_ hr T_ H_ ng hR_ hn_

theorem ok_spec_PairLoss {cl : Callee} (K_spec_l3Both : K_spec_l3Both x_spec_l3Both (cl n_spec_l3Both)) (K_spec_l3Gap : K_spec_l3Gap x_spec_l3Gap (cl n_spec_l3Gap)) (K_spec_l3Inversions : K_spec_l3Inversions x_spec_l3Inversions (cl n_spec_l3Inversions)) : K_spec_PairLoss (x_spec_PairLoss) (gbody F LL cl c_spec_PairLoss) := by
  intro jobs_ order_ r hr
  unfold x_spec_PairLoss at hr
  try dsimp only at hr
  obtain ⟨r1, q3, hr⟩ := Option.bind_eq_some_iff.1 hr
  have e2 : ∀ H ng, gcall (shOf F) cl false n_spec_l3Both [.fs (jobs_.map impl_Job.cells), .fs (order_.map (cI .i64)), .int .i64 3] H ng = some (.bool r1, H, ng, .inert) := fun H ng => call_far s_spec_l3Both rfl (K_spec_l3Both _ _ _ _ q3).ret
  by_cases h6 : r1 = true
  · rw [if_pos h6] at hr
    have e4 : r1 = true := h6
    clear h6
    obtain ⟨r7, q9, hr⟩ := Option.bind_eq_some_iff.1 hr
    have e8 : ∀ H ng, gcall (shOf F) cl false n_spec_l3Inversions [.fs (jobs_.map impl_Job.cells), .fs (order_.map (cI .i64)), .int .i64 3] H ng = some (.fs (r7.map arr_2_int.cells), H, ng, .inert) := fun H ng => call_far s_spec_l3Inversions rfl (K_spec_l3Inversions _ _ _ _ q9).retF.ret
    obtain ⟨p10, q19, hr⟩ := Option.bind_eq_some_iff.1 hr
    obtain ⟨ex16, T13, H14, ng15, l12, m11⟩ := lp_spec_PairLoss_l0 (cl := cl) K_spec_l3Both K_spec_l3Gap K_spec_l3Inversions  jobs_ r7 _ _ q19 [(0, .fs (jobs_.map impl_Job.cells)), (6, .int .i64 0), (7, .fs (r7.map arr_2_int.cells)), (8, .int .i64 0)] [] 0 (show R_spec_PairLoss_l0 jobs_ r7 (0, 0) [(0, .fs (jobs_.map impl_Job.cells)), (6, .int .i64 0), (7, .fs (r7.map arr_2_int.cells)), (8, .int .i64 0)] [] from ⟨rfl, rfl, rfl, rfl, rfl⟩) rfl
    obtain ⟨rfl, e17, e18⟩ := m11
    subst e18
    have hr_ := Option.some.inj hr; subst hr_
    refine RetF.scal (by
      simp only [c_spec_PairLoss, evA, evB, Int.reduceToNat, eq_self, reduceCtorEq, ↓reduceIte, Nat.reduceEqDiff, Nat.reduceAdd, Nat.reduceLT, Nat.reduceLeDiff, Nat.reduceMul, Nat.reduceSub, Nat.reduceBEq, impl_Job.cells, rz_impl_Job, pr_impl_Job, spec_l1Cur.cells, rz_spec_l1Cur, pr_spec_l1Cur, arr_2_int.cells, rz_arr_2_int, pr_arr_2_int, *]
      rfl) rfl rfl
  · rw [if_neg h6] at hr
    have e5 : r1 = false := Bool.eq_false_iff.2 h6
    clear h6
    have hr_ := Option.some.inj hr; subst hr_
    refine RetF.scal (by
      simp only [c_spec_PairLoss, evA, evB, Int.reduceToNat, eq_self, reduceCtorEq, ↓reduceIte, Nat.reduceEqDiff, Nat.reduceAdd, Nat.reduceLT, Nat.reduceLeDiff, Nat.reduceMul, Nat.reduceSub, Nat.reduceBEq, impl_Job.cells, rz_impl_Job, pr_impl_Job, spec_l1Cur.cells, rz_spec_l1Cur, pr_spec_l1Cur, arr_2_int.cells, rz_arr_2_int, pr_arr_2_int, *]
      rfl) rfl rfl

theorem ok_spec_l1Cur_ruled3 {cl : Callee} (K_spec_l1Cur_one : K_spec_l1Cur_one x_spec_l1Cur_one (cl n_spec_l1Cur_one)) (K_spec_l1Cur_pick : K_spec_l1Cur_pick x_spec_l1Cur_pick (cl n_spec_l1Cur_pick)) (K_spec_l1Cur_jobs : K_spec_l1Cur_jobs x_spec_l1Cur_jobs (cl n_spec_l1Cur_jobs)) (K_spec_l1Cur_plain3 : K_spec_l1Cur_plain3 x_spec_l1Cur_plain3 (cl n_spec_l1Cur_plain3)) (K_spec_l1Cur_among : K_spec_l1Cur_among x_spec_l1Cur_among (cl n_spec_l1Cur_among)) : K_spec_l1Cur_ruled3 (x_spec_l1Cur_ruled3) (gbody F LL cl c_spec_l1Cur_ruled3) := by
  intro c_ r hr
  intro H0 id g ng hid
  have w1_ : ∀ b, (H0.set id b)[id]? = some b := fun b => hs_get b hid
  have w2_ : ∀ b B, (H0.set id b ++ B)[id]? = some b := fun b B => hs_getA b hid
  have w3_ : ∀ a b B, (H0.set id a ++ B).set id b = H0.set id b ++ B := fun a b B => hs_setA a b hid
  unfold x_spec_l1Cur_ruled3 at hr
  try dsimp only at hr
  obtain ⟨r1, q4, hr⟩ := Option.bind_eq_some_iff.1 hr
  obtain ⟨ng2, e3⟩ : ∃ ng', gcall (shOf F) cl false n_spec_l1Cur_pick [.ptr id g 0 0, .int .i64 4] (H0.set id (Blk.mk g false 3 [[.fs (c_.code.map (cI .u8)), .int .i64 c_.at_, .int .u64 c_.seed]])) ng = some (.int .i64 r1.1, (H0.set id (Blk.mk g false 3 [[.fs (r1.2.code.map (cI .u8)), .int .i64 r1.2.at_, .int .u64 r1.2.seed]])), ng', .all) := call_cur s_spec_l1Cur_pick (K_spec_l1Cur_pick _ _ _ q4) H0 id g ng hid
  obtain ⟨r5, q8, hr⟩ := Option.bind_eq_some_iff.1 hr
  obtain ⟨ng6, e7⟩ : ∃ ng', gcall (shOf F) cl false n_spec_l1Cur_one [.ptr id g 0 0, .int .i64 24] (H0.set id (Blk.mk g false 3 [[.fs (r1.2.code.map (cI .u8)), .int .i64 r1.2.at_, .int .u64 r1.2.seed]])) ng2 = some (.bool r5.1, (H0.set id (Blk.mk g false 3 [[.fs (r5.2.code.map (cI .u8)), .int .i64 r5.2.at_, .int .u64 r5.2.seed]])), ng', .all) := call_cur s_spec_l1Cur_one (K_spec_l1Cur_one _ _ _ q8) H0 id g ng2 hid
  by_cases h11 : r5.1 = true
  · rw [if_pos h11] at hr
    have e9 : r5.1 = true := h11
    clear h11
    obtain ⟨r12, q15, hr⟩ := Option.bind_eq_some_iff.1 hr
    obtain ⟨ng13, e14⟩ : ∃ ng', gcall (shOf F) cl false n_spec_l1Cur_among [.ptr id g 0 0, .fs [[.int .i64 0], [.int .i64 5], [.int .i64 8], [.int .i64 (-1)]]] (H0.set id (Blk.mk g false 3 [[.fs (r5.2.code.map (cI .u8)), .int .i64 r5.2.at_, .int .u64 r5.2.seed]])) ng6 = some (.int .i64 r12.1, (H0.set id (Blk.mk g false 3 [[.fs (r12.2.code.map (cI .u8)), .int .i64 r12.2.at_, .int .u64 r12.2.seed]])), ng', .all) := call_cur s_spec_l1Cur_among (K_spec_l1Cur_among _ _ _ q15) H0 id g ng6 hid
    by_cases h20 : r12.1 = 1
    · rw [if_pos h20] at hr
      have e18 : (r12.1 = 1) = True := eq_true h20
      clear h20
      obtain ⟨r21, q24, hr⟩ := Option.bind_eq_some_iff.1 hr
      obtain ⟨ng22, e23⟩ : ∃ ng', gcall (shOf F) cl false n_spec_l1Cur_jobs [.ptr id g 0 0] (H0.set id (Blk.mk g false 3 [[.fs (r12.2.code.map (cI .u8)), .int .i64 r12.2.at_, .int .u64 r12.2.seed]])) ng13 = some (.fs (r21.1.map impl_Job.cells), (H0.set id (Blk.mk g false 3 [[.fs (r21.2.code.map (cI .u8)), .int .i64 r21.2.at_, .int .u64 r21.2.seed]])), ng', .all) := call_cur s_spec_l1Cur_jobs (RetCO.ret (K_spec_l1Cur_jobs _ _ q24)) H0 id g ng13 hid
      have hr_ := Option.some.inj hr; subst hr_
      refine ⟨.tup [.fs (r21.1.map impl_Job.cells), .int .i64 r12.1], [], ng22, ?_, ?_⟩
      · simp only [c_spec_l1Cur_ruled3, evA, evB, Int.reduceToNat, eq_self, reduceCtorEq, ↓reduceIte, Nat.reduceEqDiff, Nat.reduceAdd, Nat.reduceLT, Nat.reduceLeDiff, Nat.reduceMul, Nat.reduceSub, Nat.reduceBEq, impl_Job.cells, rz_impl_Job, pr_impl_Job, spec_l1Cur.cells, rz_spec_l1Cur, pr_spec_l1Cur, arr_2_int.cells, rz_arr_2_int, pr_arr_2_int, *]
      · exact outR_flat rfl
    · rw [if_neg h20] at hr
      have e19 : (r12.1 = 1) = False := eq_false h20
      clear h20
      obtain ⟨r25, q28, hr⟩ := Option.bind_eq_some_iff.1 hr
      obtain ⟨ng26, e27⟩ : ∃ ng', gcall (shOf F) cl false n_spec_l1Cur_plain3 [.ptr id g 0 0] (H0.set id (Blk.mk g false 3 [[.fs (r12.2.code.map (cI .u8)), .int .i64 r12.2.at_, .int .u64 r12.2.seed]])) ng13 = some (.fs (r25.1.map impl_Job.cells), (H0.set id (Blk.mk g false 3 [[.fs (r25.2.code.map (cI .u8)), .int .i64 r25.2.at_, .int .u64 r25.2.seed]])), ng', .all) := call_cur s_spec_l1Cur_plain3 (RetCO.ret (K_spec_l1Cur_plain3 _ _ q28)) H0 id g ng13 hid
      have hr_ := Option.some.inj hr; subst hr_
      refine ⟨.tup [.fs (r25.1.map impl_Job.cells), .int .i64 r12.1], [], ng26, ?_, ?_⟩
      · simp only [c_spec_l1Cur_ruled3, evA, evB, Int.reduceToNat, eq_self, reduceCtorEq, ↓reduceIte, Nat.reduceEqDiff, Nat.reduceAdd, Nat.reduceLT, Nat.reduceLeDiff, Nat.reduceMul, Nat.reduceSub, Nat.reduceBEq, impl_Job.cells, rz_impl_Job, pr_impl_Job, spec_l1Cur.cells, rz_spec_l1Cur, pr_spec_l1Cur, arr_2_int.cells, rz_arr_2_int, pr_arr_2_int, *]
      · exact outR_flat rfl
  · rw [if_neg h11] at hr
    have e10 : r5.1 = false := Bool.eq_false_iff.2 h11
    clear h11
    by_cases h33 : (addK .i64 1 r1.1) = 1
    · rw [if_pos h33] at hr
      have e31 : ((addK .i64 1 r1.1) = 1) = True := eq_true h33
      clear h33
      obtain ⟨r34, q37, hr⟩ := Option.bind_eq_some_iff.1 hr
      obtain ⟨ng35, e36⟩ : ∃ ng', gcall (shOf F) cl false n_spec_l1Cur_jobs [.ptr id g 0 0] (H0.set id (Blk.mk g false 3 [[.fs (r5.2.code.map (cI .u8)), .int .i64 r5.2.at_, .int .u64 r5.2.seed]])) ng6 = some (.fs (r34.1.map impl_Job.cells), (H0.set id (Blk.mk g false 3 [[.fs (r34.2.code.map (cI .u8)), .int .i64 r34.2.at_, .int .u64 r34.2.seed]])), ng', .all) := call_cur s_spec_l1Cur_jobs (RetCO.ret (K_spec_l1Cur_jobs _ _ q37)) H0 id g ng6 hid
      have hr_ := Option.some.inj hr; subst hr_
      refine ⟨.tup [.fs (r34.1.map impl_Job.cells), .int .i64 (addK .i64 1 r1.1)], [], ng35, ?_, ?_⟩
      · simp only [c_spec_l1Cur_ruled3, evA, evB, Int.reduceToNat, eq_self, reduceCtorEq, ↓reduceIte, Nat.reduceEqDiff, Nat.reduceAdd, Nat.reduceLT, Nat.reduceLeDiff, Nat.reduceMul, Nat.reduceSub, Nat.reduceBEq, impl_Job.cells, rz_impl_Job, pr_impl_Job, spec_l1Cur.cells, rz_spec_l1Cur, pr_spec_l1Cur, arr_2_int.cells, rz_arr_2_int, pr_arr_2_int, *]
      · exact outR_flat rfl
    · rw [if_neg h33] at hr
      have e32 : ((addK .i64 1 r1.1) = 1) = False := eq_false h33
      clear h33
      obtain ⟨r38, q41, hr⟩ := Option.bind_eq_some_iff.1 hr
      obtain ⟨ng39, e40⟩ : ∃ ng', gcall (shOf F) cl false n_spec_l1Cur_plain3 [.ptr id g 0 0] (H0.set id (Blk.mk g false 3 [[.fs (r5.2.code.map (cI .u8)), .int .i64 r5.2.at_, .int .u64 r5.2.seed]])) ng6 = some (.fs (r38.1.map impl_Job.cells), (H0.set id (Blk.mk g false 3 [[.fs (r38.2.code.map (cI .u8)), .int .i64 r38.2.at_, .int .u64 r38.2.seed]])), ng', .all) := call_cur s_spec_l1Cur_plain3 (RetCO.ret (K_spec_l1Cur_plain3 _ _ q41)) H0 id g ng6 hid
      have hr_ := Option.some.inj hr; subst hr_
      refine ⟨.tup [.fs (r38.1.map impl_Job.cells), .int .i64 (addK .i64 1 r1.1)], [], ng39, ?_, ?_⟩
      · simp only [c_spec_l1Cur_ruled3, evA, evB, Int.reduceToNat, eq_self, reduceCtorEq, ↓reduceIte, Nat.reduceEqDiff, Nat.reduceAdd, Nat.reduceLT, Nat.reduceLeDiff, Nat.reduceMul, Nat.reduceSub, Nat.reduceBEq, impl_Job.cells, rz_impl_Job, pr_impl_Job, spec_l1Cur.cells, rz_spec_l1Cur, pr_spec_l1Cur, arr_2_int.cells, rz_arr_2_int, pr_arr_2_int, *]
      · exact outR_flat rfl

theorem ok_spec_l1Own {cl : Callee} : K_spec_l1Own (x_spec_l1Own) (gbody F LL cl c_spec_l1Own) := by
  intro l_ r hr
  unfold x_spec_l1Own at hr
  try dsimp only at hr
  by_cases h3 : fits l_.length 8
  · rw [if_pos h3] at hr
    have e1 : (l_.length * 8 ≤ room) = True := eq_true h3.1
    have e2 : (l_.length ≤ room) = True := eq_true h3.2
    clear h3
    have hr_ := Option.some.inj hr; subst hr_
    refine ⟨1, 2, [(Blk.mk 0 false 1 []), (Blk.mk 2 false 1 (l_.map (cI .i64)))], 3, ?_, by simp [hget, hp], sc_cI _ _⟩
    simp only [c_spec_l1Own, evA, evB, Int.reduceToNat, eq_self, reduceCtorEq, ↓reduceIte, Nat.reduceEqDiff, Nat.reduceAdd, Nat.reduceLT, Nat.reduceLeDiff, Nat.reduceMul, Nat.reduceSub, Nat.reduceBEq, impl_Job.cells, rz_impl_Job, pr_impl_Job, spec_l1Cur.cells, rz_spec_l1Cur, pr_spec_l1Cur, arr_2_int.cells, rz_arr_2_int, pr_arr_2_int, *]
  · rw [if_neg h3] at hr
    clear h3
    exact nomatch hr

theorem st_spec_l3Order_l1 {cl : Callee} (K_spec_l3Gap : K_spec_l3Gap x_spec_l3Gap (cl n_spec_l3Gap)) (K_spec_l1Own : K_spec_l1Own x_spec_l1Own (cl n_spec_l1Own)) (jobs_ : (List impl_Job)) (objective_ : Int) (out_ : (List Int)) (i_ : Int) (st_ : (Int)) (c_ : Ctl (Int) (Int)) (hr : x_spec_l3Order_l1 jobs_ objective_ out_ i_ st_ = some c_) (T_ : Tm) (H_ : List Blk) (ng : Nat) (hR_ : R_spec_l3Order_l1 jobs_ objective_ out_ i_ st_ T_ H_) :
    ∃ e_ T1_ H1_ ng1_, gcode (shOf F) cl LL c_spec_l3Order_l1 ⟨maskT (some [0, 1, 5, 6, 7]) T_, H_, ng⟩ = some (e_, ⟨T1_, H1_, ng1_⟩) ∧ TurnOK (R_spec_l3Order_l1 jobs_ objective_ out_ i_) (Q_spec_l3Order_l1 jobs_ objective_ out_ i_) 0 c_ e_ T1_ H1_ := by
  obtain ⟨k_, hst_⟩ : ∃ x, x = st_ := ⟨_, rfl⟩; subst hst_
  obtain ⟨f0_, f1_, f2_, f3_, f4_, rfl⟩ := hR_
  unfold x_spec_l3Order_l1 at hr
  try dsimp only at hr
  by_cases h5 : k_ < (out_.length : Int)
  · rw [if_pos h5] at hr
    have e3 : (k_ < (out_.length : Int)) = True := eq_true h5
    clear h5
    obtain ⟨y6, q10, hr⟩ := Option.bind_eq_some_iff.1 hr
    obtain ⟨e7, e8, e9⟩ := ix_some q10
    try simp only [Int.toNat_natCast, Int.toNat_zero, Int.reduceToNat] at e8
    clear q10
    obtain ⟨r11, q13, hr⟩ := Option.bind_eq_some_iff.1 hr
    have e12 : ∀ H ng, gcall (shOf F) cl false n_spec_l3Gap [.fs (jobs_.map impl_Job.cells), .int .i64 objective_, .int .i64 y6, .int .i64 i_] H ng = some (.int .i64 r11, H, ng, .inert) := fun H ng => call_far s_spec_l3Gap rfl (K_spec_l3Gap _ _ _ _ _ q13).ret
    by_cases h18 : r11 ≤ 0
    · rw [if_pos h18] at hr
      have e16 : (r11 ≤ 0) = True := eq_true h18
      clear h18
      have hr_ := Option.some.inj hr; subst hr_
      refine turn (by
        simp only [c_spec_l3Order_l1, evA, evB, Int.reduceToNat, eq_self, reduceCtorEq, ↓reduceIte, Nat.reduceEqDiff, Nat.reduceAdd, Nat.reduceLT, Nat.reduceLeDiff, Nat.reduceMul, Nat.reduceSub, Nat.reduceBEq, impl_Job.cells, rz_impl_Job, pr_impl_Job, spec_l1Cur.cells, rz_spec_l1Cur, pr_spec_l1Cur, arr_2_int.cells, rz_arr_2_int, pr_arr_2_int, *]
        rfl) ?_
      exact ⟨rfl, rfl, rfl, rfl, rfl, rfl, rfl⟩
    · rw [if_neg h18] at hr
      have e17 : (r11 ≤ 0) = False := eq_false h18
      clear h18
      have hr_ := Option.some.inj hr; subst hr_
      refine turn (by
        simp only [c_spec_l3Order_l1, evA, evB, Int.reduceToNat, eq_self, reduceCtorEq, ↓reduceIte, Nat.reduceEqDiff, Nat.reduceAdd, Nat.reduceLT, Nat.reduceLeDiff, Nat.reduceMul, Nat.reduceSub, Nat.reduceBEq, impl_Job.cells, rz_impl_Job, pr_impl_Job, spec_l1Cur.cells, rz_spec_l1Cur, pr_spec_l1Cur, arr_2_int.cells, rz_arr_2_int, pr_arr_2_int, *]
        rfl) ?_
      exact ⟨by simp, rfl, rfl, rfl, rfl, rfl, rfl, rfl⟩
  · rw [if_neg h5] at hr
    have e4 : (k_ < (out_.length : Int)) = False := eq_false h5
    clear h5
    have hr_ := Option.some.inj hr; subst hr_
    refine turn (by
      simp only [c_spec_l3Order_l1, evA, evB, Int.reduceToNat, eq_self, reduceCtorEq, ↓reduceIte, Nat.reduceEqDiff, Nat.reduceAdd, Nat.reduceLT, Nat.reduceLeDiff, Nat.reduceMul, Nat.reduceSub, Nat.reduceBEq, impl_Job.cells, rz_impl_Job, pr_impl_Job, spec_l1Cur.cells, rz_spec_l1Cur, pr_spec_l1Cur, arr_2_int.cells, rz_arr_2_int, pr_arr_2_int, *]
      rfl) ?_
    exact ⟨by simp, rfl, rfl, rfl, rfl, rfl, rfl, rfl⟩

theorem lp_spec_l3Order_l1 {cl : Callee} (K_spec_l3Gap : K_spec_l3Gap x_spec_l3Gap (cl n_spec_l3Gap)) (K_spec_l1Own : K_spec_l1Own x_spec_l1Own (cl n_spec_l1Own)) (jobs_ : (List impl_Job)) (objective_ : Int) (out_ : (List Int)) (i_ : Int) (st_ : (Int)) (p_ : (Int)) (hr : loopS (x_spec_l3Order_l1 jobs_ objective_ out_ i_) LL st_ = some p_) (T_ : Tm) (H_ : List Blk) (ng : Nat) (hR_ : R_spec_l3Order_l1 jobs_ objective_ out_ i_ st_ T_ H_) (hn_ : H_.length = 0) :
    ∃ e_ T1_ H1_ ng1_, gcode (shOf F) cl LL (.loop false (some [0, 1, 5, 6, 7]) c_spec_l3Order_l1) ⟨T_, H_, ng⟩ = some (e_, ⟨T1_, H1_, ng1_⟩) ∧ Q_spec_l3Order_l1 jobs_ objective_ out_ i_ p_ e_ T1_ H1_ :=
  sim_loop (n0 := 0) (R_spec_l3Order_l1 jobs_ objective_ out_ i_) (Q_spec_l3Order_l1 jobs_ objective_ out_ i_) (st_spec_l3Order_l1 K_spec_l3Gap K_spec_l1Own jobs_ objective_ out_ i_) st_ p_ hr T_ H_ ng hR_ hn_

theorem st_spec_l3Order_l0 {cl : Callee} (K_spec_l3Gap : K_spec_l3Gap x_spec_l3Gap (cl n_spec_l3Gap)) (K_spec_l1Own : K_spec_l1Own x_spec_l1Own (cl n_spec_l1Own)) (jobs_ : (List impl_Job)) (objective_ : Int) (st_ : ((List Int) × Int)) (c_ : Ctl ((List Int) × Int) ((List Int))) (hr : x_spec_l3Order_l0 jobs_ objective_ st_ = some c_) (T_ : Tm) (H_ : List Blk) (ng : Nat) (hR_ : R_spec_l3Order_l0 jobs_ objective_ st_ T_ H_) :
    ∃ e_ T1_ H1_ ng1_, gcode (shOf F) cl LL c_spec_l3Order_l0 ⟨maskT (some [0, 1, 5, 6]) T_, H_, ng⟩ = some (e_, ⟨T1_, H1_, ng1_⟩) ∧ TurnOK (R_spec_l3Order_l0 jobs_ objective_) (Q_spec_l3Order_l0 jobs_ objective_) 0 c_ e_ T1_ H1_ := by
  obtain ⟨out_, i_⟩ := st_
  obtain ⟨f0_, f1_, f2_, f3_, rfl⟩ := hR_
  unfold x_spec_l3Order_l0 at hr
  try dsimp only at hr
  by_cases h5 : i_ < (jobs_.length : Int)
  · rw [if_pos h5] at hr
    have e3 : (i_ < (jobs_.length : Int)) = True := eq_true h5
    clear h5
    obtain ⟨p6, q56, hr⟩ := Option.bind_eq_some_iff.1 hr
    obtain ⟨ex12, T9, H10, ng11, l8, m7⟩ := lp_spec_l3Order_l1 (cl := cl) K_spec_l3Gap K_spec_l1Own  jobs_ objective_ out_ i_ _ _ q56 [(0, .fs (jobs_.map impl_Job.cells)), (1, .int .i64 objective_), (5, .fs (out_.map (cI .i64))), (6, .int .i64 i_), (7, .int .i64 0)] [] ng (show R_spec_l3Order_l1 jobs_ objective_ out_ i_ 0 [(0, .fs (jobs_.map impl_Job.cells)), (1, .int .i64 objective_), (5, .fs (out_.map (cI .i64))), (6, .int .i64 i_), (7, .int .i64 0)] [] from ⟨rfl, rfl, rfl, rfl, rfl, rfl⟩) rfl
    obtain ⟨rfl, e13, e14, e15, e16, e17, e18⟩ := m7
    subst e18
    obtain ⟨y19, q26, hr⟩ := Option.bind_eq_some_iff.1 hr
    obtain ⟨e20, e21, e22, e23, e24⟩ := cut_some q26
    try simp only [Int.toNat_natCast, Int.toNat_zero, Int.reduceToNat, List.drop_zero] at e23
    have e25 : List.take (Int.toNat p6) (out_.map (cI .i64)) = y19.map (cI .i64) := by rw [← e23]; simp only [List.map_drop, List.map_take, take_map_len]
    clear q26 e24
    obtain ⟨r27, q29, hr⟩ := Option.bind_eq_some_iff.1 hr
    have e28 : ∀ H ng, gcall (shOf F) cl true n_spec_l1Own [.fs (y19.map (cI .i64))] H ng = some (.os H.length ng 1 0 r27.length, H ++ [⟨ng, false, 1, (r27.map (cI .i64))⟩], ng + 1, .touch [] []) := fun H ng => by have := call_far_own (H := H) (ng := ng) s_spec_l1Own rfl (K_spec_l1Own _ _ q29); simp only [List.length_map] at this; exact this
    obtain ⟨l30, q38, hr⟩ := Option.bind_eq_some_iff.1 hr
    obtain ⟨e31, e32, e33, e34⟩ := app_some q38
    try simp only [List.length_cons, List.length_nil, Nat.zero_add, Nat.reduceAdd] at e31 e32 e34
    have e35 : (r27.map (cI .i64)) ++ [[.int .i64 i_]] = l30.map (cI .i64) := by rw [← e33, List.map_append] <;> rfl
    have e36 := e31
    have e37 := e32
    rw [e34] at e36 e37
    clear e33 q38
    obtain ⟨y39, q46, hr⟩ := Option.bind_eq_some_iff.1 hr
    obtain ⟨e40, e41, e42, e43, e44⟩ := cut_some q46
    try simp only [Int.toNat_natCast, Int.toNat_zero, Int.reduceToNat, List.drop_zero] at e43
    have e45 : List.drop (Int.toNat p6) ((out_.map (cI .i64))) = y39.map (cI .i64) := by rw [← e43]; simp only [List.map_drop, List.map_take, take_map_len]
    clear q46 e44
    obtain ⟨l47, q55, hr⟩ := Option.bind_eq_some_iff.1 hr
    obtain ⟨e48, e49, e50, e51⟩ := app_some q55
    try simp only [List.length_cons, List.length_nil, Nat.zero_add, Nat.reduceAdd] at e48 e49 e51
    have e52 : (l30.map (cI .i64)) ++ (y39.map (cI .i64)) = l47.map (cI .i64) := by rw [← e50, List.map_append] <;> rfl
    have e53 := e48
    have e54 := e49
    rw [e51] at e53 e54
    clear e50 q55
    have hr_ := Option.some.inj hr; subst hr_
    refine turn (by
      simp only [c_spec_l3Order_l0, evA, evB, Int.reduceToNat, eq_self, reduceCtorEq, ↓reduceIte, Nat.reduceEqDiff, Nat.reduceAdd, Nat.reduceLT, Nat.reduceLeDiff, Nat.reduceMul, Nat.reduceSub, Nat.reduceBEq, impl_Job.cells, rz_impl_Job, pr_impl_Job, spec_l1Cur.cells, rz_spec_l1Cur, pr_spec_l1Cur, arr_2_int.cells, rz_arr_2_int, pr_arr_2_int, *]
      rfl) ?_
    exact ⟨rfl, rfl, rfl, rfl, rfl, rfl⟩
  · rw [if_neg h5] at hr
    have e4 : (i_ < (jobs_.length : Int)) = False := eq_false h5
    clear h5
    have hr_ := Option.some.inj hr; subst hr_
    refine turn (by
      simp only [c_spec_l3Order_l0, evA, evB, Int.reduceToNat, eq_self, reduceCtorEq, ↓reduceIte, Nat.reduceEqDiff, Nat.reduceAdd, Nat.reduceLT, Nat.reduceLeDiff, Nat.reduceMul, Nat.reduceSub, Nat.reduceBEq, impl_Job.cells, rz_impl_Job, pr_impl_Job, spec_l1Cur.cells, rz_spec_l1Cur, pr_spec_l1Cur, arr_2_int.cells, rz_arr_2_int, pr_arr_2_int, *]
      rfl) ?_
    exact ⟨by simp, rfl, rfl, rfl⟩

theorem lp_spec_l3Order_l0 {cl : Callee} (K_spec_l3Gap : K_spec_l3Gap x_spec_l3Gap (cl n_spec_l3Gap)) (K_spec_l1Own : K_spec_l1Own x_spec_l1Own (cl n_spec_l1Own)) (jobs_ : (List impl_Job)) (objective_ : Int) (st_ : ((List Int) × Int)) (p_ : ((List Int))) (hr : loopS (x_spec_l3Order_l0 jobs_ objective_) LL st_ = some p_) (T_ : Tm) (H_ : List Blk) (ng : Nat) (hR_ : R_spec_l3Order_l0 jobs_ objective_ st_ T_ H_) (hn_ : H_.length = 0) :
    ∃ e_ T1_ H1_ ng1_, gcode (shOf F) cl LL (.loop false (some [0, 1, 5, 6]) c_spec_l3Order_l0) ⟨T_, H_, ng⟩ = some (e_, ⟨T1_, H1_, ng1_⟩) ∧ Q_spec_l3Order_l0 jobs_ objective_ p_ e_ T1_ H1_ :=
  sim_loop (n0 := 0) (R_spec_l3Order_l0 jobs_ objective_) (Q_spec_l3Order_l0 jobs_ objective_) (st_spec_l3Order_l0 K_spec_l3Gap K_spec_l1Own jobs_ objective_) st_ p_ hr T_ H_ ng hR_ hn_

theorem ok_spec_l3Order {cl : Callee} (K_spec_l3Gap : K_spec_l3Gap x_spec_l3Gap (cl n_spec_l3Gap)) (K_spec_l1Own : K_spec_l1Own x_spec_l1Own (cl n_spec_l1Own)) : K_spec_l3Order (x_spec_l3Order) (gbody F LL cl c_spec_l3Order) := by
  intro jobs_ objective_ r hr
  unfold x_spec_l3Order at hr
  try dsimp only at hr
  obtain ⟨p1, q10, hr⟩ := Option.bind_eq_some_iff.1 hr
  obtain ⟨ex7, T4, H5, ng6, l3, m2⟩ := lp_spec_l3Order_l0 (cl := cl) K_spec_l3Gap K_spec_l1Own  jobs_ objective_ _ _ q10 [(0, .fs (jobs_.map impl_Job.cells)), (1, .int .i64 objective_), (5, .fs []), (6, .int .i64 0)] [] 0 (show R_spec_l3Order_l0 jobs_ objective_ (([] : List Int), 0) [(0, .fs (jobs_.map impl_Job.cells)), (1, .int .i64 objective_), (5, .fs []), (6, .int .i64 0)] [] from ⟨rfl, rfl, rfl, rfl, rfl⟩) rfl
  obtain ⟨rfl, e8, e9⟩ := m2
  subst e9
  have hr_ := Option.some.inj hr; subst hr_
  refine Ret.flat (by
    simp only [c_spec_l3Order, evA, evB, Int.reduceToNat, eq_self, reduceCtorEq, ↓reduceIte, Nat.reduceEqDiff, Nat.reduceAdd, Nat.reduceLT, Nat.reduceLeDiff, Nat.reduceMul, Nat.reduceSub, Nat.reduceBEq, impl_Job.cells, rz_impl_Job, pr_impl_Job, spec_l1Cur.cells, rz_spec_l1Cur, pr_spec_l1Cur, arr_2_int.cells, rz_arr_2_int, pr_arr_2_int, *]
    rfl) rfl

theorem ok_spec_l2Swap {cl : Callee} (K_spec_l1Own : K_spec_l1Own x_spec_l1Own (cl n_spec_l1Own)) : K_spec_l2Swap (x_spec_l2Swap) (gbody F LL cl c_spec_l2Swap) := by
  intro order_ i_ r hr
  unfold x_spec_l2Swap at hr
  try dsimp only at hr
  obtain ⟨r1, q3, hr⟩ := Option.bind_eq_some_iff.1 hr
  have e2 : ∀ H ng, gcall (shOf F) cl true n_spec_l1Own [.fs (order_.map (cI .i64))] H ng = some (.os H.length ng 1 0 r1.length, H ++ [⟨ng, false, 1, (r1.map (cI .i64))⟩], ng + 1, .touch [] []) := fun H ng => by have := call_far_own (H := H) (ng := ng) s_spec_l1Own rfl (K_spec_l1Own _ _ q3); simp only [List.length_map] at this; exact this
  obtain ⟨y4, q8, hr⟩ := Option.bind_eq_some_iff.1 hr
  obtain ⟨e5, e6, e7⟩ := ix_some q8
  try simp only [Int.toNat_natCast, Int.toNat_zero, Int.reduceToNat] at e6
  clear q8
  obtain ⟨y9, q13, hr⟩ := Option.bind_eq_some_iff.1 hr
  obtain ⟨e10, e11, e12⟩ := ix_some q13
  try simp only [Int.toNat_natCast, Int.toNat_zero, Int.reduceToNat] at e11
  clear q13
  obtain ⟨l14, q19, hr⟩ := Option.bind_eq_some_iff.1 hr
  obtain ⟨_, _, e15, e16, _⟩ := put_some q19
  try simp only [Int.toNat_natCast, Int.toNat_zero, Int.reduceToNat] at e15
  have e17 : (r1.map (cI .i64)).set (Int.toNat i_) [.int .i64 y4] = l14.map (cI .i64) := by rw [← e15, List.map_set] <;> rfl
  replace e16 : Keep (r1.length = l14.length) := e16
  clear e15 q19
  obtain ⟨y20, q24, hr⟩ := Option.bind_eq_some_iff.1 hr
  obtain ⟨e21, e22, e23⟩ := ix_some q24
  try simp only [Int.toNat_natCast, Int.toNat_zero, Int.reduceToNat] at e22
  clear q24
  obtain ⟨y25, q30, hr⟩ := Option.bind_eq_some_iff.1 hr
  obtain ⟨e26, e27, e28⟩ := ix_some q30
  have e29 : ((addK .i64 i_ 1) < ((r1.length : Nat) : Int)) = True := by rw [show r1.length = _ from e16]; exact e28
  try simp only [Int.toNat_natCast, Int.toNat_zero, Int.reduceToNat] at e27
  clear q30
  obtain ⟨l31, q36, hr⟩ := Option.bind_eq_some_iff.1 hr
  obtain ⟨_, _, e32, e33, _⟩ := put_some q36
  try simp only [Int.toNat_natCast, Int.toNat_zero, Int.reduceToNat] at e32
  have e34 : (l14.map (cI .i64)).set (Int.toNat (addK .i64 i_ 1)) [.int .i64 y20] = l31.map (cI .i64) := by rw [← e32, List.map_set] <;> rfl
  replace e33 : Keep (l14.length = l31.length) := e33
  clear e32 q36
  have hr_ := Option.some.inj hr; subst hr_
  refine ⟨0, 0, [(Blk.mk 0 false 1 (l31.map (cI .i64)))], 1, ?_, by simp [hget, hp], sc_cI _ _⟩
  rw [List.length_map, ← show r1.length = _ from (Eq.trans e16 e33)]
  simp only [c_spec_l2Swap, evA, evB, Int.reduceToNat, eq_self, reduceCtorEq, ↓reduceIte, Nat.reduceEqDiff, Nat.reduceAdd, Nat.reduceLT, Nat.reduceLeDiff, Nat.reduceMul, Nat.reduceSub, Nat.reduceBEq, impl_Job.cells, rz_impl_Job, pr_impl_Job, spec_l1Cur.cells, rz_spec_l1Cur, pr_spec_l1Cur, arr_2_int.cells, rz_arr_2_int, pr_arr_2_int, *]

theorem ok_spec_DrawIsRuledOrder {cl : Callee} (K_spec_l1Cur_ruled3 : K_spec_l1Cur_ruled3 x_spec_l1Cur_ruled3 (cl n_spec_l1Cur_ruled3)) (K_spec_l1Cur_order : K_spec_l1Cur_order x_spec_l1Cur_order (cl n_spec_l1Cur_order)) (K_spec_l3Ruled : K_spec_l3Ruled x_spec_l3Ruled (cl n_spec_l3Ruled)) (K_spec_l1Cur_one : K_spec_l1Cur_one x_spec_l1Cur_one (cl n_spec_l1Cur_one)) (K_spec_l3Order : K_spec_l3Order x_spec_l3Order (cl n_spec_l3Order)) (K_spec_l2Swap : K_spec_l2Swap x_spec_l2Swap (cl n_spec_l2Swap)) (K_spec_l1Cur_pick : K_spec_l1Cur_pick x_spec_l1Cur_pick (cl n_spec_l1Cur_pick)) : K_spec_DrawIsRuledOrder (x_spec_DrawIsRuledOrder) (gbody F LL cl c_spec_DrawIsRuledOrder) := by
  intro code_ r hr
  unfold x_spec_DrawIsRuledOrder at hr
  try dsimp only at hr
  obtain ⟨r1, q4, hr⟩ := Option.bind_eq_some_iff.1 hr
  obtain ⟨ng2, e3⟩ : ∃ ng', gcall (shOf F) cl false n_spec_l1Cur_ruled3 [.ptr 0 0 0 0] [(Blk.mk 0 false 3 [[.fs (code_.map (cI .u8)), .int .i64 0, .int .u64 0]])] 1 = some (.tup [.fs (r1.1.1.map impl_Job.cells), .int .i64 r1.1.2], [(Blk.mk 0 false 3 [[.fs (r1.2.code.map (cI .u8)), .int .i64 r1.2.at_, .int .u64 r1.2.seed]])], ng', .all) := call_cur s_spec_l1Cur_ruled3 (K_spec_l1Cur_ruled3 _ _ q4) [(Blk.mk 0 false 3 [[.fs (code_.map (cI .u8)), .int .i64 0, .int .u64 0]])] 0 _ 1 (by simp)
  obtain ⟨r5, q8, hr⟩ := Option.bind_eq_some_iff.1 hr
  obtain ⟨ng6, e7⟩ : ∃ ng', gcall (shOf F) cl false n_spec_l1Cur_order [.ptr 0 0 0 0, .int .i64 (r1.1.1.length : Int)] [(Blk.mk 0 false 3 [[.fs (r1.2.code.map (cI .u8)), .int .i64 r1.2.at_, .int .u64 r1.2.seed]])] ng2 = some (.fs (r5.1.map (cI .i64)), [(Blk.mk 0 false 3 [[.fs (r5.2.code.map (cI .u8)), .int .i64 r5.2.at_, .int .u64 r5.2.seed]])], ng', .all) := call_cur s_spec_l1Cur_order (RetCO.ret (K_spec_l1Cur_order _ _ _ q8)) [(Blk.mk 0 false 3 [[.fs (r1.2.code.map (cI .u8)), .int .i64 r1.2.at_, .int .u64 r1.2.seed]])] 0 _ ng2 (by simp)
  obtain ⟨r9, q11, hr⟩ := Option.bind_eq_some_iff.1 hr
  have e10 : ∀ H ng, gcall (shOf F) cl false n_spec_l3Ruled [.fs (r1.1.1.map impl_Job.cells), .int .i64 r1.1.2] H ng = some (.bool r9, H, ng, .inert) := fun H ng => call_far s_spec_l3Ruled rfl (K_spec_l3Ruled _ _ _ q11).ret
  by_cases h14 : r9 = true
  · rw [if_pos h14] at hr
    have e12 : r9 = true := h14
    clear h14
    obtain ⟨r15, q18, hr⟩ := Option.bind_eq_some_iff.1 hr
    obtain ⟨ng16, e17⟩ : ∃ ng', gcall (shOf F) cl false n_spec_l1Cur_one [.ptr 0 0 0 0, .int .i64 2] [(Blk.mk 0 false 3 [[.fs (r5.2.code.map (cI .u8)), .int .i64 r5.2.at_, .int .u64 r5.2.seed]])] ng6 = some (.bool r15.1, [(Blk.mk 0 false 3 [[.fs (r15.2.code.map (cI .u8)), .int .i64 r15.2.at_, .int .u64 r15.2.seed]])], ng', .all) := call_cur s_spec_l1Cur_one (K_spec_l1Cur_one _ _ _ q18) [(Blk.mk 0 false 3 [[.fs (r5.2.code.map (cI .u8)), .int .i64 r5.2.at_, .int .u64 r5.2.seed]])] 0 _ ng6 (by simp)
    by_cases h21 : r15.1 = true
    · rw [if_pos h21] at hr
      have e19 : r15.1 = true := h21
      clear h21
      obtain ⟨r22, q24, hr⟩ := Option.bind_eq_some_iff.1 hr
      have e23 : ∀ H ng, gcall (shOf F) cl false n_spec_l3Order [.fs (r1.1.1.map impl_Job.cells), .int .i64 r1.1.2] H ng = some (.fs (r22.map (cI .i64)), H, ng, .inert) := fun H ng => call_far s_spec_l3Order rfl (K_spec_l3Order _ _ _ q24)
      by_cases h29 : 1 < (r22.length : Int)
      · rw [if_pos h29] at hr
        have e27 : (1 < (r22.length : Int)) = True := eq_true h29
        clear h29
        obtain ⟨r30, q33, hr⟩ := Option.bind_eq_some_iff.1 hr
        obtain ⟨ng31, e32⟩ : ∃ ng', gcall (shOf F) cl false n_spec_l1Cur_one [.ptr 0 0 0 0, .int .i64 2] [(Blk.mk 0 false 3 [[.fs (r15.2.code.map (cI .u8)), .int .i64 r15.2.at_, .int .u64 r15.2.seed]])] ng16 = some (.bool r30.1, [(Blk.mk 0 false 3 [[.fs (r30.2.code.map (cI .u8)), .int .i64 r30.2.at_, .int .u64 r30.2.seed]])], ng', .all) := call_cur s_spec_l1Cur_one (K_spec_l1Cur_one _ _ _ q33) [(Blk.mk 0 false 3 [[.fs (r15.2.code.map (cI .u8)), .int .i64 r15.2.at_, .int .u64 r15.2.seed]])] 0 _ ng16 (by simp)
        by_cases h36 : r30.1 = true
        · rw [if_pos h36] at hr
          have e34 : r30.1 = true := h36
          clear h36
          obtain ⟨r37, q40, hr⟩ := Option.bind_eq_some_iff.1 hr
          obtain ⟨ng38, e39⟩ : ∃ ng', gcall (shOf F) cl false n_spec_l1Cur_pick [.ptr 0 0 0 0, .int .i64 (subK .i64 (r22.length : Int) 1)] [(Blk.mk 0 false 3 [[.fs (r30.2.code.map (cI .u8)), .int .i64 r30.2.at_, .int .u64 r30.2.seed]])] ng31 = some (.int .i64 r37.1, [(Blk.mk 0 false 3 [[.fs (r37.2.code.map (cI .u8)), .int .i64 r37.2.at_, .int .u64 r37.2.seed]])], ng', .all) := call_cur s_spec_l1Cur_pick (K_spec_l1Cur_pick _ _ _ q40) [(Blk.mk 0 false 3 [[.fs (r30.2.code.map (cI .u8)), .int .i64 r30.2.at_, .int .u64 r30.2.seed]])] 0 _ ng31 (by simp)
          obtain ⟨r41, q43, hr⟩ := Option.bind_eq_some_iff.1 hr
          have e42 : ∀ H ng, gcall (shOf F) cl false n_spec_l2Swap [.fs (r22.map (cI .i64)), .int .i64 r37.1] H ng = some (.fs (r41.map (cI .i64)), H, ng, .inert) := fun H ng => call_far s_spec_l2Swap rfl (K_spec_l2Swap _ _ _ q43).retF.ret
          have hr_ := Option.some.inj hr; subst hr_
          refine Ret.flat (by
            simp only [c_spec_DrawIsRuledOrder, evA, evB, Int.reduceToNat, eq_self, reduceCtorEq, ↓reduceIte, Nat.reduceEqDiff, Nat.reduceAdd, Nat.reduceLT, Nat.reduceLeDiff, Nat.reduceMul, Nat.reduceSub, Nat.reduceBEq, impl_Job.cells, rz_impl_Job, pr_impl_Job, spec_l1Cur.cells, rz_spec_l1Cur, pr_spec_l1Cur, arr_2_int.cells, rz_arr_2_int, pr_arr_2_int, *]
            rfl) rfl
        · rw [if_neg h36] at hr
          have e35 : r30.1 = false := Bool.eq_false_iff.2 h36
          clear h36
          have hr_ := Option.some.inj hr; subst hr_
          refine Ret.flat (by
            simp only [c_spec_DrawIsRuledOrder, evA, evB, Int.reduceToNat, eq_self, reduceCtorEq, ↓reduceIte, Nat.reduceEqDiff, Nat.reduceAdd, Nat.reduceLT, Nat.reduceLeDiff, Nat.reduceMul, Nat.reduceSub, Nat.reduceBEq, impl_Job.cells, rz_impl_Job, pr_impl_Job, spec_l1Cur.cells, rz_spec_l1Cur, pr_spec_l1Cur, arr_2_int.cells, rz_arr_2_int, pr_arr_2_int, *]
            rfl) rfl
      · rw [if_neg h29] at hr
        have e28 : (1 < (r22.length : Int)) = False := eq_false h29
        clear h29
        have hr_ := Option.some.inj hr; subst hr_
        refine Ret.flat (by
          simp only [c_spec_DrawIsRuledOrder, evA, evB, Int.reduceToNat, eq_self, reduceCtorEq, ↓reduceIte, Nat.reduceEqDiff, Nat.reduceAdd, Nat.reduceLT, Nat.reduceLeDiff, Nat.reduceMul, Nat.reduceSub, Nat.reduceBEq, impl_Job.cells, rz_impl_Job, pr_impl_Job, spec_l1Cur.cells, rz_spec_l1Cur, pr_spec_l1Cur, arr_2_int.cells, rz_arr_2_int, pr_arr_2_int, *]
          rfl) rfl
    · rw [if_neg h21] at hr
      have e20 : r15.1 = false := Bool.eq_false_iff.2 h21
      clear h21
      have hr_ := Option.some.inj hr; subst hr_
      refine Ret.flat (by
        simp only [c_spec_DrawIsRuledOrder, evA, evB, Int.reduceToNat, eq_self, reduceCtorEq, ↓reduceIte, Nat.reduceEqDiff, Nat.reduceAdd, Nat.reduceLT, Nat.reduceLeDiff, Nat.reduceMul, Nat.reduceSub, Nat.reduceBEq, impl_Job.cells, rz_impl_Job, pr_impl_Job, spec_l1Cur.cells, rz_spec_l1Cur, pr_spec_l1Cur, arr_2_int.cells, rz_arr_2_int, pr_arr_2_int, *]
        rfl) rfl
  · rw [if_neg h14] at hr
    have e13 : r9 = false := Bool.eq_false_iff.2 h14
    clear h14
    have hr_ := Option.some.inj hr; subst hr_
    refine Ret.flat (by
      simp only [c_spec_DrawIsRuledOrder, evA, evB, Int.reduceToNat, eq_self, reduceCtorEq, ↓reduceIte, Nat.reduceEqDiff, Nat.reduceAdd, Nat.reduceLT, Nat.reduceLeDiff, Nat.reduceMul, Nat.reduceSub, Nat.reduceBEq, impl_Job.cells, rz_impl_Job, pr_impl_Job, spec_l1Cur.cells, rz_spec_l1Cur, pr_spec_l1Cur, arr_2_int.cells, rz_arr_2_int, pr_arr_2_int, *]
      rfl) rfl

theorem ok_spec_DrawInversionsOf {cl : Callee} (K_spec_DrawIsRuledOrder : K_spec_DrawIsRuledOrder x_spec_DrawIsRuledOrder (cl n_spec_DrawIsRuledOrder)) : K_spec_DrawInversionsOf (x_spec_DrawInversionsOf) (gbody F LL cl c_spec_DrawInversionsOf) := by
  intro code_ r hr
  unfold x_spec_DrawInversionsOf at hr
  try dsimp only at hr
  obtain ⟨r1, q3, hr⟩ := Option.bind_eq_some_iff.1 hr
  have e2 : ∀ H ng, gcall (shOf F) cl false n_spec_DrawIsRuledOrder [.fs (code_.map (cI .u8))] H ng = some (.tup [.fs (r1.1.map impl_Job.cells), .fs (r1.2.1.map (cI .i64)), .int .i64 r1.2.2], H, ng, .inert) := fun H ng => call_far s_spec_DrawIsRuledOrder rfl (K_spec_DrawIsRuledOrder _ _ q3)
  have hr_ := Option.some.inj hr; subst hr_
  refine Ret.flat (by
    simp only [c_spec_DrawInversionsOf, evA, evB, Int.reduceToNat, eq_self, reduceCtorEq, ↓reduceIte, Nat.reduceEqDiff, Nat.reduceAdd, Nat.reduceLT, Nat.reduceLeDiff, Nat.reduceMul, Nat.reduceSub, Nat.reduceBEq, impl_Job.cells, rz_impl_Job, pr_impl_Job, spec_l1Cur.cells, rz_spec_l1Cur, pr_spec_l1Cur, arr_2_int.cells, rz_arr_2_int, pr_arr_2_int, *]
    rfl) rfl

theorem ok_impl_InversionsOf {cl : Callee} (K_impl_isRuledAndOrdered : K_impl_isRuledAndOrdered x_impl_isRuledAndOrdered (cl n_impl_isRuledAndOrdered)) (K_impl_inversions : K_impl_inversions x_impl_inversions (cl n_impl_inversions)) : K_impl_InversionsOf (x_impl_InversionsOf) (gbody F LL cl c_impl_InversionsOf) := by
  intro jobs_ order_ objective_ r hr
  unfold x_impl_InversionsOf at hr
  try dsimp only at hr
  obtain ⟨r1, q3, hr⟩ := Option.bind_eq_some_iff.1 hr
  have e2 : ∀ H ng, gcall (shOf F) cl false n_impl_isRuledAndOrdered [.fs (jobs_.map impl_Job.cells), .fs (order_.map (cI .i64)), .int .i64 objective_] H ng = some (.bool r1, H, ng, .inert) := fun H ng => call_far s_impl_isRuledAndOrdered rfl (K_impl_isRuledAndOrdered _ _ _ _ q3).ret
  by_cases h6 : r1 = true
  · rw [if_pos h6] at hr
    have e4 : r1 = true := h6
    clear h6
    obtain ⟨r7, q9, hr⟩ := Option.bind_eq_some_iff.1 hr
    have e8 : ∀ H ng, gcall (shOf F) cl false n_impl_inversions [.fs (jobs_.map impl_Job.cells), .fs (order_.map (cI .i64)), .int .i64 objective_] H ng = some (.fs (r7.map arr_2_int.cells), H, ng, .inert) := fun H ng => call_far s_impl_inversions rfl (K_impl_inversions _ _ _ _ q9).retF.ret
    have hr_ := Option.some.inj hr; subst hr_
    refine Ret.flat (by
      simp only [c_impl_InversionsOf, evA, evB, Int.reduceToNat, eq_self, reduceCtorEq, ↓reduceIte, Nat.reduceEqDiff, Nat.reduceAdd, Nat.reduceLT, Nat.reduceLeDiff, Nat.reduceMul, Nat.reduceSub, Nat.reduceBEq, impl_Job.cells, rz_impl_Job, pr_impl_Job, spec_l1Cur.cells, rz_spec_l1Cur, pr_spec_l1Cur, arr_2_int.cells, rz_arr_2_int, pr_arr_2_int, *]
      rfl) rfl
  · rw [if_neg h6] at hr
    have e5 : r1 = false := Bool.eq_false_iff.2 h6
    clear h6
    have hr_ := Option.some.inj hr; subst hr_
    refine Ret.flat (by
      simp only [c_impl_InversionsOf, evA, evB, Int.reduceToNat, eq_self, reduceCtorEq, ↓reduceIte, Nat.reduceEqDiff, Nat.reduceAdd, Nat.reduceLT, Nat.reduceLeDiff, Nat.reduceMul, Nat.reduceSub, Nat.reduceBEq, impl_Job.cells, rz_impl_Job, pr_impl_Job, spec_l1Cur.cells, rz_spec_l1Cur, pr_spec_l1Cur, arr_2_int.cells, rz_arr_2_int, pr_arr_2_int, *]
      rfl) rfl

theorem ok_spec_InversionsOf {cl : Callee} (K_spec_l3Both : K_spec_l3Both x_spec_l3Both (cl n_spec_l3Both)) (K_spec_l3Inversions : K_spec_l3Inversions x_spec_l3Inversions (cl n_spec_l3Inversions)) : K_spec_InversionsOf (x_spec_InversionsOf) (gbody F LL cl c_spec_InversionsOf) := by
  intro jobs_ order_ objective_ r hr
  unfold x_spec_InversionsOf at hr
  try dsimp only at hr
  obtain ⟨r1, q3, hr⟩ := Option.bind_eq_some_iff.1 hr
  have e2 : ∀ H ng, gcall (shOf F) cl false n_spec_l3Both [.fs (jobs_.map impl_Job.cells), .fs (order_.map (cI .i64)), .int .i64 objective_] H ng = some (.bool r1, H, ng, .inert) := fun H ng => call_far s_spec_l3Both rfl (K_spec_l3Both _ _ _ _ q3).ret
  by_cases h6 : r1 = true
  · rw [if_pos h6] at hr
    have e4 : r1 = true := h6
    clear h6
    obtain ⟨r7, q9, hr⟩ := Option.bind_eq_some_iff.1 hr
    have e8 : ∀ H ng, gcall (shOf F) cl false n_spec_l3Inversions [.fs (jobs_.map impl_Job.cells), .fs (order_.map (cI .i64)), .int .i64 objective_] H ng = some (.fs (r7.map arr_2_int.cells), H, ng, .inert) := fun H ng => call_far s_spec_l3Inversions rfl (K_spec_l3Inversions _ _ _ _ q9).retF.ret
    have hr_ := Option.some.inj hr; subst hr_
    refine Ret.flat (by
      simp only [c_spec_InversionsOf, evA, evB, Int.reduceToNat, eq_self, reduceCtorEq, ↓reduceIte, Nat.reduceEqDiff, Nat.reduceAdd, Nat.reduceLT, Nat.reduceLeDiff, Nat.reduceMul, Nat.reduceSub, Nat.reduceBEq, impl_Job.cells, rz_impl_Job, pr_impl_Job, spec_l1Cur.cells, rz_spec_l1Cur, pr_spec_l1Cur, arr_2_int.cells, rz_arr_2_int, pr_arr_2_int, *]
      rfl) rfl
  · rw [if_neg h6] at hr
    have e5 : r1 = false := Bool.eq_false_iff.2 h6
    clear h6
    have hr_ := Option.some.inj hr; subst hr_
    refine Ret.flat (by
      simp only [c_spec_InversionsOf, evA, evB, Int.reduceToNat, eq_self, reduceCtorEq, ↓reduceIte, Nat.reduceEqDiff, Nat.reduceAdd, Nat.reduceLT, Nat.reduceLeDiff, Nat.reduceMul, Nat.reduceSub, Nat.reduceBEq, impl_Job.cells, rz_impl_Job, pr_impl_Job, spec_l1Cur.cells, rz_spec_l1Cur, pr_spec_l1Cur, arr_2_int.cells, rz_arr_2_int, pr_arr_2_int, *]
      rfl) rfl

theorem st_laws_vPairs_l0 {cl : Callee} (a_ : (List arr_2_int)) (b_ : (List arr_2_int)) (st_ : (Int)) (c_ : Ctl (Int) (Unit ⊕ (Bool))) (hr : x_laws_vPairs_l0 a_ b_ st_ = some c_) (T_ : Tm) (H_ : List Blk) (ng : Nat) (hR_ : R_laws_vPairs_l0 a_ b_ st_ T_ H_) :
    ∃ e_ T1_ H1_ ng1_, gcode (shOf F) cl LL c_laws_vPairs_l0 ⟨maskT (some [0, 1, 5]) T_, H_, ng⟩ = some (e_, ⟨T1_, H1_, ng1_⟩) ∧ TurnOK (R_laws_vPairs_l0 a_ b_) (Q_laws_vPairs_l0 a_ b_) 0 c_ e_ T1_ H1_ := by
  obtain ⟨i_, hst_⟩ : ∃ x, x = st_ := ⟨_, rfl⟩; subst hst_
  obtain ⟨f0_, f1_, f2_, rfl⟩ := hR_
  unfold x_laws_vPairs_l0 at hr
  try dsimp only at hr
  by_cases h5 : i_ < (a_.length : Int)
  · rw [if_pos h5] at hr
    have e3 : (i_ < (a_.length : Int)) = True := eq_true h5
    clear h5
    obtain ⟨y6, q10, hr⟩ := Option.bind_eq_some_iff.1 hr
    obtain ⟨e7, e8, e9⟩ := ix_some q10
    try simp only [Int.toNat_natCast, Int.toNat_zero, Int.reduceToNat] at e8
    clear q10
    obtain ⟨y11, q15, hr⟩ := Option.bind_eq_some_iff.1 hr
    obtain ⟨e12, e13, e14⟩ := ix_some q15
    try simp only [Int.toNat_natCast, Int.toNat_zero, Int.reduceToNat] at e13
    clear q15
    by_cases h18 : y6.a0 = y11.a0 ∧ y6.a1 = y11.a1
    · rw [if_pos h18] at hr
      have e16 : eqCells [.int .i64 y6.a0, .int .i64 y6.a1] [.int .i64 y11.a0, .int .i64 y11.a1] = some true := by simp [eqCells, eqCell, h18]
      clear h18
      have hr_ := Option.some.inj hr; subst hr_
      refine turn (by
        simp only [c_laws_vPairs_l0, evA, evB, Int.reduceToNat, eq_self, reduceCtorEq, ↓reduceIte, Nat.reduceEqDiff, Nat.reduceAdd, Nat.reduceLT, Nat.reduceLeDiff, Nat.reduceMul, Nat.reduceSub, Nat.reduceBEq, impl_Job.cells, rz_impl_Job, pr_impl_Job, spec_l1Cur.cells, rz_spec_l1Cur, pr_spec_l1Cur, arr_2_int.cells, rz_arr_2_int, pr_arr_2_int, *]
        rfl) ?_
      exact ⟨rfl, rfl, rfl, rfl, rfl⟩
    · rw [if_neg h18] at hr
      have e17 : eqCells [.int .i64 y6.a0, .int .i64 y6.a1] [.int .i64 y11.a0, .int .i64 y11.a1] = some false := by simp only [eqCells, eqCell, if_true, Option.bind_some, Option.map_some, Option.some.injEq]; simpa [Bool.and_eq_true] using h18
      clear h18
      have hr_ := Option.some.inj hr; subst hr_
      refine turn (by
        simp only [c_laws_vPairs_l0, evA, evB, Int.reduceToNat, eq_self, reduceCtorEq, ↓reduceIte, Nat.reduceEqDiff, Nat.reduceAdd, Nat.reduceLT, Nat.reduceLeDiff, Nat.reduceMul, Nat.reduceSub, Nat.reduceBEq, impl_Job.cells, rz_impl_Job, pr_impl_Job, spec_l1Cur.cells, rz_spec_l1Cur, pr_spec_l1Cur, arr_2_int.cells, rz_arr_2_int, pr_arr_2_int, *]
        rfl) ?_
      exact ⟨by simp, rfl, rfl⟩
  · rw [if_neg h5] at hr
    have e4 : (i_ < (a_.length : Int)) = False := eq_false h5
    clear h5
    have hr_ := Option.some.inj hr; subst hr_
    refine turn (by
      simp only [c_laws_vPairs_l0, evA, evB, Int.reduceToNat, eq_self, reduceCtorEq, ↓reduceIte, Nat.reduceEqDiff, Nat.reduceAdd, Nat.reduceLT, Nat.reduceLeDiff, Nat.reduceMul, Nat.reduceSub, Nat.reduceBEq, impl_Job.cells, rz_impl_Job, pr_impl_Job, spec_l1Cur.cells, rz_spec_l1Cur, pr_spec_l1Cur, arr_2_int.cells, rz_arr_2_int, pr_arr_2_int, *]
      rfl) ?_
    exact ⟨by simp, rfl, rfl⟩

theorem lp_laws_vPairs_l0 {cl : Callee} (a_ : (List arr_2_int)) (b_ : (List arr_2_int)) (st_ : (Int)) (p_ : (Unit ⊕ (Bool))) (hr : loopS (x_laws_vPairs_l0 a_ b_) LL st_ = some p_) (T_ : Tm) (H_ : List Blk) (ng : Nat) (hR_ : R_laws_vPairs_l0 a_ b_ st_ T_ H_) (hn_ : H_.length = 0) :
    ∃ e_ T1_ H1_ ng1_, gcode (shOf F) cl LL (.loop false (some [0, 1, 5]) c_laws_vPairs_l0) ⟨T_, H_, ng⟩ = some (e_, ⟨T1_, H1_, ng1_⟩) ∧ Q_laws_vPairs_l0 a_ b_ p_ e_ T1_ H1_ :=
  sim_loop (n0 := 0) (R_laws_vPairs_l0 a_ b_) (Q_laws_vPairs_l0 a_ b_) (st_laws_vPairs_l0 a_ b_) st_ p_ hr T_ H_ ng hR_ hn_

theorem ok_laws_vPairs {cl : Callee} : K_laws_vPairs (x_laws_vPairs) (gbody F LL cl c_laws_vPairs) := by
  intro a_ b_ r hr
  unfold x_laws_vPairs at hr
  try dsimp only at hr
  by_cases h5 : (a_.length : Int) = (b_.length : Int)
  · rw [if_pos h5] at hr
    have e3 : ((a_.length : Int) = (b_.length : Int)) = True := eq_true h5
    clear h5
    obtain ⟨p6, q15, hr⟩ := Option.bind_eq_some_iff.1 hr
    obtain ⟨ex12, T9, H10, ng11, l8, m7⟩ := lp_laws_vPairs_l0 (cl := cl)  a_ b_ _ _ q15 [(0, .fs (a_.map arr_2_int.cells)), (1, .fs (b_.map arr_2_int.cells)), (5, .int .i64 0)] [] 0 (show R_laws_vPairs_l0 a_ b_ 0 [(0, .fs (a_.map arr_2_int.cells)), (1, .fs (b_.map arr_2_int.cells)), (5, .int .i64 0)] [] from ⟨rfl, rfl, rfl, rfl⟩) rfl
    rcases p6 with p6 | p6
    · dsimp only at hr
      obtain ⟨rfl, e13⟩ := m7
      subst e13
      have hr_ := Option.some.inj hr; subst hr_
      refine RetF.scal (by
        simp only [c_laws_vPairs, evA, evB, Int.reduceToNat, eq_self, reduceCtorEq, ↓reduceIte, Nat.reduceEqDiff, Nat.reduceAdd, Nat.reduceLT, Nat.reduceLeDiff, Nat.reduceMul, Nat.reduceSub, Nat.reduceBEq, impl_Job.cells, rz_impl_Job, pr_impl_Job, spec_l1Cur.cells, rz_spec_l1Cur, pr_spec_l1Cur, arr_2_int.cells, rz_arr_2_int, pr_arr_2_int, *]
        rfl) rfl rfl
    · dsimp only at hr
      obtain ⟨rfl, e14⟩ := m7
      have hr_ := Option.some.inj hr; subst hr_
      refine RetF.scal (by
        simp only [c_laws_vPairs, evA, evB, Int.reduceToNat, eq_self, reduceCtorEq, ↓reduceIte, Nat.reduceEqDiff, Nat.reduceAdd, Nat.reduceLT, Nat.reduceLeDiff, Nat.reduceMul, Nat.reduceSub, Nat.reduceBEq, impl_Job.cells, rz_impl_Job, pr_impl_Job, spec_l1Cur.cells, rz_spec_l1Cur, pr_spec_l1Cur, arr_2_int.cells, rz_arr_2_int, pr_arr_2_int, *]
        rfl) rfl rfl
  · rw [if_neg h5] at hr
    have e4 : ((a_.length : Int) = (b_.length : Int)) = False := eq_false h5
    clear h5
    have hr_ := Option.some.inj hr; subst hr_
    refine RetF.scal (by
      simp only [c_laws_vPairs, evA, evB, Int.reduceToNat, eq_self, reduceCtorEq, ↓reduceIte, Nat.reduceEqDiff, Nat.reduceAdd, Nat.reduceLT, Nat.reduceLeDiff, Nat.reduceMul, Nat.reduceSub, Nat.reduceBEq, impl_Job.cells, rz_impl_Job, pr_impl_Job, spec_l1Cur.cells, rz_spec_l1Cur, pr_spec_l1Cur, arr_2_int.cells, rz_arr_2_int, pr_arr_2_int, *]
      rfl) rfl rfl

theorem ok_impl_exchanged {cl : Callee} (K_impl_copyInts : K_impl_copyInts x_impl_copyInts (cl n_impl_copyInts)) : K_impl_exchanged (x_impl_exchanged) (gbody F LL cl c_impl_exchanged) := by
  intro order_ i_ r hr
  unfold x_impl_exchanged at hr
  try dsimp only at hr
  obtain ⟨r1, q3, hr⟩ := Option.bind_eq_some_iff.1 hr
  have e2 : ∀ H ng, gcall (shOf F) cl true n_impl_copyInts [.fs (order_.map (cI .i64))] H ng = some (.os H.length ng 1 0 r1.length, H ++ [⟨ng, false, 1, (r1.map (cI .i64))⟩], ng + 1, .touch [] []) := fun H ng => by have := call_far_own (H := H) (ng := ng) s_impl_copyInts rfl (K_impl_copyInts _ _ q3); simp only [List.length_map] at this; exact this
  obtain ⟨y4, q8, hr⟩ := Option.bind_eq_some_iff.1 hr
  obtain ⟨e5, e6, e7⟩ := ix_some q8
  try simp only [Int.toNat_natCast, Int.toNat_zero, Int.reduceToNat] at e6
  clear q8
  obtain ⟨y9, q13, hr⟩ := Option.bind_eq_some_iff.1 hr
  obtain ⟨e10, e11, e12⟩ := ix_some q13
  try simp only [Int.toNat_natCast, Int.toNat_zero, Int.reduceToNat] at e11
  clear q13
  obtain ⟨l14, q19, hr⟩ := Option.bind_eq_some_iff.1 hr
  obtain ⟨_, _, e15, e16, _⟩ := put_some q19
  try simp only [Int.toNat_natCast, Int.toNat_zero, Int.reduceToNat] at e15
  have e17 : (r1.map (cI .i64)).set (Int.toNat i_) [.int .i64 y4] = l14.map (cI .i64) := by rw [← e15, List.map_set] <;> rfl
  replace e16 : Keep (r1.length = l14.length) := e16
  clear e15 q19
  obtain ⟨y20, q25, hr⟩ := Option.bind_eq_some_iff.1 hr
  obtain ⟨e21, e22, e23⟩ := ix_some q25
  have e24 : ((addK .i64 i_ 1) < ((r1.length : Nat) : Int)) = True := by rw [show r1.length = _ from e16]; exact e23
  try simp only [Int.toNat_natCast, Int.toNat_zero, Int.reduceToNat] at e22
  clear q25
  obtain ⟨l26, q31, hr⟩ := Option.bind_eq_some_iff.1 hr
  obtain ⟨_, _, e27, e28, _⟩ := put_some q31
  try simp only [Int.toNat_natCast, Int.toNat_zero, Int.reduceToNat] at e27
  have e29 : (l14.map (cI .i64)).set (Int.toNat (addK .i64 i_ 1)) [.int .i64 y9] = l26.map (cI .i64) := by rw [← e27, List.map_set] <;> rfl
  replace e28 : Keep (l14.length = l26.length) := e28
  clear e27 q31
  have hr_ := Option.some.inj hr; subst hr_
  refine ⟨0, 0, [(Blk.mk 0 false 1 (l26.map (cI .i64)))], 1, ?_, by simp [hget, hp], sc_cI _ _⟩
  rw [List.length_map, ← show r1.length = _ from (Eq.trans e16 e28)]
  simp only [c_impl_exchanged, evA, evB, Int.reduceToNat, eq_self, reduceCtorEq, ↓reduceIte, Nat.reduceEqDiff, Nat.reduceAdd, Nat.reduceLT, Nat.reduceLeDiff, Nat.reduceMul, Nat.reduceSub, Nat.reduceBEq, impl_Job.cells, rz_impl_Job, pr_impl_Job, spec_l1Cur.cells, rz_spec_l1Cur, pr_spec_l1Cur, arr_2_int.cells, rz_arr_2_int, pr_arr_2_int, *]

theorem ok_impl_gain {cl : Callee} (K_impl_valueOf : K_impl_valueOf x_impl_valueOf (cl n_impl_valueOf)) (K_impl_exchanged : K_impl_exchanged x_impl_exchanged (cl n_impl_exchanged)) : K_impl_gain (x_impl_gain) (gbody F LL cl c_impl_gain) := by
  intro jobs_ order_ i_ objective_ r hr
  unfold x_impl_gain at hr
  try dsimp only at hr
  obtain ⟨r1, q3, hr⟩ := Option.bind_eq_some_iff.1 hr
  have e2 : ∀ H ng, gcall (shOf F) cl false n_impl_valueOf [.fs (jobs_.map impl_Job.cells), .fs (order_.map (cI .i64)), .int .i64 objective_] H ng = some (.int .i64 r1, H, ng, .inert) := fun H ng => call_far s_impl_valueOf rfl (K_impl_valueOf _ _ _ _ q3).ret
  obtain ⟨r4, q6, hr⟩ := Option.bind_eq_some_iff.1 hr
  have e5 : ∀ H ng, gcall (shOf F) cl false n_impl_exchanged [.fs (order_.map (cI .i64)), .int .i64 i_] H ng = some (.fs (r4.map (cI .i64)), H, ng, .inert) := fun H ng => call_far s_impl_exchanged rfl (K_impl_exchanged _ _ _ q6).retF.ret
  obtain ⟨r7, q9, hr⟩ := Option.bind_eq_some_iff.1 hr
  have e8 : ∀ H ng, gcall (shOf F) cl false n_impl_valueOf [.fs (jobs_.map impl_Job.cells), .fs (r4.map (cI .i64)), .int .i64 objective_] H ng = some (.int .i64 r7, H, ng, .inert) := fun H ng => call_far s_impl_valueOf rfl (K_impl_valueOf _ _ _ _ q9).ret
  have hr_ := Option.some.inj hr; subst hr_
  refine RetF.scal (by
    simp only [c_impl_gain, evA, evB, Int.reduceToNat, eq_self, reduceCtorEq, ↓reduceIte, Nat.reduceEqDiff, Nat.reduceAdd, Nat.reduceLT, Nat.reduceLeDiff, Nat.reduceMul, Nat.reduceSub, Nat.reduceBEq, impl_Job.cells, rz_impl_Job, pr_impl_Job, spec_l1Cur.cells, rz_spec_l1Cur, pr_spec_l1Cur, arr_2_int.cells, rz_arr_2_int, pr_arr_2_int, *]
    rfl) rfl rfl

theorem ok_impl_ExchangeGain {cl : Callee} (K_impl_isValued : K_impl_isValued x_impl_isValued (cl n_impl_isValued)) (K_impl_within : K_impl_within x_impl_within (cl n_impl_within)) (K_impl_gain : K_impl_gain x_impl_gain (cl n_impl_gain)) : K_impl_ExchangeGain (x_impl_ExchangeGain) (gbody F LL cl c_impl_ExchangeGain) := by
  intro jobs_ order_ i_ objective_ r hr
  unfold x_impl_ExchangeGain at hr
  try dsimp only at hr
  obtain ⟨r1, q3, hr⟩ := Option.bind_eq_some_iff.1 hr
  have e2 : ∀ H ng, gcall (shOf F) cl false n_impl_isValued [.fs (jobs_.map impl_Job.cells), .fs (order_.map (cI .i64)), .int .i64 objective_] H ng = some (.bool r1, H, ng, .inert) := fun H ng => call_far s_impl_isValued rfl (K_impl_isValued _ _ _ _ q3).ret
  by_cases h6 : r1 = true
  · rw [if_pos h6] at hr
    have e4 : r1 = true := h6
    clear h6
    obtain ⟨r7, q9, hr⟩ := Option.bind_eq_some_iff.1 hr
    have e8 : ∀ H ng, gcall (shOf F) cl false n_impl_within [.int .i64 i_, .int .i64 0, .int .i64 (subK .i64 (order_.length : Int) 2)] H ng = some (.bool r7, H, ng, .inert) := fun H ng => call_far s_impl_within rfl (K_impl_within _ _ _ _ q9).ret
    by_cases h12 : r7 = true
    · rw [if_pos h12] at hr
      have e10 : r7 = true := h12
      clear h12
      obtain ⟨r13, q15, hr⟩ := Option.bind_eq_some_iff.1 hr
      have e14 : ∀ H ng, gcall (shOf F) cl false n_impl_gain [.fs (jobs_.map impl_Job.cells), .fs (order_.map (cI .i64)), .int .i64 i_, .int .i64 objective_] H ng = some (.int .i64 r13, H, ng, .inert) := fun H ng => call_far s_impl_gain rfl (K_impl_gain _ _ _ _ _ q15).ret
      have hr_ := Option.some.inj hr; subst hr_
      refine RetF.scal (by
        simp only [c_impl_ExchangeGain, evA, evB, Int.reduceToNat, eq_self, reduceCtorEq, ↓reduceIte, Nat.reduceEqDiff, Nat.reduceAdd, Nat.reduceLT, Nat.reduceLeDiff, Nat.reduceMul, Nat.reduceSub, Nat.reduceBEq, impl_Job.cells, rz_impl_Job, pr_impl_Job, spec_l1Cur.cells, rz_spec_l1Cur, pr_spec_l1Cur, arr_2_int.cells, rz_arr_2_int, pr_arr_2_int, *]
        rfl) rfl rfl
    · rw [if_neg h12] at hr
      have e11 : r7 = false := Bool.eq_false_iff.2 h12
      clear h12
      have hr_ := Option.some.inj hr; subst hr_
      refine RetF.scal (by
        simp only [c_impl_ExchangeGain, evA, evB, Int.reduceToNat, eq_self, reduceCtorEq, ↓reduceIte, Nat.reduceEqDiff, Nat.reduceAdd, Nat.reduceLT, Nat.reduceLeDiff, Nat.reduceMul, Nat.reduceSub, Nat.reduceBEq, impl_Job.cells, rz_impl_Job, pr_impl_Job, spec_l1Cur.cells, rz_spec_l1Cur, pr_spec_l1Cur, arr_2_int.cells, rz_arr_2_int, pr_arr_2_int, *]
        rfl) rfl rfl
  · rw [if_neg h6] at hr
    have e5 : r1 = false := Bool.eq_false_iff.2 h6
    clear h6
    have hr_ := Option.some.inj hr; subst hr_
    refine RetF.scal (by
      simp only [c_impl_ExchangeGain, evA, evB, Int.reduceToNat, eq_self, reduceCtorEq, ↓reduceIte, Nat.reduceEqDiff, Nat.reduceAdd, Nat.reduceLT, Nat.reduceLeDiff, Nat.reduceMul, Nat.reduceSub, Nat.reduceBEq, impl_Job.cells, rz_impl_Job, pr_impl_Job, spec_l1Cur.cells, rz_spec_l1Cur, pr_spec_l1Cur, arr_2_int.cells, rz_arr_2_int, pr_arr_2_int, *]
      rfl) rfl rfl

end Gh
