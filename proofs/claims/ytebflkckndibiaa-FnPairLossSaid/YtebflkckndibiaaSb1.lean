/- The ghost answers as the shallow functions do, part 1. Written by program. -/
import Derived.Test.YtebflkckndibiaaSa
namespace Gh
open Go
set_option linter.unusedSimpArgs false
set_option linter.unusedVariables false
set_option maxRecDepth 100000
set_option maxHeartbeats 20000000

theorem ok_impl_ValueOf {cl : Callee} (K_impl_isValued : K_impl_isValued x_impl_isValued (cl n_impl_isValued)) (K_impl_valueOf : K_impl_valueOf x_impl_valueOf (cl n_impl_valueOf)) : K_impl_ValueOf (x_impl_ValueOf) (gbody F LL cl c_impl_ValueOf) := by
  intro jobs_ order_ objective_ r hr
  unfold x_impl_ValueOf at hr
  try dsimp only at hr
  obtain ⟨r1, q3, hr⟩ := Option.bind_eq_some_iff.1 hr
  have e2 : ∀ H ng, gcall (shOf F) cl false n_impl_isValued [.fs (jobs_.map impl_Job.cells), .fs (order_.map (cI .i64)), .int .i64 objective_] H ng = some (.bool r1, H, ng, .inert) := fun H ng => call_far s_impl_isValued rfl (K_impl_isValued _ _ _ _ q3).ret
  by_cases h6 : r1 = true
  · rw [if_pos h6] at hr
    have e4 : r1 = true := h6
    clear h6
    obtain ⟨r7, q9, hr⟩ := Option.bind_eq_some_iff.1 hr
    have e8 : ∀ H ng, gcall (shOf F) cl false n_impl_valueOf [.fs (jobs_.map impl_Job.cells), .fs (order_.map (cI .i64)), .int .i64 objective_] H ng = some (.int .i64 r7, H, ng, .inert) := fun H ng => call_far s_impl_valueOf rfl (K_impl_valueOf _ _ _ _ q9).ret
    have hr_ := Option.some.inj hr; subst hr_
    refine RetF.scal (by
      simp only [c_impl_ValueOf, evA, evB, Int.reduceToNat, eq_self, reduceCtorEq, ↓reduceIte, Nat.reduceEqDiff, Nat.reduceAdd, Nat.reduceLT, Nat.reduceLeDiff, Nat.reduceMul, Nat.reduceSub, Nat.reduceBEq, impl_Job.cells, rz_impl_Job, pr_impl_Job, spec_l1Cur.cells, rz_spec_l1Cur, pr_spec_l1Cur, arr_2_int.cells, rz_arr_2_int, pr_arr_2_int, *]
      rfl) rfl rfl
  · rw [if_neg h6] at hr
    have e5 : r1 = false := Bool.eq_false_iff.2 h6
    clear h6
    have hr_ := Option.some.inj hr; subst hr_
    refine RetF.scal (by
      simp only [c_impl_ValueOf, evA, evB, Int.reduceToNat, eq_self, reduceCtorEq, ↓reduceIte, Nat.reduceEqDiff, Nat.reduceAdd, Nat.reduceLT, Nat.reduceLeDiff, Nat.reduceMul, Nat.reduceSub, Nat.reduceBEq, impl_Job.cells, rz_impl_Job, pr_impl_Job, spec_l1Cur.cells, rz_spec_l1Cur, pr_spec_l1Cur, arr_2_int.cells, rz_arr_2_int, pr_arr_2_int, *]
      rfl) rfl rfl

theorem ok_spec_l1Cur_next {cl : Callee} : K_spec_l1Cur_next (x_spec_l1Cur_next) (gbody F LL cl c_spec_l1Cur_next) := by
  intro c_ r hr
  intro H0 id g ng hid
  have w1_ : ∀ b, (H0.set id b)[id]? = some b := fun b => hs_get b hid
  have w2_ : ∀ b B, (H0.set id b ++ B)[id]? = some b := fun b B => hs_getA b hid
  have w3_ : ∀ a b B, (H0.set id a ++ B).set id b = H0.set id b ++ B := fun a b B => hs_setA a b hid
  unfold x_spec_l1Cur_next at hr
  try dsimp only at hr
  by_cases h5 : c_.at_ < (c_.code.length : Int)
  · rw [if_pos h5] at hr
    have e3 : (c_.at_ < (c_.code.length : Int)) = True := eq_true h5
    clear h5
    obtain ⟨y6, q10, hr⟩ := Option.bind_eq_some_iff.1 hr
    obtain ⟨e7, e8, e9⟩ := ix_some q10
    try simp only [Int.toNat_natCast, Int.toNat_zero, Int.reduceToNat] at e8
    clear q10
    by_cases h15 : (addK .i64 c_.at_ 1) ≤ (c_.code.length : Int)
    · rw [if_pos h15] at hr
      have e13 : ((addK .i64 c_.at_ 1) ≤ (c_.code.length : Int)) = True := eq_true h15
      clear h15
      have hr_ := Option.some.inj hr; subst hr_
      refine ⟨.int .i64 (convK .i64 y6), [], ng, ?_, ?_⟩
      · simp only [c_spec_l1Cur_next, evA, evB, Int.reduceToNat, eq_self, reduceCtorEq, ↓reduceIte, Nat.reduceEqDiff, Nat.reduceAdd, Nat.reduceLT, Nat.reduceLeDiff, Nat.reduceMul, Nat.reduceSub, Nat.reduceBEq, impl_Job.cells, rz_impl_Job, pr_impl_Job, spec_l1Cur.cells, rz_spec_l1Cur, pr_spec_l1Cur, arr_2_int.cells, rz_arr_2_int, pr_arr_2_int, *]
      · exact outR_flat rfl
    · rw [if_neg h15] at hr
      have e14 : ((addK .i64 c_.at_ 1) ≤ (c_.code.length : Int)) = False := eq_false h15
      clear h15
      have e16 : binI .shr .u64 (addK .u64 (addK .u64 (mulK .u64 c_.seed 6364136223846793005) (convK .u64 (convK .i64 y6))) 462197) .u64 40 = some (.int .u64 (shrK .u64 (addK .u64 (addK .u64 (mulK .u64 c_.seed 6364136223846793005) (convK .u64 (convK .i64 y6))) 462197) 40)) := bi_shr _ _ _ _ (by decide)
      have hr_ := Option.some.inj hr; subst hr_
      refine ⟨.int .i64 (convK .i64 (andK .u64 (shrK .u64 (addK .u64 (addK .u64 (mulK .u64 c_.seed 6364136223846793005) (convK .u64 (convK .i64 y6))) 462197) 40) 255)), [], ng, ?_, ?_⟩
      · simp only [c_spec_l1Cur_next, evA, evB, Int.reduceToNat, eq_self, reduceCtorEq, ↓reduceIte, Nat.reduceEqDiff, Nat.reduceAdd, Nat.reduceLT, Nat.reduceLeDiff, Nat.reduceMul, Nat.reduceSub, Nat.reduceBEq, impl_Job.cells, rz_impl_Job, pr_impl_Job, spec_l1Cur.cells, rz_spec_l1Cur, pr_spec_l1Cur, arr_2_int.cells, rz_arr_2_int, pr_arr_2_int, *]
      · exact outR_flat rfl
  · rw [if_neg h5] at hr
    have e4 : (c_.at_ < (c_.code.length : Int)) = False := eq_false h5
    clear h5
    by_cases h21 : (addK .i64 c_.at_ 1) ≤ (c_.code.length : Int)
    · rw [if_pos h21] at hr
      have e19 : ((addK .i64 c_.at_ 1) ≤ (c_.code.length : Int)) = True := eq_true h21
      clear h21
      have hr_ := Option.some.inj hr; subst hr_
      refine ⟨.int .i64 0, [], ng, ?_, ?_⟩
      · simp only [c_spec_l1Cur_next, evA, evB, Int.reduceToNat, eq_self, reduceCtorEq, ↓reduceIte, Nat.reduceEqDiff, Nat.reduceAdd, Nat.reduceLT, Nat.reduceLeDiff, Nat.reduceMul, Nat.reduceSub, Nat.reduceBEq, impl_Job.cells, rz_impl_Job, pr_impl_Job, spec_l1Cur.cells, rz_spec_l1Cur, pr_spec_l1Cur, arr_2_int.cells, rz_arr_2_int, pr_arr_2_int, *]
      · exact outR_flat rfl
    · rw [if_neg h21] at hr
      have e20 : ((addK .i64 c_.at_ 1) ≤ (c_.code.length : Int)) = False := eq_false h21
      clear h21
      have e22 : binI .shr .u64 (addK .u64 (addK .u64 (mulK .u64 c_.seed 6364136223846793005) (convK .u64 0)) 462197) .u64 40 = some (.int .u64 (shrK .u64 (addK .u64 (addK .u64 (mulK .u64 c_.seed 6364136223846793005) (convK .u64 0)) 462197) 40)) := bi_shr _ _ _ _ (by decide)
      have hr_ := Option.some.inj hr; subst hr_
      refine ⟨.int .i64 (convK .i64 (andK .u64 (shrK .u64 (addK .u64 (addK .u64 (mulK .u64 c_.seed 6364136223846793005) (convK .u64 0)) 462197) 40) 255)), [], ng, ?_, ?_⟩
      · simp only [c_spec_l1Cur_next, evA, evB, Int.reduceToNat, eq_self, reduceCtorEq, ↓reduceIte, Nat.reduceEqDiff, Nat.reduceAdd, Nat.reduceLT, Nat.reduceLeDiff, Nat.reduceMul, Nat.reduceSub, Nat.reduceBEq, impl_Job.cells, rz_impl_Job, pr_impl_Job, spec_l1Cur.cells, rz_spec_l1Cur, pr_spec_l1Cur, arr_2_int.cells, rz_arr_2_int, pr_arr_2_int, *]
      · exact outR_flat rfl

theorem ok_spec_l1Cur_pick {cl : Callee} (K_spec_l1Cur_next : K_spec_l1Cur_next x_spec_l1Cur_next (cl n_spec_l1Cur_next)) : K_spec_l1Cur_pick (x_spec_l1Cur_pick) (gbody F LL cl c_spec_l1Cur_pick) := by
  intro c_ n_ r hr
  intro H0 id g ng hid
  have w1_ : ∀ b, (H0.set id b)[id]? = some b := fun b => hs_get b hid
  have w2_ : ∀ b B, (H0.set id b ++ B)[id]? = some b := fun b B => hs_getA b hid
  have w3_ : ∀ a b B, (H0.set id a ++ B).set id b = H0.set id b ++ B := fun a b B => hs_setA a b hid
  unfold x_spec_l1Cur_pick at hr
  try dsimp only at hr
  by_cases h5 : n_ ≤ 1
  · rw [if_pos h5] at hr
    have e3 : (n_ ≤ 1) = True := eq_true h5
    clear h5
    have hr_ := Option.some.inj hr; subst hr_
    refine ⟨.int .i64 0, [], ng, ?_, ?_⟩
    · simp only [c_spec_l1Cur_pick, evA, evB, Int.reduceToNat, eq_self, reduceCtorEq, ↓reduceIte, Nat.reduceEqDiff, Nat.reduceAdd, Nat.reduceLT, Nat.reduceLeDiff, Nat.reduceMul, Nat.reduceSub, Nat.reduceBEq, impl_Job.cells, rz_impl_Job, pr_impl_Job, spec_l1Cur.cells, rz_spec_l1Cur, pr_spec_l1Cur, arr_2_int.cells, rz_arr_2_int, pr_arr_2_int, *]
    · exact outR_flat rfl
  · rw [if_neg h5] at hr
    have e4 : (n_ ≤ 1) = False := eq_false h5
    clear h5
    obtain ⟨r6, q9, hr⟩ := Option.bind_eq_some_iff.1 hr
    obtain ⟨ng7, e8⟩ : ∃ ng', gcall (shOf F) cl false n_spec_l1Cur_next [.ptr id g 0 0] (H0.set id (Blk.mk g false 3 [[.fs (c_.code.map (cI .u8)), .int .i64 c_.at_, .int .u64 c_.seed]])) ng = some (.int .i64 r6.1, (H0.set id (Blk.mk g false 3 [[.fs (r6.2.code.map (cI .u8)), .int .i64 r6.2.at_, .int .u64 r6.2.seed]])), ng', .all) := call_cur s_spec_l1Cur_next (K_spec_l1Cur_next _ _ q9) H0 id g ng hid
    by_cases h14 : 200 < n_
    · rw [if_pos h14] at hr
      have e12 : (200 < n_) = True := eq_true h14
      clear h14
      obtain ⟨r15, q18, hr⟩ := Option.bind_eq_some_iff.1 hr
      obtain ⟨ng16, e17⟩ : ∃ ng', gcall (shOf F) cl false n_spec_l1Cur_next [.ptr id g 0 0] (H0.set id (Blk.mk g false 3 [[.fs (r6.2.code.map (cI .u8)), .int .i64 r6.2.at_, .int .u64 r6.2.seed]])) ng7 = some (.int .i64 r15.1, (H0.set id (Blk.mk g false 3 [[.fs (r15.2.code.map (cI .u8)), .int .i64 r15.2.at_, .int .u64 r15.2.seed]])), ng', .all) := call_cur s_spec_l1Cur_next (K_spec_l1Cur_next _ _ q18) H0 id g ng7 hid
      by_cases h20 : n_ = 0
      · rw [if_pos h20] at hr
        clear h20
        exact nomatch hr
      · rw [if_neg h20] at hr
        have e19 : binI .rem .i64 (addK .i64 (mulK .i64 r6.1 256) r15.1) .i64 n_ = some (.int .i64 (remK .i64 (addK .i64 (mulK .i64 r6.1 256) r15.1) n_)) := bi_rem _ _ _ h20
        clear h20
        have hr_ := Option.some.inj hr; subst hr_
        refine ⟨.int .i64 (remK .i64 (addK .i64 (mulK .i64 r6.1 256) r15.1) n_), [], ng16, ?_, ?_⟩
        · simp only [c_spec_l1Cur_pick, evA, evB, Int.reduceToNat, eq_self, reduceCtorEq, ↓reduceIte, Nat.reduceEqDiff, Nat.reduceAdd, Nat.reduceLT, Nat.reduceLeDiff, Nat.reduceMul, Nat.reduceSub, Nat.reduceBEq, impl_Job.cells, rz_impl_Job, pr_impl_Job, spec_l1Cur.cells, rz_spec_l1Cur, pr_spec_l1Cur, arr_2_int.cells, rz_arr_2_int, pr_arr_2_int, *]
        · exact outR_flat rfl
    · rw [if_neg h14] at hr
      have e13 : (200 < n_) = False := eq_false h14
      clear h14
      by_cases h22 : n_ = 0
      · rw [if_pos h22] at hr
        clear h22
        exact nomatch hr
      · rw [if_neg h22] at hr
        have e21 : binI .rem .i64 r6.1 .i64 n_ = some (.int .i64 (remK .i64 r6.1 n_)) := bi_rem _ _ _ h22
        clear h22
        have hr_ := Option.some.inj hr; subst hr_
        refine ⟨.int .i64 (remK .i64 r6.1 n_), [], ng7, ?_, ?_⟩
        · simp only [c_spec_l1Cur_pick, evA, evB, Int.reduceToNat, eq_self, reduceCtorEq, ↓reduceIte, Nat.reduceEqDiff, Nat.reduceAdd, Nat.reduceLT, Nat.reduceLeDiff, Nat.reduceMul, Nat.reduceSub, Nat.reduceBEq, impl_Job.cells, rz_impl_Job, pr_impl_Job, spec_l1Cur.cells, rz_spec_l1Cur, pr_spec_l1Cur, arr_2_int.cells, rz_arr_2_int, pr_arr_2_int, *]
        · exact outR_flat rfl

theorem ok_spec_l1Cur_one {cl : Callee} (K_spec_l1Cur_pick : K_spec_l1Cur_pick x_spec_l1Cur_pick (cl n_spec_l1Cur_pick)) : K_spec_l1Cur_one (x_spec_l1Cur_one) (gbody F LL cl c_spec_l1Cur_one) := by
  intro c_ n_ r hr
  intro H0 id g ng hid
  have w1_ : ∀ b, (H0.set id b)[id]? = some b := fun b => hs_get b hid
  have w2_ : ∀ b B, (H0.set id b ++ B)[id]? = some b := fun b B => hs_getA b hid
  have w3_ : ∀ a b B, (H0.set id a ++ B).set id b = H0.set id b ++ B := fun a b B => hs_setA a b hid
  unfold x_spec_l1Cur_one at hr
  try dsimp only at hr
  obtain ⟨r1, q4, hr⟩ := Option.bind_eq_some_iff.1 hr
  obtain ⟨ng2, e3⟩ : ∃ ng', gcall (shOf F) cl false n_spec_l1Cur_pick [.ptr id g 0 0, .int .i64 n_] (H0.set id (Blk.mk g false 3 [[.fs (c_.code.map (cI .u8)), .int .i64 c_.at_, .int .u64 c_.seed]])) ng = some (.int .i64 r1.1, (H0.set id (Blk.mk g false 3 [[.fs (r1.2.code.map (cI .u8)), .int .i64 r1.2.at_, .int .u64 r1.2.seed]])), ng', .all) := call_cur s_spec_l1Cur_pick (K_spec_l1Cur_pick _ _ _ q4) H0 id g ng hid
  have hr_ := Option.some.inj hr; subst hr_
  refine ⟨.bool (decide (r1.1 = 0)), [], ng2, ?_, ?_⟩
  · simp only [c_spec_l1Cur_one, evA, evB, Int.reduceToNat, eq_self, reduceCtorEq, ↓reduceIte, Nat.reduceEqDiff, Nat.reduceAdd, Nat.reduceLT, Nat.reduceLeDiff, Nat.reduceMul, Nat.reduceSub, Nat.reduceBEq, impl_Job.cells, rz_impl_Job, pr_impl_Job, spec_l1Cur.cells, rz_spec_l1Cur, pr_spec_l1Cur, arr_2_int.cells, rz_arr_2_int, pr_arr_2_int, *]
  · exact outR_flat rfl

theorem ok_spec_l1Cur_among {cl : Callee} (K_spec_l1Cur_pick : K_spec_l1Cur_pick x_spec_l1Cur_pick (cl n_spec_l1Cur_pick)) : K_spec_l1Cur_among (x_spec_l1Cur_among) (gbody F LL cl c_spec_l1Cur_among) := by
  intro c_ list_ r hr
  intro H0 id g ng hid
  have w1_ : ∀ b, (H0.set id b)[id]? = some b := fun b => hs_get b hid
  have w2_ : ∀ b B, (H0.set id b ++ B)[id]? = some b := fun b B => hs_getA b hid
  have w3_ : ∀ a b B, (H0.set id a ++ B).set id b = H0.set id b ++ B := fun a b B => hs_setA a b hid
  unfold x_spec_l1Cur_among at hr
  try dsimp only at hr
  obtain ⟨r1, q4, hr⟩ := Option.bind_eq_some_iff.1 hr
  obtain ⟨ng2, e3⟩ : ∃ ng', gcall (shOf F) cl false n_spec_l1Cur_pick [.ptr id g 0 0, .int .i64 (list_.length : Int)] (H0.set id (Blk.mk g false 3 [[.fs (c_.code.map (cI .u8)), .int .i64 c_.at_, .int .u64 c_.seed]])) ng = some (.int .i64 r1.1, (H0.set id (Blk.mk g false 3 [[.fs (r1.2.code.map (cI .u8)), .int .i64 r1.2.at_, .int .u64 r1.2.seed]])), ng', .all) := call_cur s_spec_l1Cur_pick (K_spec_l1Cur_pick _ _ _ q4) H0 id g ng hid
  obtain ⟨y5, q9, hr⟩ := Option.bind_eq_some_iff.1 hr
  obtain ⟨e6, e7, e8⟩ := ix_some q9
  try simp only [Int.toNat_natCast, Int.toNat_zero, Int.reduceToNat] at e7
  clear q9
  have hr_ := Option.some.inj hr; subst hr_
  refine ⟨.int .i64 y5, [], ng2, ?_, ?_⟩
  · simp only [c_spec_l1Cur_among, evA, evB, Int.reduceToNat, eq_self, reduceCtorEq, ↓reduceIte, Nat.reduceEqDiff, Nat.reduceAdd, Nat.reduceLT, Nat.reduceLeDiff, Nat.reduceMul, Nat.reduceSub, Nat.reduceBEq, impl_Job.cells, rz_impl_Job, pr_impl_Job, spec_l1Cur.cells, rz_spec_l1Cur, pr_spec_l1Cur, arr_2_int.cells, rz_arr_2_int, pr_arr_2_int, *]
  · exact outR_flat rfl

theorem st_spec_l1Cur_order_l0 {cl : Callee} (K_spec_l1Cur_one : K_spec_l1Cur_one x_spec_l1Cur_one (cl n_spec_l1Cur_one)) (K_spec_l1Cur_pick : K_spec_l1Cur_pick x_spec_l1Cur_pick (cl n_spec_l1Cur_pick)) (K_spec_l1Cur_among : K_spec_l1Cur_among x_spec_l1Cur_among (cl n_spec_l1Cur_among)) (n_ : Int) (H0 : List Blk) (id g : Nat) (hid : id < H0.length) (st_ : ((List Int) × (List Int) × Int × Int × Int)) (c_ : Ctl ((List Int) × (List Int) × Int × Int × Int) ((List Int) × (List Int) × Int × Int)) (hr : x_spec_l1Cur_order_l0 n_ st_ = some c_) (T_ : Tm) (H_ : List Blk) (ng : Nat) (hR_ : R_spec_l1Cur_order_l0 H0 id g n_ st_ T_ H_) :
    ∃ e_ T1_ H1_ ng1_, gcode (shOf F) cl LL c_spec_l1Cur_order_l0 ⟨maskT (some [0, 1, 5, 6]) T_, H_, ng⟩ = some (e_, ⟨T1_, H1_, ng1_⟩) ∧ TurnOK (R_spec_l1Cur_order_l0 H0 id g n_) (Q_spec_l1Cur_order_l0 H0 id g n_) (H0.length + 1) c_ e_ T1_ H1_ := by
  obtain ⟨out_, k0, k1, k2, i_⟩ := st_
  obtain ⟨g0, f0_, f1_, f2_, f3_, rfl⟩ := hR_
  unfold x_spec_l1Cur_order_l0 at hr
  try dsimp only at hr
  have w1_ : ∀ b, (H0.set id b)[id]? = some b := fun b => hs_get b hid
  have w2_ : ∀ b B, (H0.set id b ++ B)[id]? = some b := fun b B => hs_getA b hid
  have w3_ : ∀ a b B, (H0.set id a ++ B).set id b = H0.set id b ++ B := fun a b B => hs_setA a b hid
  by_cases h5 : i_ < n_
  · rw [if_pos h5] at hr
    have e3 : (i_ < n_) = True := eq_true h5
    clear h5
    obtain ⟨r6, q9, hr⟩ := Option.bind_eq_some_iff.1 hr
    obtain ⟨ng7, e8⟩ : ∃ ng', gcall (shOf F) cl false n_spec_l1Cur_pick [.ptr id g 0 0, .int .i64 (addK .i64 ((out_.length : Nat) : Int) 1)] (H0.set id (Blk.mk g false 3 [[.fs (k0.map (cI .u8)), .int .i64 k1, .int .u64 k2]]) ++ [(Blk.mk g0 false 1 (out_.map (cI .i64)))]) ng = some (.int .i64 r6.1, (H0.set id (Blk.mk g false 3 [[.fs (r6.2.code.map (cI .u8)), .int .i64 r6.2.at_, .int .u64 r6.2.seed]]) ++ [(Blk.mk g0 false 1 (out_.map (cI .i64)))]), ng', .all) := call_curA s_spec_l1Cur_pick (K_spec_l1Cur_pick _ _ _ q9) H0 [(Blk.mk g0 false 1 (out_.map (cI .i64)))] id g ng hid
    by_cases h13 : 0 ≤ 0 ∧ 0 ≤ r6.1 ∧ r6.1 ≤ ((out_.length : Nat) : Int)
    · rw [if_pos h13] at hr
      have e10 : (0 ≤ 0) = True := eq_true h13.1
      have e11 : (0 ≤ r6.1) = True := eq_true h13.2.1
      have e12 : (r6.1 ≤ ((out_.length : Nat) : Int)) = True := eq_true h13.2.2
      clear h13
      obtain ⟨w14, q20, hr⟩ := Option.bind_eq_some_iff.1 hr
      obtain ⟨e15, e16, e17⟩ := win_some q20
      simp only [Nat.zero_add, List.drop_zero] at e15 e16
      have e18 : List.take (Int.toNat r6.1) (out_.map (cI .i64)) = w14.map (cI .i64) := by rw [← e16]; simp only [List.map_take, List.map_drop]
      replace e17 : Keep (w14.length = (Int.toNat r6.1)) := e17
      clear e16 q20
      by_cases h23 : fits w14.length 8
      · rw [if_pos h23] at hr
        have e21 : (w14.length * 8 ≤ room) = True := eq_true h23.1
        have e22 : (w14.length ≤ room) = True := eq_true h23.2
        clear h23
        obtain ⟨l24, q32, hr⟩ := Option.bind_eq_some_iff.1 hr
        obtain ⟨e25, e26, e27, e28⟩ := app_some q32
        try simp only [List.length_cons, List.length_nil, Nat.zero_add, Nat.reduceAdd] at e25 e26 e28
        have e29 : (w14.map (cI .i64)) ++ [[.int .i64 i_]] = l24.map (cI .i64) := by rw [← e27, List.map_append] <;> rfl
        have e30 := e25
        have e31 := e26
        rw [e28] at e30 e31
        clear e27 q32
        by_cases h36 : 0 ≤ r6.1 ∧ r6.1 ≤ ((out_.length : Nat) : Int) ∧ ((out_.length : Nat) : Int) ≤ ((out_.length : Nat) : Int)
        · rw [if_pos h36] at hr
          have e33 : (0 ≤ r6.1) = True := eq_true h36.1
          have e34 : (r6.1 ≤ ((out_.length : Nat) : Int)) = True := eq_true h36.2.1
          have e35 : (((out_.length : Nat) : Int) ≤ ((out_.length : Nat) : Int)) = True := eq_true h36.2.2
          clear h36
          obtain ⟨w37, q43, hr⟩ := Option.bind_eq_some_iff.1 hr
          obtain ⟨e38, e39, e40⟩ := win_some q43
          have e41 : List.take (out_.length - (Int.toNat r6.1)) (List.drop (Int.toNat r6.1) (out_.map (cI .i64))) = w37.map (cI .i64) := by rw [← e39]; simp only [List.map_take, List.map_drop]
          replace e40 : Keep (w37.length = out_.length - (Int.toNat r6.1)) := e40
          clear e39 q43
          obtain ⟨l44, q52, hr⟩ := Option.bind_eq_some_iff.1 hr
          obtain ⟨e45, e46, e47, e48⟩ := app_some q52
          try simp only [List.length_cons, List.length_nil, Nat.zero_add, Nat.reduceAdd] at e45 e46 e48
          have e49 : (l24.map (cI .i64)) ++ (w37.map (cI .i64)) = l44.map (cI .i64) := by rw [← e47, List.map_append] <;> rfl
          have e50 := e45
          have e51 := e46
          rw [e48] at e50 e51
          clear e47 q52
          have hr_ := Option.some.inj hr; subst hr_
          refine turn (by
            simp only [c_spec_l1Cur_order_l0, evA, evB, Int.reduceToNat, eq_self, reduceCtorEq, ↓reduceIte, Nat.reduceEqDiff, Nat.reduceAdd, Nat.reduceLT, Nat.reduceLeDiff, Nat.reduceMul, Nat.reduceSub, Nat.reduceBEq, impl_Job.cells, rz_impl_Job, pr_impl_Job, spec_l1Cur.cells, rz_spec_l1Cur, pr_spec_l1Cur, arr_2_int.cells, rz_arr_2_int, pr_arr_2_int, *]
            rfl) ?_
          exact ⟨rfl, _, rfl, rfl, rfl, rfl, (by simp only [hs_takek, hs_take0, hs_take, List.take_succ_cons, List.take_zero, List.append_nil] <;> rfl)⟩
        · rw [if_neg h36] at hr
          clear h36
          exact nomatch hr
      · rw [if_neg h23] at hr
        clear h23
        exact nomatch hr
    · rw [if_neg h13] at hr
      clear h13
      exact nomatch hr
  · rw [if_neg h5] at hr
    have e4 : (i_ < n_) = False := eq_false h5
    clear h5
    have hr_ := Option.some.inj hr; subst hr_
    refine turn (by
      simp only [c_spec_l1Cur_order_l0, evA, evB, Int.reduceToNat, eq_self, reduceCtorEq, ↓reduceIte, Nat.reduceEqDiff, Nat.reduceAdd, Nat.reduceLT, Nat.reduceLeDiff, Nat.reduceMul, Nat.reduceSub, Nat.reduceBEq, impl_Job.cells, rz_impl_Job, pr_impl_Job, spec_l1Cur.cells, rz_spec_l1Cur, pr_spec_l1Cur, arr_2_int.cells, rz_arr_2_int, pr_arr_2_int, *]
      rfl) ?_
    exact ⟨by simp, rfl, _, rfl, rfl, rfl, rfl⟩

theorem lp_spec_l1Cur_order_l0 {cl : Callee} (K_spec_l1Cur_one : K_spec_l1Cur_one x_spec_l1Cur_one (cl n_spec_l1Cur_one)) (K_spec_l1Cur_pick : K_spec_l1Cur_pick x_spec_l1Cur_pick (cl n_spec_l1Cur_pick)) (K_spec_l1Cur_among : K_spec_l1Cur_among x_spec_l1Cur_among (cl n_spec_l1Cur_among)) (n_ : Int) (H0 : List Blk) (id g : Nat) (hid : id < H0.length) (st_ : ((List Int) × (List Int) × Int × Int × Int)) (p_ : ((List Int) × (List Int) × Int × Int)) (hr : loopS (x_spec_l1Cur_order_l0 n_) LL st_ = some p_) (T_ : Tm) (H_ : List Blk) (ng : Nat) (hR_ : R_spec_l1Cur_order_l0 H0 id g n_ st_ T_ H_) (hn_ : H_.length = (H0.length + 1)) :
    ∃ e_ T1_ H1_ ng1_, gcode (shOf F) cl LL (.loop false (some [0, 1, 5, 6]) c_spec_l1Cur_order_l0) ⟨T_, H_, ng⟩ = some (e_, ⟨T1_, H1_, ng1_⟩) ∧ Q_spec_l1Cur_order_l0 H0 id g n_ p_ e_ T1_ H1_ :=
  sim_loop (n0 := (H0.length + 1)) (R_spec_l1Cur_order_l0 H0 id g n_) (Q_spec_l1Cur_order_l0 H0 id g n_) (st_spec_l1Cur_order_l0 K_spec_l1Cur_one K_spec_l1Cur_pick K_spec_l1Cur_among n_ H0 id g hid) st_ p_ hr T_ H_ ng hR_ hn_

theorem ok_spec_l1Cur_order {cl : Callee} (K_spec_l1Cur_one : K_spec_l1Cur_one x_spec_l1Cur_one (cl n_spec_l1Cur_one)) (K_spec_l1Cur_pick : K_spec_l1Cur_pick x_spec_l1Cur_pick (cl n_spec_l1Cur_pick)) (K_spec_l1Cur_among : K_spec_l1Cur_among x_spec_l1Cur_among (cl n_spec_l1Cur_among)) : K_spec_l1Cur_order (x_spec_l1Cur_order) (gbody F LL cl c_spec_l1Cur_order) := by
  intro c_ n_ r hr
  intro H0 id g ng hid
  have w1_ : ∀ b, (H0.set id b)[id]? = some b := fun b => hs_get b hid
  have w2_ : ∀ b B, (H0.set id b ++ B)[id]? = some b := fun b B => hs_getA b hid
  have w3_ : ∀ a b B, (H0.set id a ++ B).set id b = H0.set id b ++ B := fun a b B => hs_setA a b hid
  unfold x_spec_l1Cur_order at hr
  try dsimp only at hr
  obtain ⟨p1, q33, hr⟩ := Option.bind_eq_some_iff.1 hr
  obtain ⟨ex7, T4, H5, ng6, l3, m2⟩ := lp_spec_l1Cur_order_l0 (cl := cl) K_spec_l1Cur_one K_spec_l1Cur_pick K_spec_l1Cur_among  n_ H0 id g hid _ _ q33 [(0, .ptr id g 0 0), (1, .int .i64 n_), (5, .os H0.length ng 1 0 0), (6, .int .i64 0)] (H0.set id (Blk.mk g false 3 [[.fs (c_.code.map (cI .u8)), .int .i64 c_.at_, .int .u64 c_.seed]]) ++ [(Blk.mk ng false 1 [])]) (ng + 1) (show R_spec_l1Cur_order_l0 H0 id g n_ (([] : List Int), c_.code, c_.at_, c_.seed, 0) [(0, .ptr id g 0 0), (1, .int .i64 n_), (5, .os H0.length ng 1 0 0), (6, .int .i64 0)] (H0.set id (Blk.mk g false 3 [[.fs (c_.code.map (cI .u8)), .int .i64 c_.at_, .int .u64 c_.seed]]) ++ [(Blk.mk ng false 1 [])]) from ⟨_, rfl, rfl, rfl, rfl, rfl⟩) (by simp)
  obtain ⟨rfl, g8, e9, e10, e11, e12⟩ := m2
  subst e12
  obtain ⟨r13, q16, hr⟩ := Option.bind_eq_some_iff.1 hr
  obtain ⟨ng14, e15⟩ : ∃ ng', gcall (shOf F) cl false n_spec_l1Cur_one [.ptr id g 0 0, .int .i64 30] (H0.set id (Blk.mk g false 3 [[.fs (p1.2.1.map (cI .u8)), .int .i64 p1.2.2.1, .int .u64 p1.2.2.2]]) ++ [(Blk.mk g8 false 1 (p1.1.map (cI .i64)))]) ng6 = some (.bool r13.1, (H0.set id (Blk.mk g false 3 [[.fs (r13.2.code.map (cI .u8)), .int .i64 r13.2.at_, .int .u64 r13.2.seed]]) ++ [(Blk.mk g8 false 1 (p1.1.map (cI .i64)))]), ng', .all) := call_curA s_spec_l1Cur_one (K_spec_l1Cur_one _ _ _ q16) H0 [(Blk.mk g8 false 1 (p1.1.map (cI .i64)))] id g ng6 hid
  by_cases h19 : r13.1 = true
  · rw [if_pos h19] at hr
    have e17 : r13.1 = true := h19
    clear h19
    obtain ⟨r20, q23, hr⟩ := Option.bind_eq_some_iff.1 hr
    obtain ⟨ng21, e22⟩ : ∃ ng', gcall (shOf F) cl false n_spec_l1Cur_among [.ptr id g 0 0, .fs [[.int .i64 0], [.int .i64 n_], [.int .i64 (-1)]]] (H0.set id (Blk.mk g false 3 [[.fs (r13.2.code.map (cI .u8)), .int .i64 r13.2.at_, .int .u64 r13.2.seed]]) ++ [(Blk.mk g8 false 1 (p1.1.map (cI .i64)))]) ng14 = some (.int .i64 r20.1, (H0.set id (Blk.mk g false 3 [[.fs (r20.2.code.map (cI .u8)), .int .i64 r20.2.at_, .int .u64 r20.2.seed]]) ++ [(Blk.mk g8 false 1 (p1.1.map (cI .i64)))]), ng', .all) := call_curA s_spec_l1Cur_among (K_spec_l1Cur_among _ _ _ q23) H0 [(Blk.mk g8 false 1 (p1.1.map (cI .i64)))] id g ng14 hid
    obtain ⟨l24, q32, hr⟩ := Option.bind_eq_some_iff.1 hr
    obtain ⟨e25, e26, e27, e28⟩ := app_some q32
    try simp only [List.length_cons, List.length_nil, Nat.zero_add, Nat.reduceAdd] at e25 e26 e28
    have e29 : (p1.1.map (cI .i64)) ++ [[.int .i64 r20.1]] = l24.map (cI .i64) := by rw [← e27, List.map_append] <;> rfl
    have e30 := e25
    have e31 := e26
    rw [e28] at e30 e31
    clear e27 q32
    have hr_ := Option.some.inj hr; subst hr_
    refine ⟨H0.length, ng21, [(Blk.mk ng21 false 1 (l24.map (cI .i64)))], (ng21 + 1), ?_, ?_, ?_, sc_cI _ _⟩
    · simp only [c_spec_l1Cur_order, evA, evB, Int.reduceToNat, eq_self, reduceCtorEq, ↓reduceIte, Nat.reduceEqDiff, Nat.reduceAdd, Nat.reduceLT, Nat.reduceLeDiff, Nat.reduceMul, Nat.reduceSub, Nat.reduceBEq, impl_Job.cells, rz_impl_Job, pr_impl_Job, spec_l1Cur.cells, rz_spec_l1Cur, pr_spec_l1Cur, arr_2_int.cells, rz_arr_2_int, pr_arr_2_int, *]
    · simp [hget, hp, hs_own0, hs_ownk]
    · exact Nat.le_refl _
  · rw [if_neg h19] at hr
    have e18 : r13.1 = false := Bool.eq_false_iff.2 h19
    clear h19
    have hr_ := Option.some.inj hr; subst hr_
    refine ⟨H0.length, g8, [(Blk.mk g8 false 1 (p1.1.map (cI .i64)))], ng14, ?_, ?_, ?_, sc_cI _ _⟩
    · simp only [c_spec_l1Cur_order, evA, evB, Int.reduceToNat, eq_self, reduceCtorEq, ↓reduceIte, Nat.reduceEqDiff, Nat.reduceAdd, Nat.reduceLT, Nat.reduceLeDiff, Nat.reduceMul, Nat.reduceSub, Nat.reduceBEq, impl_Job.cells, rz_impl_Job, pr_impl_Job, spec_l1Cur.cells, rz_spec_l1Cur, pr_spec_l1Cur, arr_2_int.cells, rz_arr_2_int, pr_arr_2_int, *]
    · simp [hget, hp, hs_own0, hs_ownk]
    · exact Nat.le_refl _

theorem ok_spec_l1Cur_spoiltJob {cl : Callee} (K_spec_l1Cur_pick : K_spec_l1Cur_pick x_spec_l1Cur_pick (cl n_spec_l1Cur_pick)) (K_spec_l1Cur_among : K_spec_l1Cur_among x_spec_l1Cur_among (cl n_spec_l1Cur_among)) : K_spec_l1Cur_spoiltJob (x_spec_l1Cur_spoiltJob) (gbody F LL cl c_spec_l1Cur_spoiltJob) := by
  intro c_ j_ r hr
  intro H0 id g ng hid
  have w1_ : ∀ b, (H0.set id b)[id]? = some b := fun b => hs_get b hid
  have w2_ : ∀ b B, (H0.set id b ++ B)[id]? = some b := fun b B => hs_getA b hid
  have w3_ : ∀ a b B, (H0.set id a ++ B).set id b = H0.set id b ++ B := fun a b B => hs_setA a b hid
  unfold x_spec_l1Cur_spoiltJob at hr
  try dsimp only at hr
  obtain ⟨r1, q4, hr⟩ := Option.bind_eq_some_iff.1 hr
  obtain ⟨ng2, e3⟩ : ∃ ng', gcall (shOf F) cl false n_spec_l1Cur_pick [.ptr id g 0 0, .int .i64 4] (H0.set id (Blk.mk g false 3 [[.fs (c_.code.map (cI .u8)), .int .i64 c_.at_, .int .u64 c_.seed]]) ++ [(Blk.mk ng false 4 [[.int .i64 j_.Time, .int .i64 j_.Weight, .int .i64 j_.Release, .int .i64 j_.Due]]), (Blk.mk (ng + 1) false 4 [[.int .i64 0, .int .i64 0, .int .i64 0, .int .i64 0]])]) ((ng + 1) + 1) = some (.int .i64 r1.1, (H0.set id (Blk.mk g false 3 [[.fs (r1.2.code.map (cI .u8)), .int .i64 r1.2.at_, .int .u64 r1.2.seed]]) ++ [(Blk.mk ng false 4 [[.int .i64 j_.Time, .int .i64 j_.Weight, .int .i64 j_.Release, .int .i64 j_.Due]]), (Blk.mk (ng + 1) false 4 [[.int .i64 0, .int .i64 0, .int .i64 0, .int .i64 0]])]), ng', .all) := call_curA s_spec_l1Cur_pick (K_spec_l1Cur_pick _ _ _ q4) H0 [(Blk.mk ng false 4 [[.int .i64 j_.Time, .int .i64 j_.Weight, .int .i64 j_.Release, .int .i64 j_.Due]]), (Blk.mk (ng + 1) false 4 [[.int .i64 0, .int .i64 0, .int .i64 0, .int .i64 0]])] id g ((ng + 1) + 1) hid
  by_cases h9 : r1.1 = 0
  · rw [if_pos h9] at hr
    have e7 : (r1.1 = 0) = True := eq_true h9
    clear h9
    obtain ⟨r10, q13, hr⟩ := Option.bind_eq_some_iff.1 hr
    obtain ⟨ng11, e12⟩ : ∃ ng', gcall (shOf F) cl false n_spec_l1Cur_among [.ptr id g 0 0, .fs [[.int .i64 0], [.int .i64 50], [.int .i64 51], [.int .i64 (-1)], [.int .i64 4611686018427387904]]] (H0.set id (Blk.mk g false 3 [[.fs (r1.2.code.map (cI .u8)), .int .i64 r1.2.at_, .int .u64 r1.2.seed]]) ++ [(Blk.mk ng false 4 [[.int .i64 j_.Time, .int .i64 j_.Weight, .int .i64 j_.Release, .int .i64 j_.Due]]), (Blk.mk (ng + 1) false 4 [[.int .i64 0, .int .i64 0, .int .i64 0, .int .i64 0]])]) ng2 = some (.int .i64 r10.1, (H0.set id (Blk.mk g false 3 [[.fs (r10.2.code.map (cI .u8)), .int .i64 r10.2.at_, .int .u64 r10.2.seed]]) ++ [(Blk.mk ng false 4 [[.int .i64 j_.Time, .int .i64 j_.Weight, .int .i64 j_.Release, .int .i64 j_.Due]]), (Blk.mk (ng + 1) false 4 [[.int .i64 0, .int .i64 0, .int .i64 0, .int .i64 0]])]), ng', .all) := call_curA s_spec_l1Cur_among (K_spec_l1Cur_among _ _ _ q13) H0 [(Blk.mk ng false 4 [[.int .i64 j_.Time, .int .i64 j_.Weight, .int .i64 j_.Release, .int .i64 j_.Due]]), (Blk.mk (ng + 1) false 4 [[.int .i64 0, .int .i64 0, .int .i64 0, .int .i64 0]])] id g ng2 hid
    have hr_ := Option.some.inj hr; subst hr_
    refine ⟨.agg [.int .i64 r10.1, .int .i64 j_.Weight, .int .i64 j_.Release, .int .i64 j_.Due], [(Blk.mk ng false 4 [[.int .i64 r10.1, .int .i64 j_.Weight, .int .i64 j_.Release, .int .i64 j_.Due]]), (Blk.mk (ng + 1) false 4 [[.int .i64 r10.1, .int .i64 j_.Weight, .int .i64 j_.Release, .int .i64 j_.Due]])], ng11, ?_, ?_⟩
    · simp only [c_spec_l1Cur_spoiltJob, evA, evB, Int.reduceToNat, eq_self, reduceCtorEq, ↓reduceIte, Nat.reduceEqDiff, Nat.reduceAdd, Nat.reduceLT, Nat.reduceLeDiff, Nat.reduceMul, Nat.reduceSub, Nat.reduceBEq, impl_Job.cells, rz_impl_Job, pr_impl_Job, spec_l1Cur.cells, rz_spec_l1Cur, pr_spec_l1Cur, arr_2_int.cells, rz_arr_2_int, pr_arr_2_int, *]
    · exact outR_flat rfl
  · rw [if_neg h9] at hr
    have e8 : (r1.1 = 0) = False := eq_false h9
    clear h9
    by_cases h18 : r1.1 = 1
    · rw [if_pos h18] at hr
      have e16 : (r1.1 = 1) = True := eq_true h18
      clear h18
      obtain ⟨r19, q22, hr⟩ := Option.bind_eq_some_iff.1 hr
      obtain ⟨ng20, e21⟩ : ∃ ng', gcall (shOf F) cl false n_spec_l1Cur_among [.ptr id g 0 0, .fs [[.int .i64 (-1)], [.int .i64 50], [.int .i64 51]]] (H0.set id (Blk.mk g false 3 [[.fs (r1.2.code.map (cI .u8)), .int .i64 r1.2.at_, .int .u64 r1.2.seed]]) ++ [(Blk.mk ng false 4 [[.int .i64 j_.Time, .int .i64 j_.Weight, .int .i64 j_.Release, .int .i64 j_.Due]]), (Blk.mk (ng + 1) false 4 [[.int .i64 0, .int .i64 0, .int .i64 0, .int .i64 0]])]) ng2 = some (.int .i64 r19.1, (H0.set id (Blk.mk g false 3 [[.fs (r19.2.code.map (cI .u8)), .int .i64 r19.2.at_, .int .u64 r19.2.seed]]) ++ [(Blk.mk ng false 4 [[.int .i64 j_.Time, .int .i64 j_.Weight, .int .i64 j_.Release, .int .i64 j_.Due]]), (Blk.mk (ng + 1) false 4 [[.int .i64 0, .int .i64 0, .int .i64 0, .int .i64 0]])]), ng', .all) := call_curA s_spec_l1Cur_among (K_spec_l1Cur_among _ _ _ q22) H0 [(Blk.mk ng false 4 [[.int .i64 j_.Time, .int .i64 j_.Weight, .int .i64 j_.Release, .int .i64 j_.Due]]), (Blk.mk (ng + 1) false 4 [[.int .i64 0, .int .i64 0, .int .i64 0, .int .i64 0]])] id g ng2 hid
      have hr_ := Option.some.inj hr; subst hr_
      refine ⟨.agg [.int .i64 j_.Time, .int .i64 r19.1, .int .i64 j_.Release, .int .i64 j_.Due], [(Blk.mk ng false 4 [[.int .i64 j_.Time, .int .i64 r19.1, .int .i64 j_.Release, .int .i64 j_.Due]]), (Blk.mk (ng + 1) false 4 [[.int .i64 j_.Time, .int .i64 r19.1, .int .i64 j_.Release, .int .i64 j_.Due]])], ng20, ?_, ?_⟩
      · simp only [c_spec_l1Cur_spoiltJob, evA, evB, Int.reduceToNat, eq_self, reduceCtorEq, ↓reduceIte, Nat.reduceEqDiff, Nat.reduceAdd, Nat.reduceLT, Nat.reduceLeDiff, Nat.reduceMul, Nat.reduceSub, Nat.reduceBEq, impl_Job.cells, rz_impl_Job, pr_impl_Job, spec_l1Cur.cells, rz_spec_l1Cur, pr_spec_l1Cur, arr_2_int.cells, rz_arr_2_int, pr_arr_2_int, *]
      · exact outR_flat rfl
    · rw [if_neg h18] at hr
      have e17 : (r1.1 = 1) = False := eq_false h18
      clear h18
      by_cases h27 : r1.1 = 2
      · rw [if_pos h27] at hr
        have e25 : (r1.1 = 2) = True := eq_true h27
        clear h27
        obtain ⟨r28, q31, hr⟩ := Option.bind_eq_some_iff.1 hr
        obtain ⟨ng29, e30⟩ : ∃ ng', gcall (shOf F) cl false n_spec_l1Cur_among [.ptr id g 0 0, .fs [[.int .i64 (-1)], [.int .i64 500], [.int .i64 501]]] (H0.set id (Blk.mk g false 3 [[.fs (r1.2.code.map (cI .u8)), .int .i64 r1.2.at_, .int .u64 r1.2.seed]]) ++ [(Blk.mk ng false 4 [[.int .i64 j_.Time, .int .i64 j_.Weight, .int .i64 j_.Release, .int .i64 j_.Due]]), (Blk.mk (ng + 1) false 4 [[.int .i64 0, .int .i64 0, .int .i64 0, .int .i64 0]])]) ng2 = some (.int .i64 r28.1, (H0.set id (Blk.mk g false 3 [[.fs (r28.2.code.map (cI .u8)), .int .i64 r28.2.at_, .int .u64 r28.2.seed]]) ++ [(Blk.mk ng false 4 [[.int .i64 j_.Time, .int .i64 j_.Weight, .int .i64 j_.Release, .int .i64 j_.Due]]), (Blk.mk (ng + 1) false 4 [[.int .i64 0, .int .i64 0, .int .i64 0, .int .i64 0]])]), ng', .all) := call_curA s_spec_l1Cur_among (K_spec_l1Cur_among _ _ _ q31) H0 [(Blk.mk ng false 4 [[.int .i64 j_.Time, .int .i64 j_.Weight, .int .i64 j_.Release, .int .i64 j_.Due]]), (Blk.mk (ng + 1) false 4 [[.int .i64 0, .int .i64 0, .int .i64 0, .int .i64 0]])] id g ng2 hid
        have hr_ := Option.some.inj hr; subst hr_
        refine ⟨.agg [.int .i64 j_.Time, .int .i64 j_.Weight, .int .i64 r28.1, .int .i64 j_.Due], [(Blk.mk ng false 4 [[.int .i64 j_.Time, .int .i64 j_.Weight, .int .i64 r28.1, .int .i64 j_.Due]]), (Blk.mk (ng + 1) false 4 [[.int .i64 j_.Time, .int .i64 j_.Weight, .int .i64 r28.1, .int .i64 j_.Due]])], ng29, ?_, ?_⟩
        · simp only [c_spec_l1Cur_spoiltJob, evA, evB, Int.reduceToNat, eq_self, reduceCtorEq, ↓reduceIte, Nat.reduceEqDiff, Nat.reduceAdd, Nat.reduceLT, Nat.reduceLeDiff, Nat.reduceMul, Nat.reduceSub, Nat.reduceBEq, impl_Job.cells, rz_impl_Job, pr_impl_Job, spec_l1Cur.cells, rz_spec_l1Cur, pr_spec_l1Cur, arr_2_int.cells, rz_arr_2_int, pr_arr_2_int, *]
        · exact outR_flat rfl
      · rw [if_neg h27] at hr
        have e26 : (r1.1 = 2) = False := eq_false h27
        clear h27
        obtain ⟨r32, q35, hr⟩ := Option.bind_eq_some_iff.1 hr
        obtain ⟨ng33, e34⟩ : ∃ ng', gcall (shOf F) cl false n_spec_l1Cur_among [.ptr id g 0 0, .fs [[.int .i64 (-1)], [.int .i64 500], [.int .i64 501], [.int .i64 (-9223372036854775808)]]] (H0.set id (Blk.mk g false 3 [[.fs (r1.2.code.map (cI .u8)), .int .i64 r1.2.at_, .int .u64 r1.2.seed]]) ++ [(Blk.mk ng false 4 [[.int .i64 j_.Time, .int .i64 j_.Weight, .int .i64 j_.Release, .int .i64 j_.Due]]), (Blk.mk (ng + 1) false 4 [[.int .i64 0, .int .i64 0, .int .i64 0, .int .i64 0]])]) ng2 = some (.int .i64 r32.1, (H0.set id (Blk.mk g false 3 [[.fs (r32.2.code.map (cI .u8)), .int .i64 r32.2.at_, .int .u64 r32.2.seed]]) ++ [(Blk.mk ng false 4 [[.int .i64 j_.Time, .int .i64 j_.Weight, .int .i64 j_.Release, .int .i64 j_.Due]]), (Blk.mk (ng + 1) false 4 [[.int .i64 0, .int .i64 0, .int .i64 0, .int .i64 0]])]), ng', .all) := call_curA s_spec_l1Cur_among (K_spec_l1Cur_among _ _ _ q35) H0 [(Blk.mk ng false 4 [[.int .i64 j_.Time, .int .i64 j_.Weight, .int .i64 j_.Release, .int .i64 j_.Due]]), (Blk.mk (ng + 1) false 4 [[.int .i64 0, .int .i64 0, .int .i64 0, .int .i64 0]])] id g ng2 hid
        have hr_ := Option.some.inj hr; subst hr_
        refine ⟨.agg [.int .i64 j_.Time, .int .i64 j_.Weight, .int .i64 j_.Release, .int .i64 r32.1], [(Blk.mk ng false 4 [[.int .i64 j_.Time, .int .i64 j_.Weight, .int .i64 j_.Release, .int .i64 r32.1]]), (Blk.mk (ng + 1) false 4 [[.int .i64 j_.Time, .int .i64 j_.Weight, .int .i64 j_.Release, .int .i64 r32.1]])], ng33, ?_, ?_⟩
        · simp only [c_spec_l1Cur_spoiltJob, evA, evB, Int.reduceToNat, eq_self, reduceCtorEq, ↓reduceIte, Nat.reduceEqDiff, Nat.reduceAdd, Nat.reduceLT, Nat.reduceLeDiff, Nat.reduceMul, Nat.reduceSub, Nat.reduceBEq, impl_Job.cells, rz_impl_Job, pr_impl_Job, spec_l1Cur.cells, rz_spec_l1Cur, pr_spec_l1Cur, arr_2_int.cells, rz_arr_2_int, pr_arr_2_int, *]
        · exact outR_flat rfl

theorem ok_spec_l1Cur_job {cl : Callee} (K_spec_l1Cur_pick : K_spec_l1Cur_pick x_spec_l1Cur_pick (cl n_spec_l1Cur_pick)) (K_spec_l1Cur_among : K_spec_l1Cur_among x_spec_l1Cur_among (cl n_spec_l1Cur_among)) : K_spec_l1Cur_job (x_spec_l1Cur_job) (gbody F LL cl c_spec_l1Cur_job) := by
  intro c_ released_ r hr
  intro H0 id g ng hid
  have w1_ : ∀ b, (H0.set id b)[id]? = some b := fun b => hs_get b hid
  have w2_ : ∀ b B, (H0.set id b ++ B)[id]? = some b := fun b B => hs_getA b hid
  have w3_ : ∀ a b B, (H0.set id a ++ B).set id b = H0.set id b ++ B := fun a b B => hs_setA a b hid
  unfold x_spec_l1Cur_job at hr
  try dsimp only at hr
  obtain ⟨r1, q4, hr⟩ := Option.bind_eq_some_iff.1 hr
  obtain ⟨ng2, e3⟩ : ∃ ng', gcall (shOf F) cl false n_spec_l1Cur_among [.ptr id g 0 0, .fs [[.int .i64 1], [.int .i64 2], [.int .i64 3], [.int .i64 4], [.int .i64 5], [.int .i64 7], [.int .i64 9]]] (H0.set id (Blk.mk g false 3 [[.fs (c_.code.map (cI .u8)), .int .i64 c_.at_, .int .u64 c_.seed]]) ++ [(Blk.mk ng false 4 [[.int .i64 0, .int .i64 0, .int .i64 0, .int .i64 0]])]) (ng + 1) = some (.int .i64 r1.1, (H0.set id (Blk.mk g false 3 [[.fs (r1.2.code.map (cI .u8)), .int .i64 r1.2.at_, .int .u64 r1.2.seed]]) ++ [(Blk.mk ng false 4 [[.int .i64 0, .int .i64 0, .int .i64 0, .int .i64 0]])]), ng', .all) := call_curA s_spec_l1Cur_among (K_spec_l1Cur_among _ _ _ q4) H0 [(Blk.mk ng false 4 [[.int .i64 0, .int .i64 0, .int .i64 0, .int .i64 0]])] id g (ng + 1) hid
  obtain ⟨r5, q8, hr⟩ := Option.bind_eq_some_iff.1 hr
  obtain ⟨ng6, e7⟩ : ∃ ng', gcall (shOf F) cl false n_spec_l1Cur_among [.ptr id g 0 0, .fs [[.int .i64 0], [.int .i64 1], [.int .i64 1], [.int .i64 2], [.int .i64 3], [.int .i64 5], [.int .i64 8]]] (H0.set id (Blk.mk g false 3 [[.fs (r1.2.code.map (cI .u8)), .int .i64 r1.2.at_, .int .u64 r1.2.seed]]) ++ [(Blk.mk ng false 4 [[.int .i64 0, .int .i64 0, .int .i64 0, .int .i64 0]])]) ng2 = some (.int .i64 r5.1, (H0.set id (Blk.mk g false 3 [[.fs (r5.2.code.map (cI .u8)), .int .i64 r5.2.at_, .int .u64 r5.2.seed]]) ++ [(Blk.mk ng false 4 [[.int .i64 0, .int .i64 0, .int .i64 0, .int .i64 0]])]), ng', .all) := call_curA s_spec_l1Cur_among (K_spec_l1Cur_among _ _ _ q8) H0 [(Blk.mk ng false 4 [[.int .i64 0, .int .i64 0, .int .i64 0, .int .i64 0]])] id g ng2 hid
  obtain ⟨r9, q12, hr⟩ := Option.bind_eq_some_iff.1 hr
  obtain ⟨ng10, e11⟩ : ∃ ng', gcall (shOf F) cl false n_spec_l1Cur_pick [.ptr id g 0 0, .int .i64 24] (H0.set id (Blk.mk g false 3 [[.fs (r5.2.code.map (cI .u8)), .int .i64 r5.2.at_, .int .u64 r5.2.seed]]) ++ [(Blk.mk ng false 4 [[.int .i64 0, .int .i64 0, .int .i64 0, .int .i64 0]])]) ng6 = some (.int .i64 r9.1, (H0.set id (Blk.mk g false 3 [[.fs (r9.2.code.map (cI .u8)), .int .i64 r9.2.at_, .int .u64 r9.2.seed]]) ++ [(Blk.mk ng false 4 [[.int .i64 0, .int .i64 0, .int .i64 0, .int .i64 0]])]), ng', .all) := call_curA s_spec_l1Cur_pick (K_spec_l1Cur_pick _ _ _ q12) H0 [(Blk.mk ng false 4 [[.int .i64 0, .int .i64 0, .int .i64 0, .int .i64 0]])] id g ng6 hid
  by_cases h15 : released_ = true
  · rw [if_pos h15] at hr
    have e13 : released_ = true := h15
    clear h15
    obtain ⟨r16, q19, hr⟩ := Option.bind_eq_some_iff.1 hr
    obtain ⟨ng17, e18⟩ : ∃ ng', gcall (shOf F) cl false n_spec_l1Cur_pick [.ptr id g 0 0, .int .i64 12] (H0.set id (Blk.mk g false 3 [[.fs (r9.2.code.map (cI .u8)), .int .i64 r9.2.at_, .int .u64 r9.2.seed]]) ++ [(Blk.mk ng false 4 [[.int .i64 0, .int .i64 0, .int .i64 0, .int .i64 0]]), (Blk.mk ng10 false 4 [[.int .i64 r1.1, .int .i64 r5.1, .int .i64 0, .int .i64 r9.1]])]) (ng10 + 1) = some (.int .i64 r16.1, (H0.set id (Blk.mk g false 3 [[.fs (r16.2.code.map (cI .u8)), .int .i64 r16.2.at_, .int .u64 r16.2.seed]]) ++ [(Blk.mk ng false 4 [[.int .i64 0, .int .i64 0, .int .i64 0, .int .i64 0]]), (Blk.mk ng10 false 4 [[.int .i64 r1.1, .int .i64 r5.1, .int .i64 0, .int .i64 r9.1]])]), ng', .all) := call_curA s_spec_l1Cur_pick (K_spec_l1Cur_pick _ _ _ q19) H0 [(Blk.mk ng false 4 [[.int .i64 0, .int .i64 0, .int .i64 0, .int .i64 0]]), (Blk.mk ng10 false 4 [[.int .i64 r1.1, .int .i64 r5.1, .int .i64 0, .int .i64 r9.1]])] id g (ng10 + 1) hid
    have hr_ := Option.some.inj hr; subst hr_
    refine ⟨.agg [.int .i64 r1.1, .int .i64 r5.1, .int .i64 r16.1, .int .i64 r9.1], [(Blk.mk ng false 4 [[.int .i64 r1.1, .int .i64 r5.1, .int .i64 r16.1, .int .i64 r9.1]]), (Blk.mk ng10 false 4 [[.int .i64 r1.1, .int .i64 r5.1, .int .i64 r16.1, .int .i64 r9.1]])], ng17, ?_, ?_⟩
    · simp only [c_spec_l1Cur_job, evA, evB, Int.reduceToNat, eq_self, reduceCtorEq, ↓reduceIte, Nat.reduceEqDiff, Nat.reduceAdd, Nat.reduceLT, Nat.reduceLeDiff, Nat.reduceMul, Nat.reduceSub, Nat.reduceBEq, impl_Job.cells, rz_impl_Job, pr_impl_Job, spec_l1Cur.cells, rz_spec_l1Cur, pr_spec_l1Cur, arr_2_int.cells, rz_arr_2_int, pr_arr_2_int, *]
    · exact outR_flat rfl
  · rw [if_neg h15] at hr
    have e14 : released_ = false := Bool.eq_false_iff.2 h15
    clear h15
    have hr_ := Option.some.inj hr; subst hr_
    refine ⟨.agg [.int .i64 r1.1, .int .i64 r5.1, .int .i64 0, .int .i64 r9.1], [(Blk.mk ng false 4 [[.int .i64 r1.1, .int .i64 r5.1, .int .i64 0, .int .i64 r9.1]]), (Blk.mk ng10 false 4 [[.int .i64 r1.1, .int .i64 r5.1, .int .i64 0, .int .i64 r9.1]])], (ng10 + 1), ?_, ?_⟩
    · simp only [c_spec_l1Cur_job, evA, evB, Int.reduceToNat, eq_self, reduceCtorEq, ↓reduceIte, Nat.reduceEqDiff, Nat.reduceAdd, Nat.reduceLT, Nat.reduceLeDiff, Nat.reduceMul, Nat.reduceSub, Nat.reduceBEq, impl_Job.cells, rz_impl_Job, pr_impl_Job, spec_l1Cur.cells, rz_spec_l1Cur, pr_spec_l1Cur, arr_2_int.cells, rz_arr_2_int, pr_arr_2_int, *]
    · exact outR_flat rfl

theorem st_spec_l1Cur_someJobs_l0 {cl : Callee} (K_spec_l1Cur_one : K_spec_l1Cur_one x_spec_l1Cur_one (cl n_spec_l1Cur_one)) (K_spec_l1Cur_pick : K_spec_l1Cur_pick x_spec_l1Cur_pick (cl n_spec_l1Cur_pick)) (K_spec_l1Cur_among : K_spec_l1Cur_among x_spec_l1Cur_among (cl n_spec_l1Cur_among)) (K_spec_l1Cur_spoiltJob : K_spec_l1Cur_spoiltJob x_spec_l1Cur_spoiltJob (cl n_spec_l1Cur_spoiltJob)) (K_spec_l1Cur_job : K_spec_l1Cur_job x_spec_l1Cur_job (cl n_spec_l1Cur_job)) (released_ : Bool) (most_ : Int) (H0 : List Blk) (id g : Nat) (hid : id < H0.length) (st_ : ((List impl_Job) × (List Int) × Int × Int × Int)) (c_ : Ctl ((List impl_Job) × (List Int) × Int × Int × Int) ((List impl_Job) × (List Int) × Int × Int)) (hr : x_spec_l1Cur_someJobs_l0 released_ most_ st_ = some c_) (T_ : Tm) (H_ : List Blk) (ng : Nat) (hR_ : R_spec_l1Cur_someJobs_l0 H0 id g released_ most_ st_ T_ H_) :
    ∃ e_ T1_ H1_ ng1_, gcode (shOf F) cl LL c_spec_l1Cur_someJobs_l0 ⟨maskT (some [0, 1, 2, 7, 8]) T_, H_, ng⟩ = some (e_, ⟨T1_, H1_, ng1_⟩) ∧ TurnOK (R_spec_l1Cur_someJobs_l0 H0 id g released_ most_) (Q_spec_l1Cur_someJobs_l0 H0 id g released_ most_) (H0.length + 2) c_ e_ T1_ H1_ := by
  obtain ⟨jobs_, k0, k1, k2, n_⟩ := st_
  obtain ⟨b0, g1, f0_, f1_, f2_, f3_, f4_, rfl⟩ := hR_
  unfold x_spec_l1Cur_someJobs_l0 at hr
  try dsimp only at hr
  have w1_ : ∀ b, (H0.set id b)[id]? = some b := fun b => hs_get b hid
  have w2_ : ∀ b B, (H0.set id b ++ B)[id]? = some b := fun b B => hs_getA b hid
  have w3_ : ∀ a b B, (H0.set id a ++ B).set id b = H0.set id b ++ B := fun a b B => hs_setA a b hid
  by_cases h5 : 0 < n_
  · rw [if_pos h5] at hr
    have e3 : (0 < n_) = True := eq_true h5
    clear h5
    by_cases h10 : ((jobs_.length : Nat) : Int) < most_
    · rw [if_pos h10] at hr
      have e8 : (((jobs_.length : Nat) : Int) < most_) = True := eq_true h10
      clear h10
      obtain ⟨r11, q14, hr⟩ := Option.bind_eq_some_iff.1 hr
      obtain ⟨ng12, e13⟩ : ∃ ng', gcall (shOf F) cl false n_spec_l1Cur_job [.ptr id g 0 0, .bool released_] (H0.set id (Blk.mk g false 3 [[.fs (k0.map (cI .u8)), .int .i64 k1, .int .u64 k2]]) ++ [b0, (Blk.mk g1 false 4 (jobs_.map impl_Job.cells))]) ng = some (.agg [.int .i64 r11.1.Time, .int .i64 r11.1.Weight, .int .i64 r11.1.Release, .int .i64 r11.1.Due], (H0.set id (Blk.mk g false 3 [[.fs (r11.2.code.map (cI .u8)), .int .i64 r11.2.at_, .int .u64 r11.2.seed]]) ++ [b0, (Blk.mk g1 false 4 (jobs_.map impl_Job.cells))]), ng', .all) := call_curA s_spec_l1Cur_job (K_spec_l1Cur_job _ _ _ q14) H0 [b0, (Blk.mk g1 false 4 (jobs_.map impl_Job.cells))] id g ng hid
      obtain ⟨l15, q23, hr⟩ := Option.bind_eq_some_iff.1 hr
      obtain ⟨e16, e17, e18, e19⟩ := app_some q23
      try simp only [List.length_cons, List.length_nil, Nat.zero_add, Nat.reduceAdd] at e16 e17 e19
      have e20 : (jobs_.map impl_Job.cells) ++ [[.int .i64 r11.1.Time, .int .i64 r11.1.Weight, .int .i64 r11.1.Release, .int .i64 r11.1.Due]] = l15.map impl_Job.cells := by rw [← e18, List.map_append] <;> rfl
      have e21 := e16
      have e22 := e17
      rw [e19] at e21 e22
      clear e18 q23
      have hr_ := Option.some.inj hr; subst hr_
      refine turn (by
        simp only [c_spec_l1Cur_someJobs_l0, evA, evB, Int.reduceToNat, eq_self, reduceCtorEq, ↓reduceIte, Nat.reduceEqDiff, Nat.reduceAdd, Nat.reduceLT, Nat.reduceLeDiff, Nat.reduceMul, Nat.reduceSub, Nat.reduceBEq, impl_Job.cells, rz_impl_Job, pr_impl_Job, spec_l1Cur.cells, rz_spec_l1Cur, pr_spec_l1Cur, arr_2_int.cells, rz_arr_2_int, pr_arr_2_int, *]
        rfl) ?_
      exact ⟨rfl, _, _, rfl, rfl, rfl, rfl, rfl, (by simp only [hs_takek, hs_take0, hs_take, List.take_succ_cons, List.take_zero, List.append_nil] <;> rfl)⟩
    · rw [if_neg h10] at hr
      have e9 : (((jobs_.length : Nat) : Int) < most_) = False := eq_false h10
      clear h10
      have hr_ := Option.some.inj hr; subst hr_
      refine turn (by
        simp only [c_spec_l1Cur_someJobs_l0, evA, evB, Int.reduceToNat, eq_self, reduceCtorEq, ↓reduceIte, Nat.reduceEqDiff, Nat.reduceAdd, Nat.reduceLT, Nat.reduceLeDiff, Nat.reduceMul, Nat.reduceSub, Nat.reduceBEq, impl_Job.cells, rz_impl_Job, pr_impl_Job, spec_l1Cur.cells, rz_spec_l1Cur, pr_spec_l1Cur, arr_2_int.cells, rz_arr_2_int, pr_arr_2_int, *]
        rfl) ?_
      exact ⟨by simp, rfl, _, _, rfl, rfl, rfl, rfl⟩
  · rw [if_neg h5] at hr
    have e4 : (0 < n_) = False := eq_false h5
    clear h5
    have hr_ := Option.some.inj hr; subst hr_
    refine turn (by
      simp only [c_spec_l1Cur_someJobs_l0, evA, evB, Int.reduceToNat, eq_self, reduceCtorEq, ↓reduceIte, Nat.reduceEqDiff, Nat.reduceAdd, Nat.reduceLT, Nat.reduceLeDiff, Nat.reduceMul, Nat.reduceSub, Nat.reduceBEq, impl_Job.cells, rz_impl_Job, pr_impl_Job, spec_l1Cur.cells, rz_spec_l1Cur, pr_spec_l1Cur, arr_2_int.cells, rz_arr_2_int, pr_arr_2_int, *]
      rfl) ?_
    exact ⟨by simp, rfl, _, _, rfl, rfl, rfl, rfl⟩

theorem lp_spec_l1Cur_someJobs_l0 {cl : Callee} (K_spec_l1Cur_one : K_spec_l1Cur_one x_spec_l1Cur_one (cl n_spec_l1Cur_one)) (K_spec_l1Cur_pick : K_spec_l1Cur_pick x_spec_l1Cur_pick (cl n_spec_l1Cur_pick)) (K_spec_l1Cur_among : K_spec_l1Cur_among x_spec_l1Cur_among (cl n_spec_l1Cur_among)) (K_spec_l1Cur_spoiltJob : K_spec_l1Cur_spoiltJob x_spec_l1Cur_spoiltJob (cl n_spec_l1Cur_spoiltJob)) (K_spec_l1Cur_job : K_spec_l1Cur_job x_spec_l1Cur_job (cl n_spec_l1Cur_job)) (released_ : Bool) (most_ : Int) (H0 : List Blk) (id g : Nat) (hid : id < H0.length) (st_ : ((List impl_Job) × (List Int) × Int × Int × Int)) (p_ : ((List impl_Job) × (List Int) × Int × Int)) (hr : loopS (x_spec_l1Cur_someJobs_l0 released_ most_) LL st_ = some p_) (T_ : Tm) (H_ : List Blk) (ng : Nat) (hR_ : R_spec_l1Cur_someJobs_l0 H0 id g released_ most_ st_ T_ H_) (hn_ : H_.length = (H0.length + 2)) :
    ∃ e_ T1_ H1_ ng1_, gcode (shOf F) cl LL (.loop false (some [0, 1, 2, 7, 8]) c_spec_l1Cur_someJobs_l0) ⟨T_, H_, ng⟩ = some (e_, ⟨T1_, H1_, ng1_⟩) ∧ Q_spec_l1Cur_someJobs_l0 H0 id g released_ most_ p_ e_ T1_ H1_ :=
  sim_loop (n0 := (H0.length + 2)) (R_spec_l1Cur_someJobs_l0 H0 id g released_ most_) (Q_spec_l1Cur_someJobs_l0 H0 id g released_ most_) (st_spec_l1Cur_someJobs_l0 K_spec_l1Cur_one K_spec_l1Cur_pick K_spec_l1Cur_among K_spec_l1Cur_spoiltJob K_spec_l1Cur_job released_ most_ H0 id g hid) st_ p_ hr T_ H_ ng hR_ hn_

theorem st_spec_l1Cur_someJobs_l1 {cl : Callee} (K_spec_l1Cur_one : K_spec_l1Cur_one x_spec_l1Cur_one (cl n_spec_l1Cur_one)) (K_spec_l1Cur_pick : K_spec_l1Cur_pick x_spec_l1Cur_pick (cl n_spec_l1Cur_pick)) (K_spec_l1Cur_among : K_spec_l1Cur_among x_spec_l1Cur_among (cl n_spec_l1Cur_among)) (K_spec_l1Cur_spoiltJob : K_spec_l1Cur_spoiltJob x_spec_l1Cur_spoiltJob (cl n_spec_l1Cur_spoiltJob)) (K_spec_l1Cur_job : K_spec_l1Cur_job x_spec_l1Cur_job (cl n_spec_l1Cur_job)) (released_ : Bool) (H0 : List Blk) (id g : Nat) (hid : id < H0.length) (st_ : ((List impl_Job) × (List Int) × Int × Int)) (c_ : Ctl ((List impl_Job) × (List Int) × Int × Int) ((List impl_Job) × (List Int) × Int × Int)) (hr : x_spec_l1Cur_someJobs_l1 released_ st_ = some c_) (T_ : Tm) (H_ : List Blk) (ng : Nat) (hR_ : R_spec_l1Cur_someJobs_l1 H0 id g released_ st_ T_ H_) :
    ∃ e_ T1_ H1_ ng1_, gcode (shOf F) cl LL c_spec_l1Cur_someJobs_l1 ⟨maskT (some [0, 1, 7]) T_, H_, ng⟩ = some (e_, ⟨T1_, H1_, ng1_⟩) ∧ TurnOK (R_spec_l1Cur_someJobs_l1 H0 id g released_) (Q_spec_l1Cur_someJobs_l1 H0 id g released_) (H0.length + 2) c_ e_ T1_ H1_ := by
  obtain ⟨jobs_, k0, k1, k2⟩ := st_
  obtain ⟨b0, g1, f0_, f1_, f2_, rfl⟩ := hR_
  unfold x_spec_l1Cur_someJobs_l1 at hr
  try dsimp only at hr
  have w1_ : ∀ b, (H0.set id b)[id]? = some b := fun b => hs_get b hid
  have w2_ : ∀ b B, (H0.set id b ++ B)[id]? = some b := fun b B => hs_getA b hid
  have w3_ : ∀ a b B, (H0.set id a ++ B).set id b = H0.set id b ++ B := fun a b B => hs_setA a b hid
  by_cases h5 : ((jobs_.length : Nat) : Int) < 9
  · rw [if_pos h5] at hr
    have e3 : (((jobs_.length : Nat) : Int) < 9) = True := eq_true h5
    clear h5
    obtain ⟨r6, q9, hr⟩ := Option.bind_eq_some_iff.1 hr
    obtain ⟨ng7, e8⟩ : ∃ ng', gcall (shOf F) cl false n_spec_l1Cur_job [.ptr id g 0 0, .bool released_] (H0.set id (Blk.mk g false 3 [[.fs (k0.map (cI .u8)), .int .i64 k1, .int .u64 k2]]) ++ [b0, (Blk.mk g1 false 4 (jobs_.map impl_Job.cells))]) ng = some (.agg [.int .i64 r6.1.Time, .int .i64 r6.1.Weight, .int .i64 r6.1.Release, .int .i64 r6.1.Due], (H0.set id (Blk.mk g false 3 [[.fs (r6.2.code.map (cI .u8)), .int .i64 r6.2.at_, .int .u64 r6.2.seed]]) ++ [b0, (Blk.mk g1 false 4 (jobs_.map impl_Job.cells))]), ng', .all) := call_curA s_spec_l1Cur_job (K_spec_l1Cur_job _ _ _ q9) H0 [b0, (Blk.mk g1 false 4 (jobs_.map impl_Job.cells))] id g ng hid
    obtain ⟨l10, q18, hr⟩ := Option.bind_eq_some_iff.1 hr
    obtain ⟨e11, e12, e13, e14⟩ := app_some q18
    try simp only [List.length_cons, List.length_nil, Nat.zero_add, Nat.reduceAdd] at e11 e12 e14
    have e15 : (jobs_.map impl_Job.cells) ++ [[.int .i64 r6.1.Time, .int .i64 r6.1.Weight, .int .i64 r6.1.Release, .int .i64 r6.1.Due]] = l10.map impl_Job.cells := by rw [← e13, List.map_append] <;> rfl
    have e16 := e11
    have e17 := e12
    rw [e14] at e16 e17
    clear e13 q18
    have hr_ := Option.some.inj hr; subst hr_
    refine turn (by
      simp only [c_spec_l1Cur_someJobs_l1, evA, evB, Int.reduceToNat, eq_self, reduceCtorEq, ↓reduceIte, Nat.reduceEqDiff, Nat.reduceAdd, Nat.reduceLT, Nat.reduceLeDiff, Nat.reduceMul, Nat.reduceSub, Nat.reduceBEq, impl_Job.cells, rz_impl_Job, pr_impl_Job, spec_l1Cur.cells, rz_spec_l1Cur, pr_spec_l1Cur, arr_2_int.cells, rz_arr_2_int, pr_arr_2_int, *]
      rfl) ?_
    exact ⟨rfl, _, _, rfl, rfl, rfl, (by simp only [hs_takek, hs_take0, hs_take, List.take_succ_cons, List.take_zero, List.append_nil] <;> rfl)⟩
  · rw [if_neg h5] at hr
    have e4 : (((jobs_.length : Nat) : Int) < 9) = False := eq_false h5
    clear h5
    have hr_ := Option.some.inj hr; subst hr_
    refine turn (by
      simp only [c_spec_l1Cur_someJobs_l1, evA, evB, Int.reduceToNat, eq_self, reduceCtorEq, ↓reduceIte, Nat.reduceEqDiff, Nat.reduceAdd, Nat.reduceLT, Nat.reduceLeDiff, Nat.reduceMul, Nat.reduceSub, Nat.reduceBEq, impl_Job.cells, rz_impl_Job, pr_impl_Job, spec_l1Cur.cells, rz_spec_l1Cur, pr_spec_l1Cur, arr_2_int.cells, rz_arr_2_int, pr_arr_2_int, *]
      rfl) ?_
    exact ⟨by simp, rfl, _, _, rfl, rfl⟩

theorem lp_spec_l1Cur_someJobs_l1 {cl : Callee} (K_spec_l1Cur_one : K_spec_l1Cur_one x_spec_l1Cur_one (cl n_spec_l1Cur_one)) (K_spec_l1Cur_pick : K_spec_l1Cur_pick x_spec_l1Cur_pick (cl n_spec_l1Cur_pick)) (K_spec_l1Cur_among : K_spec_l1Cur_among x_spec_l1Cur_among (cl n_spec_l1Cur_among)) (K_spec_l1Cur_spoiltJob : K_spec_l1Cur_spoiltJob x_spec_l1Cur_spoiltJob (cl n_spec_l1Cur_spoiltJob)) (K_spec_l1Cur_job : K_spec_l1Cur_job x_spec_l1Cur_job (cl n_spec_l1Cur_job)) (released_ : Bool) (H0 : List Blk) (id g : Nat) (hid : id < H0.length) (st_ : ((List impl_Job) × (List Int) × Int × Int)) (p_ : ((List impl_Job) × (List Int) × Int × Int)) (hr : loopS (x_spec_l1Cur_someJobs_l1 released_) LL st_ = some p_) (T_ : Tm) (H_ : List Blk) (ng : Nat) (hR_ : R_spec_l1Cur_someJobs_l1 H0 id g released_ st_ T_ H_) (hn_ : H_.length = (H0.length + 2)) :
    ∃ e_ T1_ H1_ ng1_, gcode (shOf F) cl LL (.loop false (some [0, 1, 7]) c_spec_l1Cur_someJobs_l1) ⟨T_, H_, ng⟩ = some (e_, ⟨T1_, H1_, ng1_⟩) ∧ Q_spec_l1Cur_someJobs_l1 H0 id g released_ p_ e_ T1_ H1_ :=
  sim_loop (n0 := (H0.length + 2)) (R_spec_l1Cur_someJobs_l1 H0 id g released_) (Q_spec_l1Cur_someJobs_l1 H0 id g released_) (st_spec_l1Cur_someJobs_l1 K_spec_l1Cur_one K_spec_l1Cur_pick K_spec_l1Cur_among K_spec_l1Cur_spoiltJob K_spec_l1Cur_job released_ H0 id g hid) st_ p_ hr T_ H_ ng hR_ hn_

theorem ok_spec_l1Cur_someJobs {cl : Callee} (K_spec_l1Cur_one : K_spec_l1Cur_one x_spec_l1Cur_one (cl n_spec_l1Cur_one)) (K_spec_l1Cur_pick : K_spec_l1Cur_pick x_spec_l1Cur_pick (cl n_spec_l1Cur_pick)) (K_spec_l1Cur_among : K_spec_l1Cur_among x_spec_l1Cur_among (cl n_spec_l1Cur_among)) (K_spec_l1Cur_spoiltJob : K_spec_l1Cur_spoiltJob x_spec_l1Cur_spoiltJob (cl n_spec_l1Cur_spoiltJob)) (K_spec_l1Cur_job : K_spec_l1Cur_job x_spec_l1Cur_job (cl n_spec_l1Cur_job)) : K_spec_l1Cur_someJobs (x_spec_l1Cur_someJobs) (gbody F LL cl c_spec_l1Cur_someJobs) := by
  intro c_ released_ most_ r hr
  intro H0 id g ng hid
  have w1_ : ∀ b, (H0.set id b)[id]? = some b := fun b => hs_get b hid
  have w2_ : ∀ b B, (H0.set id b ++ B)[id]? = some b := fun b B => hs_getA b hid
  have w3_ : ∀ a b B, (H0.set id a ++ B).set id b = H0.set id b ++ B := fun a b B => hs_setA a b hid
  unfold x_spec_l1Cur_someJobs at hr
  try dsimp only at hr
  obtain ⟨r1, q4, hr⟩ := Option.bind_eq_some_iff.1 hr
  obtain ⟨ng2, e3⟩ : ∃ ng', gcall (shOf F) cl false n_spec_l1Cur_among [.ptr id g 0 0, .fs [[.int .i64 3], [.int .i64 4], [.int .i64 5], [.int .i64 2], [.int .i64 6], [.int .i64 1], [.int .i64 0]]] (H0.set id (Blk.mk g false 3 [[.fs (c_.code.map (cI .u8)), .int .i64 c_.at_, .int .u64 c_.seed]]) ++ [(Blk.mk ng false 4 []), (Blk.mk (ng + 1) false 4 [])]) ((ng + 1) + 1) = some (.int .i64 r1.1, (H0.set id (Blk.mk g false 3 [[.fs (r1.2.code.map (cI .u8)), .int .i64 r1.2.at_, .int .u64 r1.2.seed]]) ++ [(Blk.mk ng false 4 []), (Blk.mk (ng + 1) false 4 [])]), ng', .all) := call_curA s_spec_l1Cur_among (K_spec_l1Cur_among _ _ _ q4) H0 [(Blk.mk ng false 4 []), (Blk.mk (ng + 1) false 4 [])] id g ((ng + 1) + 1) hid
  by_cases h9 : 6 < most_
  · rw [if_pos h9] at hr
    have e7 : (6 < most_) = True := eq_true h9
    clear h9
    obtain ⟨r10, q13, hr⟩ := Option.bind_eq_some_iff.1 hr
    obtain ⟨ng11, e12⟩ : ∃ ng', gcall (shOf F) cl false n_spec_l1Cur_one [.ptr id g 0 0, .int .i64 6] (H0.set id (Blk.mk g false 3 [[.fs (r1.2.code.map (cI .u8)), .int .i64 r1.2.at_, .int .u64 r1.2.seed]]) ++ [(Blk.mk ng false 4 []), (Blk.mk (ng + 1) false 4 [])]) ng2 = some (.bool r10.1, (H0.set id (Blk.mk g false 3 [[.fs (r10.2.code.map (cI .u8)), .int .i64 r10.2.at_, .int .u64 r10.2.seed]]) ++ [(Blk.mk ng false 4 []), (Blk.mk (ng + 1) false 4 [])]), ng', .all) := call_curA s_spec_l1Cur_one (K_spec_l1Cur_one _ _ _ q13) H0 [(Blk.mk ng false 4 []), (Blk.mk (ng + 1) false 4 [])] id g ng2 hid
    by_cases h16 : r10.1 = true
    · rw [if_pos h16] at hr
      have e14 : r10.1 = true := h16
      clear h16
      obtain ⟨r17, q20, hr⟩ := Option.bind_eq_some_iff.1 hr
      obtain ⟨ng18, e19⟩ : ∃ ng', gcall (shOf F) cl false n_spec_l1Cur_pick [.ptr id g 0 0, .int .i64 2] (H0.set id (Blk.mk g false 3 [[.fs (r10.2.code.map (cI .u8)), .int .i64 r10.2.at_, .int .u64 r10.2.seed]]) ++ [(Blk.mk ng false 4 []), (Blk.mk (ng + 1) false 4 [])]) ng11 = some (.int .i64 r17.1, (H0.set id (Blk.mk g false 3 [[.fs (r17.2.code.map (cI .u8)), .int .i64 r17.2.at_, .int .u64 r17.2.seed]]) ++ [(Blk.mk ng false 4 []), (Blk.mk (ng + 1) false 4 [])]), ng', .all) := call_curA s_spec_l1Cur_pick (K_spec_l1Cur_pick _ _ _ q20) H0 [(Blk.mk ng false 4 []), (Blk.mk (ng + 1) false 4 [])] id g ng11 hid
      obtain ⟨p21, q122, hr⟩ := Option.bind_eq_some_iff.1 hr
      obtain ⟨ex27, T24, H25, ng26, l23, m22⟩ := lp_spec_l1Cur_someJobs_l0 (cl := cl) K_spec_l1Cur_one K_spec_l1Cur_pick K_spec_l1Cur_among K_spec_l1Cur_spoiltJob K_spec_l1Cur_job  released_ most_ H0 id g hid _ _ q122 [(0, .ptr id g 0 0), (1, .bool released_), (2, .int .i64 most_), (7, .os (H0.length + 1) (ng + 1) 4 0 0), (8, .int .i64 (addK .i64 7 r17.1))] (H0.set id (Blk.mk g false 3 [[.fs (r17.2.code.map (cI .u8)), .int .i64 r17.2.at_, .int .u64 r17.2.seed]]) ++ [(Blk.mk ng false 4 []), (Blk.mk (ng + 1) false 4 [])]) ng18 (show R_spec_l1Cur_someJobs_l0 H0 id g released_ most_ (([] : List impl_Job), r17.2.code, r17.2.at_, r17.2.seed, (addK .i64 7 r17.1)) [(0, .ptr id g 0 0), (1, .bool released_), (2, .int .i64 most_), (7, .os (H0.length + 1) (ng + 1) 4 0 0), (8, .int .i64 (addK .i64 7 r17.1))] (H0.set id (Blk.mk g false 3 [[.fs (r17.2.code.map (cI .u8)), .int .i64 r17.2.at_, .int .u64 r17.2.seed]]) ++ [(Blk.mk ng false 4 []), (Blk.mk (ng + 1) false 4 [])]) from ⟨_, _, rfl, rfl, rfl, rfl, rfl, rfl⟩) (by simp)
      obtain ⟨rfl, b28, g29, e30, e31, e32, e33⟩ := m22
      subst e33
      by_cases h38 : 0 < ((p21.1.length : Nat) : Int)
      · rw [if_pos h38] at hr
        have e36 : (0 < ((p21.1.length : Nat) : Int)) = True := eq_true h38
        clear h38
        obtain ⟨r39, q42, hr⟩ := Option.bind_eq_some_iff.1 hr
        obtain ⟨ng40, e41⟩ : ∃ ng', gcall (shOf F) cl false n_spec_l1Cur_one [.ptr id g 0 0, .int .i64 20] (H0.set id (Blk.mk g false 3 [[.fs (p21.2.1.map (cI .u8)), .int .i64 p21.2.2.1, .int .u64 p21.2.2.2]]) ++ [b28, (Blk.mk g29 false 4 (p21.1.map impl_Job.cells))]) ng26 = some (.bool r39.1, (H0.set id (Blk.mk g false 3 [[.fs (r39.2.code.map (cI .u8)), .int .i64 r39.2.at_, .int .u64 r39.2.seed]]) ++ [b28, (Blk.mk g29 false 4 (p21.1.map impl_Job.cells))]), ng', .all) := call_curA s_spec_l1Cur_one (K_spec_l1Cur_one _ _ _ q42) H0 [b28, (Blk.mk g29 false 4 (p21.1.map impl_Job.cells))] id g ng26 hid
        by_cases h45 : r39.1 = true
        · rw [if_pos h45] at hr
          have e43 : r39.1 = true := h45
          clear h45
          obtain ⟨r46, q49, hr⟩ := Option.bind_eq_some_iff.1 hr
          obtain ⟨ng47, e48⟩ : ∃ ng', gcall (shOf F) cl false n_spec_l1Cur_pick [.ptr id g 0 0, .int .i64 ((p21.1.length : Nat) : Int)] (H0.set id (Blk.mk g false 3 [[.fs (r39.2.code.map (cI .u8)), .int .i64 r39.2.at_, .int .u64 r39.2.seed]]) ++ [b28, (Blk.mk g29 false 4 (p21.1.map impl_Job.cells))]) ng40 = some (.int .i64 r46.1, (H0.set id (Blk.mk g false 3 [[.fs (r46.2.code.map (cI .u8)), .int .i64 r46.2.at_, .int .u64 r46.2.seed]]) ++ [b28, (Blk.mk g29 false 4 (p21.1.map impl_Job.cells))]), ng', .all) := call_curA s_spec_l1Cur_pick (K_spec_l1Cur_pick _ _ _ q49) H0 [b28, (Blk.mk g29 false 4 (p21.1.map impl_Job.cells))] id g ng40 hid
          obtain ⟨y50, q54, hr⟩ := Option.bind_eq_some_iff.1 hr
          obtain ⟨e51, e52, e53⟩ := ix_some q54
          try simp only [Int.toNat_natCast, Int.toNat_zero, Int.reduceToNat] at e52
          clear q54
          obtain ⟨r55, q58, hr⟩ := Option.bind_eq_some_iff.1 hr
          obtain ⟨ng56, e57⟩ : ∃ ng', gcall (shOf F) cl false n_spec_l1Cur_spoiltJob [.ptr id g 0 0, .agg [.int .i64 y50.Time, .int .i64 y50.Weight, .int .i64 y50.Release, .int .i64 y50.Due]] (H0.set id (Blk.mk g false 3 [[.fs (r46.2.code.map (cI .u8)), .int .i64 r46.2.at_, .int .u64 r46.2.seed]]) ++ [b28, (Blk.mk g29 false 4 (p21.1.map impl_Job.cells))]) ng47 = some (.agg [.int .i64 r55.1.Time, .int .i64 r55.1.Weight, .int .i64 r55.1.Release, .int .i64 r55.1.Due], (H0.set id (Blk.mk g false 3 [[.fs (r55.2.code.map (cI .u8)), .int .i64 r55.2.at_, .int .u64 r55.2.seed]]) ++ [b28, (Blk.mk g29 false 4 (p21.1.map impl_Job.cells))]), ng', .all) := call_curA s_spec_l1Cur_spoiltJob (K_spec_l1Cur_spoiltJob _ _ _ q58) H0 [b28, (Blk.mk g29 false 4 (p21.1.map impl_Job.cells))] id g ng47 hid
          obtain ⟨l59, q64, hr⟩ := Option.bind_eq_some_iff.1 hr
          obtain ⟨_, _, e60, e61, _⟩ := put_some q64
          try simp only [Int.toNat_natCast, Int.toNat_zero, Int.reduceToNat] at e60
          have e62 : (p21.1.map impl_Job.cells).set (Int.toNat r46.1) [.int .i64 r55.1.Time, .int .i64 r55.1.Weight, .int .i64 r55.1.Release, .int .i64 r55.1.Due] = l59.map impl_Job.cells := by rw [← e60, List.map_set] <;> rfl
          replace e61 : Keep (p21.1.length = l59.length) := e61
          clear e60 q64
          obtain ⟨r65, q68, hr⟩ := Option.bind_eq_some_iff.1 hr
          obtain ⟨ng66, e67⟩ : ∃ ng', gcall (shOf F) cl false n_spec_l1Cur_one [.ptr id g 0 0, .int .i64 60] (H0.set id (Blk.mk g false 3 [[.fs (r55.2.code.map (cI .u8)), .int .i64 r55.2.at_, .int .u64 r55.2.seed]]) ++ [b28, (Blk.mk g29 false 4 (l59.map impl_Job.cells))]) ng56 = some (.bool r65.1, (H0.set id (Blk.mk g false 3 [[.fs (r65.2.code.map (cI .u8)), .int .i64 r65.2.at_, .int .u64 r65.2.seed]]) ++ [b28, (Blk.mk g29 false 4 (l59.map impl_Job.cells))]), ng', .all) := call_curA s_spec_l1Cur_one (K_spec_l1Cur_one _ _ _ q68) H0 [b28, (Blk.mk g29 false 4 (l59.map impl_Job.cells))] id g ng56 hid
          by_cases h71 : r65.1 = true
          · rw [if_pos h71] at hr
            have e69 : r65.1 = true := h71
            clear h71
            obtain ⟨p72, q83, hr⟩ := Option.bind_eq_some_iff.1 hr
            obtain ⟨ex78, T75, H76, ng77, l74, m73⟩ := lp_spec_l1Cur_someJobs_l1 (cl := cl) K_spec_l1Cur_one K_spec_l1Cur_pick K_spec_l1Cur_among K_spec_l1Cur_spoiltJob K_spec_l1Cur_job  released_ H0 id g hid _ _ q83 [(0, .ptr id g 0 0), (1, .bool released_), (7, .os (H0.length + 1) g29 4 0 p21.1.length), (60, .bool true)] (H0.set id (Blk.mk g false 3 [[.fs (r65.2.code.map (cI .u8)), .int .i64 r65.2.at_, .int .u64 r65.2.seed]]) ++ [b28, (Blk.mk g29 false 4 (l59.map impl_Job.cells))]) ng66 (show R_spec_l1Cur_someJobs_l1 H0 id g released_ (l59, r65.2.code, r65.2.at_, r65.2.seed) [(0, .ptr id g 0 0), (1, .bool released_), (7, .os (H0.length + 1) g29 4 0 p21.1.length), (60, .bool true)] (H0.set id (Blk.mk g false 3 [[.fs (r65.2.code.map (cI .u8)), .int .i64 r65.2.at_, .int .u64 r65.2.seed]]) ++ [b28, (Blk.mk g29 false 4 (l59.map impl_Job.cells))]) from ⟨_, _, rfl, rfl, (congrArg (fun n_ => V.os (H0.length + 1) g29 4 0 n_) e61), rfl⟩) (by simp)
            obtain ⟨rfl, b79, g80, e81, e82⟩ := m73
            subst e82
            have hr_ := Option.some.inj hr; subst hr_
            refine ⟨(H0.length + 1), g80, [b79, (Blk.mk g80 false 4 (p72.1.map impl_Job.cells))], ng77, ?_, ?_, ?_, sc_impl_Job _⟩
            · simp only [c_spec_l1Cur_someJobs, evA, evB, Int.reduceToNat, eq_self, reduceCtorEq, ↓reduceIte, Nat.reduceEqDiff, Nat.reduceAdd, Nat.reduceLT, Nat.reduceLeDiff, Nat.reduceMul, Nat.reduceSub, Nat.reduceBEq, impl_Job.cells, rz_impl_Job, pr_impl_Job, spec_l1Cur.cells, rz_spec_l1Cur, pr_spec_l1Cur, arr_2_int.cells, rz_arr_2_int, pr_arr_2_int, *]
            · simp [hget, hp, hs_own0, hs_ownk]
            · omega
          · rw [if_neg h71] at hr
            have e70 : r65.1 = false := Bool.eq_false_iff.2 h71
            clear h71
            have hr_ := Option.some.inj hr; subst hr_
            refine ⟨(H0.length + 1), g29, [b28, (Blk.mk g29 false 4 (l59.map impl_Job.cells))], ng66, ?_, ?_, ?_, sc_impl_Job _⟩
            · rw [List.length_map, ← show p21.1.length = _ from e61]; simp only [c_spec_l1Cur_someJobs, evA, evB, Int.reduceToNat, eq_self, reduceCtorEq, ↓reduceIte, Nat.reduceEqDiff, Nat.reduceAdd, Nat.reduceLT, Nat.reduceLeDiff, Nat.reduceMul, Nat.reduceSub, Nat.reduceBEq, impl_Job.cells, rz_impl_Job, pr_impl_Job, spec_l1Cur.cells, rz_spec_l1Cur, pr_spec_l1Cur, arr_2_int.cells, rz_arr_2_int, pr_arr_2_int, *]
            · simp [hget, hp, hs_own0, hs_ownk]
            · omega
        · rw [if_neg h45] at hr
          have e44 : r39.1 = false := Bool.eq_false_iff.2 h45
          clear h45
          obtain ⟨r84, q87, hr⟩ := Option.bind_eq_some_iff.1 hr
          obtain ⟨ng85, e86⟩ : ∃ ng', gcall (shOf F) cl false n_spec_l1Cur_one [.ptr id g 0 0, .int .i64 60] (H0.set id (Blk.mk g false 3 [[.fs (r39.2.code.map (cI .u8)), .int .i64 r39.2.at_, .int .u64 r39.2.seed]]) ++ [b28, (Blk.mk g29 false 4 (p21.1.map impl_Job.cells))]) ng40 = some (.bool r84.1, (H0.set id (Blk.mk g false 3 [[.fs (r84.2.code.map (cI .u8)), .int .i64 r84.2.at_, .int .u64 r84.2.seed]]) ++ [b28, (Blk.mk g29 false 4 (p21.1.map impl_Job.cells))]), ng', .all) := call_curA s_spec_l1Cur_one (K_spec_l1Cur_one _ _ _ q87) H0 [b28, (Blk.mk g29 false 4 (p21.1.map impl_Job.cells))] id g ng40 hid
          by_cases h90 : r84.1 = true
          · rw [if_pos h90] at hr
            have e88 : r84.1 = true := h90
            clear h90
            obtain ⟨p91, q102, hr⟩ := Option.bind_eq_some_iff.1 hr
            obtain ⟨ex97, T94, H95, ng96, l93, m92⟩ := lp_spec_l1Cur_someJobs_l1 (cl := cl) K_spec_l1Cur_one K_spec_l1Cur_pick K_spec_l1Cur_among K_spec_l1Cur_spoiltJob K_spec_l1Cur_job  released_ H0 id g hid _ _ q102 [(0, .ptr id g 0 0), (1, .bool released_), (7, .os (H0.length + 1) g29 4 0 p21.1.length), (60, .bool true)] (H0.set id (Blk.mk g false 3 [[.fs (r84.2.code.map (cI .u8)), .int .i64 r84.2.at_, .int .u64 r84.2.seed]]) ++ [b28, (Blk.mk g29 false 4 (p21.1.map impl_Job.cells))]) ng85 (show R_spec_l1Cur_someJobs_l1 H0 id g released_ (p21.1, r84.2.code, r84.2.at_, r84.2.seed) [(0, .ptr id g 0 0), (1, .bool released_), (7, .os (H0.length + 1) g29 4 0 p21.1.length), (60, .bool true)] (H0.set id (Blk.mk g false 3 [[.fs (r84.2.code.map (cI .u8)), .int .i64 r84.2.at_, .int .u64 r84.2.seed]]) ++ [b28, (Blk.mk g29 false 4 (p21.1.map impl_Job.cells))]) from ⟨_, _, rfl, rfl, rfl, rfl⟩) (by simp)
            obtain ⟨rfl, b98, g99, e100, e101⟩ := m92
            subst e101
            have hr_ := Option.some.inj hr; subst hr_
            refine ⟨(H0.length + 1), g99, [b98, (Blk.mk g99 false 4 (p91.1.map impl_Job.cells))], ng96, ?_, ?_, ?_, sc_impl_Job _⟩
            · simp only [c_spec_l1Cur_someJobs, evA, evB, Int.reduceToNat, eq_self, reduceCtorEq, ↓reduceIte, Nat.reduceEqDiff, Nat.reduceAdd, Nat.reduceLT, Nat.reduceLeDiff, Nat.reduceMul, Nat.reduceSub, Nat.reduceBEq, impl_Job.cells, rz_impl_Job, pr_impl_Job, spec_l1Cur.cells, rz_spec_l1Cur, pr_spec_l1Cur, arr_2_int.cells, rz_arr_2_int, pr_arr_2_int, *]
            · simp [hget, hp, hs_own0, hs_ownk]
            · omega
          · rw [if_neg h90] at hr
            have e89 : r84.1 = false := Bool.eq_false_iff.2 h90
            clear h90
            have hr_ := Option.some.inj hr; subst hr_
            refine ⟨(H0.length + 1), g29, [b28, (Blk.mk g29 false 4 (p21.1.map impl_Job.cells))], ng85, ?_, ?_, ?_, sc_impl_Job _⟩
            · simp only [c_spec_l1Cur_someJobs, evA, evB, Int.reduceToNat, eq_self, reduceCtorEq, ↓reduceIte, Nat.reduceEqDiff, Nat.reduceAdd, Nat.reduceLT, Nat.reduceLeDiff, Nat.reduceMul, Nat.reduceSub, Nat.reduceBEq, impl_Job.cells, rz_impl_Job, pr_impl_Job, spec_l1Cur.cells, rz_spec_l1Cur, pr_spec_l1Cur, arr_2_int.cells, rz_arr_2_int, pr_arr_2_int, *]
            · simp [hget, hp, hs_own0, hs_ownk]
            · omega
      · rw [if_neg h38] at hr
        have e37 : (0 < ((p21.1.length : Nat) : Int)) = False := eq_false h38
        clear h38
        obtain ⟨r103, q106, hr⟩ := Option.bind_eq_some_iff.1 hr
        obtain ⟨ng104, e105⟩ : ∃ ng', gcall (shOf F) cl false n_spec_l1Cur_one [.ptr id g 0 0, .int .i64 60] (H0.set id (Blk.mk g false 3 [[.fs (p21.2.1.map (cI .u8)), .int .i64 p21.2.2.1, .int .u64 p21.2.2.2]]) ++ [b28, (Blk.mk g29 false 4 (p21.1.map impl_Job.cells))]) ng26 = some (.bool r103.1, (H0.set id (Blk.mk g false 3 [[.fs (r103.2.code.map (cI .u8)), .int .i64 r103.2.at_, .int .u64 r103.2.seed]]) ++ [b28, (Blk.mk g29 false 4 (p21.1.map impl_Job.cells))]), ng', .all) := call_curA s_spec_l1Cur_one (K_spec_l1Cur_one _ _ _ q106) H0 [b28, (Blk.mk g29 false 4 (p21.1.map impl_Job.cells))] id g ng26 hid
        by_cases h109 : r103.1 = true
        · rw [if_pos h109] at hr
          have e107 : r103.1 = true := h109
          clear h109
          obtain ⟨p110, q121, hr⟩ := Option.bind_eq_some_iff.1 hr
          obtain ⟨ex116, T113, H114, ng115, l112, m111⟩ := lp_spec_l1Cur_someJobs_l1 (cl := cl) K_spec_l1Cur_one K_spec_l1Cur_pick K_spec_l1Cur_among K_spec_l1Cur_spoiltJob K_spec_l1Cur_job  released_ H0 id g hid _ _ q121 [(0, .ptr id g 0 0), (1, .bool released_), (7, .os (H0.length + 1) g29 4 0 p21.1.length), (60, .bool true)] (H0.set id (Blk.mk g false 3 [[.fs (r103.2.code.map (cI .u8)), .int .i64 r103.2.at_, .int .u64 r103.2.seed]]) ++ [b28, (Blk.mk g29 false 4 (p21.1.map impl_Job.cells))]) ng104 (show R_spec_l1Cur_someJobs_l1 H0 id g released_ (p21.1, r103.2.code, r103.2.at_, r103.2.seed) [(0, .ptr id g 0 0), (1, .bool released_), (7, .os (H0.length + 1) g29 4 0 p21.1.length), (60, .bool true)] (H0.set id (Blk.mk g false 3 [[.fs (r103.2.code.map (cI .u8)), .int .i64 r103.2.at_, .int .u64 r103.2.seed]]) ++ [b28, (Blk.mk g29 false 4 (p21.1.map impl_Job.cells))]) from ⟨_, _, rfl, rfl, rfl, rfl⟩) (by simp)
          obtain ⟨rfl, b117, g118, e119, e120⟩ := m111
          subst e120
          have hr_ := Option.some.inj hr; subst hr_
          refine ⟨(H0.length + 1), g118, [b117, (Blk.mk g118 false 4 (p110.1.map impl_Job.cells))], ng115, ?_, ?_, ?_, sc_impl_Job _⟩
          · simp only [c_spec_l1Cur_someJobs, evA, evB, Int.reduceToNat, eq_self, reduceCtorEq, ↓reduceIte, Nat.reduceEqDiff, Nat.reduceAdd, Nat.reduceLT, Nat.reduceLeDiff, Nat.reduceMul, Nat.reduceSub, Nat.reduceBEq, impl_Job.cells, rz_impl_Job, pr_impl_Job, spec_l1Cur.cells, rz_spec_l1Cur, pr_spec_l1Cur, arr_2_int.cells, rz_arr_2_int, pr_arr_2_int, *]
          · simp [hget, hp, hs_own0, hs_ownk]
          · omega
        · rw [if_neg h109] at hr
          have e108 : r103.1 = false := Bool.eq_false_iff.2 h109
          clear h109
          have hr_ := Option.some.inj hr; subst hr_
          refine ⟨(H0.length + 1), g29, [b28, (Blk.mk g29 false 4 (p21.1.map impl_Job.cells))], ng104, ?_, ?_, ?_, sc_impl_Job _⟩
          · simp only [c_spec_l1Cur_someJobs, evA, evB, Int.reduceToNat, eq_self, reduceCtorEq, ↓reduceIte, Nat.reduceEqDiff, Nat.reduceAdd, Nat.reduceLT, Nat.reduceLeDiff, Nat.reduceMul, Nat.reduceSub, Nat.reduceBEq, impl_Job.cells, rz_impl_Job, pr_impl_Job, spec_l1Cur.cells, rz_spec_l1Cur, pr_spec_l1Cur, arr_2_int.cells, rz_arr_2_int, pr_arr_2_int, *]
          · simp [hget, hp, hs_own0, hs_ownk]
          · omega
    · rw [if_neg h16] at hr
      have e15 : r10.1 = false := Bool.eq_false_iff.2 h16
      clear h16
      obtain ⟨p123, q224, hr⟩ := Option.bind_eq_some_iff.1 hr
      obtain ⟨ex129, T126, H127, ng128, l125, m124⟩ := lp_spec_l1Cur_someJobs_l0 (cl := cl) K_spec_l1Cur_one K_spec_l1Cur_pick K_spec_l1Cur_among K_spec_l1Cur_spoiltJob K_spec_l1Cur_job  released_ most_ H0 id g hid _ _ q224 [(0, .ptr id g 0 0), (1, .bool released_), (2, .int .i64 most_), (7, .os (H0.length + 1) (ng + 1) 4 0 0), (8, .int .i64 r1.1), (19, .bool false)] (H0.set id (Blk.mk g false 3 [[.fs (r10.2.code.map (cI .u8)), .int .i64 r10.2.at_, .int .u64 r10.2.seed]]) ++ [(Blk.mk ng false 4 []), (Blk.mk (ng + 1) false 4 [])]) ng11 (show R_spec_l1Cur_someJobs_l0 H0 id g released_ most_ (([] : List impl_Job), r10.2.code, r10.2.at_, r10.2.seed, r1.1) [(0, .ptr id g 0 0), (1, .bool released_), (2, .int .i64 most_), (7, .os (H0.length + 1) (ng + 1) 4 0 0), (8, .int .i64 r1.1), (19, .bool false)] (H0.set id (Blk.mk g false 3 [[.fs (r10.2.code.map (cI .u8)), .int .i64 r10.2.at_, .int .u64 r10.2.seed]]) ++ [(Blk.mk ng false 4 []), (Blk.mk (ng + 1) false 4 [])]) from ⟨_, _, rfl, rfl, rfl, rfl, rfl, rfl⟩) (by simp)
      obtain ⟨rfl, b130, g131, e132, e133, e134, e135⟩ := m124
      subst e135
      by_cases h140 : 0 < ((p123.1.length : Nat) : Int)
      · rw [if_pos h140] at hr
        have e138 : (0 < ((p123.1.length : Nat) : Int)) = True := eq_true h140
        clear h140
        obtain ⟨r141, q144, hr⟩ := Option.bind_eq_some_iff.1 hr
        obtain ⟨ng142, e143⟩ : ∃ ng', gcall (shOf F) cl false n_spec_l1Cur_one [.ptr id g 0 0, .int .i64 20] (H0.set id (Blk.mk g false 3 [[.fs (p123.2.1.map (cI .u8)), .int .i64 p123.2.2.1, .int .u64 p123.2.2.2]]) ++ [b130, (Blk.mk g131 false 4 (p123.1.map impl_Job.cells))]) ng128 = some (.bool r141.1, (H0.set id (Blk.mk g false 3 [[.fs (r141.2.code.map (cI .u8)), .int .i64 r141.2.at_, .int .u64 r141.2.seed]]) ++ [b130, (Blk.mk g131 false 4 (p123.1.map impl_Job.cells))]), ng', .all) := call_curA s_spec_l1Cur_one (K_spec_l1Cur_one _ _ _ q144) H0 [b130, (Blk.mk g131 false 4 (p123.1.map impl_Job.cells))] id g ng128 hid
        by_cases h147 : r141.1 = true
        · rw [if_pos h147] at hr
          have e145 : r141.1 = true := h147
          clear h147
          obtain ⟨r148, q151, hr⟩ := Option.bind_eq_some_iff.1 hr
          obtain ⟨ng149, e150⟩ : ∃ ng', gcall (shOf F) cl false n_spec_l1Cur_pick [.ptr id g 0 0, .int .i64 ((p123.1.length : Nat) : Int)] (H0.set id (Blk.mk g false 3 [[.fs (r141.2.code.map (cI .u8)), .int .i64 r141.2.at_, .int .u64 r141.2.seed]]) ++ [b130, (Blk.mk g131 false 4 (p123.1.map impl_Job.cells))]) ng142 = some (.int .i64 r148.1, (H0.set id (Blk.mk g false 3 [[.fs (r148.2.code.map (cI .u8)), .int .i64 r148.2.at_, .int .u64 r148.2.seed]]) ++ [b130, (Blk.mk g131 false 4 (p123.1.map impl_Job.cells))]), ng', .all) := call_curA s_spec_l1Cur_pick (K_spec_l1Cur_pick _ _ _ q151) H0 [b130, (Blk.mk g131 false 4 (p123.1.map impl_Job.cells))] id g ng142 hid
          obtain ⟨y152, q156, hr⟩ := Option.bind_eq_some_iff.1 hr
          obtain ⟨e153, e154, e155⟩ := ix_some q156
          try simp only [Int.toNat_natCast, Int.toNat_zero, Int.reduceToNat] at e154
          clear q156
          obtain ⟨r157, q160, hr⟩ := Option.bind_eq_some_iff.1 hr
          obtain ⟨ng158, e159⟩ : ∃ ng', gcall (shOf F) cl false n_spec_l1Cur_spoiltJob [.ptr id g 0 0, .agg [.int .i64 y152.Time, .int .i64 y152.Weight, .int .i64 y152.Release, .int .i64 y152.Due]] (H0.set id (Blk.mk g false 3 [[.fs (r148.2.code.map (cI .u8)), .int .i64 r148.2.at_, .int .u64 r148.2.seed]]) ++ [b130, (Blk.mk g131 false 4 (p123.1.map impl_Job.cells))]) ng149 = some (.agg [.int .i64 r157.1.Time, .int .i64 r157.1.Weight, .int .i64 r157.1.Release, .int .i64 r157.1.Due], (H0.set id (Blk.mk g false 3 [[.fs (r157.2.code.map (cI .u8)), .int .i64 r157.2.at_, .int .u64 r157.2.seed]]) ++ [b130, (Blk.mk g131 false 4 (p123.1.map impl_Job.cells))]), ng', .all) := call_curA s_spec_l1Cur_spoiltJob (K_spec_l1Cur_spoiltJob _ _ _ q160) H0 [b130, (Blk.mk g131 false 4 (p123.1.map impl_Job.cells))] id g ng149 hid
          obtain ⟨l161, q166, hr⟩ := Option.bind_eq_some_iff.1 hr
          obtain ⟨_, _, e162, e163, _⟩ := put_some q166
          try simp only [Int.toNat_natCast, Int.toNat_zero, Int.reduceToNat] at e162
          have e164 : (p123.1.map impl_Job.cells).set (Int.toNat r148.1) [.int .i64 r157.1.Time, .int .i64 r157.1.Weight, .int .i64 r157.1.Release, .int .i64 r157.1.Due] = l161.map impl_Job.cells := by rw [← e162, List.map_set] <;> rfl
          replace e163 : Keep (p123.1.length = l161.length) := e163
          clear e162 q166
          obtain ⟨r167, q170, hr⟩ := Option.bind_eq_some_iff.1 hr
          obtain ⟨ng168, e169⟩ : ∃ ng', gcall (shOf F) cl false n_spec_l1Cur_one [.ptr id g 0 0, .int .i64 60] (H0.set id (Blk.mk g false 3 [[.fs (r157.2.code.map (cI .u8)), .int .i64 r157.2.at_, .int .u64 r157.2.seed]]) ++ [b130, (Blk.mk g131 false 4 (l161.map impl_Job.cells))]) ng158 = some (.bool r167.1, (H0.set id (Blk.mk g false 3 [[.fs (r167.2.code.map (cI .u8)), .int .i64 r167.2.at_, .int .u64 r167.2.seed]]) ++ [b130, (Blk.mk g131 false 4 (l161.map impl_Job.cells))]), ng', .all) := call_curA s_spec_l1Cur_one (K_spec_l1Cur_one _ _ _ q170) H0 [b130, (Blk.mk g131 false 4 (l161.map impl_Job.cells))] id g ng158 hid
          by_cases h173 : r167.1 = true
          · rw [if_pos h173] at hr
            have e171 : r167.1 = true := h173
            clear h173
            obtain ⟨p174, q185, hr⟩ := Option.bind_eq_some_iff.1 hr
            obtain ⟨ex180, T177, H178, ng179, l176, m175⟩ := lp_spec_l1Cur_someJobs_l1 (cl := cl) K_spec_l1Cur_one K_spec_l1Cur_pick K_spec_l1Cur_among K_spec_l1Cur_spoiltJob K_spec_l1Cur_job  released_ H0 id g hid _ _ q185 [(0, .ptr id g 0 0), (1, .bool released_), (7, .os (H0.length + 1) g131 4 0 p123.1.length), (60, .bool true)] (H0.set id (Blk.mk g false 3 [[.fs (r167.2.code.map (cI .u8)), .int .i64 r167.2.at_, .int .u64 r167.2.seed]]) ++ [b130, (Blk.mk g131 false 4 (l161.map impl_Job.cells))]) ng168 (show R_spec_l1Cur_someJobs_l1 H0 id g released_ (l161, r167.2.code, r167.2.at_, r167.2.seed) [(0, .ptr id g 0 0), (1, .bool released_), (7, .os (H0.length + 1) g131 4 0 p123.1.length), (60, .bool true)] (H0.set id (Blk.mk g false 3 [[.fs (r167.2.code.map (cI .u8)), .int .i64 r167.2.at_, .int .u64 r167.2.seed]]) ++ [b130, (Blk.mk g131 false 4 (l161.map impl_Job.cells))]) from ⟨_, _, rfl, rfl, (congrArg (fun n_ => V.os (H0.length + 1) g131 4 0 n_) e163), rfl⟩) (by simp)
            obtain ⟨rfl, b181, g182, e183, e184⟩ := m175
            subst e184
            have hr_ := Option.some.inj hr; subst hr_
            refine ⟨(H0.length + 1), g182, [b181, (Blk.mk g182 false 4 (p174.1.map impl_Job.cells))], ng179, ?_, ?_, ?_, sc_impl_Job _⟩
            · simp only [c_spec_l1Cur_someJobs, evA, evB, Int.reduceToNat, eq_self, reduceCtorEq, ↓reduceIte, Nat.reduceEqDiff, Nat.reduceAdd, Nat.reduceLT, Nat.reduceLeDiff, Nat.reduceMul, Nat.reduceSub, Nat.reduceBEq, impl_Job.cells, rz_impl_Job, pr_impl_Job, spec_l1Cur.cells, rz_spec_l1Cur, pr_spec_l1Cur, arr_2_int.cells, rz_arr_2_int, pr_arr_2_int, *]
            · simp [hget, hp, hs_own0, hs_ownk]
            · omega
          · rw [if_neg h173] at hr
            have e172 : r167.1 = false := Bool.eq_false_iff.2 h173
            clear h173
            have hr_ := Option.some.inj hr; subst hr_
            refine ⟨(H0.length + 1), g131, [b130, (Blk.mk g131 false 4 (l161.map impl_Job.cells))], ng168, ?_, ?_, ?_, sc_impl_Job _⟩
            · rw [List.length_map, ← show p123.1.length = _ from e163]; simp only [c_spec_l1Cur_someJobs, evA, evB, Int.reduceToNat, eq_self, reduceCtorEq, ↓reduceIte, Nat.reduceEqDiff, Nat.reduceAdd, Nat.reduceLT, Nat.reduceLeDiff, Nat.reduceMul, Nat.reduceSub, Nat.reduceBEq, impl_Job.cells, rz_impl_Job, pr_impl_Job, spec_l1Cur.cells, rz_spec_l1Cur, pr_spec_l1Cur, arr_2_int.cells, rz_arr_2_int, pr_arr_2_int, *]
            · simp [hget, hp, hs_own0, hs_ownk]
            · omega
        · rw [if_neg h147] at hr
          have e146 : r141.1 = false := Bool.eq_false_iff.2 h147
          clear h147
          obtain ⟨r186, q189, hr⟩ := Option.bind_eq_some_iff.1 hr
          obtain ⟨ng187, e188⟩ : ∃ ng', gcall (shOf F) cl false n_spec_l1Cur_one [.ptr id g 0 0, .int .i64 60] (H0.set id (Blk.mk g false 3 [[.fs (r141.2.code.map (cI .u8)), .int .i64 r141.2.at_, .int .u64 r141.2.seed]]) ++ [b130, (Blk.mk g131 false 4 (p123.1.map impl_Job.cells))]) ng142 = some (.bool r186.1, (H0.set id (Blk.mk g false 3 [[.fs (r186.2.code.map (cI .u8)), .int .i64 r186.2.at_, .int .u64 r186.2.seed]]) ++ [b130, (Blk.mk g131 false 4 (p123.1.map impl_Job.cells))]), ng', .all) := call_curA s_spec_l1Cur_one (K_spec_l1Cur_one _ _ _ q189) H0 [b130, (Blk.mk g131 false 4 (p123.1.map impl_Job.cells))] id g ng142 hid
          by_cases h192 : r186.1 = true
          · rw [if_pos h192] at hr
            have e190 : r186.1 = true := h192
            clear h192
            obtain ⟨p193, q204, hr⟩ := Option.bind_eq_some_iff.1 hr
            obtain ⟨ex199, T196, H197, ng198, l195, m194⟩ := lp_spec_l1Cur_someJobs_l1 (cl := cl) K_spec_l1Cur_one K_spec_l1Cur_pick K_spec_l1Cur_among K_spec_l1Cur_spoiltJob K_spec_l1Cur_job  released_ H0 id g hid _ _ q204 [(0, .ptr id g 0 0), (1, .bool released_), (7, .os (H0.length + 1) g131 4 0 p123.1.length), (60, .bool true)] (H0.set id (Blk.mk g false 3 [[.fs (r186.2.code.map (cI .u8)), .int .i64 r186.2.at_, .int .u64 r186.2.seed]]) ++ [b130, (Blk.mk g131 false 4 (p123.1.map impl_Job.cells))]) ng187 (show R_spec_l1Cur_someJobs_l1 H0 id g released_ (p123.1, r186.2.code, r186.2.at_, r186.2.seed) [(0, .ptr id g 0 0), (1, .bool released_), (7, .os (H0.length + 1) g131 4 0 p123.1.length), (60, .bool true)] (H0.set id (Blk.mk g false 3 [[.fs (r186.2.code.map (cI .u8)), .int .i64 r186.2.at_, .int .u64 r186.2.seed]]) ++ [b130, (Blk.mk g131 false 4 (p123.1.map impl_Job.cells))]) from ⟨_, _, rfl, rfl, rfl, rfl⟩) (by simp)
            obtain ⟨rfl, b200, g201, e202, e203⟩ := m194
            subst e203
            have hr_ := Option.some.inj hr; subst hr_
            refine ⟨(H0.length + 1), g201, [b200, (Blk.mk g201 false 4 (p193.1.map impl_Job.cells))], ng198, ?_, ?_, ?_, sc_impl_Job _⟩
            · simp only [c_spec_l1Cur_someJobs, evA, evB, Int.reduceToNat, eq_self, reduceCtorEq, ↓reduceIte, Nat.reduceEqDiff, Nat.reduceAdd, Nat.reduceLT, Nat.reduceLeDiff, Nat.reduceMul, Nat.reduceSub, Nat.reduceBEq, impl_Job.cells, rz_impl_Job, pr_impl_Job, spec_l1Cur.cells, rz_spec_l1Cur, pr_spec_l1Cur, arr_2_int.cells, rz_arr_2_int, pr_arr_2_int, *]
            · simp [hget, hp, hs_own0, hs_ownk]
            · omega
          · rw [if_neg h192] at hr
            have e191 : r186.1 = false := Bool.eq_false_iff.2 h192
            clear h192
            have hr_ := Option.some.inj hr; subst hr_
            refine ⟨(H0.length + 1), g131, [b130, (Blk.mk g131 false 4 (p123.1.map impl_Job.cells))], ng187, ?_, ?_, ?_, sc_impl_Job _⟩
            · simp only [c_spec_l1Cur_someJobs, evA, evB, Int.reduceToNat, eq_self, reduceCtorEq, ↓reduceIte, Nat.reduceEqDiff, Nat.reduceAdd, Nat.reduceLT, Nat.reduceLeDiff, Nat.reduceMul, Nat.reduceSub, Nat.reduceBEq, impl_Job.cells, rz_impl_Job, pr_impl_Job, spec_l1Cur.cells, rz_spec_l1Cur, pr_spec_l1Cur, arr_2_int.cells, rz_arr_2_int, pr_arr_2_int, *]
            · simp [hget, hp, hs_own0, hs_ownk]
            · omega
      · rw [if_neg h140] at hr
        have e139 : (0 < ((p123.1.length : Nat) : Int)) = False := eq_false h140
        clear h140
        obtain ⟨r205, q208, hr⟩ := Option.bind_eq_some_iff.1 hr
        obtain ⟨ng206, e207⟩ : ∃ ng', gcall (shOf F) cl false n_spec_l1Cur_one [.ptr id g 0 0, .int .i64 60] (H0.set id (Blk.mk g false 3 [[.fs (p123.2.1.map (cI .u8)), .int .i64 p123.2.2.1, .int .u64 p123.2.2.2]]) ++ [b130, (Blk.mk g131 false 4 (p123.1.map impl_Job.cells))]) ng128 = some (.bool r205.1, (H0.set id (Blk.mk g false 3 [[.fs (r205.2.code.map (cI .u8)), .int .i64 r205.2.at_, .int .u64 r205.2.seed]]) ++ [b130, (Blk.mk g131 false 4 (p123.1.map impl_Job.cells))]), ng', .all) := call_curA s_spec_l1Cur_one (K_spec_l1Cur_one _ _ _ q208) H0 [b130, (Blk.mk g131 false 4 (p123.1.map impl_Job.cells))] id g ng128 hid
        by_cases h211 : r205.1 = true
        · rw [if_pos h211] at hr
          have e209 : r205.1 = true := h211
          clear h211
          obtain ⟨p212, q223, hr⟩ := Option.bind_eq_some_iff.1 hr
          obtain ⟨ex218, T215, H216, ng217, l214, m213⟩ := lp_spec_l1Cur_someJobs_l1 (cl := cl) K_spec_l1Cur_one K_spec_l1Cur_pick K_spec_l1Cur_among K_spec_l1Cur_spoiltJob K_spec_l1Cur_job  released_ H0 id g hid _ _ q223 [(0, .ptr id g 0 0), (1, .bool released_), (7, .os (H0.length + 1) g131 4 0 p123.1.length), (60, .bool true)] (H0.set id (Blk.mk g false 3 [[.fs (r205.2.code.map (cI .u8)), .int .i64 r205.2.at_, .int .u64 r205.2.seed]]) ++ [b130, (Blk.mk g131 false 4 (p123.1.map impl_Job.cells))]) ng206 (show R_spec_l1Cur_someJobs_l1 H0 id g released_ (p123.1, r205.2.code, r205.2.at_, r205.2.seed) [(0, .ptr id g 0 0), (1, .bool released_), (7, .os (H0.length + 1) g131 4 0 p123.1.length), (60, .bool true)] (H0.set id (Blk.mk g false 3 [[.fs (r205.2.code.map (cI .u8)), .int .i64 r205.2.at_, .int .u64 r205.2.seed]]) ++ [b130, (Blk.mk g131 false 4 (p123.1.map impl_Job.cells))]) from ⟨_, _, rfl, rfl, rfl, rfl⟩) (by simp)
          obtain ⟨rfl, b219, g220, e221, e222⟩ := m213
          subst e222
          have hr_ := Option.some.inj hr; subst hr_
          refine ⟨(H0.length + 1), g220, [b219, (Blk.mk g220 false 4 (p212.1.map impl_Job.cells))], ng217, ?_, ?_, ?_, sc_impl_Job _⟩
          · simp only [c_spec_l1Cur_someJobs, evA, evB, Int.reduceToNat, eq_self, reduceCtorEq, ↓reduceIte, Nat.reduceEqDiff, Nat.reduceAdd, Nat.reduceLT, Nat.reduceLeDiff, Nat.reduceMul, Nat.reduceSub, Nat.reduceBEq, impl_Job.cells, rz_impl_Job, pr_impl_Job, spec_l1Cur.cells, rz_spec_l1Cur, pr_spec_l1Cur, arr_2_int.cells, rz_arr_2_int, pr_arr_2_int, *]
          · simp [hget, hp, hs_own0, hs_ownk]
          · omega
        · rw [if_neg h211] at hr
          have e210 : r205.1 = false := Bool.eq_false_iff.2 h211
          clear h211
          have hr_ := Option.some.inj hr; subst hr_
          refine ⟨(H0.length + 1), g131, [b130, (Blk.mk g131 false 4 (p123.1.map impl_Job.cells))], ng206, ?_, ?_, ?_, sc_impl_Job _⟩
          · simp only [c_spec_l1Cur_someJobs, evA, evB, Int.reduceToNat, eq_self, reduceCtorEq, ↓reduceIte, Nat.reduceEqDiff, Nat.reduceAdd, Nat.reduceLT, Nat.reduceLeDiff, Nat.reduceMul, Nat.reduceSub, Nat.reduceBEq, impl_Job.cells, rz_impl_Job, pr_impl_Job, spec_l1Cur.cells, rz_spec_l1Cur, pr_spec_l1Cur, arr_2_int.cells, rz_arr_2_int, pr_arr_2_int, *]
          · simp [hget, hp, hs_own0, hs_ownk]
          · omega
  · rw [if_neg h9] at hr
    have e8 : (6 < most_) = False := eq_false h9
    clear h9
    obtain ⟨p225, q326, hr⟩ := Option.bind_eq_some_iff.1 hr
    obtain ⟨ex231, T228, H229, ng230, l227, m226⟩ := lp_spec_l1Cur_someJobs_l0 (cl := cl) K_spec_l1Cur_one K_spec_l1Cur_pick K_spec_l1Cur_among K_spec_l1Cur_spoiltJob K_spec_l1Cur_job  released_ most_ H0 id g hid _ _ q326 [(0, .ptr id g 0 0), (1, .bool released_), (2, .int .i64 most_), (7, .os (H0.length + 1) (ng + 1) 4 0 0), (8, .int .i64 r1.1), (19, .bool false)] (H0.set id (Blk.mk g false 3 [[.fs (r1.2.code.map (cI .u8)), .int .i64 r1.2.at_, .int .u64 r1.2.seed]]) ++ [(Blk.mk ng false 4 []), (Blk.mk (ng + 1) false 4 [])]) ng2 (show R_spec_l1Cur_someJobs_l0 H0 id g released_ most_ (([] : List impl_Job), r1.2.code, r1.2.at_, r1.2.seed, r1.1) [(0, .ptr id g 0 0), (1, .bool released_), (2, .int .i64 most_), (7, .os (H0.length + 1) (ng + 1) 4 0 0), (8, .int .i64 r1.1), (19, .bool false)] (H0.set id (Blk.mk g false 3 [[.fs (r1.2.code.map (cI .u8)), .int .i64 r1.2.at_, .int .u64 r1.2.seed]]) ++ [(Blk.mk ng false 4 []), (Blk.mk (ng + 1) false 4 [])]) from ⟨_, _, rfl, rfl, rfl, rfl, rfl, rfl⟩) (by simp)
    obtain ⟨rfl, b232, g233, e234, e235, e236, e237⟩ := m226
    subst e237
    by_cases h242 : 0 < ((p225.1.length : Nat) : Int)
    · rw [if_pos h242] at hr
      have e240 : (0 < ((p225.1.length : Nat) : Int)) = True := eq_true h242
      clear h242
      obtain ⟨r243, q246, hr⟩ := Option.bind_eq_some_iff.1 hr
      obtain ⟨ng244, e245⟩ : ∃ ng', gcall (shOf F) cl false n_spec_l1Cur_one [.ptr id g 0 0, .int .i64 20] (H0.set id (Blk.mk g false 3 [[.fs (p225.2.1.map (cI .u8)), .int .i64 p225.2.2.1, .int .u64 p225.2.2.2]]) ++ [b232, (Blk.mk g233 false 4 (p225.1.map impl_Job.cells))]) ng230 = some (.bool r243.1, (H0.set id (Blk.mk g false 3 [[.fs (r243.2.code.map (cI .u8)), .int .i64 r243.2.at_, .int .u64 r243.2.seed]]) ++ [b232, (Blk.mk g233 false 4 (p225.1.map impl_Job.cells))]), ng', .all) := call_curA s_spec_l1Cur_one (K_spec_l1Cur_one _ _ _ q246) H0 [b232, (Blk.mk g233 false 4 (p225.1.map impl_Job.cells))] id g ng230 hid
      by_cases h249 : r243.1 = true
      · rw [if_pos h249] at hr
        have e247 : r243.1 = true := h249
        clear h249
        obtain ⟨r250, q253, hr⟩ := Option.bind_eq_some_iff.1 hr
        obtain ⟨ng251, e252⟩ : ∃ ng', gcall (shOf F) cl false n_spec_l1Cur_pick [.ptr id g 0 0, .int .i64 ((p225.1.length : Nat) : Int)] (H0.set id (Blk.mk g false 3 [[.fs (r243.2.code.map (cI .u8)), .int .i64 r243.2.at_, .int .u64 r243.2.seed]]) ++ [b232, (Blk.mk g233 false 4 (p225.1.map impl_Job.cells))]) ng244 = some (.int .i64 r250.1, (H0.set id (Blk.mk g false 3 [[.fs (r250.2.code.map (cI .u8)), .int .i64 r250.2.at_, .int .u64 r250.2.seed]]) ++ [b232, (Blk.mk g233 false 4 (p225.1.map impl_Job.cells))]), ng', .all) := call_curA s_spec_l1Cur_pick (K_spec_l1Cur_pick _ _ _ q253) H0 [b232, (Blk.mk g233 false 4 (p225.1.map impl_Job.cells))] id g ng244 hid
        obtain ⟨y254, q258, hr⟩ := Option.bind_eq_some_iff.1 hr
        obtain ⟨e255, e256, e257⟩ := ix_some q258
        try simp only [Int.toNat_natCast, Int.toNat_zero, Int.reduceToNat] at e256
        clear q258
        obtain ⟨r259, q262, hr⟩ := Option.bind_eq_some_iff.1 hr
        obtain ⟨ng260, e261⟩ : ∃ ng', gcall (shOf F) cl false n_spec_l1Cur_spoiltJob [.ptr id g 0 0, .agg [.int .i64 y254.Time, .int .i64 y254.Weight, .int .i64 y254.Release, .int .i64 y254.Due]] (H0.set id (Blk.mk g false 3 [[.fs (r250.2.code.map (cI .u8)), .int .i64 r250.2.at_, .int .u64 r250.2.seed]]) ++ [b232, (Blk.mk g233 false 4 (p225.1.map impl_Job.cells))]) ng251 = some (.agg [.int .i64 r259.1.Time, .int .i64 r259.1.Weight, .int .i64 r259.1.Release, .int .i64 r259.1.Due], (H0.set id (Blk.mk g false 3 [[.fs (r259.2.code.map (cI .u8)), .int .i64 r259.2.at_, .int .u64 r259.2.seed]]) ++ [b232, (Blk.mk g233 false 4 (p225.1.map impl_Job.cells))]), ng', .all) := call_curA s_spec_l1Cur_spoiltJob (K_spec_l1Cur_spoiltJob _ _ _ q262) H0 [b232, (Blk.mk g233 false 4 (p225.1.map impl_Job.cells))] id g ng251 hid
        obtain ⟨l263, q268, hr⟩ := Option.bind_eq_some_iff.1 hr
        obtain ⟨_, _, e264, e265, _⟩ := put_some q268
        try simp only [Int.toNat_natCast, Int.toNat_zero, Int.reduceToNat] at e264
        have e266 : (p225.1.map impl_Job.cells).set (Int.toNat r250.1) [.int .i64 r259.1.Time, .int .i64 r259.1.Weight, .int .i64 r259.1.Release, .int .i64 r259.1.Due] = l263.map impl_Job.cells := by rw [← e264, List.map_set] <;> rfl
        replace e265 : Keep (p225.1.length = l263.length) := e265
        clear e264 q268
        obtain ⟨r269, q272, hr⟩ := Option.bind_eq_some_iff.1 hr
        obtain ⟨ng270, e271⟩ : ∃ ng', gcall (shOf F) cl false n_spec_l1Cur_one [.ptr id g 0 0, .int .i64 60] (H0.set id (Blk.mk g false 3 [[.fs (r259.2.code.map (cI .u8)), .int .i64 r259.2.at_, .int .u64 r259.2.seed]]) ++ [b232, (Blk.mk g233 false 4 (l263.map impl_Job.cells))]) ng260 = some (.bool r269.1, (H0.set id (Blk.mk g false 3 [[.fs (r269.2.code.map (cI .u8)), .int .i64 r269.2.at_, .int .u64 r269.2.seed]]) ++ [b232, (Blk.mk g233 false 4 (l263.map impl_Job.cells))]), ng', .all) := call_curA s_spec_l1Cur_one (K_spec_l1Cur_one _ _ _ q272) H0 [b232, (Blk.mk g233 false 4 (l263.map impl_Job.cells))] id g ng260 hid
        by_cases h275 : r269.1 = true
        · rw [if_pos h275] at hr
          have e273 : r269.1 = true := h275
          clear h275
          obtain ⟨p276, q287, hr⟩ := Option.bind_eq_some_iff.1 hr
          obtain ⟨ex282, T279, H280, ng281, l278, m277⟩ := lp_spec_l1Cur_someJobs_l1 (cl := cl) K_spec_l1Cur_one K_spec_l1Cur_pick K_spec_l1Cur_among K_spec_l1Cur_spoiltJob K_spec_l1Cur_job  released_ H0 id g hid _ _ q287 [(0, .ptr id g 0 0), (1, .bool released_), (7, .os (H0.length + 1) g233 4 0 p225.1.length), (60, .bool true)] (H0.set id (Blk.mk g false 3 [[.fs (r269.2.code.map (cI .u8)), .int .i64 r269.2.at_, .int .u64 r269.2.seed]]) ++ [b232, (Blk.mk g233 false 4 (l263.map impl_Job.cells))]) ng270 (show R_spec_l1Cur_someJobs_l1 H0 id g released_ (l263, r269.2.code, r269.2.at_, r269.2.seed) [(0, .ptr id g 0 0), (1, .bool released_), (7, .os (H0.length + 1) g233 4 0 p225.1.length), (60, .bool true)] (H0.set id (Blk.mk g false 3 [[.fs (r269.2.code.map (cI .u8)), .int .i64 r269.2.at_, .int .u64 r269.2.seed]]) ++ [b232, (Blk.mk g233 false 4 (l263.map impl_Job.cells))]) from ⟨_, _, rfl, rfl, (congrArg (fun n_ => V.os (H0.length + 1) g233 4 0 n_) e265), rfl⟩) (by simp)
          obtain ⟨rfl, b283, g284, e285, e286⟩ := m277
          subst e286
          have hr_ := Option.some.inj hr; subst hr_
          refine ⟨(H0.length + 1), g284, [b283, (Blk.mk g284 false 4 (p276.1.map impl_Job.cells))], ng281, ?_, ?_, ?_, sc_impl_Job _⟩
          · simp only [c_spec_l1Cur_someJobs, evA, evB, Int.reduceToNat, eq_self, reduceCtorEq, ↓reduceIte, Nat.reduceEqDiff, Nat.reduceAdd, Nat.reduceLT, Nat.reduceLeDiff, Nat.reduceMul, Nat.reduceSub, Nat.reduceBEq, impl_Job.cells, rz_impl_Job, pr_impl_Job, spec_l1Cur.cells, rz_spec_l1Cur, pr_spec_l1Cur, arr_2_int.cells, rz_arr_2_int, pr_arr_2_int, *]
          · simp [hget, hp, hs_own0, hs_ownk]
          · omega
        · rw [if_neg h275] at hr
          have e274 : r269.1 = false := Bool.eq_false_iff.2 h275
          clear h275
          have hr_ := Option.some.inj hr; subst hr_
          refine ⟨(H0.length + 1), g233, [b232, (Blk.mk g233 false 4 (l263.map impl_Job.cells))], ng270, ?_, ?_, ?_, sc_impl_Job _⟩
          · rw [List.length_map, ← show p225.1.length = _ from e265]; simp only [c_spec_l1Cur_someJobs, evA, evB, Int.reduceToNat, eq_self, reduceCtorEq, ↓reduceIte, Nat.reduceEqDiff, Nat.reduceAdd, Nat.reduceLT, Nat.reduceLeDiff, Nat.reduceMul, Nat.reduceSub, Nat.reduceBEq, impl_Job.cells, rz_impl_Job, pr_impl_Job, spec_l1Cur.cells, rz_spec_l1Cur, pr_spec_l1Cur, arr_2_int.cells, rz_arr_2_int, pr_arr_2_int, *]
          · simp [hget, hp, hs_own0, hs_ownk]
          · omega
      · rw [if_neg h249] at hr
        have e248 : r243.1 = false := Bool.eq_false_iff.2 h249
        clear h249
        obtain ⟨r288, q291, hr⟩ := Option.bind_eq_some_iff.1 hr
        obtain ⟨ng289, e290⟩ : ∃ ng', gcall (shOf F) cl false n_spec_l1Cur_one [.ptr id g 0 0, .int .i64 60] (H0.set id (Blk.mk g false 3 [[.fs (r243.2.code.map (cI .u8)), .int .i64 r243.2.at_, .int .u64 r243.2.seed]]) ++ [b232, (Blk.mk g233 false 4 (p225.1.map impl_Job.cells))]) ng244 = some (.bool r288.1, (H0.set id (Blk.mk g false 3 [[.fs (r288.2.code.map (cI .u8)), .int .i64 r288.2.at_, .int .u64 r288.2.seed]]) ++ [b232, (Blk.mk g233 false 4 (p225.1.map impl_Job.cells))]), ng', .all) := call_curA s_spec_l1Cur_one (K_spec_l1Cur_one _ _ _ q291) H0 [b232, (Blk.mk g233 false 4 (p225.1.map impl_Job.cells))] id g ng244 hid
        by_cases h294 : r288.1 = true
        · rw [if_pos h294] at hr
          have e292 : r288.1 = true := h294
          clear h294
          obtain ⟨p295, q306, hr⟩ := Option.bind_eq_some_iff.1 hr
          obtain ⟨ex301, T298, H299, ng300, l297, m296⟩ := lp_spec_l1Cur_someJobs_l1 (cl := cl) K_spec_l1Cur_one K_spec_l1Cur_pick K_spec_l1Cur_among K_spec_l1Cur_spoiltJob K_spec_l1Cur_job  released_ H0 id g hid _ _ q306 [(0, .ptr id g 0 0), (1, .bool released_), (7, .os (H0.length + 1) g233 4 0 p225.1.length), (60, .bool true)] (H0.set id (Blk.mk g false 3 [[.fs (r288.2.code.map (cI .u8)), .int .i64 r288.2.at_, .int .u64 r288.2.seed]]) ++ [b232, (Blk.mk g233 false 4 (p225.1.map impl_Job.cells))]) ng289 (show R_spec_l1Cur_someJobs_l1 H0 id g released_ (p225.1, r288.2.code, r288.2.at_, r288.2.seed) [(0, .ptr id g 0 0), (1, .bool released_), (7, .os (H0.length + 1) g233 4 0 p225.1.length), (60, .bool true)] (H0.set id (Blk.mk g false 3 [[.fs (r288.2.code.map (cI .u8)), .int .i64 r288.2.at_, .int .u64 r288.2.seed]]) ++ [b232, (Blk.mk g233 false 4 (p225.1.map impl_Job.cells))]) from ⟨_, _, rfl, rfl, rfl, rfl⟩) (by simp)
          obtain ⟨rfl, b302, g303, e304, e305⟩ := m296
          subst e305
          have hr_ := Option.some.inj hr; subst hr_
          refine ⟨(H0.length + 1), g303, [b302, (Blk.mk g303 false 4 (p295.1.map impl_Job.cells))], ng300, ?_, ?_, ?_, sc_impl_Job _⟩
          · simp only [c_spec_l1Cur_someJobs, evA, evB, Int.reduceToNat, eq_self, reduceCtorEq, ↓reduceIte, Nat.reduceEqDiff, Nat.reduceAdd, Nat.reduceLT, Nat.reduceLeDiff, Nat.reduceMul, Nat.reduceSub, Nat.reduceBEq, impl_Job.cells, rz_impl_Job, pr_impl_Job, spec_l1Cur.cells, rz_spec_l1Cur, pr_spec_l1Cur, arr_2_int.cells, rz_arr_2_int, pr_arr_2_int, *]
          · simp [hget, hp, hs_own0, hs_ownk]
          · omega
        · rw [if_neg h294] at hr
          have e293 : r288.1 = false := Bool.eq_false_iff.2 h294
          clear h294
          have hr_ := Option.some.inj hr; subst hr_
          refine ⟨(H0.length + 1), g233, [b232, (Blk.mk g233 false 4 (p225.1.map impl_Job.cells))], ng289, ?_, ?_, ?_, sc_impl_Job _⟩
          · simp only [c_spec_l1Cur_someJobs, evA, evB, Int.reduceToNat, eq_self, reduceCtorEq, ↓reduceIte, Nat.reduceEqDiff, Nat.reduceAdd, Nat.reduceLT, Nat.reduceLeDiff, Nat.reduceMul, Nat.reduceSub, Nat.reduceBEq, impl_Job.cells, rz_impl_Job, pr_impl_Job, spec_l1Cur.cells, rz_spec_l1Cur, pr_spec_l1Cur, arr_2_int.cells, rz_arr_2_int, pr_arr_2_int, *]
          · simp [hget, hp, hs_own0, hs_ownk]
          · omega
    · rw [if_neg h242] at hr
      have e241 : (0 < ((p225.1.length : Nat) : Int)) = False := eq_false h242
      clear h242
      obtain ⟨r307, q310, hr⟩ := Option.bind_eq_some_iff.1 hr
      obtain ⟨ng308, e309⟩ : ∃ ng', gcall (shOf F) cl false n_spec_l1Cur_one [.ptr id g 0 0, .int .i64 60] (H0.set id (Blk.mk g false 3 [[.fs (p225.2.1.map (cI .u8)), .int .i64 p225.2.2.1, .int .u64 p225.2.2.2]]) ++ [b232, (Blk.mk g233 false 4 (p225.1.map impl_Job.cells))]) ng230 = some (.bool r307.1, (H0.set id (Blk.mk g false 3 [[.fs (r307.2.code.map (cI .u8)), .int .i64 r307.2.at_, .int .u64 r307.2.seed]]) ++ [b232, (Blk.mk g233 false 4 (p225.1.map impl_Job.cells))]), ng', .all) := call_curA s_spec_l1Cur_one (K_spec_l1Cur_one _ _ _ q310) H0 [b232, (Blk.mk g233 false 4 (p225.1.map impl_Job.cells))] id g ng230 hid
      by_cases h313 : r307.1 = true
      · rw [if_pos h313] at hr
        have e311 : r307.1 = true := h313
        clear h313
        obtain ⟨p314, q325, hr⟩ := Option.bind_eq_some_iff.1 hr
        obtain ⟨ex320, T317, H318, ng319, l316, m315⟩ := lp_spec_l1Cur_someJobs_l1 (cl := cl) K_spec_l1Cur_one K_spec_l1Cur_pick K_spec_l1Cur_among K_spec_l1Cur_spoiltJob K_spec_l1Cur_job  released_ H0 id g hid _ _ q325 [(0, .ptr id g 0 0), (1, .bool released_), (7, .os (H0.length + 1) g233 4 0 p225.1.length), (60, .bool true)] (H0.set id (Blk.mk g false 3 [[.fs (r307.2.code.map (cI .u8)), .int .i64 r307.2.at_, .int .u64 r307.2.seed]]) ++ [b232, (Blk.mk g233 false 4 (p225.1.map impl_Job.cells))]) ng308 (show R_spec_l1Cur_someJobs_l1 H0 id g released_ (p225.1, r307.2.code, r307.2.at_, r307.2.seed) [(0, .ptr id g 0 0), (1, .bool released_), (7, .os (H0.length + 1) g233 4 0 p225.1.length), (60, .bool true)] (H0.set id (Blk.mk g false 3 [[.fs (r307.2.code.map (cI .u8)), .int .i64 r307.2.at_, .int .u64 r307.2.seed]]) ++ [b232, (Blk.mk g233 false 4 (p225.1.map impl_Job.cells))]) from ⟨_, _, rfl, rfl, rfl, rfl⟩) (by simp)
        obtain ⟨rfl, b321, g322, e323, e324⟩ := m315
        subst e324
        have hr_ := Option.some.inj hr; subst hr_
        refine ⟨(H0.length + 1), g322, [b321, (Blk.mk g322 false 4 (p314.1.map impl_Job.cells))], ng319, ?_, ?_, ?_, sc_impl_Job _⟩
        · simp only [c_spec_l1Cur_someJobs, evA, evB, Int.reduceToNat, eq_self, reduceCtorEq, ↓reduceIte, Nat.reduceEqDiff, Nat.reduceAdd, Nat.reduceLT, Nat.reduceLeDiff, Nat.reduceMul, Nat.reduceSub, Nat.reduceBEq, impl_Job.cells, rz_impl_Job, pr_impl_Job, spec_l1Cur.cells, rz_spec_l1Cur, pr_spec_l1Cur, arr_2_int.cells, rz_arr_2_int, pr_arr_2_int, *]
        · simp [hget, hp, hs_own0, hs_ownk]
        · omega
      · rw [if_neg h313] at hr
        have e312 : r307.1 = false := Bool.eq_false_iff.2 h313
        clear h313
        have hr_ := Option.some.inj hr; subst hr_
        refine ⟨(H0.length + 1), g233, [b232, (Blk.mk g233 false 4 (p225.1.map impl_Job.cells))], ng308, ?_, ?_, ?_, sc_impl_Job _⟩
        · simp only [c_spec_l1Cur_someJobs, evA, evB, Int.reduceToNat, eq_self, reduceCtorEq, ↓reduceIte, Nat.reduceEqDiff, Nat.reduceAdd, Nat.reduceLT, Nat.reduceLeDiff, Nat.reduceMul, Nat.reduceSub, Nat.reduceBEq, impl_Job.cells, rz_impl_Job, pr_impl_Job, spec_l1Cur.cells, rz_spec_l1Cur, pr_spec_l1Cur, arr_2_int.cells, rz_arr_2_int, pr_arr_2_int, *]
        · simp [hget, hp, hs_own0, hs_ownk]
        · omega

theorem ok_spec_l1Cur_jobs {cl : Callee} (K_spec_l1Cur_one : K_spec_l1Cur_one x_spec_l1Cur_one (cl n_spec_l1Cur_one)) (K_spec_l1Cur_someJobs : K_spec_l1Cur_someJobs x_spec_l1Cur_someJobs (cl n_spec_l1Cur_someJobs)) : K_spec_l1Cur_jobs (x_spec_l1Cur_jobs) (gbody F LL cl c_spec_l1Cur_jobs) := by
  intro c_ r hr
  intro H0 id g ng hid
  have w1_ : ∀ b, (H0.set id b)[id]? = some b := fun b => hs_get b hid
  have w2_ : ∀ b B, (H0.set id b ++ B)[id]? = some b := fun b B => hs_getA b hid
  have w3_ : ∀ a b B, (H0.set id a ++ B).set id b = H0.set id b ++ B := fun a b B => hs_setA a b hid
  unfold x_spec_l1Cur_jobs at hr
  try dsimp only at hr
  obtain ⟨r1, q4, hr⟩ := Option.bind_eq_some_iff.1 hr
  obtain ⟨ng2, e3⟩ : ∃ ng', gcall (shOf F) cl false n_spec_l1Cur_one [.ptr id g 0 0, .int .i64 2] (H0.set id (Blk.mk g false 3 [[.fs (c_.code.map (cI .u8)), .int .i64 c_.at_, .int .u64 c_.seed]]) ++ [(Blk.mk ng false 4 [])]) (ng + 1) = some (.bool r1.1, (H0.set id (Blk.mk g false 3 [[.fs (r1.2.code.map (cI .u8)), .int .i64 r1.2.at_, .int .u64 r1.2.seed]]) ++ [(Blk.mk ng false 4 [])]), ng', .all) := call_curA s_spec_l1Cur_one (K_spec_l1Cur_one _ _ _ q4) H0 [(Blk.mk ng false 4 [])] id g (ng + 1) hid
  obtain ⟨r5, q8, hr⟩ := Option.bind_eq_some_iff.1 hr
  obtain ⟨ng6, e7⟩ : ∃ ng', gcall (shOf F) cl true n_spec_l1Cur_someJobs [.ptr id g 0 0, .bool r1.1, .int .i64 6] (H0.set id (Blk.mk g false 3 [[.fs (r1.2.code.map (cI .u8)), .int .i64 r1.2.at_, .int .u64 r1.2.seed]]) ++ [(Blk.mk ng false 4 [])]) ng2 = some (.os (H0.length + 1) ng' 4 0 r5.1.length, (H0.set id (Blk.mk g false 3 [[.fs (r5.2.code.map (cI .u8)), .int .i64 r5.2.at_, .int .u64 r5.2.seed]]) ++ [(Blk.mk ng false 4 []), (Blk.mk ng' false 4 (r5.1.map impl_Job.cells))]), ng' + 1, .all) := (by have := call_curAO s_spec_l1Cur_someJobs (K_spec_l1Cur_someJobs _ _ _ _ q8) H0 [(Blk.mk ng false 4 [])] id g ng2 hid; simpa only [List.length_map, List.append_assoc, List.cons_append, List.nil_append, List.length_cons, List.length_nil, Nat.zero_add, Nat.reduceAdd, Nat.add_zero] using this)
  have hr_ := Option.some.inj hr; subst hr_
  refine ⟨(H0.length + 1), ng6, [(Blk.mk ng false 4 []), (Blk.mk ng6 false 4 (r5.1.map impl_Job.cells))], (ng6 + 1), ?_, ?_, ?_, sc_impl_Job _⟩
  · simp only [c_spec_l1Cur_jobs, evA, evB, Int.reduceToNat, eq_self, reduceCtorEq, ↓reduceIte, Nat.reduceEqDiff, Nat.reduceAdd, Nat.reduceLT, Nat.reduceLeDiff, Nat.reduceMul, Nat.reduceSub, Nat.reduceBEq, impl_Job.cells, rz_impl_Job, pr_impl_Job, spec_l1Cur.cells, rz_spec_l1Cur, pr_spec_l1Cur, arr_2_int.cells, rz_arr_2_int, pr_arr_2_int, *]
  · simp [hget, hp, hs_own0, hs_ownk]
  · omega

theorem st_spec_l1Cur_plain3_l0 {cl : Callee} (K_spec_l1Cur_one : K_spec_l1Cur_one x_spec_l1Cur_one (cl n_spec_l1Cur_one)) (K_spec_l1Cur_jobs : K_spec_l1Cur_jobs x_spec_l1Cur_jobs (cl n_spec_l1Cur_jobs)) (H0 : List Blk) (id g : Nat) (hid : id < H0.length) (st_ : ((List impl_Job) × (List Int) × Int × Int × Int)) (c_ : Ctl ((List impl_Job) × (List Int) × Int × Int × Int) ((List impl_Job) × (List Int) × Int × Int)) (hr : x_spec_l1Cur_plain3_l0 st_ = some c_) (T_ : Tm) (H_ : List Blk) (ng : Nat) (hR_ : R_spec_l1Cur_plain3_l0 H0 id g st_ T_ H_) :
    ∃ e_ T1_ H1_ ng1_, gcode (shOf F) cl LL c_spec_l1Cur_plain3_l0 ⟨maskT (some [0, 3, 4]) T_, H_, ng⟩ = some (e_, ⟨T1_, H1_, ng1_⟩) ∧ TurnOK (R_spec_l1Cur_plain3_l0 H0 id g) (Q_spec_l1Cur_plain3_l0 H0 id g) (H0.length + 1) c_ e_ T1_ H1_ := by
  obtain ⟨jobs_, k0, k1, k2, i_⟩ := st_
  obtain ⟨g0, f0_, f1_, f2_, rfl⟩ := hR_
  unfold x_spec_l1Cur_plain3_l0 at hr
  try dsimp only at hr
  have w1_ : ∀ b, (H0.set id b)[id]? = some b := fun b => hs_get b hid
  have w2_ : ∀ b B, (H0.set id b ++ B)[id]? = some b := fun b B => hs_getA b hid
  have w3_ : ∀ a b B, (H0.set id a ++ B).set id b = H0.set id b ++ B := fun a b B => hs_setA a b hid
  by_cases h5 : i_ < ((jobs_.length : Nat) : Int)
  · rw [if_pos h5] at hr
    have e3 : (i_ < ((jobs_.length : Nat) : Int)) = True := eq_true h5
    clear h5
    obtain ⟨y6, q10, hr⟩ := Option.bind_eq_some_iff.1 hr
    obtain ⟨e7, e8, e9⟩ := ix_some q10
    try simp only [Int.toNat_natCast, Int.toNat_zero, Int.reduceToNat] at e8
    clear q10
    obtain ⟨l11, q16, hr⟩ := Option.bind_eq_some_iff.1 hr
    obtain ⟨_, _, e12, e13, _⟩ := put_some q16
    try simp only [Int.toNat_natCast, Int.toNat_zero, Int.reduceToNat] at e12
    have e14 : (jobs_.map impl_Job.cells).set (Int.toNat i_) [.int .i64 y6.Time, .int .i64 y6.Weight, .int .i64 0, .int .i64 y6.Due] = l11.map impl_Job.cells := by rw [← e12, List.map_set] <;> rfl
    replace e13 : Keep (jobs_.length = l11.length) := e13
    clear e12 q16
    by_cases h21 : 0 < i_
    · rw [if_pos h21] at hr
      have e19 : (0 < i_) = True := eq_true h21
      clear h21
      obtain ⟨r22, q25, hr⟩ := Option.bind_eq_some_iff.1 hr
      obtain ⟨ng23, e24⟩ : ∃ ng', gcall (shOf F) cl false n_spec_l1Cur_one [.ptr id g 0 0, .int .i64 3] (H0.set id (Blk.mk g false 3 [[.fs (k0.map (cI .u8)), .int .i64 k1, .int .u64 k2]]) ++ [(Blk.mk g0 false 4 (l11.map impl_Job.cells))]) ng = some (.bool r22.1, (H0.set id (Blk.mk g false 3 [[.fs (r22.2.code.map (cI .u8)), .int .i64 r22.2.at_, .int .u64 r22.2.seed]]) ++ [(Blk.mk g0 false 4 (l11.map impl_Job.cells))]), ng', .all) := call_curA s_spec_l1Cur_one (K_spec_l1Cur_one _ _ _ q25) H0 [(Blk.mk g0 false 4 (l11.map impl_Job.cells))] id g ng hid
      by_cases h28 : r22.1 = true
      · rw [if_pos h28] at hr
        have e26 : r22.1 = true := h28
        clear h28
        obtain ⟨y29, q34, hr⟩ := Option.bind_eq_some_iff.1 hr
        obtain ⟨e30, e31, e32⟩ := ix_some q34
        have e33 : ((subK .i64 i_ 1) < ((jobs_.length : Nat) : Int)) = True := by rw [show jobs_.length = _ from e13]; exact e32
        try simp only [Int.toNat_natCast, Int.toNat_zero, Int.reduceToNat] at e31
        clear q34
        obtain ⟨y35, q40, hr⟩ := Option.bind_eq_some_iff.1 hr
        obtain ⟨e36, e37, e38⟩ := ix_some q40
        have e39 : (i_ < ((jobs_.length : Nat) : Int)) = True := by rw [show jobs_.length = _ from e13]; exact e38
        try simp only [Int.toNat_natCast, Int.toNat_zero, Int.reduceToNat] at e37
        clear q40
        obtain ⟨l41, q46, hr⟩ := Option.bind_eq_some_iff.1 hr
        obtain ⟨_, _, e42, e43, _⟩ := put_some q46
        try simp only [Int.toNat_natCast, Int.toNat_zero, Int.reduceToNat] at e42
        have e44 : (l11.map impl_Job.cells).set (Int.toNat i_) [.int .i64 y29.Time, .int .i64 y35.Weight, .int .i64 y35.Release, .int .i64 y35.Due] = l41.map impl_Job.cells := by rw [← e42, List.map_set] <;> rfl
        replace e43 : Keep (l11.length = l41.length) := e43
        clear e42 q46
        obtain ⟨y47, q52, hr⟩ := Option.bind_eq_some_iff.1 hr
        obtain ⟨e48, e49, e50⟩ := ix_some q52
        have e51 : ((subK .i64 i_ 1) < ((jobs_.length : Nat) : Int)) = True := by rw [show jobs_.length = _ from (Eq.trans e13 e43)]; exact e50
        try simp only [Int.toNat_natCast, Int.toNat_zero, Int.reduceToNat] at e49
        clear q52
        obtain ⟨y53, q58, hr⟩ := Option.bind_eq_some_iff.1 hr
        obtain ⟨e54, e55, e56⟩ := ix_some q58
        have e57 : (i_ < ((jobs_.length : Nat) : Int)) = True := by rw [show jobs_.length = _ from (Eq.trans e13 e43)]; exact e56
        try simp only [Int.toNat_natCast, Int.toNat_zero, Int.reduceToNat] at e55
        clear q58
        obtain ⟨l59, q64, hr⟩ := Option.bind_eq_some_iff.1 hr
        obtain ⟨_, _, e60, e61, _⟩ := put_some q64
        try simp only [Int.toNat_natCast, Int.toNat_zero, Int.reduceToNat] at e60
        have e62 : (l41.map impl_Job.cells).set (Int.toNat i_) [.int .i64 y53.Time, .int .i64 y47.Weight, .int .i64 y53.Release, .int .i64 y53.Due] = l59.map impl_Job.cells := by rw [← e60, List.map_set] <;> rfl
        replace e61 : Keep (l41.length = l59.length) := e61
        clear e60 q64
        have hr_ := Option.some.inj hr; subst hr_
        refine turn (by
          simp only [c_spec_l1Cur_plain3_l0, evA, evB, Int.reduceToNat, eq_self, reduceCtorEq, ↓reduceIte, Nat.reduceEqDiff, Nat.reduceAdd, Nat.reduceLT, Nat.reduceLeDiff, Nat.reduceMul, Nat.reduceSub, Nat.reduceBEq, impl_Job.cells, rz_impl_Job, pr_impl_Job, spec_l1Cur.cells, rz_spec_l1Cur, pr_spec_l1Cur, arr_2_int.cells, rz_arr_2_int, pr_arr_2_int, *]
          rfl) ?_
        exact ⟨rfl, _, rfl, (congrArg (fun n_ => V.os H0.length g0 4 0 n_) (Eq.trans (Eq.trans e13 e43) e61)), rfl, (by simp only [hs_takek, hs_take0, hs_take, List.take_succ_cons, List.take_zero, List.append_nil] <;> rfl)⟩
      · rw [if_neg h28] at hr
        have e27 : r22.1 = false := Bool.eq_false_iff.2 h28
        clear h28
        have hr_ := Option.some.inj hr; subst hr_
        refine turn (by
          simp only [c_spec_l1Cur_plain3_l0, evA, evB, Int.reduceToNat, eq_self, reduceCtorEq, ↓reduceIte, Nat.reduceEqDiff, Nat.reduceAdd, Nat.reduceLT, Nat.reduceLeDiff, Nat.reduceMul, Nat.reduceSub, Nat.reduceBEq, impl_Job.cells, rz_impl_Job, pr_impl_Job, spec_l1Cur.cells, rz_spec_l1Cur, pr_spec_l1Cur, arr_2_int.cells, rz_arr_2_int, pr_arr_2_int, *]
          rfl) ?_
        exact ⟨rfl, _, rfl, (congrArg (fun n_ => V.os H0.length g0 4 0 n_) e13), rfl, (by simp only [hs_takek, hs_take0, hs_take, List.take_succ_cons, List.take_zero, List.append_nil] <;> rfl)⟩
    · rw [if_neg h21] at hr
      have e20 : (0 < i_) = False := eq_false h21
      clear h21
      have hr_ := Option.some.inj hr; subst hr_
      refine turn (by
        simp only [c_spec_l1Cur_plain3_l0, evA, evB, Int.reduceToNat, eq_self, reduceCtorEq, ↓reduceIte, Nat.reduceEqDiff, Nat.reduceAdd, Nat.reduceLT, Nat.reduceLeDiff, Nat.reduceMul, Nat.reduceSub, Nat.reduceBEq, impl_Job.cells, rz_impl_Job, pr_impl_Job, spec_l1Cur.cells, rz_spec_l1Cur, pr_spec_l1Cur, arr_2_int.cells, rz_arr_2_int, pr_arr_2_int, *]
        rfl) ?_
      exact ⟨rfl, _, rfl, (congrArg (fun n_ => V.os H0.length g0 4 0 n_) e13), rfl, (by simp only [hs_takek, hs_take0, hs_take, List.take_succ_cons, List.take_zero, List.append_nil] <;> rfl)⟩
  · rw [if_neg h5] at hr
    have e4 : (i_ < ((jobs_.length : Nat) : Int)) = False := eq_false h5
    clear h5
    have hr_ := Option.some.inj hr; subst hr_
    refine turn (by
      simp only [c_spec_l1Cur_plain3_l0, evA, evB, Int.reduceToNat, eq_self, reduceCtorEq, ↓reduceIte, Nat.reduceEqDiff, Nat.reduceAdd, Nat.reduceLT, Nat.reduceLeDiff, Nat.reduceMul, Nat.reduceSub, Nat.reduceBEq, impl_Job.cells, rz_impl_Job, pr_impl_Job, spec_l1Cur.cells, rz_spec_l1Cur, pr_spec_l1Cur, arr_2_int.cells, rz_arr_2_int, pr_arr_2_int, *]
      rfl) ?_
    exact ⟨by simp, rfl, _, rfl, rfl⟩

theorem lp_spec_l1Cur_plain3_l0 {cl : Callee} (K_spec_l1Cur_one : K_spec_l1Cur_one x_spec_l1Cur_one (cl n_spec_l1Cur_one)) (K_spec_l1Cur_jobs : K_spec_l1Cur_jobs x_spec_l1Cur_jobs (cl n_spec_l1Cur_jobs)) (H0 : List Blk) (id g : Nat) (hid : id < H0.length) (st_ : ((List impl_Job) × (List Int) × Int × Int × Int)) (p_ : ((List impl_Job) × (List Int) × Int × Int)) (hr : loopS (x_spec_l1Cur_plain3_l0) LL st_ = some p_) (T_ : Tm) (H_ : List Blk) (ng : Nat) (hR_ : R_spec_l1Cur_plain3_l0 H0 id g st_ T_ H_) (hn_ : H_.length = (H0.length + 1)) :
    ∃ e_ T1_ H1_ ng1_, gcode (shOf F) cl LL (.loop false (some [0, 3, 4]) c_spec_l1Cur_plain3_l0) ⟨T_, H_, ng⟩ = some (e_, ⟨T1_, H1_, ng1_⟩) ∧ Q_spec_l1Cur_plain3_l0 H0 id g p_ e_ T1_ H1_ :=
  sim_loop (n0 := (H0.length + 1)) (R_spec_l1Cur_plain3_l0 H0 id g) (Q_spec_l1Cur_plain3_l0 H0 id g) (st_spec_l1Cur_plain3_l0 K_spec_l1Cur_one K_spec_l1Cur_jobs H0 id g hid) st_ p_ hr T_ H_ ng hR_ hn_

theorem ok_spec_l1Cur_plain3 {cl : Callee} (K_spec_l1Cur_one : K_spec_l1Cur_one x_spec_l1Cur_one (cl n_spec_l1Cur_one)) (K_spec_l1Cur_jobs : K_spec_l1Cur_jobs x_spec_l1Cur_jobs (cl n_spec_l1Cur_jobs)) : K_spec_l1Cur_plain3 (x_spec_l1Cur_plain3) (gbody F LL cl c_spec_l1Cur_plain3) := by
  intro c_ r hr
  intro H0 id g ng hid
  have w1_ : ∀ b, (H0.set id b)[id]? = some b := fun b => hs_get b hid
  have w2_ : ∀ b B, (H0.set id b ++ B)[id]? = some b := fun b B => hs_getA b hid
  have w3_ : ∀ a b B, (H0.set id a ++ B).set id b = H0.set id b ++ B := fun a b B => hs_setA a b hid
  unfold x_spec_l1Cur_plain3 at hr
  try dsimp only at hr
  obtain ⟨r1, q4, hr⟩ := Option.bind_eq_some_iff.1 hr
  obtain ⟨ng2, e3⟩ : ∃ ng', gcall (shOf F) cl true n_spec_l1Cur_jobs [.ptr id g 0 0] (H0.set id (Blk.mk g false 3 [[.fs (c_.code.map (cI .u8)), .int .i64 c_.at_, .int .u64 c_.seed]])) ng = some (.os H0.length ng' 4 0 r1.1.length, (H0.set id (Blk.mk g false 3 [[.fs (r1.2.code.map (cI .u8)), .int .i64 r1.2.at_, .int .u64 r1.2.seed]]) ++ [(Blk.mk ng' false 4 (r1.1.map impl_Job.cells))]), ng' + 1, .all) := (by have := call_curAO s_spec_l1Cur_jobs (K_spec_l1Cur_jobs _ _ q4) H0 [] id g ng hid; simpa only [List.length_map, List.append_nil, List.length_nil, Nat.add_zero] using this)
  obtain ⟨r5, q8, hr⟩ := Option.bind_eq_some_iff.1 hr
  obtain ⟨ng6, e7⟩ : ∃ ng', gcall (shOf F) cl false n_spec_l1Cur_one [.ptr id g 0 0, .int .i64 24] (H0.set id (Blk.mk g false 3 [[.fs (r1.2.code.map (cI .u8)), .int .i64 r1.2.at_, .int .u64 r1.2.seed]]) ++ [(Blk.mk ng2 false 4 (r1.1.map impl_Job.cells))]) (ng2 + 1) = some (.bool r5.1, (H0.set id (Blk.mk g false 3 [[.fs (r5.2.code.map (cI .u8)), .int .i64 r5.2.at_, .int .u64 r5.2.seed]]) ++ [(Blk.mk ng2 false 4 (r1.1.map impl_Job.cells))]), ng', .all) := call_curA s_spec_l1Cur_one (K_spec_l1Cur_one _ _ _ q8) H0 [(Blk.mk ng2 false 4 (r1.1.map impl_Job.cells))] id g (ng2 + 1) hid
  by_cases h11 : r5.1 = true
  · rw [if_pos h11] at hr
    have e9 : r5.1 = true := h11
    clear h11
    have hr_ := Option.some.inj hr; subst hr_
    refine ⟨H0.length, ng2, [(Blk.mk ng2 false 4 (r1.1.map impl_Job.cells))], ng6, ?_, ?_, ?_, sc_impl_Job _⟩
    · simp only [c_spec_l1Cur_plain3, evA, evB, Int.reduceToNat, eq_self, reduceCtorEq, ↓reduceIte, Nat.reduceEqDiff, Nat.reduceAdd, Nat.reduceLT, Nat.reduceLeDiff, Nat.reduceMul, Nat.reduceSub, Nat.reduceBEq, impl_Job.cells, rz_impl_Job, pr_impl_Job, spec_l1Cur.cells, rz_spec_l1Cur, pr_spec_l1Cur, arr_2_int.cells, rz_arr_2_int, pr_arr_2_int, *]
    · simp [hget, hp, hs_own0, hs_ownk]
    · exact Nat.le_refl _
  · rw [if_neg h11] at hr
    have e10 : r5.1 = false := Bool.eq_false_iff.2 h11
    clear h11
    obtain ⟨p12, q22, hr⟩ := Option.bind_eq_some_iff.1 hr
    obtain ⟨ex18, T15, H16, ng17, l14, m13⟩ := lp_spec_l1Cur_plain3_l0 (cl := cl) K_spec_l1Cur_one K_spec_l1Cur_jobs  H0 id g hid _ _ q22 [(0, .ptr id g 0 0), (3, .os H0.length ng2 4 0 r1.1.length), (4, .int .i64 0)] (H0.set id (Blk.mk g false 3 [[.fs (r5.2.code.map (cI .u8)), .int .i64 r5.2.at_, .int .u64 r5.2.seed]]) ++ [(Blk.mk ng2 false 4 (r1.1.map impl_Job.cells))]) ng6 (show R_spec_l1Cur_plain3_l0 H0 id g (r1.1, r5.2.code, r5.2.at_, r5.2.seed, 0) [(0, .ptr id g 0 0), (3, .os H0.length ng2 4 0 r1.1.length), (4, .int .i64 0)] (H0.set id (Blk.mk g false 3 [[.fs (r5.2.code.map (cI .u8)), .int .i64 r5.2.at_, .int .u64 r5.2.seed]]) ++ [(Blk.mk ng2 false 4 (r1.1.map impl_Job.cells))]) from ⟨_, rfl, rfl, rfl, rfl⟩) (by simp)
    obtain ⟨rfl, g19, e20, e21⟩ := m13
    subst e21
    have hr_ := Option.some.inj hr; subst hr_
    refine ⟨H0.length, g19, [(Blk.mk g19 false 4 (p12.1.map impl_Job.cells))], ng17, ?_, ?_, ?_, sc_impl_Job _⟩
    · simp only [c_spec_l1Cur_plain3, evA, evB, Int.reduceToNat, eq_self, reduceCtorEq, ↓reduceIte, Nat.reduceEqDiff, Nat.reduceAdd, Nat.reduceLT, Nat.reduceLeDiff, Nat.reduceMul, Nat.reduceSub, Nat.reduceBEq, impl_Job.cells, rz_impl_Job, pr_impl_Job, spec_l1Cur.cells, rz_spec_l1Cur, pr_spec_l1Cur, arr_2_int.cells, rz_arr_2_int, pr_arr_2_int, *]
    · simp [hget, hp, hs_own0, hs_ownk]
    · exact Nat.le_refl _

theorem ok_spec_DrawPairLoss {cl : Callee} (K_spec_l1Cur_order : K_spec_l1Cur_order x_spec_l1Cur_order (cl n_spec_l1Cur_order)) (K_spec_l1Cur_plain3 : K_spec_l1Cur_plain3 x_spec_l1Cur_plain3 (cl n_spec_l1Cur_plain3)) : K_spec_DrawPairLoss (x_spec_DrawPairLoss) (gbody F LL cl c_spec_DrawPairLoss) := by
  intro code_ r hr
  unfold x_spec_DrawPairLoss at hr
  try dsimp only at hr
  obtain ⟨r1, q4, hr⟩ := Option.bind_eq_some_iff.1 hr
  obtain ⟨ng2, e3⟩ : ∃ ng', gcall (shOf F) cl false n_spec_l1Cur_plain3 [.ptr 0 0 0 0] [(Blk.mk 0 false 3 [[.fs (code_.map (cI .u8)), .int .i64 0, .int .u64 0]])] 1 = some (.fs (r1.1.map impl_Job.cells), [(Blk.mk 0 false 3 [[.fs (r1.2.code.map (cI .u8)), .int .i64 r1.2.at_, .int .u64 r1.2.seed]])], ng', .all) := call_cur s_spec_l1Cur_plain3 (RetCO.ret (K_spec_l1Cur_plain3 _ _ q4)) [(Blk.mk 0 false 3 [[.fs (code_.map (cI .u8)), .int .i64 0, .int .u64 0]])] 0 _ 1 (by simp)
  obtain ⟨r5, q8, hr⟩ := Option.bind_eq_some_iff.1 hr
  obtain ⟨ng6, e7⟩ : ∃ ng', gcall (shOf F) cl false n_spec_l1Cur_order [.ptr 0 0 0 0, .int .i64 (r1.1.length : Int)] [(Blk.mk 0 false 3 [[.fs (r1.2.code.map (cI .u8)), .int .i64 r1.2.at_, .int .u64 r1.2.seed]])] ng2 = some (.fs (r5.1.map (cI .i64)), [(Blk.mk 0 false 3 [[.fs (r5.2.code.map (cI .u8)), .int .i64 r5.2.at_, .int .u64 r5.2.seed]])], ng', .all) := call_cur s_spec_l1Cur_order (RetCO.ret (K_spec_l1Cur_order _ _ _ q8)) [(Blk.mk 0 false 3 [[.fs (r1.2.code.map (cI .u8)), .int .i64 r1.2.at_, .int .u64 r1.2.seed]])] 0 _ ng2 (by simp)
  have hr_ := Option.some.inj hr; subst hr_
  refine Ret.flat (by
    simp only [c_spec_DrawPairLoss, evA, evB, Int.reduceToNat, eq_self, reduceCtorEq, ↓reduceIte, Nat.reduceEqDiff, Nat.reduceAdd, Nat.reduceLT, Nat.reduceLeDiff, Nat.reduceMul, Nat.reduceSub, Nat.reduceBEq, impl_Job.cells, rz_impl_Job, pr_impl_Job, spec_l1Cur.cells, rz_spec_l1Cur, pr_spec_l1Cur, arr_2_int.cells, rz_arr_2_int, pr_arr_2_int, *]
    rfl) rfl

end Gh
