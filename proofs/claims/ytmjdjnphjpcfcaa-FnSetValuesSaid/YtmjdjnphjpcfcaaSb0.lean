/- The ghost answers as the shallow functions do, part 0. Written by program. -/
import Derived.Test.YtmjdjnphjpcfcaaSa
namespace Gh
open Go
set_option linter.unusedSimpArgs false
set_option linter.unusedVariables false
set_option maxRecDepth 100000
set_option maxHeartbeats 20000000

theorem ok_laws_rBig {cl : Callee} : K_laws_rBig (x_laws_rBig) (gbody F LL cl c_laws_rBig) := by
  intro code_ r hr
  unfold x_laws_rBig at hr
  try dsimp only at hr
  have hr_ := Option.some.inj hr; subst hr_
  refine RetF.scal (by
    simp only [c_laws_rBig, evA, evB, Int.reduceToNat, eq_self, reduceCtorEq, ↓reduceIte, Nat.reduceEqDiff, Nat.reduceAdd, Nat.reduceLT, Nat.reduceLeDiff, Nat.reduceMul, Nat.reduceSub, Nat.reduceBEq, spec_l1Cur.cells, rz_spec_l1Cur, pr_spec_l1Cur, impl_Job.cells, rz_impl_Job, pr_impl_Job, spec_l2Search.cells, rz_spec_l2Search, pr_spec_l2Search, *]
    rfl) rfl rfl

theorem ok_spec_l1Cur_next {cl : Callee} : K_spec_l1Cur_next (x_spec_l1Cur_next) (gbody F LL cl c_spec_l1Cur_next) := by
  intro c_ r hr
  intro H0 id g ng hid
  have w1_ : ∀ b, (H0.set id b)[id]? = some b := fun b => hs_get b hid
  have w2_ : ∀ b B, (H0.set id b ++ B)[id]? = some b := fun b B => hs_getA b hid
  have w3_ : ∀ a b B, (H0.set id a ++ B).set id b = H0.set id b ++ B := fun a b B => hs_setA a b hid
  unfold x_spec_l1Cur_next at hr
  try dsimp only at hr
  by_cases h5 : c_.at_ < (c_.code.length : Int)
  · rw [if_pos h5] at hr
    have e3 : (c_.at_ < (c_.code.length : Int)) = True := eq_true h5
    clear h5
    obtain ⟨y6, q10, hr⟩ := Option.bind_eq_some_iff.1 hr
    obtain ⟨e7, e8, e9⟩ := ix_some q10
    try simp only [Int.toNat_natCast, Int.toNat_zero, Int.reduceToNat] at e8
    clear q10
    by_cases h15 : (addK .i64 c_.at_ 1) ≤ (c_.code.length : Int)
    · rw [if_pos h15] at hr
      have e13 : ((addK .i64 c_.at_ 1) ≤ (c_.code.length : Int)) = True := eq_true h15
      clear h15
      have hr_ := Option.some.inj hr; subst hr_
      refine ⟨.int .i64 (convK .i64 y6), [], ng, ?_, ?_⟩
      · simp only [c_spec_l1Cur_next, evA, evB, Int.reduceToNat, eq_self, reduceCtorEq, ↓reduceIte, Nat.reduceEqDiff, Nat.reduceAdd, Nat.reduceLT, Nat.reduceLeDiff, Nat.reduceMul, Nat.reduceSub, Nat.reduceBEq, spec_l1Cur.cells, rz_spec_l1Cur, pr_spec_l1Cur, impl_Job.cells, rz_impl_Job, pr_impl_Job, spec_l2Search.cells, rz_spec_l2Search, pr_spec_l2Search, *]
      · exact outR_flat rfl
    · rw [if_neg h15] at hr
      have e14 : ((addK .i64 c_.at_ 1) ≤ (c_.code.length : Int)) = False := eq_false h15
      clear h15
      have e16 : binI .shr .u64 (addK .u64 (addK .u64 (mulK .u64 c_.seed 6364136223846793005) (convK .u64 (convK .i64 y6))) 462197) .u64 40 = some (.int .u64 (shrK .u64 (addK .u64 (addK .u64 (mulK .u64 c_.seed 6364136223846793005) (convK .u64 (convK .i64 y6))) 462197) 40)) := bi_shr _ _ _ _ (by decide)
      have hr_ := Option.some.inj hr; subst hr_
      refine ⟨.int .i64 (convK .i64 (andK .u64 (shrK .u64 (addK .u64 (addK .u64 (mulK .u64 c_.seed 6364136223846793005) (convK .u64 (convK .i64 y6))) 462197) 40) 255)), [], ng, ?_, ?_⟩
      · simp only [c_spec_l1Cur_next, evA, evB, Int.reduceToNat, eq_self, reduceCtorEq, ↓reduceIte, Nat.reduceEqDiff, Nat.reduceAdd, Nat.reduceLT, Nat.reduceLeDiff, Nat.reduceMul, Nat.reduceSub, Nat.reduceBEq, spec_l1Cur.cells, rz_spec_l1Cur, pr_spec_l1Cur, impl_Job.cells, rz_impl_Job, pr_impl_Job, spec_l2Search.cells, rz_spec_l2Search, pr_spec_l2Search, *]
      · exact outR_flat rfl
  · rw [if_neg h5] at hr
    have e4 : (c_.at_ < (c_.code.length : Int)) = False := eq_false h5
    clear h5
    by_cases h21 : (addK .i64 c_.at_ 1) ≤ (c_.code.length : Int)
    · rw [if_pos h21] at hr
      have e19 : ((addK .i64 c_.at_ 1) ≤ (c_.code.length : Int)) = True := eq_true h21
      clear h21
      have hr_ := Option.some.inj hr; subst hr_
      refine ⟨.int .i64 0, [], ng, ?_, ?_⟩
      · simp only [c_spec_l1Cur_next, evA, evB, Int.reduceToNat, eq_self, reduceCtorEq, ↓reduceIte, Nat.reduceEqDiff, Nat.reduceAdd, Nat.reduceLT, Nat.reduceLeDiff, Nat.reduceMul, Nat.reduceSub, Nat.reduceBEq, spec_l1Cur.cells, rz_spec_l1Cur, pr_spec_l1Cur, impl_Job.cells, rz_impl_Job, pr_impl_Job, spec_l2Search.cells, rz_spec_l2Search, pr_spec_l2Search, *]
      · exact outR_flat rfl
    · rw [if_neg h21] at hr
      have e20 : ((addK .i64 c_.at_ 1) ≤ (c_.code.length : Int)) = False := eq_false h21
      clear h21
      have e22 : binI .shr .u64 (addK .u64 (addK .u64 (mulK .u64 c_.seed 6364136223846793005) (convK .u64 0)) 462197) .u64 40 = some (.int .u64 (shrK .u64 (addK .u64 (addK .u64 (mulK .u64 c_.seed 6364136223846793005) (convK .u64 0)) 462197) 40)) := bi_shr _ _ _ _ (by decide)
      have hr_ := Option.some.inj hr; subst hr_
      refine ⟨.int .i64 (convK .i64 (andK .u64 (shrK .u64 (addK .u64 (addK .u64 (mulK .u64 c_.seed 6364136223846793005) (convK .u64 0)) 462197) 40) 255)), [], ng, ?_, ?_⟩
      · simp only [c_spec_l1Cur_next, evA, evB, Int.reduceToNat, eq_self, reduceCtorEq, ↓reduceIte, Nat.reduceEqDiff, Nat.reduceAdd, Nat.reduceLT, Nat.reduceLeDiff, Nat.reduceMul, Nat.reduceSub, Nat.reduceBEq, spec_l1Cur.cells, rz_spec_l1Cur, pr_spec_l1Cur, impl_Job.cells, rz_impl_Job, pr_impl_Job, spec_l2Search.cells, rz_spec_l2Search, pr_spec_l2Search, *]
      · exact outR_flat rfl

theorem ok_spec_l1Cur_pick {cl : Callee} (K_spec_l1Cur_next : K_spec_l1Cur_next x_spec_l1Cur_next (cl n_spec_l1Cur_next)) : K_spec_l1Cur_pick (x_spec_l1Cur_pick) (gbody F LL cl c_spec_l1Cur_pick) := by
  intro c_ n_ r hr
  intro H0 id g ng hid
  have w1_ : ∀ b, (H0.set id b)[id]? = some b := fun b => hs_get b hid
  have w2_ : ∀ b B, (H0.set id b ++ B)[id]? = some b := fun b B => hs_getA b hid
  have w3_ : ∀ a b B, (H0.set id a ++ B).set id b = H0.set id b ++ B := fun a b B => hs_setA a b hid
  unfold x_spec_l1Cur_pick at hr
  try dsimp only at hr
  by_cases h5 : n_ ≤ 1
  · rw [if_pos h5] at hr
    have e3 : (n_ ≤ 1) = True := eq_true h5
    clear h5
    have hr_ := Option.some.inj hr; subst hr_
    refine ⟨.int .i64 0, [], ng, ?_, ?_⟩
    · simp only [c_spec_l1Cur_pick, evA, evB, Int.reduceToNat, eq_self, reduceCtorEq, ↓reduceIte, Nat.reduceEqDiff, Nat.reduceAdd, Nat.reduceLT, Nat.reduceLeDiff, Nat.reduceMul, Nat.reduceSub, Nat.reduceBEq, spec_l1Cur.cells, rz_spec_l1Cur, pr_spec_l1Cur, impl_Job.cells, rz_impl_Job, pr_impl_Job, spec_l2Search.cells, rz_spec_l2Search, pr_spec_l2Search, *]
    · exact outR_flat rfl
  · rw [if_neg h5] at hr
    have e4 : (n_ ≤ 1) = False := eq_false h5
    clear h5
    obtain ⟨r6, q9, hr⟩ := Option.bind_eq_some_iff.1 hr
    obtain ⟨ng7, e8⟩ : ∃ ng', gcall (shOf F) cl false n_spec_l1Cur_next [.ptr id g 0 0] (H0.set id (Blk.mk g false 3 [[.fs (c_.code.map (cI .u8)), .int .i64 c_.at_, .int .u64 c_.seed]])) ng = some (.int .i64 r6.1, (H0.set id (Blk.mk g false 3 [[.fs (r6.2.code.map (cI .u8)), .int .i64 r6.2.at_, .int .u64 r6.2.seed]])), ng', .all) := call_cur s_spec_l1Cur_next (K_spec_l1Cur_next _ _ q9) H0 id g ng hid
    by_cases h14 : 200 < n_
    · rw [if_pos h14] at hr
      have e12 : (200 < n_) = True := eq_true h14
      clear h14
      obtain ⟨r15, q18, hr⟩ := Option.bind_eq_some_iff.1 hr
      obtain ⟨ng16, e17⟩ : ∃ ng', gcall (shOf F) cl false n_spec_l1Cur_next [.ptr id g 0 0] (H0.set id (Blk.mk g false 3 [[.fs (r6.2.code.map (cI .u8)), .int .i64 r6.2.at_, .int .u64 r6.2.seed]])) ng7 = some (.int .i64 r15.1, (H0.set id (Blk.mk g false 3 [[.fs (r15.2.code.map (cI .u8)), .int .i64 r15.2.at_, .int .u64 r15.2.seed]])), ng', .all) := call_cur s_spec_l1Cur_next (K_spec_l1Cur_next _ _ q18) H0 id g ng7 hid
      by_cases h20 : n_ = 0
      · rw [if_pos h20] at hr
        clear h20
        exact nomatch hr
      · rw [if_neg h20] at hr
        have e19 : binI .rem .i64 (addK .i64 (mulK .i64 r6.1 256) r15.1) .i64 n_ = some (.int .i64 (remK .i64 (addK .i64 (mulK .i64 r6.1 256) r15.1) n_)) := bi_rem _ _ _ h20
        clear h20
        have hr_ := Option.some.inj hr; subst hr_
        refine ⟨.int .i64 (remK .i64 (addK .i64 (mulK .i64 r6.1 256) r15.1) n_), [], ng16, ?_, ?_⟩
        · simp only [c_spec_l1Cur_pick, evA, evB, Int.reduceToNat, eq_self, reduceCtorEq, ↓reduceIte, Nat.reduceEqDiff, Nat.reduceAdd, Nat.reduceLT, Nat.reduceLeDiff, Nat.reduceMul, Nat.reduceSub, Nat.reduceBEq, spec_l1Cur.cells, rz_spec_l1Cur, pr_spec_l1Cur, impl_Job.cells, rz_impl_Job, pr_impl_Job, spec_l2Search.cells, rz_spec_l2Search, pr_spec_l2Search, *]
        · exact outR_flat rfl
    · rw [if_neg h14] at hr
      have e13 : (200 < n_) = False := eq_false h14
      clear h14
      by_cases h22 : n_ = 0
      · rw [if_pos h22] at hr
        clear h22
        exact nomatch hr
      · rw [if_neg h22] at hr
        have e21 : binI .rem .i64 r6.1 .i64 n_ = some (.int .i64 (remK .i64 r6.1 n_)) := bi_rem _ _ _ h22
        clear h22
        have hr_ := Option.some.inj hr; subst hr_
        refine ⟨.int .i64 (remK .i64 r6.1 n_), [], ng7, ?_, ?_⟩
        · simp only [c_spec_l1Cur_pick, evA, evB, Int.reduceToNat, eq_self, reduceCtorEq, ↓reduceIte, Nat.reduceEqDiff, Nat.reduceAdd, Nat.reduceLT, Nat.reduceLeDiff, Nat.reduceMul, Nat.reduceSub, Nat.reduceBEq, spec_l1Cur.cells, rz_spec_l1Cur, pr_spec_l1Cur, impl_Job.cells, rz_impl_Job, pr_impl_Job, spec_l2Search.cells, rz_spec_l2Search, pr_spec_l2Search, *]
        · exact outR_flat rfl

theorem ok_spec_l1Cur_one {cl : Callee} (K_spec_l1Cur_pick : K_spec_l1Cur_pick x_spec_l1Cur_pick (cl n_spec_l1Cur_pick)) : K_spec_l1Cur_one (x_spec_l1Cur_one) (gbody F LL cl c_spec_l1Cur_one) := by
  intro c_ n_ r hr
  intro H0 id g ng hid
  have w1_ : ∀ b, (H0.set id b)[id]? = some b := fun b => hs_get b hid
  have w2_ : ∀ b B, (H0.set id b ++ B)[id]? = some b := fun b B => hs_getA b hid
  have w3_ : ∀ a b B, (H0.set id a ++ B).set id b = H0.set id b ++ B := fun a b B => hs_setA a b hid
  unfold x_spec_l1Cur_one at hr
  try dsimp only at hr
  obtain ⟨r1, q4, hr⟩ := Option.bind_eq_some_iff.1 hr
  obtain ⟨ng2, e3⟩ : ∃ ng', gcall (shOf F) cl false n_spec_l1Cur_pick [.ptr id g 0 0, .int .i64 n_] (H0.set id (Blk.mk g false 3 [[.fs (c_.code.map (cI .u8)), .int .i64 c_.at_, .int .u64 c_.seed]])) ng = some (.int .i64 r1.1, (H0.set id (Blk.mk g false 3 [[.fs (r1.2.code.map (cI .u8)), .int .i64 r1.2.at_, .int .u64 r1.2.seed]])), ng', .all) := call_cur s_spec_l1Cur_pick (K_spec_l1Cur_pick _ _ _ q4) H0 id g ng hid
  have hr_ := Option.some.inj hr; subst hr_
  refine ⟨.bool (decide (r1.1 = 0)), [], ng2, ?_, ?_⟩
  · simp only [c_spec_l1Cur_one, evA, evB, Int.reduceToNat, eq_self, reduceCtorEq, ↓reduceIte, Nat.reduceEqDiff, Nat.reduceAdd, Nat.reduceLT, Nat.reduceLeDiff, Nat.reduceMul, Nat.reduceSub, Nat.reduceBEq, spec_l1Cur.cells, rz_spec_l1Cur, pr_spec_l1Cur, impl_Job.cells, rz_impl_Job, pr_impl_Job, spec_l2Search.cells, rz_spec_l2Search, pr_spec_l2Search, *]
  · exact outR_flat rfl

theorem ok_spec_l1Cur_among {cl : Callee} (K_spec_l1Cur_pick : K_spec_l1Cur_pick x_spec_l1Cur_pick (cl n_spec_l1Cur_pick)) : K_spec_l1Cur_among (x_spec_l1Cur_among) (gbody F LL cl c_spec_l1Cur_among) := by
  intro c_ list_ r hr
  intro H0 id g ng hid
  have w1_ : ∀ b, (H0.set id b)[id]? = some b := fun b => hs_get b hid
  have w2_ : ∀ b B, (H0.set id b ++ B)[id]? = some b := fun b B => hs_getA b hid
  have w3_ : ∀ a b B, (H0.set id a ++ B).set id b = H0.set id b ++ B := fun a b B => hs_setA a b hid
  unfold x_spec_l1Cur_among at hr
  try dsimp only at hr
  obtain ⟨r1, q4, hr⟩ := Option.bind_eq_some_iff.1 hr
  obtain ⟨ng2, e3⟩ : ∃ ng', gcall (shOf F) cl false n_spec_l1Cur_pick [.ptr id g 0 0, .int .i64 (list_.length : Int)] (H0.set id (Blk.mk g false 3 [[.fs (c_.code.map (cI .u8)), .int .i64 c_.at_, .int .u64 c_.seed]])) ng = some (.int .i64 r1.1, (H0.set id (Blk.mk g false 3 [[.fs (r1.2.code.map (cI .u8)), .int .i64 r1.2.at_, .int .u64 r1.2.seed]])), ng', .all) := call_cur s_spec_l1Cur_pick (K_spec_l1Cur_pick _ _ _ q4) H0 id g ng hid
  obtain ⟨y5, q9, hr⟩ := Option.bind_eq_some_iff.1 hr
  obtain ⟨e6, e7, e8⟩ := ix_some q9
  try simp only [Int.toNat_natCast, Int.toNat_zero, Int.reduceToNat] at e7
  clear q9
  have hr_ := Option.some.inj hr; subst hr_
  refine ⟨.int .i64 y5, [], ng2, ?_, ?_⟩
  · simp only [c_spec_l1Cur_among, evA, evB, Int.reduceToNat, eq_self, reduceCtorEq, ↓reduceIte, Nat.reduceEqDiff, Nat.reduceAdd, Nat.reduceLT, Nat.reduceLeDiff, Nat.reduceMul, Nat.reduceSub, Nat.reduceBEq, spec_l1Cur.cells, rz_spec_l1Cur, pr_spec_l1Cur, impl_Job.cells, rz_impl_Job, pr_impl_Job, spec_l2Search.cells, rz_spec_l2Search, pr_spec_l2Search, *]
  · exact outR_flat rfl

theorem ok_spec_l1Cur_spoiltJob {cl : Callee} (K_spec_l1Cur_pick : K_spec_l1Cur_pick x_spec_l1Cur_pick (cl n_spec_l1Cur_pick)) (K_spec_l1Cur_among : K_spec_l1Cur_among x_spec_l1Cur_among (cl n_spec_l1Cur_among)) : K_spec_l1Cur_spoiltJob (x_spec_l1Cur_spoiltJob) (gbody F LL cl c_spec_l1Cur_spoiltJob) := by
  intro c_ j_ r hr
  intro H0 id g ng hid
  have w1_ : ∀ b, (H0.set id b)[id]? = some b := fun b => hs_get b hid
  have w2_ : ∀ b B, (H0.set id b ++ B)[id]? = some b := fun b B => hs_getA b hid
  have w3_ : ∀ a b B, (H0.set id a ++ B).set id b = H0.set id b ++ B := fun a b B => hs_setA a b hid
  unfold x_spec_l1Cur_spoiltJob at hr
  try dsimp only at hr
  obtain ⟨r1, q4, hr⟩ := Option.bind_eq_some_iff.1 hr
  obtain ⟨ng2, e3⟩ : ∃ ng', gcall (shOf F) cl false n_spec_l1Cur_pick [.ptr id g 0 0, .int .i64 4] (H0.set id (Blk.mk g false 3 [[.fs (c_.code.map (cI .u8)), .int .i64 c_.at_, .int .u64 c_.seed]]) ++ [(Blk.mk ng false 4 [[.int .i64 j_.Time, .int .i64 j_.Weight, .int .i64 j_.Release, .int .i64 j_.Due]]), (Blk.mk (ng + 1) false 4 [[.int .i64 0, .int .i64 0, .int .i64 0, .int .i64 0]])]) ((ng + 1) + 1) = some (.int .i64 r1.1, (H0.set id (Blk.mk g false 3 [[.fs (r1.2.code.map (cI .u8)), .int .i64 r1.2.at_, .int .u64 r1.2.seed]]) ++ [(Blk.mk ng false 4 [[.int .i64 j_.Time, .int .i64 j_.Weight, .int .i64 j_.Release, .int .i64 j_.Due]]), (Blk.mk (ng + 1) false 4 [[.int .i64 0, .int .i64 0, .int .i64 0, .int .i64 0]])]), ng', .all) := call_curA s_spec_l1Cur_pick (K_spec_l1Cur_pick _ _ _ q4) H0 [(Blk.mk ng false 4 [[.int .i64 j_.Time, .int .i64 j_.Weight, .int .i64 j_.Release, .int .i64 j_.Due]]), (Blk.mk (ng + 1) false 4 [[.int .i64 0, .int .i64 0, .int .i64 0, .int .i64 0]])] id g ((ng + 1) + 1) hid
  by_cases h9 : r1.1 = 0
  · rw [if_pos h9] at hr
    have e7 : (r1.1 = 0) = True := eq_true h9
    clear h9
    obtain ⟨r10, q13, hr⟩ := Option.bind_eq_some_iff.1 hr
    obtain ⟨ng11, e12⟩ : ∃ ng', gcall (shOf F) cl false n_spec_l1Cur_among [.ptr id g 0 0, .fs [[.int .i64 0], [.int .i64 50], [.int .i64 51], [.int .i64 (-1)], [.int .i64 4611686018427387904]]] (H0.set id (Blk.mk g false 3 [[.fs (r1.2.code.map (cI .u8)), .int .i64 r1.2.at_, .int .u64 r1.2.seed]]) ++ [(Blk.mk ng false 4 [[.int .i64 j_.Time, .int .i64 j_.Weight, .int .i64 j_.Release, .int .i64 j_.Due]]), (Blk.mk (ng + 1) false 4 [[.int .i64 0, .int .i64 0, .int .i64 0, .int .i64 0]])]) ng2 = some (.int .i64 r10.1, (H0.set id (Blk.mk g false 3 [[.fs (r10.2.code.map (cI .u8)), .int .i64 r10.2.at_, .int .u64 r10.2.seed]]) ++ [(Blk.mk ng false 4 [[.int .i64 j_.Time, .int .i64 j_.Weight, .int .i64 j_.Release, .int .i64 j_.Due]]), (Blk.mk (ng + 1) false 4 [[.int .i64 0, .int .i64 0, .int .i64 0, .int .i64 0]])]), ng', .all) := call_curA s_spec_l1Cur_among (K_spec_l1Cur_among _ _ _ q13) H0 [(Blk.mk ng false 4 [[.int .i64 j_.Time, .int .i64 j_.Weight, .int .i64 j_.Release, .int .i64 j_.Due]]), (Blk.mk (ng + 1) false 4 [[.int .i64 0, .int .i64 0, .int .i64 0, .int .i64 0]])] id g ng2 hid
    have hr_ := Option.some.inj hr; subst hr_
    refine ⟨.agg [.int .i64 r10.1, .int .i64 j_.Weight, .int .i64 j_.Release, .int .i64 j_.Due], [(Blk.mk ng false 4 [[.int .i64 r10.1, .int .i64 j_.Weight, .int .i64 j_.Release, .int .i64 j_.Due]]), (Blk.mk (ng + 1) false 4 [[.int .i64 r10.1, .int .i64 j_.Weight, .int .i64 j_.Release, .int .i64 j_.Due]])], ng11, ?_, ?_⟩
    · simp only [c_spec_l1Cur_spoiltJob, evA, evB, Int.reduceToNat, eq_self, reduceCtorEq, ↓reduceIte, Nat.reduceEqDiff, Nat.reduceAdd, Nat.reduceLT, Nat.reduceLeDiff, Nat.reduceMul, Nat.reduceSub, Nat.reduceBEq, spec_l1Cur.cells, rz_spec_l1Cur, pr_spec_l1Cur, impl_Job.cells, rz_impl_Job, pr_impl_Job, spec_l2Search.cells, rz_spec_l2Search, pr_spec_l2Search, *]
    · exact outR_flat rfl
  · rw [if_neg h9] at hr
    have e8 : (r1.1 = 0) = False := eq_false h9
    clear h9
    by_cases h18 : r1.1 = 1
    · rw [if_pos h18] at hr
      have e16 : (r1.1 = 1) = True := eq_true h18
      clear h18
      obtain ⟨r19, q22, hr⟩ := Option.bind_eq_some_iff.1 hr
      obtain ⟨ng20, e21⟩ : ∃ ng', gcall (shOf F) cl false n_spec_l1Cur_among [.ptr id g 0 0, .fs [[.int .i64 (-1)], [.int .i64 50], [.int .i64 51]]] (H0.set id (Blk.mk g false 3 [[.fs (r1.2.code.map (cI .u8)), .int .i64 r1.2.at_, .int .u64 r1.2.seed]]) ++ [(Blk.mk ng false 4 [[.int .i64 j_.Time, .int .i64 j_.Weight, .int .i64 j_.Release, .int .i64 j_.Due]]), (Blk.mk (ng + 1) false 4 [[.int .i64 0, .int .i64 0, .int .i64 0, .int .i64 0]])]) ng2 = some (.int .i64 r19.1, (H0.set id (Blk.mk g false 3 [[.fs (r19.2.code.map (cI .u8)), .int .i64 r19.2.at_, .int .u64 r19.2.seed]]) ++ [(Blk.mk ng false 4 [[.int .i64 j_.Time, .int .i64 j_.Weight, .int .i64 j_.Release, .int .i64 j_.Due]]), (Blk.mk (ng + 1) false 4 [[.int .i64 0, .int .i64 0, .int .i64 0, .int .i64 0]])]), ng', .all) := call_curA s_spec_l1Cur_among (K_spec_l1Cur_among _ _ _ q22) H0 [(Blk.mk ng false 4 [[.int .i64 j_.Time, .int .i64 j_.Weight, .int .i64 j_.Release, .int .i64 j_.Due]]), (Blk.mk (ng + 1) false 4 [[.int .i64 0, .int .i64 0, .int .i64 0, .int .i64 0]])] id g ng2 hid
      have hr_ := Option.some.inj hr; subst hr_
      refine ⟨.agg [.int .i64 j_.Time, .int .i64 r19.1, .int .i64 j_.Release, .int .i64 j_.Due], [(Blk.mk ng false 4 [[.int .i64 j_.Time, .int .i64 r19.1, .int .i64 j_.Release, .int .i64 j_.Due]]), (Blk.mk (ng + 1) false 4 [[.int .i64 j_.Time, .int .i64 r19.1, .int .i64 j_.Release, .int .i64 j_.Due]])], ng20, ?_, ?_⟩
      · simp only [c_spec_l1Cur_spoiltJob, evA, evB, Int.reduceToNat, eq_self, reduceCtorEq, ↓reduceIte, Nat.reduceEqDiff, Nat.reduceAdd, Nat.reduceLT, Nat.reduceLeDiff, Nat.reduceMul, Nat.reduceSub, Nat.reduceBEq, spec_l1Cur.cells, rz_spec_l1Cur, pr_spec_l1Cur, impl_Job.cells, rz_impl_Job, pr_impl_Job, spec_l2Search.cells, rz_spec_l2Search, pr_spec_l2Search, *]
      · exact outR_flat rfl
    · rw [if_neg h18] at hr
      have e17 : (r1.1 = 1) = False := eq_false h18
      clear h18
      by_cases h27 : r1.1 = 2
      · rw [if_pos h27] at hr
        have e25 : (r1.1 = 2) = True := eq_true h27
        clear h27
        obtain ⟨r28, q31, hr⟩ := Option.bind_eq_some_iff.1 hr
        obtain ⟨ng29, e30⟩ : ∃ ng', gcall (shOf F) cl false n_spec_l1Cur_among [.ptr id g 0 0, .fs [[.int .i64 (-1)], [.int .i64 500], [.int .i64 501]]] (H0.set id (Blk.mk g false 3 [[.fs (r1.2.code.map (cI .u8)), .int .i64 r1.2.at_, .int .u64 r1.2.seed]]) ++ [(Blk.mk ng false 4 [[.int .i64 j_.Time, .int .i64 j_.Weight, .int .i64 j_.Release, .int .i64 j_.Due]]), (Blk.mk (ng + 1) false 4 [[.int .i64 0, .int .i64 0, .int .i64 0, .int .i64 0]])]) ng2 = some (.int .i64 r28.1, (H0.set id (Blk.mk g false 3 [[.fs (r28.2.code.map (cI .u8)), .int .i64 r28.2.at_, .int .u64 r28.2.seed]]) ++ [(Blk.mk ng false 4 [[.int .i64 j_.Time, .int .i64 j_.Weight, .int .i64 j_.Release, .int .i64 j_.Due]]), (Blk.mk (ng + 1) false 4 [[.int .i64 0, .int .i64 0, .int .i64 0, .int .i64 0]])]), ng', .all) := call_curA s_spec_l1Cur_among (K_spec_l1Cur_among _ _ _ q31) H0 [(Blk.mk ng false 4 [[.int .i64 j_.Time, .int .i64 j_.Weight, .int .i64 j_.Release, .int .i64 j_.Due]]), (Blk.mk (ng + 1) false 4 [[.int .i64 0, .int .i64 0, .int .i64 0, .int .i64 0]])] id g ng2 hid
        have hr_ := Option.some.inj hr; subst hr_
        refine ⟨.agg [.int .i64 j_.Time, .int .i64 j_.Weight, .int .i64 r28.1, .int .i64 j_.Due], [(Blk.mk ng false 4 [[.int .i64 j_.Time, .int .i64 j_.Weight, .int .i64 r28.1, .int .i64 j_.Due]]), (Blk.mk (ng + 1) false 4 [[.int .i64 j_.Time, .int .i64 j_.Weight, .int .i64 r28.1, .int .i64 j_.Due]])], ng29, ?_, ?_⟩
        · simp only [c_spec_l1Cur_spoiltJob, evA, evB, Int.reduceToNat, eq_self, reduceCtorEq, ↓reduceIte, Nat.reduceEqDiff, Nat.reduceAdd, Nat.reduceLT, Nat.reduceLeDiff, Nat.reduceMul, Nat.reduceSub, Nat.reduceBEq, spec_l1Cur.cells, rz_spec_l1Cur, pr_spec_l1Cur, impl_Job.cells, rz_impl_Job, pr_impl_Job, spec_l2Search.cells, rz_spec_l2Search, pr_spec_l2Search, *]
        · exact outR_flat rfl
      · rw [if_neg h27] at hr
        have e26 : (r1.1 = 2) = False := eq_false h27
        clear h27
        obtain ⟨r32, q35, hr⟩ := Option.bind_eq_some_iff.1 hr
        obtain ⟨ng33, e34⟩ : ∃ ng', gcall (shOf F) cl false n_spec_l1Cur_among [.ptr id g 0 0, .fs [[.int .i64 (-1)], [.int .i64 500], [.int .i64 501], [.int .i64 (-9223372036854775808)]]] (H0.set id (Blk.mk g false 3 [[.fs (r1.2.code.map (cI .u8)), .int .i64 r1.2.at_, .int .u64 r1.2.seed]]) ++ [(Blk.mk ng false 4 [[.int .i64 j_.Time, .int .i64 j_.Weight, .int .i64 j_.Release, .int .i64 j_.Due]]), (Blk.mk (ng + 1) false 4 [[.int .i64 0, .int .i64 0, .int .i64 0, .int .i64 0]])]) ng2 = some (.int .i64 r32.1, (H0.set id (Blk.mk g false 3 [[.fs (r32.2.code.map (cI .u8)), .int .i64 r32.2.at_, .int .u64 r32.2.seed]]) ++ [(Blk.mk ng false 4 [[.int .i64 j_.Time, .int .i64 j_.Weight, .int .i64 j_.Release, .int .i64 j_.Due]]), (Blk.mk (ng + 1) false 4 [[.int .i64 0, .int .i64 0, .int .i64 0, .int .i64 0]])]), ng', .all) := call_curA s_spec_l1Cur_among (K_spec_l1Cur_among _ _ _ q35) H0 [(Blk.mk ng false 4 [[.int .i64 j_.Time, .int .i64 j_.Weight, .int .i64 j_.Release, .int .i64 j_.Due]]), (Blk.mk (ng + 1) false 4 [[.int .i64 0, .int .i64 0, .int .i64 0, .int .i64 0]])] id g ng2 hid
        have hr_ := Option.some.inj hr; subst hr_
        refine ⟨.agg [.int .i64 j_.Time, .int .i64 j_.Weight, .int .i64 j_.Release, .int .i64 r32.1], [(Blk.mk ng false 4 [[.int .i64 j_.Time, .int .i64 j_.Weight, .int .i64 j_.Release, .int .i64 r32.1]]), (Blk.mk (ng + 1) false 4 [[.int .i64 j_.Time, .int .i64 j_.Weight, .int .i64 j_.Release, .int .i64 r32.1]])], ng33, ?_, ?_⟩
        · simp only [c_spec_l1Cur_spoiltJob, evA, evB, Int.reduceToNat, eq_self, reduceCtorEq, ↓reduceIte, Nat.reduceEqDiff, Nat.reduceAdd, Nat.reduceLT, Nat.reduceLeDiff, Nat.reduceMul, Nat.reduceSub, Nat.reduceBEq, spec_l1Cur.cells, rz_spec_l1Cur, pr_spec_l1Cur, impl_Job.cells, rz_impl_Job, pr_impl_Job, spec_l2Search.cells, rz_spec_l2Search, pr_spec_l2Search, *]
        · exact outR_flat rfl

theorem ok_spec_l1Cur_job {cl : Callee} (K_spec_l1Cur_pick : K_spec_l1Cur_pick x_spec_l1Cur_pick (cl n_spec_l1Cur_pick)) (K_spec_l1Cur_among : K_spec_l1Cur_among x_spec_l1Cur_among (cl n_spec_l1Cur_among)) : K_spec_l1Cur_job (x_spec_l1Cur_job) (gbody F LL cl c_spec_l1Cur_job) := by
  intro c_ released_ r hr
  intro H0 id g ng hid
  have w1_ : ∀ b, (H0.set id b)[id]? = some b := fun b => hs_get b hid
  have w2_ : ∀ b B, (H0.set id b ++ B)[id]? = some b := fun b B => hs_getA b hid
  have w3_ : ∀ a b B, (H0.set id a ++ B).set id b = H0.set id b ++ B := fun a b B => hs_setA a b hid
  unfold x_spec_l1Cur_job at hr
  try dsimp only at hr
  obtain ⟨r1, q4, hr⟩ := Option.bind_eq_some_iff.1 hr
  obtain ⟨ng2, e3⟩ : ∃ ng', gcall (shOf F) cl false n_spec_l1Cur_among [.ptr id g 0 0, .fs [[.int .i64 1], [.int .i64 2], [.int .i64 3], [.int .i64 4], [.int .i64 5], [.int .i64 7], [.int .i64 9]]] (H0.set id (Blk.mk g false 3 [[.fs (c_.code.map (cI .u8)), .int .i64 c_.at_, .int .u64 c_.seed]]) ++ [(Blk.mk ng false 4 [[.int .i64 0, .int .i64 0, .int .i64 0, .int .i64 0]])]) (ng + 1) = some (.int .i64 r1.1, (H0.set id (Blk.mk g false 3 [[.fs (r1.2.code.map (cI .u8)), .int .i64 r1.2.at_, .int .u64 r1.2.seed]]) ++ [(Blk.mk ng false 4 [[.int .i64 0, .int .i64 0, .int .i64 0, .int .i64 0]])]), ng', .all) := call_curA s_spec_l1Cur_among (K_spec_l1Cur_among _ _ _ q4) H0 [(Blk.mk ng false 4 [[.int .i64 0, .int .i64 0, .int .i64 0, .int .i64 0]])] id g (ng + 1) hid
  obtain ⟨r5, q8, hr⟩ := Option.bind_eq_some_iff.1 hr
  obtain ⟨ng6, e7⟩ : ∃ ng', gcall (shOf F) cl false n_spec_l1Cur_among [.ptr id g 0 0, .fs [[.int .i64 0], [.int .i64 1], [.int .i64 1], [.int .i64 2], [.int .i64 3], [.int .i64 5], [.int .i64 8]]] (H0.set id (Blk.mk g false 3 [[.fs (r1.2.code.map (cI .u8)), .int .i64 r1.2.at_, .int .u64 r1.2.seed]]) ++ [(Blk.mk ng false 4 [[.int .i64 0, .int .i64 0, .int .i64 0, .int .i64 0]])]) ng2 = some (.int .i64 r5.1, (H0.set id (Blk.mk g false 3 [[.fs (r5.2.code.map (cI .u8)), .int .i64 r5.2.at_, .int .u64 r5.2.seed]]) ++ [(Blk.mk ng false 4 [[.int .i64 0, .int .i64 0, .int .i64 0, .int .i64 0]])]), ng', .all) := call_curA s_spec_l1Cur_among (K_spec_l1Cur_among _ _ _ q8) H0 [(Blk.mk ng false 4 [[.int .i64 0, .int .i64 0, .int .i64 0, .int .i64 0]])] id g ng2 hid
  obtain ⟨r9, q12, hr⟩ := Option.bind_eq_some_iff.1 hr
  obtain ⟨ng10, e11⟩ : ∃ ng', gcall (shOf F) cl false n_spec_l1Cur_pick [.ptr id g 0 0, .int .i64 24] (H0.set id (Blk.mk g false 3 [[.fs (r5.2.code.map (cI .u8)), .int .i64 r5.2.at_, .int .u64 r5.2.seed]]) ++ [(Blk.mk ng false 4 [[.int .i64 0, .int .i64 0, .int .i64 0, .int .i64 0]])]) ng6 = some (.int .i64 r9.1, (H0.set id (Blk.mk g false 3 [[.fs (r9.2.code.map (cI .u8)), .int .i64 r9.2.at_, .int .u64 r9.2.seed]]) ++ [(Blk.mk ng false 4 [[.int .i64 0, .int .i64 0, .int .i64 0, .int .i64 0]])]), ng', .all) := call_curA s_spec_l1Cur_pick (K_spec_l1Cur_pick _ _ _ q12) H0 [(Blk.mk ng false 4 [[.int .i64 0, .int .i64 0, .int .i64 0, .int .i64 0]])] id g ng6 hid
  by_cases h15 : released_ = true
  · rw [if_pos h15] at hr
    have e13 : released_ = true := h15
    clear h15
    obtain ⟨r16, q19, hr⟩ := Option.bind_eq_some_iff.1 hr
    obtain ⟨ng17, e18⟩ : ∃ ng', gcall (shOf F) cl false n_spec_l1Cur_pick [.ptr id g 0 0, .int .i64 12] (H0.set id (Blk.mk g false 3 [[.fs (r9.2.code.map (cI .u8)), .int .i64 r9.2.at_, .int .u64 r9.2.seed]]) ++ [(Blk.mk ng false 4 [[.int .i64 0, .int .i64 0, .int .i64 0, .int .i64 0]]), (Blk.mk ng10 false 4 [[.int .i64 r1.1, .int .i64 r5.1, .int .i64 0, .int .i64 r9.1]])]) (ng10 + 1) = some (.int .i64 r16.1, (H0.set id (Blk.mk g false 3 [[.fs (r16.2.code.map (cI .u8)), .int .i64 r16.2.at_, .int .u64 r16.2.seed]]) ++ [(Blk.mk ng false 4 [[.int .i64 0, .int .i64 0, .int .i64 0, .int .i64 0]]), (Blk.mk ng10 false 4 [[.int .i64 r1.1, .int .i64 r5.1, .int .i64 0, .int .i64 r9.1]])]), ng', .all) := call_curA s_spec_l1Cur_pick (K_spec_l1Cur_pick _ _ _ q19) H0 [(Blk.mk ng false 4 [[.int .i64 0, .int .i64 0, .int .i64 0, .int .i64 0]]), (Blk.mk ng10 false 4 [[.int .i64 r1.1, .int .i64 r5.1, .int .i64 0, .int .i64 r9.1]])] id g (ng10 + 1) hid
    have hr_ := Option.some.inj hr; subst hr_
    refine ⟨.agg [.int .i64 r1.1, .int .i64 r5.1, .int .i64 r16.1, .int .i64 r9.1], [(Blk.mk ng false 4 [[.int .i64 r1.1, .int .i64 r5.1, .int .i64 r16.1, .int .i64 r9.1]]), (Blk.mk ng10 false 4 [[.int .i64 r1.1, .int .i64 r5.1, .int .i64 r16.1, .int .i64 r9.1]])], ng17, ?_, ?_⟩
    · simp only [c_spec_l1Cur_job, evA, evB, Int.reduceToNat, eq_self, reduceCtorEq, ↓reduceIte, Nat.reduceEqDiff, Nat.reduceAdd, Nat.reduceLT, Nat.reduceLeDiff, Nat.reduceMul, Nat.reduceSub, Nat.reduceBEq, spec_l1Cur.cells, rz_spec_l1Cur, pr_spec_l1Cur, impl_Job.cells, rz_impl_Job, pr_impl_Job, spec_l2Search.cells, rz_spec_l2Search, pr_spec_l2Search, *]
    · exact outR_flat rfl
  · rw [if_neg h15] at hr
    have e14 : released_ = false := Bool.eq_false_iff.2 h15
    clear h15
    have hr_ := Option.some.inj hr; subst hr_
    refine ⟨.agg [.int .i64 r1.1, .int .i64 r5.1, .int .i64 0, .int .i64 r9.1], [(Blk.mk ng false 4 [[.int .i64 r1.1, .int .i64 r5.1, .int .i64 0, .int .i64 r9.1]]), (Blk.mk ng10 false 4 [[.int .i64 r1.1, .int .i64 r5.1, .int .i64 0, .int .i64 r9.1]])], (ng10 + 1), ?_, ?_⟩
    · simp only [c_spec_l1Cur_job, evA, evB, Int.reduceToNat, eq_self, reduceCtorEq, ↓reduceIte, Nat.reduceEqDiff, Nat.reduceAdd, Nat.reduceLT, Nat.reduceLeDiff, Nat.reduceMul, Nat.reduceSub, Nat.reduceBEq, spec_l1Cur.cells, rz_spec_l1Cur, pr_spec_l1Cur, impl_Job.cells, rz_impl_Job, pr_impl_Job, spec_l2Search.cells, rz_spec_l2Search, pr_spec_l2Search, *]
    · exact outR_flat rfl

theorem st_spec_l1Cur_someJobs_l0 {cl : Callee} (K_spec_l1Cur_pick : K_spec_l1Cur_pick x_spec_l1Cur_pick (cl n_spec_l1Cur_pick)) (K_spec_l1Cur_one : K_spec_l1Cur_one x_spec_l1Cur_one (cl n_spec_l1Cur_one)) (K_spec_l1Cur_among : K_spec_l1Cur_among x_spec_l1Cur_among (cl n_spec_l1Cur_among)) (K_spec_l1Cur_spoiltJob : K_spec_l1Cur_spoiltJob x_spec_l1Cur_spoiltJob (cl n_spec_l1Cur_spoiltJob)) (K_spec_l1Cur_job : K_spec_l1Cur_job x_spec_l1Cur_job (cl n_spec_l1Cur_job)) (released_ : Bool) (most_ : Int) (H0 : List Blk) (id g : Nat) (hid : id < H0.length) (st_ : ((List impl_Job) × (List Int) × Int × Int × Int)) (c_ : Ctl ((List impl_Job) × (List Int) × Int × Int × Int) ((List impl_Job) × (List Int) × Int × Int)) (hr : x_spec_l1Cur_someJobs_l0 released_ most_ st_ = some c_) (T_ : Tm) (H_ : List Blk) (ng : Nat) (hR_ : R_spec_l1Cur_someJobs_l0 H0 id g released_ most_ st_ T_ H_) :
    ∃ e_ T1_ H1_ ng1_, gcode (shOf F) cl LL c_spec_l1Cur_someJobs_l0 ⟨maskT (some [0, 1, 2, 7, 8]) T_, H_, ng⟩ = some (e_, ⟨T1_, H1_, ng1_⟩) ∧ TurnOK (R_spec_l1Cur_someJobs_l0 H0 id g released_ most_) (Q_spec_l1Cur_someJobs_l0 H0 id g released_ most_) (H0.length + 1) c_ e_ T1_ H1_ := by
  obtain ⟨jobs_, k0, k1, k2, n_⟩ := st_
  obtain ⟨g0, f0_, f1_, f2_, f3_, f4_, rfl⟩ := hR_
  unfold x_spec_l1Cur_someJobs_l0 at hr
  try dsimp only at hr
  have w1_ : ∀ b, (H0.set id b)[id]? = some b := fun b => hs_get b hid
  have w2_ : ∀ b B, (H0.set id b ++ B)[id]? = some b := fun b B => hs_getA b hid
  have w3_ : ∀ a b B, (H0.set id a ++ B).set id b = H0.set id b ++ B := fun a b B => hs_setA a b hid
  by_cases h5 : 0 < n_
  · rw [if_pos h5] at hr
    have e3 : (0 < n_) = True := eq_true h5
    clear h5
    by_cases h10 : ((jobs_.length : Nat) : Int) < most_
    · rw [if_pos h10] at hr
      have e8 : (((jobs_.length : Nat) : Int) < most_) = True := eq_true h10
      clear h10
      obtain ⟨r11, q14, hr⟩ := Option.bind_eq_some_iff.1 hr
      obtain ⟨ng12, e13⟩ : ∃ ng', gcall (shOf F) cl false n_spec_l1Cur_job [.ptr id g 0 0, .bool released_] (H0.set id (Blk.mk g false 3 [[.fs (k0.map (cI .u8)), .int .i64 k1, .int .u64 k2]]) ++ [(Blk.mk g0 false 4 (jobs_.map impl_Job.cells))]) ng = some (.agg [.int .i64 r11.1.Time, .int .i64 r11.1.Weight, .int .i64 r11.1.Release, .int .i64 r11.1.Due], (H0.set id (Blk.mk g false 3 [[.fs (r11.2.code.map (cI .u8)), .int .i64 r11.2.at_, .int .u64 r11.2.seed]]) ++ [(Blk.mk g0 false 4 (jobs_.map impl_Job.cells))]), ng', .all) := call_curA s_spec_l1Cur_job (K_spec_l1Cur_job _ _ _ q14) H0 [(Blk.mk g0 false 4 (jobs_.map impl_Job.cells))] id g ng hid
      obtain ⟨l15, q23, hr⟩ := Option.bind_eq_some_iff.1 hr
      obtain ⟨e16, e17, e18, e19⟩ := app_some q23
      try simp only [List.length_cons, List.length_nil, Nat.zero_add, Nat.reduceAdd] at e16 e17 e19
      have e20 : (jobs_.map impl_Job.cells) ++ [[.int .i64 r11.1.Time, .int .i64 r11.1.Weight, .int .i64 r11.1.Release, .int .i64 r11.1.Due]] = l15.map impl_Job.cells := by rw [← e18, List.map_append] <;> rfl
      have e21 := e16
      have e22 := e17
      rw [e19] at e21 e22
      clear e18 q23
      have hr_ := Option.some.inj hr; subst hr_
      refine turn (by
        simp only [c_spec_l1Cur_someJobs_l0, evA, evB, Int.reduceToNat, eq_self, reduceCtorEq, ↓reduceIte, Nat.reduceEqDiff, Nat.reduceAdd, Nat.reduceLT, Nat.reduceLeDiff, Nat.reduceMul, Nat.reduceSub, Nat.reduceBEq, spec_l1Cur.cells, rz_spec_l1Cur, pr_spec_l1Cur, impl_Job.cells, rz_impl_Job, pr_impl_Job, spec_l2Search.cells, rz_spec_l2Search, pr_spec_l2Search, *]
        rfl) ?_
      exact ⟨rfl, _, rfl, rfl, rfl, rfl, rfl, (by simp only [hs_takek, hs_take0, hs_take, List.take_succ_cons, List.take_zero, List.append_nil] <;> rfl)⟩
    · rw [if_neg h10] at hr
      have e9 : (((jobs_.length : Nat) : Int) < most_) = False := eq_false h10
      clear h10
      have hr_ := Option.some.inj hr; subst hr_
      refine turn (by
        simp only [c_spec_l1Cur_someJobs_l0, evA, evB, Int.reduceToNat, eq_self, reduceCtorEq, ↓reduceIte, Nat.reduceEqDiff, Nat.reduceAdd, Nat.reduceLT, Nat.reduceLeDiff, Nat.reduceMul, Nat.reduceSub, Nat.reduceBEq, spec_l1Cur.cells, rz_spec_l1Cur, pr_spec_l1Cur, impl_Job.cells, rz_impl_Job, pr_impl_Job, spec_l2Search.cells, rz_spec_l2Search, pr_spec_l2Search, *]
        rfl) ?_
      exact ⟨by simp, rfl, _, rfl, rfl, rfl, rfl⟩
  · rw [if_neg h5] at hr
    have e4 : (0 < n_) = False := eq_false h5
    clear h5
    have hr_ := Option.some.inj hr; subst hr_
    refine turn (by
      simp only [c_spec_l1Cur_someJobs_l0, evA, evB, Int.reduceToNat, eq_self, reduceCtorEq, ↓reduceIte, Nat.reduceEqDiff, Nat.reduceAdd, Nat.reduceLT, Nat.reduceLeDiff, Nat.reduceMul, Nat.reduceSub, Nat.reduceBEq, spec_l1Cur.cells, rz_spec_l1Cur, pr_spec_l1Cur, impl_Job.cells, rz_impl_Job, pr_impl_Job, spec_l2Search.cells, rz_spec_l2Search, pr_spec_l2Search, *]
      rfl) ?_
    exact ⟨by simp, rfl, _, rfl, rfl, rfl, rfl⟩

theorem lp_spec_l1Cur_someJobs_l0 {cl : Callee} (K_spec_l1Cur_pick : K_spec_l1Cur_pick x_spec_l1Cur_pick (cl n_spec_l1Cur_pick)) (K_spec_l1Cur_one : K_spec_l1Cur_one x_spec_l1Cur_one (cl n_spec_l1Cur_one)) (K_spec_l1Cur_among : K_spec_l1Cur_among x_spec_l1Cur_among (cl n_spec_l1Cur_among)) (K_spec_l1Cur_spoiltJob : K_spec_l1Cur_spoiltJob x_spec_l1Cur_spoiltJob (cl n_spec_l1Cur_spoiltJob)) (K_spec_l1Cur_job : K_spec_l1Cur_job x_spec_l1Cur_job (cl n_spec_l1Cur_job)) (released_ : Bool) (most_ : Int) (H0 : List Blk) (id g : Nat) (hid : id < H0.length) (st_ : ((List impl_Job) × (List Int) × Int × Int × Int)) (p_ : ((List impl_Job) × (List Int) × Int × Int)) (hr : loopS (x_spec_l1Cur_someJobs_l0 released_ most_) LL st_ = some p_) (T_ : Tm) (H_ : List Blk) (ng : Nat) (hR_ : R_spec_l1Cur_someJobs_l0 H0 id g released_ most_ st_ T_ H_) (hn_ : H_.length = (H0.length + 1)) :
    ∃ e_ T1_ H1_ ng1_, gcode (shOf F) cl LL (.loop false (some [0, 1, 2, 7, 8]) c_spec_l1Cur_someJobs_l0) ⟨T_, H_, ng⟩ = some (e_, ⟨T1_, H1_, ng1_⟩) ∧ Q_spec_l1Cur_someJobs_l0 H0 id g released_ most_ p_ e_ T1_ H1_ :=
  sim_loop (n0 := (H0.length + 1)) (R_spec_l1Cur_someJobs_l0 H0 id g released_ most_) (Q_spec_l1Cur_someJobs_l0 H0 id g released_ most_) (st_spec_l1Cur_someJobs_l0 K_spec_l1Cur_pick K_spec_l1Cur_one K_spec_l1Cur_among K_spec_l1Cur_spoiltJob K_spec_l1Cur_job released_ most_ H0 id g hid) st_ p_ hr T_ H_ ng hR_ hn_

theorem st_spec_l1Cur_someJobs_l1 {cl : Callee} (K_spec_l1Cur_pick : K_spec_l1Cur_pick x_spec_l1Cur_pick (cl n_spec_l1Cur_pick)) (K_spec_l1Cur_one : K_spec_l1Cur_one x_spec_l1Cur_one (cl n_spec_l1Cur_one)) (K_spec_l1Cur_among : K_spec_l1Cur_among x_spec_l1Cur_among (cl n_spec_l1Cur_among)) (K_spec_l1Cur_spoiltJob : K_spec_l1Cur_spoiltJob x_spec_l1Cur_spoiltJob (cl n_spec_l1Cur_spoiltJob)) (K_spec_l1Cur_job : K_spec_l1Cur_job x_spec_l1Cur_job (cl n_spec_l1Cur_job)) (released_ : Bool) (H0 : List Blk) (id g : Nat) (hid : id < H0.length) (st_ : ((List impl_Job) × (List Int) × Int × Int)) (c_ : Ctl ((List impl_Job) × (List Int) × Int × Int) ((List impl_Job) × (List Int) × Int × Int)) (hr : x_spec_l1Cur_someJobs_l1 released_ st_ = some c_) (T_ : Tm) (H_ : List Blk) (ng : Nat) (hR_ : R_spec_l1Cur_someJobs_l1 H0 id g released_ st_ T_ H_) :
    ∃ e_ T1_ H1_ ng1_, gcode (shOf F) cl LL c_spec_l1Cur_someJobs_l1 ⟨maskT (some [0, 1, 7]) T_, H_, ng⟩ = some (e_, ⟨T1_, H1_, ng1_⟩) ∧ TurnOK (R_spec_l1Cur_someJobs_l1 H0 id g released_) (Q_spec_l1Cur_someJobs_l1 H0 id g released_) (H0.length + 1) c_ e_ T1_ H1_ := by
  obtain ⟨jobs_, k0, k1, k2⟩ := st_
  obtain ⟨g0, f0_, f1_, f2_, rfl⟩ := hR_
  unfold x_spec_l1Cur_someJobs_l1 at hr
  try dsimp only at hr
  have w1_ : ∀ b, (H0.set id b)[id]? = some b := fun b => hs_get b hid
  have w2_ : ∀ b B, (H0.set id b ++ B)[id]? = some b := fun b B => hs_getA b hid
  have w3_ : ∀ a b B, (H0.set id a ++ B).set id b = H0.set id b ++ B := fun a b B => hs_setA a b hid
  by_cases h5 : ((jobs_.length : Nat) : Int) < 9
  · rw [if_pos h5] at hr
    have e3 : (((jobs_.length : Nat) : Int) < 9) = True := eq_true h5
    clear h5
    obtain ⟨r6, q9, hr⟩ := Option.bind_eq_some_iff.1 hr
    obtain ⟨ng7, e8⟩ : ∃ ng', gcall (shOf F) cl false n_spec_l1Cur_job [.ptr id g 0 0, .bool released_] (H0.set id (Blk.mk g false 3 [[.fs (k0.map (cI .u8)), .int .i64 k1, .int .u64 k2]]) ++ [(Blk.mk g0 false 4 (jobs_.map impl_Job.cells))]) ng = some (.agg [.int .i64 r6.1.Time, .int .i64 r6.1.Weight, .int .i64 r6.1.Release, .int .i64 r6.1.Due], (H0.set id (Blk.mk g false 3 [[.fs (r6.2.code.map (cI .u8)), .int .i64 r6.2.at_, .int .u64 r6.2.seed]]) ++ [(Blk.mk g0 false 4 (jobs_.map impl_Job.cells))]), ng', .all) := call_curA s_spec_l1Cur_job (K_spec_l1Cur_job _ _ _ q9) H0 [(Blk.mk g0 false 4 (jobs_.map impl_Job.cells))] id g ng hid
    obtain ⟨l10, q18, hr⟩ := Option.bind_eq_some_iff.1 hr
    obtain ⟨e11, e12, e13, e14⟩ := app_some q18
    try simp only [List.length_cons, List.length_nil, Nat.zero_add, Nat.reduceAdd] at e11 e12 e14
    have e15 : (jobs_.map impl_Job.cells) ++ [[.int .i64 r6.1.Time, .int .i64 r6.1.Weight, .int .i64 r6.1.Release, .int .i64 r6.1.Due]] = l10.map impl_Job.cells := by rw [← e13, List.map_append] <;> rfl
    have e16 := e11
    have e17 := e12
    rw [e14] at e16 e17
    clear e13 q18
    have hr_ := Option.some.inj hr; subst hr_
    refine turn (by
      simp only [c_spec_l1Cur_someJobs_l1, evA, evB, Int.reduceToNat, eq_self, reduceCtorEq, ↓reduceIte, Nat.reduceEqDiff, Nat.reduceAdd, Nat.reduceLT, Nat.reduceLeDiff, Nat.reduceMul, Nat.reduceSub, Nat.reduceBEq, spec_l1Cur.cells, rz_spec_l1Cur, pr_spec_l1Cur, impl_Job.cells, rz_impl_Job, pr_impl_Job, spec_l2Search.cells, rz_spec_l2Search, pr_spec_l2Search, *]
      rfl) ?_
    exact ⟨rfl, _, rfl, rfl, rfl, (by simp only [hs_takek, hs_take0, hs_take, List.take_succ_cons, List.take_zero, List.append_nil] <;> rfl)⟩
  · rw [if_neg h5] at hr
    have e4 : (((jobs_.length : Nat) : Int) < 9) = False := eq_false h5
    clear h5
    have hr_ := Option.some.inj hr; subst hr_
    refine turn (by
      simp only [c_spec_l1Cur_someJobs_l1, evA, evB, Int.reduceToNat, eq_self, reduceCtorEq, ↓reduceIte, Nat.reduceEqDiff, Nat.reduceAdd, Nat.reduceLT, Nat.reduceLeDiff, Nat.reduceMul, Nat.reduceSub, Nat.reduceBEq, spec_l1Cur.cells, rz_spec_l1Cur, pr_spec_l1Cur, impl_Job.cells, rz_impl_Job, pr_impl_Job, spec_l2Search.cells, rz_spec_l2Search, pr_spec_l2Search, *]
      rfl) ?_
    exact ⟨by simp, rfl, _, rfl, rfl⟩

theorem lp_spec_l1Cur_someJobs_l1 {cl : Callee} (K_spec_l1Cur_pick : K_spec_l1Cur_pick x_spec_l1Cur_pick (cl n_spec_l1Cur_pick)) (K_spec_l1Cur_one : K_spec_l1Cur_one x_spec_l1Cur_one (cl n_spec_l1Cur_one)) (K_spec_l1Cur_among : K_spec_l1Cur_among x_spec_l1Cur_among (cl n_spec_l1Cur_among)) (K_spec_l1Cur_spoiltJob : K_spec_l1Cur_spoiltJob x_spec_l1Cur_spoiltJob (cl n_spec_l1Cur_spoiltJob)) (K_spec_l1Cur_job : K_spec_l1Cur_job x_spec_l1Cur_job (cl n_spec_l1Cur_job)) (released_ : Bool) (H0 : List Blk) (id g : Nat) (hid : id < H0.length) (st_ : ((List impl_Job) × (List Int) × Int × Int)) (p_ : ((List impl_Job) × (List Int) × Int × Int)) (hr : loopS (x_spec_l1Cur_someJobs_l1 released_) LL st_ = some p_) (T_ : Tm) (H_ : List Blk) (ng : Nat) (hR_ : R_spec_l1Cur_someJobs_l1 H0 id g released_ st_ T_ H_) (hn_ : H_.length = (H0.length + 1)) :
    ∃ e_ T1_ H1_ ng1_, gcode (shOf F) cl LL (.loop false (some [0, 1, 7]) c_spec_l1Cur_someJobs_l1) ⟨T_, H_, ng⟩ = some (e_, ⟨T1_, H1_, ng1_⟩) ∧ Q_spec_l1Cur_someJobs_l1 H0 id g released_ p_ e_ T1_ H1_ :=
  sim_loop (n0 := (H0.length + 1)) (R_spec_l1Cur_someJobs_l1 H0 id g released_) (Q_spec_l1Cur_someJobs_l1 H0 id g released_) (st_spec_l1Cur_someJobs_l1 K_spec_l1Cur_pick K_spec_l1Cur_one K_spec_l1Cur_among K_spec_l1Cur_spoiltJob K_spec_l1Cur_job released_ H0 id g hid) st_ p_ hr T_ H_ ng hR_ hn_

theorem ok_spec_l1Cur_someJobs {cl : Callee} (K_spec_l1Cur_pick : K_spec_l1Cur_pick x_spec_l1Cur_pick (cl n_spec_l1Cur_pick)) (K_spec_l1Cur_one : K_spec_l1Cur_one x_spec_l1Cur_one (cl n_spec_l1Cur_one)) (K_spec_l1Cur_among : K_spec_l1Cur_among x_spec_l1Cur_among (cl n_spec_l1Cur_among)) (K_spec_l1Cur_spoiltJob : K_spec_l1Cur_spoiltJob x_spec_l1Cur_spoiltJob (cl n_spec_l1Cur_spoiltJob)) (K_spec_l1Cur_job : K_spec_l1Cur_job x_spec_l1Cur_job (cl n_spec_l1Cur_job)) : K_spec_l1Cur_someJobs (x_spec_l1Cur_someJobs) (gbody F LL cl c_spec_l1Cur_someJobs) := by
  intro c_ released_ most_ r hr
  intro H0 id g ng hid
  have w1_ : ∀ b, (H0.set id b)[id]? = some b := fun b => hs_get b hid
  have w2_ : ∀ b B, (H0.set id b ++ B)[id]? = some b := fun b B => hs_getA b hid
  have w3_ : ∀ a b B, (H0.set id a ++ B).set id b = H0.set id b ++ B := fun a b B => hs_setA a b hid
  unfold x_spec_l1Cur_someJobs at hr
  try dsimp only at hr
  obtain ⟨r1, q4, hr⟩ := Option.bind_eq_some_iff.1 hr
  obtain ⟨ng2, e3⟩ : ∃ ng', gcall (shOf F) cl false n_spec_l1Cur_among [.ptr id g 0 0, .fs [[.int .i64 3], [.int .i64 4], [.int .i64 5], [.int .i64 2], [.int .i64 6], [.int .i64 1], [.int .i64 0]]] (H0.set id (Blk.mk g false 3 [[.fs (c_.code.map (cI .u8)), .int .i64 c_.at_, .int .u64 c_.seed]]) ++ [(Blk.mk ng false 4 [])]) (ng + 1) = some (.int .i64 r1.1, (H0.set id (Blk.mk g false 3 [[.fs (r1.2.code.map (cI .u8)), .int .i64 r1.2.at_, .int .u64 r1.2.seed]]) ++ [(Blk.mk ng false 4 [])]), ng', .all) := call_curA s_spec_l1Cur_among (K_spec_l1Cur_among _ _ _ q4) H0 [(Blk.mk ng false 4 [])] id g (ng + 1) hid
  by_cases h9 : 6 < most_
  · rw [if_pos h9] at hr
    have e7 : (6 < most_) = True := eq_true h9
    clear h9
    obtain ⟨r10, q13, hr⟩ := Option.bind_eq_some_iff.1 hr
    obtain ⟨ng11, e12⟩ : ∃ ng', gcall (shOf F) cl false n_spec_l1Cur_one [.ptr id g 0 0, .int .i64 6] (H0.set id (Blk.mk g false 3 [[.fs (r1.2.code.map (cI .u8)), .int .i64 r1.2.at_, .int .u64 r1.2.seed]]) ++ [(Blk.mk ng false 4 [])]) ng2 = some (.bool r10.1, (H0.set id (Blk.mk g false 3 [[.fs (r10.2.code.map (cI .u8)), .int .i64 r10.2.at_, .int .u64 r10.2.seed]]) ++ [(Blk.mk ng false 4 [])]), ng', .all) := call_curA s_spec_l1Cur_one (K_spec_l1Cur_one _ _ _ q13) H0 [(Blk.mk ng false 4 [])] id g ng2 hid
    by_cases h16 : r10.1 = true
    · rw [if_pos h16] at hr
      have e14 : r10.1 = true := h16
      clear h16
      obtain ⟨r17, q20, hr⟩ := Option.bind_eq_some_iff.1 hr
      obtain ⟨ng18, e19⟩ : ∃ ng', gcall (shOf F) cl false n_spec_l1Cur_pick [.ptr id g 0 0, .int .i64 2] (H0.set id (Blk.mk g false 3 [[.fs (r10.2.code.map (cI .u8)), .int .i64 r10.2.at_, .int .u64 r10.2.seed]]) ++ [(Blk.mk ng false 4 [])]) ng11 = some (.int .i64 r17.1, (H0.set id (Blk.mk g false 3 [[.fs (r17.2.code.map (cI .u8)), .int .i64 r17.2.at_, .int .u64 r17.2.seed]]) ++ [(Blk.mk ng false 4 [])]), ng', .all) := call_curA s_spec_l1Cur_pick (K_spec_l1Cur_pick _ _ _ q20) H0 [(Blk.mk ng false 4 [])] id g ng11 hid
      obtain ⟨p21, q118, hr⟩ := Option.bind_eq_some_iff.1 hr
      obtain ⟨ex27, T24, H25, ng26, l23, m22⟩ := lp_spec_l1Cur_someJobs_l0 (cl := cl) K_spec_l1Cur_pick K_spec_l1Cur_one K_spec_l1Cur_among K_spec_l1Cur_spoiltJob K_spec_l1Cur_job  released_ most_ H0 id g hid _ _ q118 [(0, .ptr id g 0 0), (1, .bool released_), (2, .int .i64 most_), (7, .os H0.length ng 4 0 0), (8, .int .i64 (addK .i64 7 r17.1))] (H0.set id (Blk.mk g false 3 [[.fs (r17.2.code.map (cI .u8)), .int .i64 r17.2.at_, .int .u64 r17.2.seed]]) ++ [(Blk.mk ng false 4 [])]) ng18 (show R_spec_l1Cur_someJobs_l0 H0 id g released_ most_ (([] : List impl_Job), r17.2.code, r17.2.at_, r17.2.seed, (addK .i64 7 r17.1)) [(0, .ptr id g 0 0), (1, .bool released_), (2, .int .i64 most_), (7, .os H0.length ng 4 0 0), (8, .int .i64 (addK .i64 7 r17.1))] (H0.set id (Blk.mk g false 3 [[.fs (r17.2.code.map (cI .u8)), .int .i64 r17.2.at_, .int .u64 r17.2.seed]]) ++ [(Blk.mk ng false 4 [])]) from ⟨_, rfl, rfl, rfl, rfl, rfl, rfl⟩) (by simp)
      obtain ⟨rfl, g28, e29, e30, e31, e32⟩ := m22
      subst e32
      by_cases h37 : 0 < ((p21.1.length : Nat) : Int)
      · rw [if_pos h37] at hr
        have e35 : (0 < ((p21.1.length : Nat) : Int)) = True := eq_true h37
        clear h37
        obtain ⟨r38, q41, hr⟩ := Option.bind_eq_some_iff.1 hr
        obtain ⟨ng39, e40⟩ : ∃ ng', gcall (shOf F) cl false n_spec_l1Cur_one [.ptr id g 0 0, .int .i64 20] (H0.set id (Blk.mk g false 3 [[.fs (p21.2.1.map (cI .u8)), .int .i64 p21.2.2.1, .int .u64 p21.2.2.2]]) ++ [(Blk.mk g28 false 4 (p21.1.map impl_Job.cells))]) ng26 = some (.bool r38.1, (H0.set id (Blk.mk g false 3 [[.fs (r38.2.code.map (cI .u8)), .int .i64 r38.2.at_, .int .u64 r38.2.seed]]) ++ [(Blk.mk g28 false 4 (p21.1.map impl_Job.cells))]), ng', .all) := call_curA s_spec_l1Cur_one (K_spec_l1Cur_one _ _ _ q41) H0 [(Blk.mk g28 false 4 (p21.1.map impl_Job.cells))] id g ng26 hid
        by_cases h44 : r38.1 = true
        · rw [if_pos h44] at hr
          have e42 : r38.1 = true := h44
          clear h44
          obtain ⟨r45, q48, hr⟩ := Option.bind_eq_some_iff.1 hr
          obtain ⟨ng46, e47⟩ : ∃ ng', gcall (shOf F) cl false n_spec_l1Cur_pick [.ptr id g 0 0, .int .i64 ((p21.1.length : Nat) : Int)] (H0.set id (Blk.mk g false 3 [[.fs (r38.2.code.map (cI .u8)), .int .i64 r38.2.at_, .int .u64 r38.2.seed]]) ++ [(Blk.mk g28 false 4 (p21.1.map impl_Job.cells))]) ng39 = some (.int .i64 r45.1, (H0.set id (Blk.mk g false 3 [[.fs (r45.2.code.map (cI .u8)), .int .i64 r45.2.at_, .int .u64 r45.2.seed]]) ++ [(Blk.mk g28 false 4 (p21.1.map impl_Job.cells))]), ng', .all) := call_curA s_spec_l1Cur_pick (K_spec_l1Cur_pick _ _ _ q48) H0 [(Blk.mk g28 false 4 (p21.1.map impl_Job.cells))] id g ng39 hid
          obtain ⟨y49, q53, hr⟩ := Option.bind_eq_some_iff.1 hr
          obtain ⟨e50, e51, e52⟩ := ix_some q53
          try simp only [Int.toNat_natCast, Int.toNat_zero, Int.reduceToNat] at e51
          clear q53
          obtain ⟨r54, q57, hr⟩ := Option.bind_eq_some_iff.1 hr
          obtain ⟨ng55, e56⟩ : ∃ ng', gcall (shOf F) cl false n_spec_l1Cur_spoiltJob [.ptr id g 0 0, .agg [.int .i64 y49.Time, .int .i64 y49.Weight, .int .i64 y49.Release, .int .i64 y49.Due]] (H0.set id (Blk.mk g false 3 [[.fs (r45.2.code.map (cI .u8)), .int .i64 r45.2.at_, .int .u64 r45.2.seed]]) ++ [(Blk.mk g28 false 4 (p21.1.map impl_Job.cells))]) ng46 = some (.agg [.int .i64 r54.1.Time, .int .i64 r54.1.Weight, .int .i64 r54.1.Release, .int .i64 r54.1.Due], (H0.set id (Blk.mk g false 3 [[.fs (r54.2.code.map (cI .u8)), .int .i64 r54.2.at_, .int .u64 r54.2.seed]]) ++ [(Blk.mk g28 false 4 (p21.1.map impl_Job.cells))]), ng', .all) := call_curA s_spec_l1Cur_spoiltJob (K_spec_l1Cur_spoiltJob _ _ _ q57) H0 [(Blk.mk g28 false 4 (p21.1.map impl_Job.cells))] id g ng46 hid
          obtain ⟨l58, q63, hr⟩ := Option.bind_eq_some_iff.1 hr
          obtain ⟨_, _, e59, e60, _⟩ := put_some q63
          try simp only [Int.toNat_natCast, Int.toNat_zero, Int.reduceToNat] at e59
          have e61 : (p21.1.map impl_Job.cells).set (Int.toNat r45.1) [.int .i64 r54.1.Time, .int .i64 r54.1.Weight, .int .i64 r54.1.Release, .int .i64 r54.1.Due] = l58.map impl_Job.cells := by rw [← e59, List.map_set] <;> rfl
          replace e60 : Keep (p21.1.length = l58.length) := e60
          clear e59 q63
          obtain ⟨r64, q67, hr⟩ := Option.bind_eq_some_iff.1 hr
          obtain ⟨ng65, e66⟩ : ∃ ng', gcall (shOf F) cl false n_spec_l1Cur_one [.ptr id g 0 0, .int .i64 60] (H0.set id (Blk.mk g false 3 [[.fs (r54.2.code.map (cI .u8)), .int .i64 r54.2.at_, .int .u64 r54.2.seed]]) ++ [(Blk.mk g28 false 4 (l58.map impl_Job.cells))]) ng55 = some (.bool r64.1, (H0.set id (Blk.mk g false 3 [[.fs (r64.2.code.map (cI .u8)), .int .i64 r64.2.at_, .int .u64 r64.2.seed]]) ++ [(Blk.mk g28 false 4 (l58.map impl_Job.cells))]), ng', .all) := call_curA s_spec_l1Cur_one (K_spec_l1Cur_one _ _ _ q67) H0 [(Blk.mk g28 false 4 (l58.map impl_Job.cells))] id g ng55 hid
          by_cases h70 : r64.1 = true
          · rw [if_pos h70] at hr
            have e68 : r64.1 = true := h70
            clear h70
            obtain ⟨p71, q81, hr⟩ := Option.bind_eq_some_iff.1 hr
            obtain ⟨ex77, T74, H75, ng76, l73, m72⟩ := lp_spec_l1Cur_someJobs_l1 (cl := cl) K_spec_l1Cur_pick K_spec_l1Cur_one K_spec_l1Cur_among K_spec_l1Cur_spoiltJob K_spec_l1Cur_job  released_ H0 id g hid _ _ q81 [(0, .ptr id g 0 0), (1, .bool released_), (7, .os H0.length g28 4 0 p21.1.length), (60, .bool true)] (H0.set id (Blk.mk g false 3 [[.fs (r64.2.code.map (cI .u8)), .int .i64 r64.2.at_, .int .u64 r64.2.seed]]) ++ [(Blk.mk g28 false 4 (l58.map impl_Job.cells))]) ng65 (show R_spec_l1Cur_someJobs_l1 H0 id g released_ (l58, r64.2.code, r64.2.at_, r64.2.seed) [(0, .ptr id g 0 0), (1, .bool released_), (7, .os H0.length g28 4 0 p21.1.length), (60, .bool true)] (H0.set id (Blk.mk g false 3 [[.fs (r64.2.code.map (cI .u8)), .int .i64 r64.2.at_, .int .u64 r64.2.seed]]) ++ [(Blk.mk g28 false 4 (l58.map impl_Job.cells))]) from ⟨_, rfl, rfl, (congrArg (fun n_ => V.os H0.length g28 4 0 n_) e60), rfl⟩) (by simp)
            obtain ⟨rfl, g78, e79, e80⟩ := m72
            subst e80
            have hr_ := Option.some.inj hr; subst hr_
            refine ⟨H0.length, g78, [(Blk.mk g78 false 4 (p71.1.map impl_Job.cells))], ng76, ?_, ?_, ?_, sc_impl_Job _⟩
            · simp only [c_spec_l1Cur_someJobs, evA, evB, Int.reduceToNat, eq_self, reduceCtorEq, ↓reduceIte, Nat.reduceEqDiff, Nat.reduceAdd, Nat.reduceLT, Nat.reduceLeDiff, Nat.reduceMul, Nat.reduceSub, Nat.reduceBEq, spec_l1Cur.cells, rz_spec_l1Cur, pr_spec_l1Cur, impl_Job.cells, rz_impl_Job, pr_impl_Job, spec_l2Search.cells, rz_spec_l2Search, pr_spec_l2Search, *]
            · simp [hget, hp, hs_own0, hs_ownk]
            · exact Nat.le_refl _
          · rw [if_neg h70] at hr
            have e69 : r64.1 = false := Bool.eq_false_iff.2 h70
            clear h70
            have hr_ := Option.some.inj hr; subst hr_
            refine ⟨H0.length, g28, [(Blk.mk g28 false 4 (l58.map impl_Job.cells))], ng65, ?_, ?_, ?_, sc_impl_Job _⟩
            · rw [List.length_map, ← show p21.1.length = _ from e60]; simp only [c_spec_l1Cur_someJobs, evA, evB, Int.reduceToNat, eq_self, reduceCtorEq, ↓reduceIte, Nat.reduceEqDiff, Nat.reduceAdd, Nat.reduceLT, Nat.reduceLeDiff, Nat.reduceMul, Nat.reduceSub, Nat.reduceBEq, spec_l1Cur.cells, rz_spec_l1Cur, pr_spec_l1Cur, impl_Job.cells, rz_impl_Job, pr_impl_Job, spec_l2Search.cells, rz_spec_l2Search, pr_spec_l2Search, *]
            · simp [hget, hp, hs_own0, hs_ownk]
            · exact Nat.le_refl _
        · rw [if_neg h44] at hr
          have e43 : r38.1 = false := Bool.eq_false_iff.2 h44
          clear h44
          obtain ⟨r82, q85, hr⟩ := Option.bind_eq_some_iff.1 hr
          obtain ⟨ng83, e84⟩ : ∃ ng', gcall (shOf F) cl false n_spec_l1Cur_one [.ptr id g 0 0, .int .i64 60] (H0.set id (Blk.mk g false 3 [[.fs (r38.2.code.map (cI .u8)), .int .i64 r38.2.at_, .int .u64 r38.2.seed]]) ++ [(Blk.mk g28 false 4 (p21.1.map impl_Job.cells))]) ng39 = some (.bool r82.1, (H0.set id (Blk.mk g false 3 [[.fs (r82.2.code.map (cI .u8)), .int .i64 r82.2.at_, .int .u64 r82.2.seed]]) ++ [(Blk.mk g28 false 4 (p21.1.map impl_Job.cells))]), ng', .all) := call_curA s_spec_l1Cur_one (K_spec_l1Cur_one _ _ _ q85) H0 [(Blk.mk g28 false 4 (p21.1.map impl_Job.cells))] id g ng39 hid
          by_cases h88 : r82.1 = true
          · rw [if_pos h88] at hr
            have e86 : r82.1 = true := h88
            clear h88
            obtain ⟨p89, q99, hr⟩ := Option.bind_eq_some_iff.1 hr
            obtain ⟨ex95, T92, H93, ng94, l91, m90⟩ := lp_spec_l1Cur_someJobs_l1 (cl := cl) K_spec_l1Cur_pick K_spec_l1Cur_one K_spec_l1Cur_among K_spec_l1Cur_spoiltJob K_spec_l1Cur_job  released_ H0 id g hid _ _ q99 [(0, .ptr id g 0 0), (1, .bool released_), (7, .os H0.length g28 4 0 p21.1.length), (60, .bool true)] (H0.set id (Blk.mk g false 3 [[.fs (r82.2.code.map (cI .u8)), .int .i64 r82.2.at_, .int .u64 r82.2.seed]]) ++ [(Blk.mk g28 false 4 (p21.1.map impl_Job.cells))]) ng83 (show R_spec_l1Cur_someJobs_l1 H0 id g released_ (p21.1, r82.2.code, r82.2.at_, r82.2.seed) [(0, .ptr id g 0 0), (1, .bool released_), (7, .os H0.length g28 4 0 p21.1.length), (60, .bool true)] (H0.set id (Blk.mk g false 3 [[.fs (r82.2.code.map (cI .u8)), .int .i64 r82.2.at_, .int .u64 r82.2.seed]]) ++ [(Blk.mk g28 false 4 (p21.1.map impl_Job.cells))]) from ⟨_, rfl, rfl, rfl, rfl⟩) (by simp)
            obtain ⟨rfl, g96, e97, e98⟩ := m90
            subst e98
            have hr_ := Option.some.inj hr; subst hr_
            refine ⟨H0.length, g96, [(Blk.mk g96 false 4 (p89.1.map impl_Job.cells))], ng94, ?_, ?_, ?_, sc_impl_Job _⟩
            · simp only [c_spec_l1Cur_someJobs, evA, evB, Int.reduceToNat, eq_self, reduceCtorEq, ↓reduceIte, Nat.reduceEqDiff, Nat.reduceAdd, Nat.reduceLT, Nat.reduceLeDiff, Nat.reduceMul, Nat.reduceSub, Nat.reduceBEq, spec_l1Cur.cells, rz_spec_l1Cur, pr_spec_l1Cur, impl_Job.cells, rz_impl_Job, pr_impl_Job, spec_l2Search.cells, rz_spec_l2Search, pr_spec_l2Search, *]
            · simp [hget, hp, hs_own0, hs_ownk]
            · exact Nat.le_refl _
          · rw [if_neg h88] at hr
            have e87 : r82.1 = false := Bool.eq_false_iff.2 h88
            clear h88
            have hr_ := Option.some.inj hr; subst hr_
            refine ⟨H0.length, g28, [(Blk.mk g28 false 4 (p21.1.map impl_Job.cells))], ng83, ?_, ?_, ?_, sc_impl_Job _⟩
            · simp only [c_spec_l1Cur_someJobs, evA, evB, Int.reduceToNat, eq_self, reduceCtorEq, ↓reduceIte, Nat.reduceEqDiff, Nat.reduceAdd, Nat.reduceLT, Nat.reduceLeDiff, Nat.reduceMul, Nat.reduceSub, Nat.reduceBEq, spec_l1Cur.cells, rz_spec_l1Cur, pr_spec_l1Cur, impl_Job.cells, rz_impl_Job, pr_impl_Job, spec_l2Search.cells, rz_spec_l2Search, pr_spec_l2Search, *]
            · simp [hget, hp, hs_own0, hs_ownk]
            · exact Nat.le_refl _
      · rw [if_neg h37] at hr
        have e36 : (0 < ((p21.1.length : Nat) : Int)) = False := eq_false h37
        clear h37
        obtain ⟨r100, q103, hr⟩ := Option.bind_eq_some_iff.1 hr
        obtain ⟨ng101, e102⟩ : ∃ ng', gcall (shOf F) cl false n_spec_l1Cur_one [.ptr id g 0 0, .int .i64 60] (H0.set id (Blk.mk g false 3 [[.fs (p21.2.1.map (cI .u8)), .int .i64 p21.2.2.1, .int .u64 p21.2.2.2]]) ++ [(Blk.mk g28 false 4 (p21.1.map impl_Job.cells))]) ng26 = some (.bool r100.1, (H0.set id (Blk.mk g false 3 [[.fs (r100.2.code.map (cI .u8)), .int .i64 r100.2.at_, .int .u64 r100.2.seed]]) ++ [(Blk.mk g28 false 4 (p21.1.map impl_Job.cells))]), ng', .all) := call_curA s_spec_l1Cur_one (K_spec_l1Cur_one _ _ _ q103) H0 [(Blk.mk g28 false 4 (p21.1.map impl_Job.cells))] id g ng26 hid
        by_cases h106 : r100.1 = true
        · rw [if_pos h106] at hr
          have e104 : r100.1 = true := h106
          clear h106
          obtain ⟨p107, q117, hr⟩ := Option.bind_eq_some_iff.1 hr
          obtain ⟨ex113, T110, H111, ng112, l109, m108⟩ := lp_spec_l1Cur_someJobs_l1 (cl := cl) K_spec_l1Cur_pick K_spec_l1Cur_one K_spec_l1Cur_among K_spec_l1Cur_spoiltJob K_spec_l1Cur_job  released_ H0 id g hid _ _ q117 [(0, .ptr id g 0 0), (1, .bool released_), (7, .os H0.length g28 4 0 p21.1.length), (60, .bool true)] (H0.set id (Blk.mk g false 3 [[.fs (r100.2.code.map (cI .u8)), .int .i64 r100.2.at_, .int .u64 r100.2.seed]]) ++ [(Blk.mk g28 false 4 (p21.1.map impl_Job.cells))]) ng101 (show R_spec_l1Cur_someJobs_l1 H0 id g released_ (p21.1, r100.2.code, r100.2.at_, r100.2.seed) [(0, .ptr id g 0 0), (1, .bool released_), (7, .os H0.length g28 4 0 p21.1.length), (60, .bool true)] (H0.set id (Blk.mk g false 3 [[.fs (r100.2.code.map (cI .u8)), .int .i64 r100.2.at_, .int .u64 r100.2.seed]]) ++ [(Blk.mk g28 false 4 (p21.1.map impl_Job.cells))]) from ⟨_, rfl, rfl, rfl, rfl⟩) (by simp)
          obtain ⟨rfl, g114, e115, e116⟩ := m108
          subst e116
          have hr_ := Option.some.inj hr; subst hr_
          refine ⟨H0.length, g114, [(Blk.mk g114 false 4 (p107.1.map impl_Job.cells))], ng112, ?_, ?_, ?_, sc_impl_Job _⟩
          · simp only [c_spec_l1Cur_someJobs, evA, evB, Int.reduceToNat, eq_self, reduceCtorEq, ↓reduceIte, Nat.reduceEqDiff, Nat.reduceAdd, Nat.reduceLT, Nat.reduceLeDiff, Nat.reduceMul, Nat.reduceSub, Nat.reduceBEq, spec_l1Cur.cells, rz_spec_l1Cur, pr_spec_l1Cur, impl_Job.cells, rz_impl_Job, pr_impl_Job, spec_l2Search.cells, rz_spec_l2Search, pr_spec_l2Search, *]
          · simp [hget, hp, hs_own0, hs_ownk]
          · exact Nat.le_refl _
        · rw [if_neg h106] at hr
          have e105 : r100.1 = false := Bool.eq_false_iff.2 h106
          clear h106
          have hr_ := Option.some.inj hr; subst hr_
          refine ⟨H0.length, g28, [(Blk.mk g28 false 4 (p21.1.map impl_Job.cells))], ng101, ?_, ?_, ?_, sc_impl_Job _⟩
          · simp only [c_spec_l1Cur_someJobs, evA, evB, Int.reduceToNat, eq_self, reduceCtorEq, ↓reduceIte, Nat.reduceEqDiff, Nat.reduceAdd, Nat.reduceLT, Nat.reduceLeDiff, Nat.reduceMul, Nat.reduceSub, Nat.reduceBEq, spec_l1Cur.cells, rz_spec_l1Cur, pr_spec_l1Cur, impl_Job.cells, rz_impl_Job, pr_impl_Job, spec_l2Search.cells, rz_spec_l2Search, pr_spec_l2Search, *]
          · simp [hget, hp, hs_own0, hs_ownk]
          · exact Nat.le_refl _
    · rw [if_neg h16] at hr
      have e15 : r10.1 = false := Bool.eq_false_iff.2 h16
      clear h16
      obtain ⟨p119, q216, hr⟩ := Option.bind_eq_some_iff.1 hr
      obtain ⟨ex125, T122, H123, ng124, l121, m120⟩ := lp_spec_l1Cur_someJobs_l0 (cl := cl) K_spec_l1Cur_pick K_spec_l1Cur_one K_spec_l1Cur_among K_spec_l1Cur_spoiltJob K_spec_l1Cur_job  released_ most_ H0 id g hid _ _ q216 [(0, .ptr id g 0 0), (1, .bool released_), (2, .int .i64 most_), (7, .os H0.length ng 4 0 0), (8, .int .i64 r1.1), (19, .bool false)] (H0.set id (Blk.mk g false 3 [[.fs (r10.2.code.map (cI .u8)), .int .i64 r10.2.at_, .int .u64 r10.2.seed]]) ++ [(Blk.mk ng false 4 [])]) ng11 (show R_spec_l1Cur_someJobs_l0 H0 id g released_ most_ (([] : List impl_Job), r10.2.code, r10.2.at_, r10.2.seed, r1.1) [(0, .ptr id g 0 0), (1, .bool released_), (2, .int .i64 most_), (7, .os H0.length ng 4 0 0), (8, .int .i64 r1.1), (19, .bool false)] (H0.set id (Blk.mk g false 3 [[.fs (r10.2.code.map (cI .u8)), .int .i64 r10.2.at_, .int .u64 r10.2.seed]]) ++ [(Blk.mk ng false 4 [])]) from ⟨_, rfl, rfl, rfl, rfl, rfl, rfl⟩) (by simp)
      obtain ⟨rfl, g126, e127, e128, e129, e130⟩ := m120
      subst e130
      by_cases h135 : 0 < ((p119.1.length : Nat) : Int)
      · rw [if_pos h135] at hr
        have e133 : (0 < ((p119.1.length : Nat) : Int)) = True := eq_true h135
        clear h135
        obtain ⟨r136, q139, hr⟩ := Option.bind_eq_some_iff.1 hr
        obtain ⟨ng137, e138⟩ : ∃ ng', gcall (shOf F) cl false n_spec_l1Cur_one [.ptr id g 0 0, .int .i64 20] (H0.set id (Blk.mk g false 3 [[.fs (p119.2.1.map (cI .u8)), .int .i64 p119.2.2.1, .int .u64 p119.2.2.2]]) ++ [(Blk.mk g126 false 4 (p119.1.map impl_Job.cells))]) ng124 = some (.bool r136.1, (H0.set id (Blk.mk g false 3 [[.fs (r136.2.code.map (cI .u8)), .int .i64 r136.2.at_, .int .u64 r136.2.seed]]) ++ [(Blk.mk g126 false 4 (p119.1.map impl_Job.cells))]), ng', .all) := call_curA s_spec_l1Cur_one (K_spec_l1Cur_one _ _ _ q139) H0 [(Blk.mk g126 false 4 (p119.1.map impl_Job.cells))] id g ng124 hid
        by_cases h142 : r136.1 = true
        · rw [if_pos h142] at hr
          have e140 : r136.1 = true := h142
          clear h142
          obtain ⟨r143, q146, hr⟩ := Option.bind_eq_some_iff.1 hr
          obtain ⟨ng144, e145⟩ : ∃ ng', gcall (shOf F) cl false n_spec_l1Cur_pick [.ptr id g 0 0, .int .i64 ((p119.1.length : Nat) : Int)] (H0.set id (Blk.mk g false 3 [[.fs (r136.2.code.map (cI .u8)), .int .i64 r136.2.at_, .int .u64 r136.2.seed]]) ++ [(Blk.mk g126 false 4 (p119.1.map impl_Job.cells))]) ng137 = some (.int .i64 r143.1, (H0.set id (Blk.mk g false 3 [[.fs (r143.2.code.map (cI .u8)), .int .i64 r143.2.at_, .int .u64 r143.2.seed]]) ++ [(Blk.mk g126 false 4 (p119.1.map impl_Job.cells))]), ng', .all) := call_curA s_spec_l1Cur_pick (K_spec_l1Cur_pick _ _ _ q146) H0 [(Blk.mk g126 false 4 (p119.1.map impl_Job.cells))] id g ng137 hid
          obtain ⟨y147, q151, hr⟩ := Option.bind_eq_some_iff.1 hr
          obtain ⟨e148, e149, e150⟩ := ix_some q151
          try simp only [Int.toNat_natCast, Int.toNat_zero, Int.reduceToNat] at e149
          clear q151
          obtain ⟨r152, q155, hr⟩ := Option.bind_eq_some_iff.1 hr
          obtain ⟨ng153, e154⟩ : ∃ ng', gcall (shOf F) cl false n_spec_l1Cur_spoiltJob [.ptr id g 0 0, .agg [.int .i64 y147.Time, .int .i64 y147.Weight, .int .i64 y147.Release, .int .i64 y147.Due]] (H0.set id (Blk.mk g false 3 [[.fs (r143.2.code.map (cI .u8)), .int .i64 r143.2.at_, .int .u64 r143.2.seed]]) ++ [(Blk.mk g126 false 4 (p119.1.map impl_Job.cells))]) ng144 = some (.agg [.int .i64 r152.1.Time, .int .i64 r152.1.Weight, .int .i64 r152.1.Release, .int .i64 r152.1.Due], (H0.set id (Blk.mk g false 3 [[.fs (r152.2.code.map (cI .u8)), .int .i64 r152.2.at_, .int .u64 r152.2.seed]]) ++ [(Blk.mk g126 false 4 (p119.1.map impl_Job.cells))]), ng', .all) := call_curA s_spec_l1Cur_spoiltJob (K_spec_l1Cur_spoiltJob _ _ _ q155) H0 [(Blk.mk g126 false 4 (p119.1.map impl_Job.cells))] id g ng144 hid
          obtain ⟨l156, q161, hr⟩ := Option.bind_eq_some_iff.1 hr
          obtain ⟨_, _, e157, e158, _⟩ := put_some q161
          try simp only [Int.toNat_natCast, Int.toNat_zero, Int.reduceToNat] at e157
          have e159 : (p119.1.map impl_Job.cells).set (Int.toNat r143.1) [.int .i64 r152.1.Time, .int .i64 r152.1.Weight, .int .i64 r152.1.Release, .int .i64 r152.1.Due] = l156.map impl_Job.cells := by rw [← e157, List.map_set] <;> rfl
          replace e158 : Keep (p119.1.length = l156.length) := e158
          clear e157 q161
          obtain ⟨r162, q165, hr⟩ := Option.bind_eq_some_iff.1 hr
          obtain ⟨ng163, e164⟩ : ∃ ng', gcall (shOf F) cl false n_spec_l1Cur_one [.ptr id g 0 0, .int .i64 60] (H0.set id (Blk.mk g false 3 [[.fs (r152.2.code.map (cI .u8)), .int .i64 r152.2.at_, .int .u64 r152.2.seed]]) ++ [(Blk.mk g126 false 4 (l156.map impl_Job.cells))]) ng153 = some (.bool r162.1, (H0.set id (Blk.mk g false 3 [[.fs (r162.2.code.map (cI .u8)), .int .i64 r162.2.at_, .int .u64 r162.2.seed]]) ++ [(Blk.mk g126 false 4 (l156.map impl_Job.cells))]), ng', .all) := call_curA s_spec_l1Cur_one (K_spec_l1Cur_one _ _ _ q165) H0 [(Blk.mk g126 false 4 (l156.map impl_Job.cells))] id g ng153 hid
          by_cases h168 : r162.1 = true
          · rw [if_pos h168] at hr
            have e166 : r162.1 = true := h168
            clear h168
            obtain ⟨p169, q179, hr⟩ := Option.bind_eq_some_iff.1 hr
            obtain ⟨ex175, T172, H173, ng174, l171, m170⟩ := lp_spec_l1Cur_someJobs_l1 (cl := cl) K_spec_l1Cur_pick K_spec_l1Cur_one K_spec_l1Cur_among K_spec_l1Cur_spoiltJob K_spec_l1Cur_job  released_ H0 id g hid _ _ q179 [(0, .ptr id g 0 0), (1, .bool released_), (7, .os H0.length g126 4 0 p119.1.length), (60, .bool true)] (H0.set id (Blk.mk g false 3 [[.fs (r162.2.code.map (cI .u8)), .int .i64 r162.2.at_, .int .u64 r162.2.seed]]) ++ [(Blk.mk g126 false 4 (l156.map impl_Job.cells))]) ng163 (show R_spec_l1Cur_someJobs_l1 H0 id g released_ (l156, r162.2.code, r162.2.at_, r162.2.seed) [(0, .ptr id g 0 0), (1, .bool released_), (7, .os H0.length g126 4 0 p119.1.length), (60, .bool true)] (H0.set id (Blk.mk g false 3 [[.fs (r162.2.code.map (cI .u8)), .int .i64 r162.2.at_, .int .u64 r162.2.seed]]) ++ [(Blk.mk g126 false 4 (l156.map impl_Job.cells))]) from ⟨_, rfl, rfl, (congrArg (fun n_ => V.os H0.length g126 4 0 n_) e158), rfl⟩) (by simp)
            obtain ⟨rfl, g176, e177, e178⟩ := m170
            subst e178
            have hr_ := Option.some.inj hr; subst hr_
            refine ⟨H0.length, g176, [(Blk.mk g176 false 4 (p169.1.map impl_Job.cells))], ng174, ?_, ?_, ?_, sc_impl_Job _⟩
            · simp only [c_spec_l1Cur_someJobs, evA, evB, Int.reduceToNat, eq_self, reduceCtorEq, ↓reduceIte, Nat.reduceEqDiff, Nat.reduceAdd, Nat.reduceLT, Nat.reduceLeDiff, Nat.reduceMul, Nat.reduceSub, Nat.reduceBEq, spec_l1Cur.cells, rz_spec_l1Cur, pr_spec_l1Cur, impl_Job.cells, rz_impl_Job, pr_impl_Job, spec_l2Search.cells, rz_spec_l2Search, pr_spec_l2Search, *]
            · simp [hget, hp, hs_own0, hs_ownk]
            · exact Nat.le_refl _
          · rw [if_neg h168] at hr
            have e167 : r162.1 = false := Bool.eq_false_iff.2 h168
            clear h168
            have hr_ := Option.some.inj hr; subst hr_
            refine ⟨H0.length, g126, [(Blk.mk g126 false 4 (l156.map impl_Job.cells))], ng163, ?_, ?_, ?_, sc_impl_Job _⟩
            · rw [List.length_map, ← show p119.1.length = _ from e158]; simp only [c_spec_l1Cur_someJobs, evA, evB, Int.reduceToNat, eq_self, reduceCtorEq, ↓reduceIte, Nat.reduceEqDiff, Nat.reduceAdd, Nat.reduceLT, Nat.reduceLeDiff, Nat.reduceMul, Nat.reduceSub, Nat.reduceBEq, spec_l1Cur.cells, rz_spec_l1Cur, pr_spec_l1Cur, impl_Job.cells, rz_impl_Job, pr_impl_Job, spec_l2Search.cells, rz_spec_l2Search, pr_spec_l2Search, *]
            · simp [hget, hp, hs_own0, hs_ownk]
            · exact Nat.le_refl _
        · rw [if_neg h142] at hr
          have e141 : r136.1 = false := Bool.eq_false_iff.2 h142
          clear h142
          obtain ⟨r180, q183, hr⟩ := Option.bind_eq_some_iff.1 hr
          obtain ⟨ng181, e182⟩ : ∃ ng', gcall (shOf F) cl false n_spec_l1Cur_one [.ptr id g 0 0, .int .i64 60] (H0.set id (Blk.mk g false 3 [[.fs (r136.2.code.map (cI .u8)), .int .i64 r136.2.at_, .int .u64 r136.2.seed]]) ++ [(Blk.mk g126 false 4 (p119.1.map impl_Job.cells))]) ng137 = some (.bool r180.1, (H0.set id (Blk.mk g false 3 [[.fs (r180.2.code.map (cI .u8)), .int .i64 r180.2.at_, .int .u64 r180.2.seed]]) ++ [(Blk.mk g126 false 4 (p119.1.map impl_Job.cells))]), ng', .all) := call_curA s_spec_l1Cur_one (K_spec_l1Cur_one _ _ _ q183) H0 [(Blk.mk g126 false 4 (p119.1.map impl_Job.cells))] id g ng137 hid
          by_cases h186 : r180.1 = true
          · rw [if_pos h186] at hr
            have e184 : r180.1 = true := h186
            clear h186
            obtain ⟨p187, q197, hr⟩ := Option.bind_eq_some_iff.1 hr
            obtain ⟨ex193, T190, H191, ng192, l189, m188⟩ := lp_spec_l1Cur_someJobs_l1 (cl := cl) K_spec_l1Cur_pick K_spec_l1Cur_one K_spec_l1Cur_among K_spec_l1Cur_spoiltJob K_spec_l1Cur_job  released_ H0 id g hid _ _ q197 [(0, .ptr id g 0 0), (1, .bool released_), (7, .os H0.length g126 4 0 p119.1.length), (60, .bool true)] (H0.set id (Blk.mk g false 3 [[.fs (r180.2.code.map (cI .u8)), .int .i64 r180.2.at_, .int .u64 r180.2.seed]]) ++ [(Blk.mk g126 false 4 (p119.1.map impl_Job.cells))]) ng181 (show R_spec_l1Cur_someJobs_l1 H0 id g released_ (p119.1, r180.2.code, r180.2.at_, r180.2.seed) [(0, .ptr id g 0 0), (1, .bool released_), (7, .os H0.length g126 4 0 p119.1.length), (60, .bool true)] (H0.set id (Blk.mk g false 3 [[.fs (r180.2.code.map (cI .u8)), .int .i64 r180.2.at_, .int .u64 r180.2.seed]]) ++ [(Blk.mk g126 false 4 (p119.1.map impl_Job.cells))]) from ⟨_, rfl, rfl, rfl, rfl⟩) (by simp)
            obtain ⟨rfl, g194, e195, e196⟩ := m188
            subst e196
            have hr_ := Option.some.inj hr; subst hr_
            refine ⟨H0.length, g194, [(Blk.mk g194 false 4 (p187.1.map impl_Job.cells))], ng192, ?_, ?_, ?_, sc_impl_Job _⟩
            · simp only [c_spec_l1Cur_someJobs, evA, evB, Int.reduceToNat, eq_self, reduceCtorEq, ↓reduceIte, Nat.reduceEqDiff, Nat.reduceAdd, Nat.reduceLT, Nat.reduceLeDiff, Nat.reduceMul, Nat.reduceSub, Nat.reduceBEq, spec_l1Cur.cells, rz_spec_l1Cur, pr_spec_l1Cur, impl_Job.cells, rz_impl_Job, pr_impl_Job, spec_l2Search.cells, rz_spec_l2Search, pr_spec_l2Search, *]
            · simp [hget, hp, hs_own0, hs_ownk]
            · exact Nat.le_refl _
          · rw [if_neg h186] at hr
            have e185 : r180.1 = false := Bool.eq_false_iff.2 h186
            clear h186
            have hr_ := Option.some.inj hr; subst hr_
            refine ⟨H0.length, g126, [(Blk.mk g126 false 4 (p119.1.map impl_Job.cells))], ng181, ?_, ?_, ?_, sc_impl_Job _⟩
            · simp only [c_spec_l1Cur_someJobs, evA, evB, Int.reduceToNat, eq_self, reduceCtorEq, ↓reduceIte, Nat.reduceEqDiff, Nat.reduceAdd, Nat.reduceLT, Nat.reduceLeDiff, Nat.reduceMul, Nat.reduceSub, Nat.reduceBEq, spec_l1Cur.cells, rz_spec_l1Cur, pr_spec_l1Cur, impl_Job.cells, rz_impl_Job, pr_impl_Job, spec_l2Search.cells, rz_spec_l2Search, pr_spec_l2Search, *]
            · simp [hget, hp, hs_own0, hs_ownk]
            · exact Nat.le_refl _
      · rw [if_neg h135] at hr
        have e134 : (0 < ((p119.1.length : Nat) : Int)) = False := eq_false h135
        clear h135
        obtain ⟨r198, q201, hr⟩ := Option.bind_eq_some_iff.1 hr
        obtain ⟨ng199, e200⟩ : ∃ ng', gcall (shOf F) cl false n_spec_l1Cur_one [.ptr id g 0 0, .int .i64 60] (H0.set id (Blk.mk g false 3 [[.fs (p119.2.1.map (cI .u8)), .int .i64 p119.2.2.1, .int .u64 p119.2.2.2]]) ++ [(Blk.mk g126 false 4 (p119.1.map impl_Job.cells))]) ng124 = some (.bool r198.1, (H0.set id (Blk.mk g false 3 [[.fs (r198.2.code.map (cI .u8)), .int .i64 r198.2.at_, .int .u64 r198.2.seed]]) ++ [(Blk.mk g126 false 4 (p119.1.map impl_Job.cells))]), ng', .all) := call_curA s_spec_l1Cur_one (K_spec_l1Cur_one _ _ _ q201) H0 [(Blk.mk g126 false 4 (p119.1.map impl_Job.cells))] id g ng124 hid
        by_cases h204 : r198.1 = true
        · rw [if_pos h204] at hr
          have e202 : r198.1 = true := h204
          clear h204
          obtain ⟨p205, q215, hr⟩ := Option.bind_eq_some_iff.1 hr
          obtain ⟨ex211, T208, H209, ng210, l207, m206⟩ := lp_spec_l1Cur_someJobs_l1 (cl := cl) K_spec_l1Cur_pick K_spec_l1Cur_one K_spec_l1Cur_among K_spec_l1Cur_spoiltJob K_spec_l1Cur_job  released_ H0 id g hid _ _ q215 [(0, .ptr id g 0 0), (1, .bool released_), (7, .os H0.length g126 4 0 p119.1.length), (60, .bool true)] (H0.set id (Blk.mk g false 3 [[.fs (r198.2.code.map (cI .u8)), .int .i64 r198.2.at_, .int .u64 r198.2.seed]]) ++ [(Blk.mk g126 false 4 (p119.1.map impl_Job.cells))]) ng199 (show R_spec_l1Cur_someJobs_l1 H0 id g released_ (p119.1, r198.2.code, r198.2.at_, r198.2.seed) [(0, .ptr id g 0 0), (1, .bool released_), (7, .os H0.length g126 4 0 p119.1.length), (60, .bool true)] (H0.set id (Blk.mk g false 3 [[.fs (r198.2.code.map (cI .u8)), .int .i64 r198.2.at_, .int .u64 r198.2.seed]]) ++ [(Blk.mk g126 false 4 (p119.1.map impl_Job.cells))]) from ⟨_, rfl, rfl, rfl, rfl⟩) (by simp)
          obtain ⟨rfl, g212, e213, e214⟩ := m206
          subst e214
          have hr_ := Option.some.inj hr; subst hr_
          refine ⟨H0.length, g212, [(Blk.mk g212 false 4 (p205.1.map impl_Job.cells))], ng210, ?_, ?_, ?_, sc_impl_Job _⟩
          · simp only [c_spec_l1Cur_someJobs, evA, evB, Int.reduceToNat, eq_self, reduceCtorEq, ↓reduceIte, Nat.reduceEqDiff, Nat.reduceAdd, Nat.reduceLT, Nat.reduceLeDiff, Nat.reduceMul, Nat.reduceSub, Nat.reduceBEq, spec_l1Cur.cells, rz_spec_l1Cur, pr_spec_l1Cur, impl_Job.cells, rz_impl_Job, pr_impl_Job, spec_l2Search.cells, rz_spec_l2Search, pr_spec_l2Search, *]
          · simp [hget, hp, hs_own0, hs_ownk]
          · exact Nat.le_refl _
        · rw [if_neg h204] at hr
          have e203 : r198.1 = false := Bool.eq_false_iff.2 h204
          clear h204
          have hr_ := Option.some.inj hr; subst hr_
          refine ⟨H0.length, g126, [(Blk.mk g126 false 4 (p119.1.map impl_Job.cells))], ng199, ?_, ?_, ?_, sc_impl_Job _⟩
          · simp only [c_spec_l1Cur_someJobs, evA, evB, Int.reduceToNat, eq_self, reduceCtorEq, ↓reduceIte, Nat.reduceEqDiff, Nat.reduceAdd, Nat.reduceLT, Nat.reduceLeDiff, Nat.reduceMul, Nat.reduceSub, Nat.reduceBEq, spec_l1Cur.cells, rz_spec_l1Cur, pr_spec_l1Cur, impl_Job.cells, rz_impl_Job, pr_impl_Job, spec_l2Search.cells, rz_spec_l2Search, pr_spec_l2Search, *]
          · simp [hget, hp, hs_own0, hs_ownk]
          · exact Nat.le_refl _
  · rw [if_neg h9] at hr
    have e8 : (6 < most_) = False := eq_false h9
    clear h9
    obtain ⟨p217, q314, hr⟩ := Option.bind_eq_some_iff.1 hr
    obtain ⟨ex223, T220, H221, ng222, l219, m218⟩ := lp_spec_l1Cur_someJobs_l0 (cl := cl) K_spec_l1Cur_pick K_spec_l1Cur_one K_spec_l1Cur_among K_spec_l1Cur_spoiltJob K_spec_l1Cur_job  released_ most_ H0 id g hid _ _ q314 [(0, .ptr id g 0 0), (1, .bool released_), (2, .int .i64 most_), (7, .os H0.length ng 4 0 0), (8, .int .i64 r1.1), (19, .bool false)] (H0.set id (Blk.mk g false 3 [[.fs (r1.2.code.map (cI .u8)), .int .i64 r1.2.at_, .int .u64 r1.2.seed]]) ++ [(Blk.mk ng false 4 [])]) ng2 (show R_spec_l1Cur_someJobs_l0 H0 id g released_ most_ (([] : List impl_Job), r1.2.code, r1.2.at_, r1.2.seed, r1.1) [(0, .ptr id g 0 0), (1, .bool released_), (2, .int .i64 most_), (7, .os H0.length ng 4 0 0), (8, .int .i64 r1.1), (19, .bool false)] (H0.set id (Blk.mk g false 3 [[.fs (r1.2.code.map (cI .u8)), .int .i64 r1.2.at_, .int .u64 r1.2.seed]]) ++ [(Blk.mk ng false 4 [])]) from ⟨_, rfl, rfl, rfl, rfl, rfl, rfl⟩) (by simp)
    obtain ⟨rfl, g224, e225, e226, e227, e228⟩ := m218
    subst e228
    by_cases h233 : 0 < ((p217.1.length : Nat) : Int)
    · rw [if_pos h233] at hr
      have e231 : (0 < ((p217.1.length : Nat) : Int)) = True := eq_true h233
      clear h233
      obtain ⟨r234, q237, hr⟩ := Option.bind_eq_some_iff.1 hr
      obtain ⟨ng235, e236⟩ : ∃ ng', gcall (shOf F) cl false n_spec_l1Cur_one [.ptr id g 0 0, .int .i64 20] (H0.set id (Blk.mk g false 3 [[.fs (p217.2.1.map (cI .u8)), .int .i64 p217.2.2.1, .int .u64 p217.2.2.2]]) ++ [(Blk.mk g224 false 4 (p217.1.map impl_Job.cells))]) ng222 = some (.bool r234.1, (H0.set id (Blk.mk g false 3 [[.fs (r234.2.code.map (cI .u8)), .int .i64 r234.2.at_, .int .u64 r234.2.seed]]) ++ [(Blk.mk g224 false 4 (p217.1.map impl_Job.cells))]), ng', .all) := call_curA s_spec_l1Cur_one (K_spec_l1Cur_one _ _ _ q237) H0 [(Blk.mk g224 false 4 (p217.1.map impl_Job.cells))] id g ng222 hid
      by_cases h240 : r234.1 = true
      · rw [if_pos h240] at hr
        have e238 : r234.1 = true := h240
        clear h240
        obtain ⟨r241, q244, hr⟩ := Option.bind_eq_some_iff.1 hr
        obtain ⟨ng242, e243⟩ : ∃ ng', gcall (shOf F) cl false n_spec_l1Cur_pick [.ptr id g 0 0, .int .i64 ((p217.1.length : Nat) : Int)] (H0.set id (Blk.mk g false 3 [[.fs (r234.2.code.map (cI .u8)), .int .i64 r234.2.at_, .int .u64 r234.2.seed]]) ++ [(Blk.mk g224 false 4 (p217.1.map impl_Job.cells))]) ng235 = some (.int .i64 r241.1, (H0.set id (Blk.mk g false 3 [[.fs (r241.2.code.map (cI .u8)), .int .i64 r241.2.at_, .int .u64 r241.2.seed]]) ++ [(Blk.mk g224 false 4 (p217.1.map impl_Job.cells))]), ng', .all) := call_curA s_spec_l1Cur_pick (K_spec_l1Cur_pick _ _ _ q244) H0 [(Blk.mk g224 false 4 (p217.1.map impl_Job.cells))] id g ng235 hid
        obtain ⟨y245, q249, hr⟩ := Option.bind_eq_some_iff.1 hr
        obtain ⟨e246, e247, e248⟩ := ix_some q249
        try simp only [Int.toNat_natCast, Int.toNat_zero, Int.reduceToNat] at e247
        clear q249
        obtain ⟨r250, q253, hr⟩ := Option.bind_eq_some_iff.1 hr
        obtain ⟨ng251, e252⟩ : ∃ ng', gcall (shOf F) cl false n_spec_l1Cur_spoiltJob [.ptr id g 0 0, .agg [.int .i64 y245.Time, .int .i64 y245.Weight, .int .i64 y245.Release, .int .i64 y245.Due]] (H0.set id (Blk.mk g false 3 [[.fs (r241.2.code.map (cI .u8)), .int .i64 r241.2.at_, .int .u64 r241.2.seed]]) ++ [(Blk.mk g224 false 4 (p217.1.map impl_Job.cells))]) ng242 = some (.agg [.int .i64 r250.1.Time, .int .i64 r250.1.Weight, .int .i64 r250.1.Release, .int .i64 r250.1.Due], (H0.set id (Blk.mk g false 3 [[.fs (r250.2.code.map (cI .u8)), .int .i64 r250.2.at_, .int .u64 r250.2.seed]]) ++ [(Blk.mk g224 false 4 (p217.1.map impl_Job.cells))]), ng', .all) := call_curA s_spec_l1Cur_spoiltJob (K_spec_l1Cur_spoiltJob _ _ _ q253) H0 [(Blk.mk g224 false 4 (p217.1.map impl_Job.cells))] id g ng242 hid
        obtain ⟨l254, q259, hr⟩ := Option.bind_eq_some_iff.1 hr
        obtain ⟨_, _, e255, e256, _⟩ := put_some q259
        try simp only [Int.toNat_natCast, Int.toNat_zero, Int.reduceToNat] at e255
        have e257 : (p217.1.map impl_Job.cells).set (Int.toNat r241.1) [.int .i64 r250.1.Time, .int .i64 r250.1.Weight, .int .i64 r250.1.Release, .int .i64 r250.1.Due] = l254.map impl_Job.cells := by rw [← e255, List.map_set] <;> rfl
        replace e256 : Keep (p217.1.length = l254.length) := e256
        clear e255 q259
        obtain ⟨r260, q263, hr⟩ := Option.bind_eq_some_iff.1 hr
        obtain ⟨ng261, e262⟩ : ∃ ng', gcall (shOf F) cl false n_spec_l1Cur_one [.ptr id g 0 0, .int .i64 60] (H0.set id (Blk.mk g false 3 [[.fs (r250.2.code.map (cI .u8)), .int .i64 r250.2.at_, .int .u64 r250.2.seed]]) ++ [(Blk.mk g224 false 4 (l254.map impl_Job.cells))]) ng251 = some (.bool r260.1, (H0.set id (Blk.mk g false 3 [[.fs (r260.2.code.map (cI .u8)), .int .i64 r260.2.at_, .int .u64 r260.2.seed]]) ++ [(Blk.mk g224 false 4 (l254.map impl_Job.cells))]), ng', .all) := call_curA s_spec_l1Cur_one (K_spec_l1Cur_one _ _ _ q263) H0 [(Blk.mk g224 false 4 (l254.map impl_Job.cells))] id g ng251 hid
        by_cases h266 : r260.1 = true
        · rw [if_pos h266] at hr
          have e264 : r260.1 = true := h266
          clear h266
          obtain ⟨p267, q277, hr⟩ := Option.bind_eq_some_iff.1 hr
          obtain ⟨ex273, T270, H271, ng272, l269, m268⟩ := lp_spec_l1Cur_someJobs_l1 (cl := cl) K_spec_l1Cur_pick K_spec_l1Cur_one K_spec_l1Cur_among K_spec_l1Cur_spoiltJob K_spec_l1Cur_job  released_ H0 id g hid _ _ q277 [(0, .ptr id g 0 0), (1, .bool released_), (7, .os H0.length g224 4 0 p217.1.length), (60, .bool true)] (H0.set id (Blk.mk g false 3 [[.fs (r260.2.code.map (cI .u8)), .int .i64 r260.2.at_, .int .u64 r260.2.seed]]) ++ [(Blk.mk g224 false 4 (l254.map impl_Job.cells))]) ng261 (show R_spec_l1Cur_someJobs_l1 H0 id g released_ (l254, r260.2.code, r260.2.at_, r260.2.seed) [(0, .ptr id g 0 0), (1, .bool released_), (7, .os H0.length g224 4 0 p217.1.length), (60, .bool true)] (H0.set id (Blk.mk g false 3 [[.fs (r260.2.code.map (cI .u8)), .int .i64 r260.2.at_, .int .u64 r260.2.seed]]) ++ [(Blk.mk g224 false 4 (l254.map impl_Job.cells))]) from ⟨_, rfl, rfl, (congrArg (fun n_ => V.os H0.length g224 4 0 n_) e256), rfl⟩) (by simp)
          obtain ⟨rfl, g274, e275, e276⟩ := m268
          subst e276
          have hr_ := Option.some.inj hr; subst hr_
          refine ⟨H0.length, g274, [(Blk.mk g274 false 4 (p267.1.map impl_Job.cells))], ng272, ?_, ?_, ?_, sc_impl_Job _⟩
          · simp only [c_spec_l1Cur_someJobs, evA, evB, Int.reduceToNat, eq_self, reduceCtorEq, ↓reduceIte, Nat.reduceEqDiff, Nat.reduceAdd, Nat.reduceLT, Nat.reduceLeDiff, Nat.reduceMul, Nat.reduceSub, Nat.reduceBEq, spec_l1Cur.cells, rz_spec_l1Cur, pr_spec_l1Cur, impl_Job.cells, rz_impl_Job, pr_impl_Job, spec_l2Search.cells, rz_spec_l2Search, pr_spec_l2Search, *]
          · simp [hget, hp, hs_own0, hs_ownk]
          · exact Nat.le_refl _
        · rw [if_neg h266] at hr
          have e265 : r260.1 = false := Bool.eq_false_iff.2 h266
          clear h266
          have hr_ := Option.some.inj hr; subst hr_
          refine ⟨H0.length, g224, [(Blk.mk g224 false 4 (l254.map impl_Job.cells))], ng261, ?_, ?_, ?_, sc_impl_Job _⟩
          · rw [List.length_map, ← show p217.1.length = _ from e256]; simp only [c_spec_l1Cur_someJobs, evA, evB, Int.reduceToNat, eq_self, reduceCtorEq, ↓reduceIte, Nat.reduceEqDiff, Nat.reduceAdd, Nat.reduceLT, Nat.reduceLeDiff, Nat.reduceMul, Nat.reduceSub, Nat.reduceBEq, spec_l1Cur.cells, rz_spec_l1Cur, pr_spec_l1Cur, impl_Job.cells, rz_impl_Job, pr_impl_Job, spec_l2Search.cells, rz_spec_l2Search, pr_spec_l2Search, *]
          · simp [hget, hp, hs_own0, hs_ownk]
          · exact Nat.le_refl _
      · rw [if_neg h240] at hr
        have e239 : r234.1 = false := Bool.eq_false_iff.2 h240
        clear h240
        obtain ⟨r278, q281, hr⟩ := Option.bind_eq_some_iff.1 hr
        obtain ⟨ng279, e280⟩ : ∃ ng', gcall (shOf F) cl false n_spec_l1Cur_one [.ptr id g 0 0, .int .i64 60] (H0.set id (Blk.mk g false 3 [[.fs (r234.2.code.map (cI .u8)), .int .i64 r234.2.at_, .int .u64 r234.2.seed]]) ++ [(Blk.mk g224 false 4 (p217.1.map impl_Job.cells))]) ng235 = some (.bool r278.1, (H0.set id (Blk.mk g false 3 [[.fs (r278.2.code.map (cI .u8)), .int .i64 r278.2.at_, .int .u64 r278.2.seed]]) ++ [(Blk.mk g224 false 4 (p217.1.map impl_Job.cells))]), ng', .all) := call_curA s_spec_l1Cur_one (K_spec_l1Cur_one _ _ _ q281) H0 [(Blk.mk g224 false 4 (p217.1.map impl_Job.cells))] id g ng235 hid
        by_cases h284 : r278.1 = true
        · rw [if_pos h284] at hr
          have e282 : r278.1 = true := h284
          clear h284
          obtain ⟨p285, q295, hr⟩ := Option.bind_eq_some_iff.1 hr
          obtain ⟨ex291, T288, H289, ng290, l287, m286⟩ := lp_spec_l1Cur_someJobs_l1 (cl := cl) K_spec_l1Cur_pick K_spec_l1Cur_one K_spec_l1Cur_among K_spec_l1Cur_spoiltJob K_spec_l1Cur_job  released_ H0 id g hid _ _ q295 [(0, .ptr id g 0 0), (1, .bool released_), (7, .os H0.length g224 4 0 p217.1.length), (60, .bool true)] (H0.set id (Blk.mk g false 3 [[.fs (r278.2.code.map (cI .u8)), .int .i64 r278.2.at_, .int .u64 r278.2.seed]]) ++ [(Blk.mk g224 false 4 (p217.1.map impl_Job.cells))]) ng279 (show R_spec_l1Cur_someJobs_l1 H0 id g released_ (p217.1, r278.2.code, r278.2.at_, r278.2.seed) [(0, .ptr id g 0 0), (1, .bool released_), (7, .os H0.length g224 4 0 p217.1.length), (60, .bool true)] (H0.set id (Blk.mk g false 3 [[.fs (r278.2.code.map (cI .u8)), .int .i64 r278.2.at_, .int .u64 r278.2.seed]]) ++ [(Blk.mk g224 false 4 (p217.1.map impl_Job.cells))]) from ⟨_, rfl, rfl, rfl, rfl⟩) (by simp)
          obtain ⟨rfl, g292, e293, e294⟩ := m286
          subst e294
          have hr_ := Option.some.inj hr; subst hr_
          refine ⟨H0.length, g292, [(Blk.mk g292 false 4 (p285.1.map impl_Job.cells))], ng290, ?_, ?_, ?_, sc_impl_Job _⟩
          · simp only [c_spec_l1Cur_someJobs, evA, evB, Int.reduceToNat, eq_self, reduceCtorEq, ↓reduceIte, Nat.reduceEqDiff, Nat.reduceAdd, Nat.reduceLT, Nat.reduceLeDiff, Nat.reduceMul, Nat.reduceSub, Nat.reduceBEq, spec_l1Cur.cells, rz_spec_l1Cur, pr_spec_l1Cur, impl_Job.cells, rz_impl_Job, pr_impl_Job, spec_l2Search.cells, rz_spec_l2Search, pr_spec_l2Search, *]
          · simp [hget, hp, hs_own0, hs_ownk]
          · exact Nat.le_refl _
        · rw [if_neg h284] at hr
          have e283 : r278.1 = false := Bool.eq_false_iff.2 h284
          clear h284
          have hr_ := Option.some.inj hr; subst hr_
          refine ⟨H0.length, g224, [(Blk.mk g224 false 4 (p217.1.map impl_Job.cells))], ng279, ?_, ?_, ?_, sc_impl_Job _⟩
          · simp only [c_spec_l1Cur_someJobs, evA, evB, Int.reduceToNat, eq_self, reduceCtorEq, ↓reduceIte, Nat.reduceEqDiff, Nat.reduceAdd, Nat.reduceLT, Nat.reduceLeDiff, Nat.reduceMul, Nat.reduceSub, Nat.reduceBEq, spec_l1Cur.cells, rz_spec_l1Cur, pr_spec_l1Cur, impl_Job.cells, rz_impl_Job, pr_impl_Job, spec_l2Search.cells, rz_spec_l2Search, pr_spec_l2Search, *]
          · simp [hget, hp, hs_own0, hs_ownk]
          · exact Nat.le_refl _
    · rw [if_neg h233] at hr
      have e232 : (0 < ((p217.1.length : Nat) : Int)) = False := eq_false h233
      clear h233
      obtain ⟨r296, q299, hr⟩ := Option.bind_eq_some_iff.1 hr
      obtain ⟨ng297, e298⟩ : ∃ ng', gcall (shOf F) cl false n_spec_l1Cur_one [.ptr id g 0 0, .int .i64 60] (H0.set id (Blk.mk g false 3 [[.fs (p217.2.1.map (cI .u8)), .int .i64 p217.2.2.1, .int .u64 p217.2.2.2]]) ++ [(Blk.mk g224 false 4 (p217.1.map impl_Job.cells))]) ng222 = some (.bool r296.1, (H0.set id (Blk.mk g false 3 [[.fs (r296.2.code.map (cI .u8)), .int .i64 r296.2.at_, .int .u64 r296.2.seed]]) ++ [(Blk.mk g224 false 4 (p217.1.map impl_Job.cells))]), ng', .all) := call_curA s_spec_l1Cur_one (K_spec_l1Cur_one _ _ _ q299) H0 [(Blk.mk g224 false 4 (p217.1.map impl_Job.cells))] id g ng222 hid
      by_cases h302 : r296.1 = true
      · rw [if_pos h302] at hr
        have e300 : r296.1 = true := h302
        clear h302
        obtain ⟨p303, q313, hr⟩ := Option.bind_eq_some_iff.1 hr
        obtain ⟨ex309, T306, H307, ng308, l305, m304⟩ := lp_spec_l1Cur_someJobs_l1 (cl := cl) K_spec_l1Cur_pick K_spec_l1Cur_one K_spec_l1Cur_among K_spec_l1Cur_spoiltJob K_spec_l1Cur_job  released_ H0 id g hid _ _ q313 [(0, .ptr id g 0 0), (1, .bool released_), (7, .os H0.length g224 4 0 p217.1.length), (60, .bool true)] (H0.set id (Blk.mk g false 3 [[.fs (r296.2.code.map (cI .u8)), .int .i64 r296.2.at_, .int .u64 r296.2.seed]]) ++ [(Blk.mk g224 false 4 (p217.1.map impl_Job.cells))]) ng297 (show R_spec_l1Cur_someJobs_l1 H0 id g released_ (p217.1, r296.2.code, r296.2.at_, r296.2.seed) [(0, .ptr id g 0 0), (1, .bool released_), (7, .os H0.length g224 4 0 p217.1.length), (60, .bool true)] (H0.set id (Blk.mk g false 3 [[.fs (r296.2.code.map (cI .u8)), .int .i64 r296.2.at_, .int .u64 r296.2.seed]]) ++ [(Blk.mk g224 false 4 (p217.1.map impl_Job.cells))]) from ⟨_, rfl, rfl, rfl, rfl⟩) (by simp)
        obtain ⟨rfl, g310, e311, e312⟩ := m304
        subst e312
        have hr_ := Option.some.inj hr; subst hr_
        refine ⟨H0.length, g310, [(Blk.mk g310 false 4 (p303.1.map impl_Job.cells))], ng308, ?_, ?_, ?_, sc_impl_Job _⟩
        · simp only [c_spec_l1Cur_someJobs, evA, evB, Int.reduceToNat, eq_self, reduceCtorEq, ↓reduceIte, Nat.reduceEqDiff, Nat.reduceAdd, Nat.reduceLT, Nat.reduceLeDiff, Nat.reduceMul, Nat.reduceSub, Nat.reduceBEq, spec_l1Cur.cells, rz_spec_l1Cur, pr_spec_l1Cur, impl_Job.cells, rz_impl_Job, pr_impl_Job, spec_l2Search.cells, rz_spec_l2Search, pr_spec_l2Search, *]
        · simp [hget, hp, hs_own0, hs_ownk]
        · exact Nat.le_refl _
      · rw [if_neg h302] at hr
        have e301 : r296.1 = false := Bool.eq_false_iff.2 h302
        clear h302
        have hr_ := Option.some.inj hr; subst hr_
        refine ⟨H0.length, g224, [(Blk.mk g224 false 4 (p217.1.map impl_Job.cells))], ng297, ?_, ?_, ?_, sc_impl_Job _⟩
        · simp only [c_spec_l1Cur_someJobs, evA, evB, Int.reduceToNat, eq_self, reduceCtorEq, ↓reduceIte, Nat.reduceEqDiff, Nat.reduceAdd, Nat.reduceLT, Nat.reduceLeDiff, Nat.reduceMul, Nat.reduceSub, Nat.reduceBEq, spec_l1Cur.cells, rz_spec_l1Cur, pr_spec_l1Cur, impl_Job.cells, rz_impl_Job, pr_impl_Job, spec_l2Search.cells, rz_spec_l2Search, pr_spec_l2Search, *]
        · simp [hget, hp, hs_own0, hs_ownk]
        · exact Nat.le_refl _

theorem ok_spec_l1Cur_plainJobs {cl : Callee} (K_spec_l1Cur_someJobs : K_spec_l1Cur_someJobs x_spec_l1Cur_someJobs (cl n_spec_l1Cur_someJobs)) (K_spec_l1Cur_one : K_spec_l1Cur_one x_spec_l1Cur_one (cl n_spec_l1Cur_one)) : K_spec_l1Cur_plainJobs (x_spec_l1Cur_plainJobs) (gbody F LL cl c_spec_l1Cur_plainJobs) := by
  intro c_ most_ r hr
  intro H0 id g ng hid
  have w1_ : ∀ b, (H0.set id b)[id]? = some b := fun b => hs_get b hid
  have w2_ : ∀ b B, (H0.set id b ++ B)[id]? = some b := fun b B => hs_getA b hid
  have w3_ : ∀ a b B, (H0.set id a ++ B).set id b = H0.set id b ++ B := fun a b B => hs_setA a b hid
  unfold x_spec_l1Cur_plainJobs at hr
  try dsimp only at hr
  obtain ⟨r1, q4, hr⟩ := Option.bind_eq_some_iff.1 hr
  obtain ⟨ng2, e3⟩ : ∃ ng', gcall (shOf F) cl false n_spec_l1Cur_one [.ptr id g 0 0, .int .i64 16] (H0.set id (Blk.mk g false 3 [[.fs (c_.code.map (cI .u8)), .int .i64 c_.at_, .int .u64 c_.seed]])) ng = some (.bool r1.1, (H0.set id (Blk.mk g false 3 [[.fs (r1.2.code.map (cI .u8)), .int .i64 r1.2.at_, .int .u64 r1.2.seed]])), ng', .all) := call_cur s_spec_l1Cur_one (K_spec_l1Cur_one _ _ _ q4) H0 id g ng hid
  obtain ⟨r5, q8, hr⟩ := Option.bind_eq_some_iff.1 hr
  obtain ⟨ng6, e7⟩ : ∃ ng', gcall (shOf F) cl false n_spec_l1Cur_someJobs [.ptr id g 0 0, .bool r1.1, .int .i64 most_] (H0.set id (Blk.mk g false 3 [[.fs (r1.2.code.map (cI .u8)), .int .i64 r1.2.at_, .int .u64 r1.2.seed]])) ng2 = some (.fs (r5.1.map impl_Job.cells), (H0.set id (Blk.mk g false 3 [[.fs (r5.2.code.map (cI .u8)), .int .i64 r5.2.at_, .int .u64 r5.2.seed]])), ng', .all) := call_cur s_spec_l1Cur_someJobs (RetCO.ret (K_spec_l1Cur_someJobs _ _ _ _ q8)) H0 id g ng2 hid
  have hr_ := Option.some.inj hr; subst hr_
  refine ⟨.fs (r5.1.map impl_Job.cells), [], ng6, ?_, ?_⟩
  · simp only [c_spec_l1Cur_plainJobs, evA, evB, Int.reduceToNat, eq_self, reduceCtorEq, ↓reduceIte, Nat.reduceEqDiff, Nat.reduceAdd, Nat.reduceLT, Nat.reduceLeDiff, Nat.reduceMul, Nat.reduceSub, Nat.reduceBEq, spec_l1Cur.cells, rz_spec_l1Cur, pr_spec_l1Cur, impl_Job.cells, rz_impl_Job, pr_impl_Job, spec_l2Search.cells, rz_spec_l2Search, pr_spec_l2Search, *]
  · exact outR_flat rfl

theorem ok_spec_l1Cur_objective {cl : Callee} (K_spec_l1Cur_pick : K_spec_l1Cur_pick x_spec_l1Cur_pick (cl n_spec_l1Cur_pick)) (K_spec_l1Cur_one : K_spec_l1Cur_one x_spec_l1Cur_one (cl n_spec_l1Cur_one)) (K_spec_l1Cur_among : K_spec_l1Cur_among x_spec_l1Cur_among (cl n_spec_l1Cur_among)) : K_spec_l1Cur_objective (x_spec_l1Cur_objective) (gbody F LL cl c_spec_l1Cur_objective) := by
  intro c_ r hr
  intro H0 id g ng hid
  have w1_ : ∀ b, (H0.set id b)[id]? = some b := fun b => hs_get b hid
  have w2_ : ∀ b B, (H0.set id b ++ B)[id]? = some b := fun b B => hs_getA b hid
  have w3_ : ∀ a b B, (H0.set id a ++ B).set id b = H0.set id b ++ B := fun a b B => hs_setA a b hid
  unfold x_spec_l1Cur_objective at hr
  try dsimp only at hr
  obtain ⟨r1, q4, hr⟩ := Option.bind_eq_some_iff.1 hr
  obtain ⟨ng2, e3⟩ : ∃ ng', gcall (shOf F) cl false n_spec_l1Cur_one [.ptr id g 0 0, .int .i64 24] (H0.set id (Blk.mk g false 3 [[.fs (c_.code.map (cI .u8)), .int .i64 c_.at_, .int .u64 c_.seed]])) ng = some (.bool r1.1, (H0.set id (Blk.mk g false 3 [[.fs (r1.2.code.map (cI .u8)), .int .i64 r1.2.at_, .int .u64 r1.2.seed]])), ng', .all) := call_cur s_spec_l1Cur_one (K_spec_l1Cur_one _ _ _ q4) H0 id g ng hid
  by_cases h7 : r1.1 = true
  · rw [if_pos h7] at hr
    have e5 : r1.1 = true := h7
    clear h7
    obtain ⟨r8, q11, hr⟩ := Option.bind_eq_some_iff.1 hr
    obtain ⟨ng9, e10⟩ : ∃ ng', gcall (shOf F) cl false n_spec_l1Cur_among [.ptr id g 0 0, .fs [[.int .i64 0], [.int .i64 9], [.int .i64 (-1)]]] (H0.set id (Blk.mk g false 3 [[.fs (r1.2.code.map (cI .u8)), .int .i64 r1.2.at_, .int .u64 r1.2.seed]])) ng2 = some (.int .i64 r8.1, (H0.set id (Blk.mk g false 3 [[.fs (r8.2.code.map (cI .u8)), .int .i64 r8.2.at_, .int .u64 r8.2.seed]])), ng', .all) := call_cur s_spec_l1Cur_among (K_spec_l1Cur_among _ _ _ q11) H0 id g ng2 hid
    have hr_ := Option.some.inj hr; subst hr_
    refine ⟨.int .i64 r8.1, [], ng9, ?_, ?_⟩
    · simp only [c_spec_l1Cur_objective, evA, evB, Int.reduceToNat, eq_self, reduceCtorEq, ↓reduceIte, Nat.reduceEqDiff, Nat.reduceAdd, Nat.reduceLT, Nat.reduceLeDiff, Nat.reduceMul, Nat.reduceSub, Nat.reduceBEq, spec_l1Cur.cells, rz_spec_l1Cur, pr_spec_l1Cur, impl_Job.cells, rz_impl_Job, pr_impl_Job, spec_l2Search.cells, rz_spec_l2Search, pr_spec_l2Search, *]
    · exact outR_flat rfl
  · rw [if_neg h7] at hr
    have e6 : r1.1 = false := Bool.eq_false_iff.2 h7
    clear h7
    obtain ⟨r12, q15, hr⟩ := Option.bind_eq_some_iff.1 hr
    obtain ⟨ng13, e14⟩ : ∃ ng', gcall (shOf F) cl false n_spec_l1Cur_pick [.ptr id g 0 0, .int .i64 8] (H0.set id (Blk.mk g false 3 [[.fs (r1.2.code.map (cI .u8)), .int .i64 r1.2.at_, .int .u64 r1.2.seed]])) ng2 = some (.int .i64 r12.1, (H0.set id (Blk.mk g false 3 [[.fs (r12.2.code.map (cI .u8)), .int .i64 r12.2.at_, .int .u64 r12.2.seed]])), ng', .all) := call_cur s_spec_l1Cur_pick (K_spec_l1Cur_pick _ _ _ q15) H0 id g ng2 hid
    have hr_ := Option.some.inj hr; subst hr_
    refine ⟨.int .i64 (addK .i64 1 r12.1), [], ng13, ?_, ?_⟩
    · simp only [c_spec_l1Cur_objective, evA, evB, Int.reduceToNat, eq_self, reduceCtorEq, ↓reduceIte, Nat.reduceEqDiff, Nat.reduceAdd, Nat.reduceLT, Nat.reduceLeDiff, Nat.reduceMul, Nat.reduceSub, Nat.reduceBEq, spec_l1Cur.cells, rz_spec_l1Cur, pr_spec_l1Cur, impl_Job.cells, rz_impl_Job, pr_impl_Job, spec_l2Search.cells, rz_spec_l2Search, pr_spec_l2Search, *]
    · exact outR_flat rfl

theorem ok_spec_l1Cur_sums {cl : Callee} (K_spec_l1Cur_one : K_spec_l1Cur_one x_spec_l1Cur_one (cl n_spec_l1Cur_one)) (K_spec_l1Cur_objective : K_spec_l1Cur_objective x_spec_l1Cur_objective (cl n_spec_l1Cur_objective)) (K_spec_l1Cur_among : K_spec_l1Cur_among x_spec_l1Cur_among (cl n_spec_l1Cur_among)) : K_spec_l1Cur_sums (x_spec_l1Cur_sums) (gbody F LL cl c_spec_l1Cur_sums) := by
  intro c_ r hr
  intro H0 id g ng hid
  have w1_ : ∀ b, (H0.set id b)[id]? = some b := fun b => hs_get b hid
  have w2_ : ∀ b B, (H0.set id b ++ B)[id]? = some b := fun b B => hs_getA b hid
  have w3_ : ∀ a b B, (H0.set id a ++ B).set id b = H0.set id b ++ B := fun a b B => hs_setA a b hid
  unfold x_spec_l1Cur_sums at hr
  try dsimp only at hr
  obtain ⟨r1, q4, hr⟩ := Option.bind_eq_some_iff.1 hr
  obtain ⟨ng2, e3⟩ : ∃ ng', gcall (shOf F) cl false n_spec_l1Cur_one [.ptr id g 0 0, .int .i64 8] (H0.set id (Blk.mk g false 3 [[.fs (c_.code.map (cI .u8)), .int .i64 c_.at_, .int .u64 c_.seed]])) ng = some (.bool r1.1, (H0.set id (Blk.mk g false 3 [[.fs (r1.2.code.map (cI .u8)), .int .i64 r1.2.at_, .int .u64 r1.2.seed]])), ng', .all) := call_cur s_spec_l1Cur_one (K_spec_l1Cur_one _ _ _ q4) H0 id g ng hid
  by_cases h7 : r1.1 = true
  · rw [if_pos h7] at hr
    have e5 : r1.1 = true := h7
    clear h7
    obtain ⟨r8, q11, hr⟩ := Option.bind_eq_some_iff.1 hr
    obtain ⟨ng9, e10⟩ : ∃ ng', gcall (shOf F) cl false n_spec_l1Cur_objective [.ptr id g 0 0] (H0.set id (Blk.mk g false 3 [[.fs (r1.2.code.map (cI .u8)), .int .i64 r1.2.at_, .int .u64 r1.2.seed]])) ng2 = some (.int .i64 r8.1, (H0.set id (Blk.mk g false 3 [[.fs (r8.2.code.map (cI .u8)), .int .i64 r8.2.at_, .int .u64 r8.2.seed]])), ng', .all) := call_cur s_spec_l1Cur_objective (K_spec_l1Cur_objective _ _ q11) H0 id g ng2 hid
    have hr_ := Option.some.inj hr; subst hr_
    refine ⟨.int .i64 r8.1, [], ng9, ?_, ?_⟩
    · simp only [c_spec_l1Cur_sums, evA, evB, Int.reduceToNat, eq_self, reduceCtorEq, ↓reduceIte, Nat.reduceEqDiff, Nat.reduceAdd, Nat.reduceLT, Nat.reduceLeDiff, Nat.reduceMul, Nat.reduceSub, Nat.reduceBEq, spec_l1Cur.cells, rz_spec_l1Cur, pr_spec_l1Cur, impl_Job.cells, rz_impl_Job, pr_impl_Job, spec_l2Search.cells, rz_spec_l2Search, pr_spec_l2Search, *]
    · exact outR_flat rfl
  · rw [if_neg h7] at hr
    have e6 : r1.1 = false := Bool.eq_false_iff.2 h7
    clear h7
    obtain ⟨r12, q15, hr⟩ := Option.bind_eq_some_iff.1 hr
    obtain ⟨ng13, e14⟩ : ∃ ng', gcall (shOf F) cl false n_spec_l1Cur_among [.ptr id g 0 0, .fs [[.int .i64 2], [.int .i64 3], [.int .i64 5], [.int .i64 6], [.int .i64 7], [.int .i64 8]]] (H0.set id (Blk.mk g false 3 [[.fs (r1.2.code.map (cI .u8)), .int .i64 r1.2.at_, .int .u64 r1.2.seed]])) ng2 = some (.int .i64 r12.1, (H0.set id (Blk.mk g false 3 [[.fs (r12.2.code.map (cI .u8)), .int .i64 r12.2.at_, .int .u64 r12.2.seed]])), ng', .all) := call_cur s_spec_l1Cur_among (K_spec_l1Cur_among _ _ _ q15) H0 id g ng2 hid
    have hr_ := Option.some.inj hr; subst hr_
    refine ⟨.int .i64 r12.1, [], ng13, ?_, ?_⟩
    · simp only [c_spec_l1Cur_sums, evA, evB, Int.reduceToNat, eq_self, reduceCtorEq, ↓reduceIte, Nat.reduceEqDiff, Nat.reduceAdd, Nat.reduceLT, Nat.reduceLeDiff, Nat.reduceMul, Nat.reduceSub, Nat.reduceBEq, spec_l1Cur.cells, rz_spec_l1Cur, pr_spec_l1Cur, impl_Job.cells, rz_impl_Job, pr_impl_Job, spec_l2Search.cells, rz_spec_l2Search, pr_spec_l2Search, *]
    · exact outR_flat rfl

theorem ok_spec_DrawSetValues {cl : Callee} (K_spec_l1Cur_plainJobs : K_spec_l1Cur_plainJobs x_spec_l1Cur_plainJobs (cl n_spec_l1Cur_plainJobs)) (K_spec_l1Cur_sums : K_spec_l1Cur_sums x_spec_l1Cur_sums (cl n_spec_l1Cur_sums)) : K_spec_DrawSetValues (x_spec_DrawSetValues) (gbody F LL cl c_spec_DrawSetValues) := by
  intro code_ r hr
  unfold x_spec_DrawSetValues at hr
  try dsimp only at hr
  obtain ⟨r1, q4, hr⟩ := Option.bind_eq_some_iff.1 hr
  obtain ⟨ng2, e3⟩ : ∃ ng', gcall (shOf F) cl false n_spec_l1Cur_plainJobs [.ptr 0 0 0 0, .int .i64 6] [(Blk.mk 0 false 3 [[.fs (code_.map (cI .u8)), .int .i64 0, .int .u64 0]])] 1 = some (.fs (r1.1.map impl_Job.cells), [(Blk.mk 0 false 3 [[.fs (r1.2.code.map (cI .u8)), .int .i64 r1.2.at_, .int .u64 r1.2.seed]])], ng', .all) := call_cur s_spec_l1Cur_plainJobs (K_spec_l1Cur_plainJobs _ _ _ q4) [(Blk.mk 0 false 3 [[.fs (code_.map (cI .u8)), .int .i64 0, .int .u64 0]])] 0 _ 1 (by simp)
  obtain ⟨r5, q8, hr⟩ := Option.bind_eq_some_iff.1 hr
  obtain ⟨ng6, e7⟩ : ∃ ng', gcall (shOf F) cl false n_spec_l1Cur_sums [.ptr 0 0 0 0] [(Blk.mk 0 false 3 [[.fs (r1.2.code.map (cI .u8)), .int .i64 r1.2.at_, .int .u64 r1.2.seed]])] ng2 = some (.int .i64 r5.1, [(Blk.mk 0 false 3 [[.fs (r5.2.code.map (cI .u8)), .int .i64 r5.2.at_, .int .u64 r5.2.seed]])], ng', .all) := call_cur s_spec_l1Cur_sums (K_spec_l1Cur_sums _ _ q8) [(Blk.mk 0 false 3 [[.fs (r1.2.code.map (cI .u8)), .int .i64 r1.2.at_, .int .u64 r1.2.seed]])] 0 _ ng2 (by simp)
  have hr_ := Option.some.inj hr; subst hr_
  refine Ret.flat (by
    simp only [c_spec_DrawSetValues, evA, evB, Int.reduceToNat, eq_self, reduceCtorEq, ↓reduceIte, Nat.reduceEqDiff, Nat.reduceAdd, Nat.reduceLT, Nat.reduceLeDiff, Nat.reduceMul, Nat.reduceSub, Nat.reduceBEq, spec_l1Cur.cells, rz_spec_l1Cur, pr_spec_l1Cur, impl_Job.cells, rz_impl_Job, pr_impl_Job, spec_l2Search.cells, rz_spec_l2Search, pr_spec_l2Search, *]
    rfl) rfl

theorem ok_impl_within {cl : Callee} : K_impl_within (x_impl_within) (gbody F LL cl c_impl_within) := by
  intro n_ low_ high_ r hr
  unfold x_impl_within at hr
  try dsimp only at hr
  by_cases h5 : low_ ≤ n_
  · rw [if_pos h5] at hr
    have e3 : (low_ ≤ n_) = True := eq_true h5
    clear h5
    have hr_ := Option.some.inj hr; subst hr_
    refine RetF.scal (by
      simp only [c_impl_within, evA, evB, Int.reduceToNat, eq_self, reduceCtorEq, ↓reduceIte, Nat.reduceEqDiff, Nat.reduceAdd, Nat.reduceLT, Nat.reduceLeDiff, Nat.reduceMul, Nat.reduceSub, Nat.reduceBEq, spec_l1Cur.cells, rz_spec_l1Cur, pr_spec_l1Cur, impl_Job.cells, rz_impl_Job, pr_impl_Job, spec_l2Search.cells, rz_spec_l2Search, pr_spec_l2Search, *]
      rfl) rfl rfl
  · rw [if_neg h5] at hr
    have e4 : (low_ ≤ n_) = False := eq_false h5
    clear h5
    have hr_ := Option.some.inj hr; subst hr_
    refine RetF.scal (by
      simp only [c_impl_within, evA, evB, Int.reduceToNat, eq_self, reduceCtorEq, ↓reduceIte, Nat.reduceEqDiff, Nat.reduceAdd, Nat.reduceLT, Nat.reduceLeDiff, Nat.reduceMul, Nat.reduceSub, Nat.reduceBEq, spec_l1Cur.cells, rz_spec_l1Cur, pr_spec_l1Cur, impl_Job.cells, rz_impl_Job, pr_impl_Job, spec_l2Search.cells, rz_spec_l2Search, pr_spec_l2Search, *]
      rfl) rfl rfl

theorem ok_impl_isDate {cl : Callee} (K_impl_within : K_impl_within x_impl_within (cl n_impl_within)) : K_impl_isDate (x_impl_isDate) (gbody F LL cl c_impl_isDate) := by
  intro n_ r hr
  unfold x_impl_isDate at hr
  try dsimp only at hr
  obtain ⟨r1, q3, hr⟩ := Option.bind_eq_some_iff.1 hr
  have e2 : ∀ H ng, gcall (shOf F) cl false n_impl_within [.int .i64 n_, .int .i64 0, .int .i64 500] H ng = some (.bool r1, H, ng, .inert) := fun H ng => call_far s_impl_within rfl (K_impl_within _ _ _ _ q3).ret
  have hr_ := Option.some.inj hr; subst hr_
  refine RetF.scal (by
    simp only [c_impl_isDate, evA, evB, Int.reduceToNat, eq_self, reduceCtorEq, ↓reduceIte, Nat.reduceEqDiff, Nat.reduceAdd, Nat.reduceLT, Nat.reduceLeDiff, Nat.reduceMul, Nat.reduceSub, Nat.reduceBEq, spec_l1Cur.cells, rz_spec_l1Cur, pr_spec_l1Cur, impl_Job.cells, rz_impl_Job, pr_impl_Job, spec_l2Search.cells, rz_spec_l2Search, pr_spec_l2Search, *]
    rfl) rfl rfl

theorem st_impl_IsJobs_l0 {cl : Callee} (K_impl_within : K_impl_within x_impl_within (cl n_impl_within)) (K_impl_isDate : K_impl_isDate x_impl_isDate (cl n_impl_isDate)) (v : (List impl_Job)) (vz1 : Int) (st_ : (Int)) (c_ : Ctl (Int) (Unit ⊕ (Bool))) (hr : x_impl_IsJobs_l0 v vz1 st_ = some c_) (T_ : Tm) (H_ : List Blk) (ng : Nat) (hR_ : R_impl_IsJobs_l0 v vz1 st_ T_ H_) :
    ∃ e_ T1_ H1_ ng1_, gcode (shOf F) cl LL c_impl_IsJobs_l0 ⟨maskT (some [8, 9, 10]) T_, H_, ng⟩ = some (e_, ⟨T1_, H1_, ng1_⟩) ∧ TurnOK (R_impl_IsJobs_l0 v vz1) (Q_impl_IsJobs_l0 v vz1) 0 c_ e_ T1_ H1_ := by
  obtain ⟨vz2, hst_⟩ : ∃ x, x = st_ := ⟨_, rfl⟩; subst hst_
  obtain ⟨f0_, f1_, f2_, rfl⟩ := hR_
  unfold x_impl_IsJobs_l0 at hr
  try dsimp only at hr
  by_cases h5 : vz2 < vz1
  · rw [if_pos h5] at hr
    have e3 : (vz2 < vz1) = True := eq_true h5
    clear h5
    obtain ⟨y6, q10, hr⟩ := Option.bind_eq_some_iff.1 hr
    obtain ⟨e7, e8, e9⟩ := ix_some q10
    try simp only [Int.toNat_natCast, Int.toNat_zero, Int.reduceToNat] at e8
    clear q10
    obtain ⟨r11, q13, hr⟩ := Option.bind_eq_some_iff.1 hr
    have e12 : ∀ H ng, gcall (shOf F) cl false n_impl_within [.int .i64 y6.Time, .int .i64 1, .int .i64 50] H ng = some (.bool r11, H, ng, .inert) := fun H ng => call_far s_impl_within rfl (K_impl_within _ _ _ _ q13).ret
    by_cases h16 : r11 = true
    · rw [if_pos h16] at hr
      have e14 : r11 = true := h16
      clear h16
      obtain ⟨r17, q19, hr⟩ := Option.bind_eq_some_iff.1 hr
      have e18 : ∀ H ng, gcall (shOf F) cl false n_impl_within [.int .i64 y6.Weight, .int .i64 0, .int .i64 50] H ng = some (.bool r17, H, ng, .inert) := fun H ng => call_far s_impl_within rfl (K_impl_within _ _ _ _ q19).ret
      by_cases h22 : r17 = true
      · rw [if_pos h22] at hr
        have e20 : r17 = true := h22
        clear h22
        obtain ⟨r23, q25, hr⟩ := Option.bind_eq_some_iff.1 hr
        have e24 : ∀ H ng, gcall (shOf F) cl false n_impl_isDate [.int .i64 y6.Release] H ng = some (.bool r23, H, ng, .inert) := fun H ng => call_far s_impl_isDate rfl (K_impl_isDate _ _ q25).ret
        by_cases h28 : r23 = true
        · rw [if_pos h28] at hr
          have e26 : r23 = true := h28
          clear h28
          obtain ⟨r29, q31, hr⟩ := Option.bind_eq_some_iff.1 hr
          have e30 : ∀ H ng, gcall (shOf F) cl false n_impl_isDate [.int .i64 y6.Due] H ng = some (.bool r29, H, ng, .inert) := fun H ng => call_far s_impl_isDate rfl (K_impl_isDate _ _ q31).ret
          by_cases h34 : r29 = true
          · rw [if_pos h34] at hr
            have e32 : r29 = true := h34
            clear h34
            have hr_ := Option.some.inj hr; subst hr_
            refine turn (by
              simp only [c_impl_IsJobs_l0, evA, evB, Int.reduceToNat, eq_self, reduceCtorEq, ↓reduceIte, Nat.reduceEqDiff, Nat.reduceAdd, Nat.reduceLT, Nat.reduceLeDiff, Nat.reduceMul, Nat.reduceSub, Nat.reduceBEq, spec_l1Cur.cells, rz_spec_l1Cur, pr_spec_l1Cur, impl_Job.cells, rz_impl_Job, pr_impl_Job, spec_l2Search.cells, rz_spec_l2Search, pr_spec_l2Search, *]
              rfl) ?_
            exact ⟨rfl, rfl, rfl, rfl, rfl⟩
          · rw [if_neg h34] at hr
            have e33 : r29 = false := Bool.eq_false_iff.2 h34
            clear h34
            have hr_ := Option.some.inj hr; subst hr_
            refine turn (by
              simp only [c_impl_IsJobs_l0, evA, evB, Int.reduceToNat, eq_self, reduceCtorEq, ↓reduceIte, Nat.reduceEqDiff, Nat.reduceAdd, Nat.reduceLT, Nat.reduceLeDiff, Nat.reduceMul, Nat.reduceSub, Nat.reduceBEq, spec_l1Cur.cells, rz_spec_l1Cur, pr_spec_l1Cur, impl_Job.cells, rz_impl_Job, pr_impl_Job, spec_l2Search.cells, rz_spec_l2Search, pr_spec_l2Search, *]
              rfl) ?_
            exact ⟨by simp, rfl, (by first | rfl | assumption)⟩
        · rw [if_neg h28] at hr
          have e27 : r23 = false := Bool.eq_false_iff.2 h28
          clear h28
          have hr_ := Option.some.inj hr; subst hr_
          refine turn (by
            simp only [c_impl_IsJobs_l0, evA, evB, Int.reduceToNat, eq_self, reduceCtorEq, ↓reduceIte, Nat.reduceEqDiff, Nat.reduceAdd, Nat.reduceLT, Nat.reduceLeDiff, Nat.reduceMul, Nat.reduceSub, Nat.reduceBEq, spec_l1Cur.cells, rz_spec_l1Cur, pr_spec_l1Cur, impl_Job.cells, rz_impl_Job, pr_impl_Job, spec_l2Search.cells, rz_spec_l2Search, pr_spec_l2Search, *]
            rfl) ?_
          exact ⟨by simp, rfl, (by first | rfl | assumption)⟩
      · rw [if_neg h22] at hr
        have e21 : r17 = false := Bool.eq_false_iff.2 h22
        clear h22
        have hr_ := Option.some.inj hr; subst hr_
        refine turn (by
          simp only [c_impl_IsJobs_l0, evA, evB, Int.reduceToNat, eq_self, reduceCtorEq, ↓reduceIte, Nat.reduceEqDiff, Nat.reduceAdd, Nat.reduceLT, Nat.reduceLeDiff, Nat.reduceMul, Nat.reduceSub, Nat.reduceBEq, spec_l1Cur.cells, rz_spec_l1Cur, pr_spec_l1Cur, impl_Job.cells, rz_impl_Job, pr_impl_Job, spec_l2Search.cells, rz_spec_l2Search, pr_spec_l2Search, *]
          rfl) ?_
        exact ⟨by simp, rfl, (by first | rfl | assumption)⟩
    · rw [if_neg h16] at hr
      have e15 : r11 = false := Bool.eq_false_iff.2 h16
      clear h16
      have hr_ := Option.some.inj hr; subst hr_
      refine turn (by
        simp only [c_impl_IsJobs_l0, evA, evB, Int.reduceToNat, eq_self, reduceCtorEq, ↓reduceIte, Nat.reduceEqDiff, Nat.reduceAdd, Nat.reduceLT, Nat.reduceLeDiff, Nat.reduceMul, Nat.reduceSub, Nat.reduceBEq, spec_l1Cur.cells, rz_spec_l1Cur, pr_spec_l1Cur, impl_Job.cells, rz_impl_Job, pr_impl_Job, spec_l2Search.cells, rz_spec_l2Search, pr_spec_l2Search, *]
        rfl) ?_
      exact ⟨by simp, rfl, (by first | rfl | assumption)⟩
  · rw [if_neg h5] at hr
    have e4 : (vz2 < vz1) = False := eq_false h5
    clear h5
    have hr_ := Option.some.inj hr; subst hr_
    refine turn (by
      simp only [c_impl_IsJobs_l0, evA, evB, Int.reduceToNat, eq_self, reduceCtorEq, ↓reduceIte, Nat.reduceEqDiff, Nat.reduceAdd, Nat.reduceLT, Nat.reduceLeDiff, Nat.reduceMul, Nat.reduceSub, Nat.reduceBEq, spec_l1Cur.cells, rz_spec_l1Cur, pr_spec_l1Cur, impl_Job.cells, rz_impl_Job, pr_impl_Job, spec_l2Search.cells, rz_spec_l2Search, pr_spec_l2Search, *]
      rfl) ?_
    exact ⟨by simp, rfl, rfl⟩

theorem lp_impl_IsJobs_l0 {cl : Callee} (K_impl_within : K_impl_within x_impl_within (cl n_impl_within)) (K_impl_isDate : K_impl_isDate x_impl_isDate (cl n_impl_isDate)) (v : (List impl_Job)) (vz1 : Int) (st_ : (Int)) (p_ : (Unit ⊕ (Bool))) (hr : loopS (x_impl_IsJobs_l0 v vz1) LL st_ = some p_) (T_ : Tm) (H_ : List Blk) (ng : Nat) (hR_ : R_impl_IsJobs_l0 v vz1 st_ T_ H_) (hn_ : H_.length = 0) :
    ∃ e_ T1_ H1_ ng1_, gcode (shOf F) cl LL (.loop false (some [8, 9, 10]) c_impl_IsJobs_l0) ⟨T_, H_, ng⟩ = some (e_, ⟨T1_, H1_, ng1_⟩) ∧ Q_impl_IsJobs_l0 v vz1 p_ e_ T1_ H1_ :=
  sim_loop (n0 := 0) (R_impl_IsJobs_l0 v vz1) (Q_impl_IsJobs_l0 v vz1) (st_impl_IsJobs_l0 K_impl_within K_impl_isDate v vz1) st_ p_ hr T_ H_ ng hR_ hn_

theorem ok_impl_IsJobs {cl : Callee} (K_impl_within : K_impl_within x_impl_within (cl n_impl_within)) (K_impl_isDate : K_impl_isDate x_impl_isDate (cl n_impl_isDate)) : K_impl_IsJobs (x_impl_IsJobs) (gbody F LL cl c_impl_IsJobs) := by
  intro jobs_ r hr
  unfold x_impl_IsJobs at hr
  try dsimp only at hr
  by_cases h5 : 8 < (jobs_.length : Int)
  · rw [if_pos h5] at hr
    have e3 : (8 < (jobs_.length : Int)) = True := eq_true h5
    clear h5
    have hr_ := Option.some.inj hr; subst hr_
    refine RetF.scal (by
      simp only [c_impl_IsJobs, evA, evB, Int.reduceToNat, eq_self, reduceCtorEq, ↓reduceIte, Nat.reduceEqDiff, Nat.reduceAdd, Nat.reduceLT, Nat.reduceLeDiff, Nat.reduceMul, Nat.reduceSub, Nat.reduceBEq, spec_l1Cur.cells, rz_spec_l1Cur, pr_spec_l1Cur, impl_Job.cells, rz_impl_Job, pr_impl_Job, spec_l2Search.cells, rz_spec_l2Search, pr_spec_l2Search, *]
      rfl) rfl rfl
  · rw [if_neg h5] at hr
    have e4 : (8 < (jobs_.length : Int)) = False := eq_false h5
    clear h5
    obtain ⟨p6, q15, hr⟩ := Option.bind_eq_some_iff.1 hr
    obtain ⟨ex12, T9, H10, ng11, l8, m7⟩ := lp_impl_IsJobs_l0 (cl := cl) K_impl_within K_impl_isDate  jobs_ (jobs_.length : Int) _ _ q15 [(8, .fs (jobs_.map impl_Job.cells)), (9, .int .i64 (jobs_.length : Int)), (10, .int .i64 0)] [] 0 (show R_impl_IsJobs_l0 jobs_ (jobs_.length : Int) 0 [(8, .fs (jobs_.map impl_Job.cells)), (9, .int .i64 (jobs_.length : Int)), (10, .int .i64 0)] [] from ⟨rfl, rfl, rfl, rfl⟩) rfl
    rcases p6 with p6 | p6
    · dsimp only at hr
      obtain ⟨rfl, e13⟩ := m7
      subst e13
      have hr_ := Option.some.inj hr; subst hr_
      refine RetF.scal (by
        simp only [c_impl_IsJobs, evA, evB, Int.reduceToNat, eq_self, reduceCtorEq, ↓reduceIte, Nat.reduceEqDiff, Nat.reduceAdd, Nat.reduceLT, Nat.reduceLeDiff, Nat.reduceMul, Nat.reduceSub, Nat.reduceBEq, spec_l1Cur.cells, rz_spec_l1Cur, pr_spec_l1Cur, impl_Job.cells, rz_impl_Job, pr_impl_Job, spec_l2Search.cells, rz_spec_l2Search, pr_spec_l2Search, *]
        rfl) rfl rfl
    · dsimp only at hr
      obtain ⟨rfl, e14⟩ := m7
      have hr_ := Option.some.inj hr; subst hr_
      refine RetF.scal (by
        simp only [c_impl_IsJobs, evA, evB, Int.reduceToNat, eq_self, reduceCtorEq, ↓reduceIte, Nat.reduceEqDiff, Nat.reduceAdd, Nat.reduceLT, Nat.reduceLeDiff, Nat.reduceMul, Nat.reduceSub, Nat.reduceBEq, spec_l1Cur.cells, rz_spec_l1Cur, pr_spec_l1Cur, impl_Job.cells, rz_impl_Job, pr_impl_Job, spec_l2Search.cells, rz_spec_l2Search, pr_spec_l2Search, *]
        rfl) rfl rfl

theorem st_impl_isPlain_l0 {cl : Callee} (v : (List impl_Job)) (vz1 : Int) (st_ : (Int)) (c_ : Ctl (Int) (Unit ⊕ (Bool))) (hr : x_impl_isPlain_l0 v vz1 st_ = some c_) (T_ : Tm) (H_ : List Blk) (ng : Nat) (hR_ : R_impl_isPlain_l0 v vz1 st_ T_ H_) :
    ∃ e_ T1_ H1_ ng1_, gcode (shOf F) cl LL c_impl_isPlain_l0 ⟨maskT (some [5, 6, 7]) T_, H_, ng⟩ = some (e_, ⟨T1_, H1_, ng1_⟩) ∧ TurnOK (R_impl_isPlain_l0 v vz1) (Q_impl_isPlain_l0 v vz1) 0 c_ e_ T1_ H1_ := by
  obtain ⟨vz2, hst_⟩ : ∃ x, x = st_ := ⟨_, rfl⟩; subst hst_
  obtain ⟨f0_, f1_, f2_, rfl⟩ := hR_
  unfold x_impl_isPlain_l0 at hr
  try dsimp only at hr
  by_cases h5 : vz2 < vz1
  · rw [if_pos h5] at hr
    have e3 : (vz2 < vz1) = True := eq_true h5
    clear h5
    obtain ⟨y6, q10, hr⟩ := Option.bind_eq_some_iff.1 hr
    obtain ⟨e7, e8, e9⟩ := ix_some q10
    try simp only [Int.toNat_natCast, Int.toNat_zero, Int.reduceToNat] at e8
    clear q10
    by_cases h15 : y6.Release = 0
    · rw [if_pos h15] at hr
      have e13 : (y6.Release = 0) = True := eq_true h15
      clear h15
      have hr_ := Option.some.inj hr; subst hr_
      refine turn (by
        simp only [c_impl_isPlain_l0, evA, evB, Int.reduceToNat, eq_self, reduceCtorEq, ↓reduceIte, Nat.reduceEqDiff, Nat.reduceAdd, Nat.reduceLT, Nat.reduceLeDiff, Nat.reduceMul, Nat.reduceSub, Nat.reduceBEq, spec_l1Cur.cells, rz_spec_l1Cur, pr_spec_l1Cur, impl_Job.cells, rz_impl_Job, pr_impl_Job, spec_l2Search.cells, rz_spec_l2Search, pr_spec_l2Search, *]
        rfl) ?_
      exact ⟨rfl, rfl, rfl, rfl, rfl⟩
    · rw [if_neg h15] at hr
      have e14 : (y6.Release = 0) = False := eq_false h15
      clear h15
      have hr_ := Option.some.inj hr; subst hr_
      refine turn (by
        simp only [c_impl_isPlain_l0, evA, evB, Int.reduceToNat, eq_self, reduceCtorEq, ↓reduceIte, Nat.reduceEqDiff, Nat.reduceAdd, Nat.reduceLT, Nat.reduceLeDiff, Nat.reduceMul, Nat.reduceSub, Nat.reduceBEq, spec_l1Cur.cells, rz_spec_l1Cur, pr_spec_l1Cur, impl_Job.cells, rz_impl_Job, pr_impl_Job, spec_l2Search.cells, rz_spec_l2Search, pr_spec_l2Search, *]
        rfl) ?_
      exact ⟨by simp, rfl, (by first | rfl | assumption)⟩
  · rw [if_neg h5] at hr
    have e4 : (vz2 < vz1) = False := eq_false h5
    clear h5
    have hr_ := Option.some.inj hr; subst hr_
    refine turn (by
      simp only [c_impl_isPlain_l0, evA, evB, Int.reduceToNat, eq_self, reduceCtorEq, ↓reduceIte, Nat.reduceEqDiff, Nat.reduceAdd, Nat.reduceLT, Nat.reduceLeDiff, Nat.reduceMul, Nat.reduceSub, Nat.reduceBEq, spec_l1Cur.cells, rz_spec_l1Cur, pr_spec_l1Cur, impl_Job.cells, rz_impl_Job, pr_impl_Job, spec_l2Search.cells, rz_spec_l2Search, pr_spec_l2Search, *]
      rfl) ?_
    exact ⟨by simp, rfl, rfl⟩

theorem lp_impl_isPlain_l0 {cl : Callee} (v : (List impl_Job)) (vz1 : Int) (st_ : (Int)) (p_ : (Unit ⊕ (Bool))) (hr : loopS (x_impl_isPlain_l0 v vz1) LL st_ = some p_) (T_ : Tm) (H_ : List Blk) (ng : Nat) (hR_ : R_impl_isPlain_l0 v vz1 st_ T_ H_) (hn_ : H_.length = 0) :
    ∃ e_ T1_ H1_ ng1_, gcode (shOf F) cl LL (.loop false (some [5, 6, 7]) c_impl_isPlain_l0) ⟨T_, H_, ng⟩ = some (e_, ⟨T1_, H1_, ng1_⟩) ∧ Q_impl_isPlain_l0 v vz1 p_ e_ T1_ H1_ :=
  sim_loop (n0 := 0) (R_impl_isPlain_l0 v vz1) (Q_impl_isPlain_l0 v vz1) (st_impl_isPlain_l0 v vz1) st_ p_ hr T_ H_ ng hR_ hn_

theorem ok_impl_isPlain {cl : Callee} : K_impl_isPlain (x_impl_isPlain) (gbody F LL cl c_impl_isPlain) := by
  intro jobs_ r hr
  unfold x_impl_isPlain at hr
  try dsimp only at hr
  obtain ⟨p1, q10, hr⟩ := Option.bind_eq_some_iff.1 hr
  obtain ⟨ex7, T4, H5, ng6, l3, m2⟩ := lp_impl_isPlain_l0 (cl := cl)  jobs_ (jobs_.length : Int) _ _ q10 [(5, .fs (jobs_.map impl_Job.cells)), (6, .int .i64 (jobs_.length : Int)), (7, .int .i64 0)] [] 0 (show R_impl_isPlain_l0 jobs_ (jobs_.length : Int) 0 [(5, .fs (jobs_.map impl_Job.cells)), (6, .int .i64 (jobs_.length : Int)), (7, .int .i64 0)] [] from ⟨rfl, rfl, rfl, rfl⟩) rfl
  rcases p1 with p1 | p1
  · dsimp only at hr
    obtain ⟨rfl, e8⟩ := m2
    subst e8
    have hr_ := Option.some.inj hr; subst hr_
    refine RetF.scal (by
      simp only [c_impl_isPlain, evA, evB, Int.reduceToNat, eq_self, reduceCtorEq, ↓reduceIte, Nat.reduceEqDiff, Nat.reduceAdd, Nat.reduceLT, Nat.reduceLeDiff, Nat.reduceMul, Nat.reduceSub, Nat.reduceBEq, spec_l1Cur.cells, rz_spec_l1Cur, pr_spec_l1Cur, impl_Job.cells, rz_impl_Job, pr_impl_Job, spec_l2Search.cells, rz_spec_l2Search, pr_spec_l2Search, *]
      rfl) rfl rfl
  · dsimp only at hr
    obtain ⟨rfl, e9⟩ := m2
    have hr_ := Option.some.inj hr; subst hr_
    refine RetF.scal (by
      simp only [c_impl_isPlain, evA, evB, Int.reduceToNat, eq_self, reduceCtorEq, ↓reduceIte, Nat.reduceEqDiff, Nat.reduceAdd, Nat.reduceLT, Nat.reduceLeDiff, Nat.reduceMul, Nat.reduceSub, Nat.reduceBEq, spec_l1Cur.cells, rz_spec_l1Cur, pr_spec_l1Cur, impl_Job.cells, rz_impl_Job, pr_impl_Job, spec_l2Search.cells, rz_spec_l2Search, pr_spec_l2Search, *]
      rfl) rfl rfl

theorem ok_impl_IsPlain {cl : Callee} (K_impl_IsJobs : K_impl_IsJobs x_impl_IsJobs (cl n_impl_IsJobs)) (K_impl_isPlain : K_impl_isPlain x_impl_isPlain (cl n_impl_isPlain)) : K_impl_IsPlain (x_impl_IsPlain) (gbody F LL cl c_impl_IsPlain) := by
  intro jobs_ r hr
  unfold x_impl_IsPlain at hr
  try dsimp only at hr
  obtain ⟨r1, q3, hr⟩ := Option.bind_eq_some_iff.1 hr
  have e2 : ∀ H ng, gcall (shOf F) cl false n_impl_IsJobs [.fs (jobs_.map impl_Job.cells)] H ng = some (.bool r1, H, ng, .inert) := fun H ng => call_far s_impl_IsJobs rfl (K_impl_IsJobs _ _ q3).ret
  by_cases h6 : r1 = true
  · rw [if_pos h6] at hr
    have e4 : r1 = true := h6
    clear h6
    obtain ⟨r7, q9, hr⟩ := Option.bind_eq_some_iff.1 hr
    have e8 : ∀ H ng, gcall (shOf F) cl false n_impl_isPlain [.fs (jobs_.map impl_Job.cells)] H ng = some (.bool r7, H, ng, .inert) := fun H ng => call_far s_impl_isPlain rfl (K_impl_isPlain _ _ q9).ret
    have hr_ := Option.some.inj hr; subst hr_
    refine RetF.scal (by
      simp only [c_impl_IsPlain, evA, evB, Int.reduceToNat, eq_self, reduceCtorEq, ↓reduceIte, Nat.reduceEqDiff, Nat.reduceAdd, Nat.reduceLT, Nat.reduceLeDiff, Nat.reduceMul, Nat.reduceSub, Nat.reduceBEq, spec_l1Cur.cells, rz_spec_l1Cur, pr_spec_l1Cur, impl_Job.cells, rz_impl_Job, pr_impl_Job, spec_l2Search.cells, rz_spec_l2Search, pr_spec_l2Search, *]
      rfl) rfl rfl
  · rw [if_neg h6] at hr
    have e5 : r1 = false := Bool.eq_false_iff.2 h6
    clear h6
    have hr_ := Option.some.inj hr; subst hr_
    refine RetF.scal (by
      simp only [c_impl_IsPlain, evA, evB, Int.reduceToNat, eq_self, reduceCtorEq, ↓reduceIte, Nat.reduceEqDiff, Nat.reduceAdd, Nat.reduceLT, Nat.reduceLeDiff, Nat.reduceMul, Nat.reduceSub, Nat.reduceBEq, spec_l1Cur.cells, rz_spec_l1Cur, pr_spec_l1Cur, impl_Job.cells, rz_impl_Job, pr_impl_Job, spec_l2Search.cells, rz_spec_l2Search, pr_spec_l2Search, *]
      rfl) rfl rfl

theorem ok_impl_isObjective {cl : Callee} (K_impl_within : K_impl_within x_impl_within (cl n_impl_within)) : K_impl_isObjective (x_impl_isObjective) (gbody F LL cl c_impl_isObjective) := by
  intro n_ r hr
  unfold x_impl_isObjective at hr
  try dsimp only at hr
  obtain ⟨r1, q3, hr⟩ := Option.bind_eq_some_iff.1 hr
  have e2 : ∀ H ng, gcall (shOf F) cl false n_impl_within [.int .i64 n_, .int .i64 1, .int .i64 8] H ng = some (.bool r1, H, ng, .inert) := fun H ng => call_far s_impl_within rfl (K_impl_within _ _ _ _ q3).ret
  have hr_ := Option.some.inj hr; subst hr_
  refine RetF.scal (by
    simp only [c_impl_isObjective, evA, evB, Int.reduceToNat, eq_self, reduceCtorEq, ↓reduceIte, Nat.reduceEqDiff, Nat.reduceAdd, Nat.reduceLT, Nat.reduceLeDiff, Nat.reduceMul, Nat.reduceSub, Nat.reduceBEq, spec_l1Cur.cells, rz_spec_l1Cur, pr_spec_l1Cur, impl_Job.cells, rz_impl_Job, pr_impl_Job, spec_l2Search.cells, rz_spec_l2Search, pr_spec_l2Search, *]
    rfl) rfl rfl

theorem ok_impl_isSumObjective {cl : Callee} (K_impl_isObjective : K_impl_isObjective x_impl_isObjective (cl n_impl_isObjective)) : K_impl_isSumObjective (x_impl_isSumObjective) (gbody F LL cl c_impl_isSumObjective) := by
  intro objective_ r hr
  unfold x_impl_isSumObjective at hr
  try dsimp only at hr
  obtain ⟨r1, q3, hr⟩ := Option.bind_eq_some_iff.1 hr
  have e2 : ∀ H ng, gcall (shOf F) cl false n_impl_isObjective [.int .i64 objective_] H ng = some (.bool r1, H, ng, .inert) := fun H ng => call_far s_impl_isObjective rfl (K_impl_isObjective _ _ q3).ret
  by_cases h6 : r1 = true
  · rw [if_pos h6] at hr
    have e4 : r1 = true := h6
    clear h6
    by_cases h11 : objective_ = 1
    · rw [if_pos h11] at hr
      have e9 : (objective_ = 1) = True := eq_true h11
      clear h11
      have hr_ := Option.some.inj hr; subst hr_
      refine RetF.scal (by
        simp only [c_impl_isSumObjective, evA, evB, Int.reduceToNat, eq_self, reduceCtorEq, ↓reduceIte, Nat.reduceEqDiff, Nat.reduceAdd, Nat.reduceLT, Nat.reduceLeDiff, Nat.reduceMul, Nat.reduceSub, Nat.reduceBEq, spec_l1Cur.cells, rz_spec_l1Cur, pr_spec_l1Cur, impl_Job.cells, rz_impl_Job, pr_impl_Job, spec_l2Search.cells, rz_spec_l2Search, pr_spec_l2Search, *]
        rfl) rfl rfl
    · rw [if_neg h11] at hr
      have e10 : (objective_ = 1) = False := eq_false h11
      clear h11
      by_cases h16 : objective_ = 4
      · rw [if_pos h16] at hr
        have e14 : (objective_ = 4) = True := eq_true h16
        clear h16
        have hr_ := Option.some.inj hr; subst hr_
        refine RetF.scal (by
          simp only [c_impl_isSumObjective, evA, evB, Int.reduceToNat, eq_self, reduceCtorEq, ↓reduceIte, Nat.reduceEqDiff, Nat.reduceAdd, Nat.reduceLT, Nat.reduceLeDiff, Nat.reduceMul, Nat.reduceSub, Nat.reduceBEq, spec_l1Cur.cells, rz_spec_l1Cur, pr_spec_l1Cur, impl_Job.cells, rz_impl_Job, pr_impl_Job, spec_l2Search.cells, rz_spec_l2Search, pr_spec_l2Search, *]
          rfl) rfl rfl
      · rw [if_neg h16] at hr
        have e15 : (objective_ = 4) = False := eq_false h16
        clear h16
        have hr_ := Option.some.inj hr; subst hr_
        refine RetF.scal (by
          simp only [c_impl_isSumObjective, evA, evB, Int.reduceToNat, eq_self, reduceCtorEq, ↓reduceIte, Nat.reduceEqDiff, Nat.reduceAdd, Nat.reduceLT, Nat.reduceLeDiff, Nat.reduceMul, Nat.reduceSub, Nat.reduceBEq, spec_l1Cur.cells, rz_spec_l1Cur, pr_spec_l1Cur, impl_Job.cells, rz_impl_Job, pr_impl_Job, spec_l2Search.cells, rz_spec_l2Search, pr_spec_l2Search, *]
          rfl) rfl rfl
  · rw [if_neg h6] at hr
    have e5 : r1 = false := Bool.eq_false_iff.2 h6
    clear h6
    have hr_ := Option.some.inj hr; subst hr_
    refine RetF.scal (by
      simp only [c_impl_isSumObjective, evA, evB, Int.reduceToNat, eq_self, reduceCtorEq, ↓reduceIte, Nat.reduceEqDiff, Nat.reduceAdd, Nat.reduceLT, Nat.reduceLeDiff, Nat.reduceMul, Nat.reduceSub, Nat.reduceBEq, spec_l1Cur.cells, rz_spec_l1Cur, pr_spec_l1Cur, impl_Job.cells, rz_impl_Job, pr_impl_Job, spec_l2Search.cells, rz_spec_l2Search, pr_spec_l2Search, *]
      rfl) rfl rfl

end Gh
