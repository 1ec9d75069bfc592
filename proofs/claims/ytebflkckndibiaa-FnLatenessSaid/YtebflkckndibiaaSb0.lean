/- The ghost answers as the shallow functions do, part 0. Written by program. -/
import Derived.Test.YtebflkckndibiaaSa
namespace Gh
open Go
set_option linter.unusedSimpArgs false
set_option linter.unusedVariables false
set_option maxRecDepth 100000
set_option maxHeartbeats 1000000

theorem ok_laws_rBig {cl : Callee} : K_laws_rBig (x_laws_rBig) (gbody F LL cl c_laws_rBig) := by
  intro code_ r hr
  unfold x_laws_rBig at hr
  try dsimp only at hr
  have hr_ := Option.some.inj hr; subst hr_
  refine RetF.scal (by
    simp only [c_laws_rBig, evA, evB, Int.reduceToNat, eq_self, reduceCtorEq, ↓reduceIte, Nat.reduceEqDiff, Nat.reduceAdd, Nat.reduceLT, Nat.reduceLeDiff, Nat.reduceMul, Nat.reduceSub, spec_l1Cur.cells, rz_spec_l1Cur, pr_spec_l1Cur, impl_Job.cells, rz_impl_Job, pr_impl_Job, spec_l2Search.cells, rz_spec_l2Search, pr_spec_l2Search, *]
    rfl) rfl rfl

theorem ok_spec_l1Cur_next {cl : Callee} : K_spec_l1Cur_next (x_spec_l1Cur_next) (gbody F LL cl c_spec_l1Cur_next) := by
  intro c_ r hr
  intro H0 id g ng hid
  have w1_ : ∀ b, (H0.set id b)[id]? = some b := fun b => hs_get b hid
  have w2_ : ∀ b B, (H0.set id b ++ B)[id]? = some b := fun b B => hs_getA b hid
  have w3_ : ∀ a b B, (H0.set id a ++ B).set id b = H0.set id b ++ B := fun a b B => hs_setA a b hid
  unfold x_spec_l1Cur_next at hr
  try dsimp only at hr
  by_cases h5 : c_.at_ < (c_.code.length : Int)
  · rw [if_pos h5] at hr
    have e3 : (c_.at_ < (c_.code.length : Int)) = True := eq_true h5
    clear h5
    obtain ⟨y6, q10, hr⟩ := Option.bind_eq_some_iff.1 hr
    obtain ⟨e7, e8, e9⟩ := ix_some q10
    try simp only [Int.toNat_natCast, Int.toNat_zero, Int.reduceToNat] at e8
    clear q10
    by_cases h15 : (addK .i64 c_.at_ 1) ≤ (c_.code.length : Int)
    · rw [if_pos h15] at hr
      have e13 : ((addK .i64 c_.at_ 1) ≤ (c_.code.length : Int)) = True := eq_true h15
      clear h15
      have hr_ := Option.some.inj hr; subst hr_
      refine ⟨.int .i64 (convK .i64 y6), [], ng, ?_, ?_⟩
      · simp only [c_spec_l1Cur_next, evA, evB, Int.reduceToNat, eq_self, reduceCtorEq, ↓reduceIte, Nat.reduceEqDiff, Nat.reduceAdd, Nat.reduceLT, Nat.reduceLeDiff, Nat.reduceMul, Nat.reduceSub, spec_l1Cur.cells, rz_spec_l1Cur, pr_spec_l1Cur, impl_Job.cells, rz_impl_Job, pr_impl_Job, spec_l2Search.cells, rz_spec_l2Search, pr_spec_l2Search, *]
      · exact outR_flat rfl
    · rw [if_neg h15] at hr
      have e14 : ((addK .i64 c_.at_ 1) ≤ (c_.code.length : Int)) = False := eq_false h15
      clear h15
      have e16 : binI .shr .u64 (addK .u64 (addK .u64 (mulK .u64 c_.seed 6364136223846793005) (convK .u64 (convK .i64 y6))) 462197) .u64 40 = some (.int .u64 (shrK .u64 (addK .u64 (addK .u64 (mulK .u64 c_.seed 6364136223846793005) (convK .u64 (convK .i64 y6))) 462197) 40)) := bi_shr _ _ _ _ (by decide)
      have hr_ := Option.some.inj hr; subst hr_
      refine ⟨.int .i64 (convK .i64 (andK .u64 (shrK .u64 (addK .u64 (addK .u64 (mulK .u64 c_.seed 6364136223846793005) (convK .u64 (convK .i64 y6))) 462197) 40) 255)), [], ng, ?_, ?_⟩
      · simp only [c_spec_l1Cur_next, evA, evB, Int.reduceToNat, eq_self, reduceCtorEq, ↓reduceIte, Nat.reduceEqDiff, Nat.reduceAdd, Nat.reduceLT, Nat.reduceLeDiff, Nat.reduceMul, Nat.reduceSub, spec_l1Cur.cells, rz_spec_l1Cur, pr_spec_l1Cur, impl_Job.cells, rz_impl_Job, pr_impl_Job, spec_l2Search.cells, rz_spec_l2Search, pr_spec_l2Search, *]
      · exact outR_flat rfl
  · rw [if_neg h5] at hr
    have e4 : (c_.at_ < (c_.code.length : Int)) = False := eq_false h5
    clear h5
    by_cases h21 : (addK .i64 c_.at_ 1) ≤ (c_.code.length : Int)
    · rw [if_pos h21] at hr
      have e19 : ((addK .i64 c_.at_ 1) ≤ (c_.code.length : Int)) = True := eq_true h21
      clear h21
      have hr_ := Option.some.inj hr; subst hr_
      refine ⟨.int .i64 0, [], ng, ?_, ?_⟩
      · simp only [c_spec_l1Cur_next, evA, evB, Int.reduceToNat, eq_self, reduceCtorEq, ↓reduceIte, Nat.reduceEqDiff, Nat.reduceAdd, Nat.reduceLT, Nat.reduceLeDiff, Nat.reduceMul, Nat.reduceSub, spec_l1Cur.cells, rz_spec_l1Cur, pr_spec_l1Cur, impl_Job.cells, rz_impl_Job, pr_impl_Job, spec_l2Search.cells, rz_spec_l2Search, pr_spec_l2Search, *]
      · exact outR_flat rfl
    · rw [if_neg h21] at hr
      have e20 : ((addK .i64 c_.at_ 1) ≤ (c_.code.length : Int)) = False := eq_false h21
      clear h21
      have e22 : binI .shr .u64 (addK .u64 (addK .u64 (mulK .u64 c_.seed 6364136223846793005) (convK .u64 0)) 462197) .u64 40 = some (.int .u64 (shrK .u64 (addK .u64 (addK .u64 (mulK .u64 c_.seed 6364136223846793005) (convK .u64 0)) 462197) 40)) := bi_shr _ _ _ _ (by decide)
      have hr_ := Option.some.inj hr; subst hr_
      refine ⟨.int .i64 (convK .i64 (andK .u64 (shrK .u64 (addK .u64 (addK .u64 (mulK .u64 c_.seed 6364136223846793005) (convK .u64 0)) 462197) 40) 255)), [], ng, ?_, ?_⟩
      · simp only [c_spec_l1Cur_next, evA, evB, Int.reduceToNat, eq_self, reduceCtorEq, ↓reduceIte, Nat.reduceEqDiff, Nat.reduceAdd, Nat.reduceLT, Nat.reduceLeDiff, Nat.reduceMul, Nat.reduceSub, spec_l1Cur.cells, rz_spec_l1Cur, pr_spec_l1Cur, impl_Job.cells, rz_impl_Job, pr_impl_Job, spec_l2Search.cells, rz_spec_l2Search, pr_spec_l2Search, *]
      · exact outR_flat rfl

theorem ok_spec_l1Cur_pick {cl : Callee} (K_spec_l1Cur_next : K_spec_l1Cur_next x_spec_l1Cur_next (cl n_spec_l1Cur_next)) : K_spec_l1Cur_pick (x_spec_l1Cur_pick) (gbody F LL cl c_spec_l1Cur_pick) := by
  intro c_ n_ r hr
  intro H0 id g ng hid
  have w1_ : ∀ b, (H0.set id b)[id]? = some b := fun b => hs_get b hid
  have w2_ : ∀ b B, (H0.set id b ++ B)[id]? = some b := fun b B => hs_getA b hid
  have w3_ : ∀ a b B, (H0.set id a ++ B).set id b = H0.set id b ++ B := fun a b B => hs_setA a b hid
  unfold x_spec_l1Cur_pick at hr
  try dsimp only at hr
  by_cases h5 : n_ ≤ 1
  · rw [if_pos h5] at hr
    have e3 : (n_ ≤ 1) = True := eq_true h5
    clear h5
    have hr_ := Option.some.inj hr; subst hr_
    refine ⟨.int .i64 0, [], ng, ?_, ?_⟩
    · simp only [c_spec_l1Cur_pick, evA, evB, Int.reduceToNat, eq_self, reduceCtorEq, ↓reduceIte, Nat.reduceEqDiff, Nat.reduceAdd, Nat.reduceLT, Nat.reduceLeDiff, Nat.reduceMul, Nat.reduceSub, spec_l1Cur.cells, rz_spec_l1Cur, pr_spec_l1Cur, impl_Job.cells, rz_impl_Job, pr_impl_Job, spec_l2Search.cells, rz_spec_l2Search, pr_spec_l2Search, *]
    · exact outR_flat rfl
  · rw [if_neg h5] at hr
    have e4 : (n_ ≤ 1) = False := eq_false h5
    clear h5
    obtain ⟨r6, q9, hr⟩ := Option.bind_eq_some_iff.1 hr
    obtain ⟨ng7, e8⟩ : ∃ ng', gcall (shOf F) cl false n_spec_l1Cur_next [.ptr id g 0 0] (H0.set id (Blk.mk g false 3 [[.fs (c_.code.map (cI .u8)), .int .i64 c_.at_, .int .u64 c_.seed]])) ng = some (.int .i64 r6.1, (H0.set id (Blk.mk g false 3 [[.fs (r6.2.code.map (cI .u8)), .int .i64 r6.2.at_, .int .u64 r6.2.seed]])), ng', .all) := call_cur s_spec_l1Cur_next (K_spec_l1Cur_next _ _ q9) H0 id g ng hid
    by_cases h14 : 200 < n_
    · rw [if_pos h14] at hr
      have e12 : (200 < n_) = True := eq_true h14
      clear h14
      obtain ⟨r15, q18, hr⟩ := Option.bind_eq_some_iff.1 hr
      obtain ⟨ng16, e17⟩ : ∃ ng', gcall (shOf F) cl false n_spec_l1Cur_next [.ptr id g 0 0] (H0.set id (Blk.mk g false 3 [[.fs (r6.2.code.map (cI .u8)), .int .i64 r6.2.at_, .int .u64 r6.2.seed]])) ng7 = some (.int .i64 r15.1, (H0.set id (Blk.mk g false 3 [[.fs (r15.2.code.map (cI .u8)), .int .i64 r15.2.at_, .int .u64 r15.2.seed]])), ng', .all) := call_cur s_spec_l1Cur_next (K_spec_l1Cur_next _ _ q18) H0 id g ng7 hid
      by_cases h20 : n_ = 0
      · rw [if_pos h20] at hr
        clear h20
        exact nomatch hr
      · rw [if_neg h20] at hr
        have e19 : binI .rem .i64 (addK .i64 (mulK .i64 r6.1 256) r15.1) .i64 n_ = some (.int .i64 (remK .i64 (addK .i64 (mulK .i64 r6.1 256) r15.1) n_)) := bi_rem _ _ _ h20
        clear h20
        have hr_ := Option.some.inj hr; subst hr_
        refine ⟨.int .i64 (remK .i64 (addK .i64 (mulK .i64 r6.1 256) r15.1) n_), [], ng16, ?_, ?_⟩
        · simp only [c_spec_l1Cur_pick, evA, evB, Int.reduceToNat, eq_self, reduceCtorEq, ↓reduceIte, Nat.reduceEqDiff, Nat.reduceAdd, Nat.reduceLT, Nat.reduceLeDiff, Nat.reduceMul, Nat.reduceSub, spec_l1Cur.cells, rz_spec_l1Cur, pr_spec_l1Cur, impl_Job.cells, rz_impl_Job, pr_impl_Job, spec_l2Search.cells, rz_spec_l2Search, pr_spec_l2Search, *]
        · exact outR_flat rfl
    · rw [if_neg h14] at hr
      have e13 : (200 < n_) = False := eq_false h14
      clear h14
      by_cases h22 : n_ = 0
      · rw [if_pos h22] at hr
        clear h22
        exact nomatch hr
      · rw [if_neg h22] at hr
        have e21 : binI .rem .i64 r6.1 .i64 n_ = some (.int .i64 (remK .i64 r6.1 n_)) := bi_rem _ _ _ h22
        clear h22
        have hr_ := Option.some.inj hr; subst hr_
        refine ⟨.int .i64 (remK .i64 r6.1 n_), [], ng7, ?_, ?_⟩
        · simp only [c_spec_l1Cur_pick, evA, evB, Int.reduceToNat, eq_self, reduceCtorEq, ↓reduceIte, Nat.reduceEqDiff, Nat.reduceAdd, Nat.reduceLT, Nat.reduceLeDiff, Nat.reduceMul, Nat.reduceSub, spec_l1Cur.cells, rz_spec_l1Cur, pr_spec_l1Cur, impl_Job.cells, rz_impl_Job, pr_impl_Job, spec_l2Search.cells, rz_spec_l2Search, pr_spec_l2Search, *]
        · exact outR_flat rfl

theorem ok_spec_l1Cur_one {cl : Callee} (K_spec_l1Cur_pick : K_spec_l1Cur_pick x_spec_l1Cur_pick (cl n_spec_l1Cur_pick)) : K_spec_l1Cur_one (x_spec_l1Cur_one) (gbody F LL cl c_spec_l1Cur_one) := by
  intro c_ n_ r hr
  intro H0 id g ng hid
  have w1_ : ∀ b, (H0.set id b)[id]? = some b := fun b => hs_get b hid
  have w2_ : ∀ b B, (H0.set id b ++ B)[id]? = some b := fun b B => hs_getA b hid
  have w3_ : ∀ a b B, (H0.set id a ++ B).set id b = H0.set id b ++ B := fun a b B => hs_setA a b hid
  unfold x_spec_l1Cur_one at hr
  try dsimp only at hr
  obtain ⟨r1, q4, hr⟩ := Option.bind_eq_some_iff.1 hr
  obtain ⟨ng2, e3⟩ : ∃ ng', gcall (shOf F) cl false n_spec_l1Cur_pick [.ptr id g 0 0, .int .i64 n_] (H0.set id (Blk.mk g false 3 [[.fs (c_.code.map (cI .u8)), .int .i64 c_.at_, .int .u64 c_.seed]])) ng = some (.int .i64 r1.1, (H0.set id (Blk.mk g false 3 [[.fs (r1.2.code.map (cI .u8)), .int .i64 r1.2.at_, .int .u64 r1.2.seed]])), ng', .all) := call_cur s_spec_l1Cur_pick (K_spec_l1Cur_pick _ _ _ q4) H0 id g ng hid
  have hr_ := Option.some.inj hr; subst hr_
  refine ⟨.bool (decide (r1.1 = 0)), [], ng2, ?_, ?_⟩
  · simp only [c_spec_l1Cur_one, evA, evB, Int.reduceToNat, eq_self, reduceCtorEq, ↓reduceIte, Nat.reduceEqDiff, Nat.reduceAdd, Nat.reduceLT, Nat.reduceLeDiff, Nat.reduceMul, Nat.reduceSub, spec_l1Cur.cells, rz_spec_l1Cur, pr_spec_l1Cur, impl_Job.cells, rz_impl_Job, pr_impl_Job, spec_l2Search.cells, rz_spec_l2Search, pr_spec_l2Search, *]
  · exact outR_flat rfl

theorem ok_spec_l1Cur_among {cl : Callee} (K_spec_l1Cur_pick : K_spec_l1Cur_pick x_spec_l1Cur_pick (cl n_spec_l1Cur_pick)) : K_spec_l1Cur_among (x_spec_l1Cur_among) (gbody F LL cl c_spec_l1Cur_among) := by
  intro c_ list_ r hr
  intro H0 id g ng hid
  have w1_ : ∀ b, (H0.set id b)[id]? = some b := fun b => hs_get b hid
  have w2_ : ∀ b B, (H0.set id b ++ B)[id]? = some b := fun b B => hs_getA b hid
  have w3_ : ∀ a b B, (H0.set id a ++ B).set id b = H0.set id b ++ B := fun a b B => hs_setA a b hid
  unfold x_spec_l1Cur_among at hr
  try dsimp only at hr
  obtain ⟨r1, q4, hr⟩ := Option.bind_eq_some_iff.1 hr
  obtain ⟨ng2, e3⟩ : ∃ ng', gcall (shOf F) cl false n_spec_l1Cur_pick [.ptr id g 0 0, .int .i64 (list_.length : Int)] (H0.set id (Blk.mk g false 3 [[.fs (c_.code.map (cI .u8)), .int .i64 c_.at_, .int .u64 c_.seed]])) ng = some (.int .i64 r1.1, (H0.set id (Blk.mk g false 3 [[.fs (r1.2.code.map (cI .u8)), .int .i64 r1.2.at_, .int .u64 r1.2.seed]])), ng', .all) := call_cur s_spec_l1Cur_pick (K_spec_l1Cur_pick _ _ _ q4) H0 id g ng hid
  obtain ⟨y5, q9, hr⟩ := Option.bind_eq_some_iff.1 hr
  obtain ⟨e6, e7, e8⟩ := ix_some q9
  try simp only [Int.toNat_natCast, Int.toNat_zero, Int.reduceToNat] at e7
  clear q9
  have hr_ := Option.some.inj hr; subst hr_
  refine ⟨.int .i64 y5, [], ng2, ?_, ?_⟩
  · simp only [c_spec_l1Cur_among, evA, evB, Int.reduceToNat, eq_self, reduceCtorEq, ↓reduceIte, Nat.reduceEqDiff, Nat.reduceAdd, Nat.reduceLT, Nat.reduceLeDiff, Nat.reduceMul, Nat.reduceSub, spec_l1Cur.cells, rz_spec_l1Cur, pr_spec_l1Cur, impl_Job.cells, rz_impl_Job, pr_impl_Job, spec_l2Search.cells, rz_spec_l2Search, pr_spec_l2Search, *]
  · exact outR_flat rfl

theorem ok_spec_l1Cur_spoiltJob {cl : Callee} (K_spec_l1Cur_pick : K_spec_l1Cur_pick x_spec_l1Cur_pick (cl n_spec_l1Cur_pick)) (K_spec_l1Cur_among : K_spec_l1Cur_among x_spec_l1Cur_among (cl n_spec_l1Cur_among)) : K_spec_l1Cur_spoiltJob (x_spec_l1Cur_spoiltJob) (gbody F LL cl c_spec_l1Cur_spoiltJob) := by
  intro c_ j_ r hr
  intro H0 id g ng hid
  have w1_ : ∀ b, (H0.set id b)[id]? = some b := fun b => hs_get b hid
  have w2_ : ∀ b B, (H0.set id b ++ B)[id]? = some b := fun b B => hs_getA b hid
  have w3_ : ∀ a b B, (H0.set id a ++ B).set id b = H0.set id b ++ B := fun a b B => hs_setA a b hid
  unfold x_spec_l1Cur_spoiltJob at hr
  try dsimp only at hr
  obtain ⟨r1, q4, hr⟩ := Option.bind_eq_some_iff.1 hr
  obtain ⟨ng2, e3⟩ : ∃ ng', gcall (shOf F) cl false n_spec_l1Cur_pick [.ptr id g 0 0, .int .i64 4] (H0.set id (Blk.mk g false 3 [[.fs (c_.code.map (cI .u8)), .int .i64 c_.at_, .int .u64 c_.seed]]) ++ [(Blk.mk ng false 4 [[.int .i64 j_.Time, .int .i64 j_.Weight, .int .i64 j_.Release, .int .i64 j_.Due]]), (Blk.mk (ng + 1) false 4 [[.int .i64 0, .int .i64 0, .int .i64 0, .int .i64 0]])]) ((ng + 1) + 1) = some (.int .i64 r1.1, (H0.set id (Blk.mk g false 3 [[.fs (r1.2.code.map (cI .u8)), .int .i64 r1.2.at_, .int .u64 r1.2.seed]]) ++ [(Blk.mk ng false 4 [[.int .i64 j_.Time, .int .i64 j_.Weight, .int .i64 j_.Release, .int .i64 j_.Due]]), (Blk.mk (ng + 1) false 4 [[.int .i64 0, .int .i64 0, .int .i64 0, .int .i64 0]])]), ng', .all) := call_curA s_spec_l1Cur_pick (K_spec_l1Cur_pick _ _ _ q4) H0 [(Blk.mk ng false 4 [[.int .i64 j_.Time, .int .i64 j_.Weight, .int .i64 j_.Release, .int .i64 j_.Due]]), (Blk.mk (ng + 1) false 4 [[.int .i64 0, .int .i64 0, .int .i64 0, .int .i64 0]])] id g ((ng + 1) + 1) hid
  by_cases h9 : r1.1 = 0
  · rw [if_pos h9] at hr
    have e7 : (r1.1 = 0) = True := eq_true h9
    clear h9
    obtain ⟨r10, q13, hr⟩ := Option.bind_eq_some_iff.1 hr
    obtain ⟨ng11, e12⟩ : ∃ ng', gcall (shOf F) cl false n_spec_l1Cur_among [.ptr id g 0 0, .fs [[.int .i64 0], [.int .i64 50], [.int .i64 51], [.int .i64 (-1)], [.int .i64 4611686018427387904]]] (H0.set id (Blk.mk g false 3 [[.fs (r1.2.code.map (cI .u8)), .int .i64 r1.2.at_, .int .u64 r1.2.seed]]) ++ [(Blk.mk ng false 4 [[.int .i64 j_.Time, .int .i64 j_.Weight, .int .i64 j_.Release, .int .i64 j_.Due]]), (Blk.mk (ng + 1) false 4 [[.int .i64 0, .int .i64 0, .int .i64 0, .int .i64 0]])]) ng2 = some (.int .i64 r10.1, (H0.set id (Blk.mk g false 3 [[.fs (r10.2.code.map (cI .u8)), .int .i64 r10.2.at_, .int .u64 r10.2.seed]]) ++ [(Blk.mk ng false 4 [[.int .i64 j_.Time, .int .i64 j_.Weight, .int .i64 j_.Release, .int .i64 j_.Due]]), (Blk.mk (ng + 1) false 4 [[.int .i64 0, .int .i64 0, .int .i64 0, .int .i64 0]])]), ng', .all) := call_curA s_spec_l1Cur_among (K_spec_l1Cur_among _ _ _ q13) H0 [(Blk.mk ng false 4 [[.int .i64 j_.Time, .int .i64 j_.Weight, .int .i64 j_.Release, .int .i64 j_.Due]]), (Blk.mk (ng + 1) false 4 [[.int .i64 0, .int .i64 0, .int .i64 0, .int .i64 0]])] id g ng2 hid
    have hr_ := Option.some.inj hr; subst hr_
    refine ⟨.agg [.int .i64 r10.1, .int .i64 j_.Weight, .int .i64 j_.Release, .int .i64 j_.Due], [(Blk.mk ng false 4 [[.int .i64 r10.1, .int .i64 j_.Weight, .int .i64 j_.Release, .int .i64 j_.Due]]), (Blk.mk (ng + 1) false 4 [[.int .i64 r10.1, .int .i64 j_.Weight, .int .i64 j_.Release, .int .i64 j_.Due]])], ng11, ?_, ?_⟩
    · simp only [c_spec_l1Cur_spoiltJob, evA, evB, Int.reduceToNat, eq_self, reduceCtorEq, ↓reduceIte, Nat.reduceEqDiff, Nat.reduceAdd, Nat.reduceLT, Nat.reduceLeDiff, Nat.reduceMul, Nat.reduceSub, spec_l1Cur.cells, rz_spec_l1Cur, pr_spec_l1Cur, impl_Job.cells, rz_impl_Job, pr_impl_Job, spec_l2Search.cells, rz_spec_l2Search, pr_spec_l2Search, *]
    · exact outR_flat rfl
  · rw [if_neg h9] at hr
    have e8 : (r1.1 = 0) = False := eq_false h9
    clear h9
    by_cases h18 : r1.1 = 1
    · rw [if_pos h18] at hr
      have e16 : (r1.1 = 1) = True := eq_true h18
      clear h18
      obtain ⟨r19, q22, hr⟩ := Option.bind_eq_some_iff.1 hr
      obtain ⟨ng20, e21⟩ : ∃ ng', gcall (shOf F) cl false n_spec_l1Cur_among [.ptr id g 0 0, .fs [[.int .i64 (-1)], [.int .i64 50], [.int .i64 51]]] (H0.set id (Blk.mk g false 3 [[.fs (r1.2.code.map (cI .u8)), .int .i64 r1.2.at_, .int .u64 r1.2.seed]]) ++ [(Blk.mk ng false 4 [[.int .i64 j_.Time, .int .i64 j_.Weight, .int .i64 j_.Release, .int .i64 j_.Due]]), (Blk.mk (ng + 1) false 4 [[.int .i64 0, .int .i64 0, .int .i64 0, .int .i64 0]])]) ng2 = some (.int .i64 r19.1, (H0.set id (Blk.mk g false 3 [[.fs (r19.2.code.map (cI .u8)), .int .i64 r19.2.at_, .int .u64 r19.2.seed]]) ++ [(Blk.mk ng false 4 [[.int .i64 j_.Time, .int .i64 j_.Weight, .int .i64 j_.Release, .int .i64 j_.Due]]), (Blk.mk (ng + 1) false 4 [[.int .i64 0, .int .i64 0, .int .i64 0, .int .i64 0]])]), ng', .all) := call_curA s_spec_l1Cur_among (K_spec_l1Cur_among _ _ _ q22) H0 [(Blk.mk ng false 4 [[.int .i64 j_.Time, .int .i64 j_.Weight, .int .i64 j_.Release, .int .i64 j_.Due]]), (Blk.mk (ng + 1) false 4 [[.int .i64 0, .int .i64 0, .int .i64 0, .int .i64 0]])] id g ng2 hid
      have hr_ := Option.some.inj hr; subst hr_
      refine ⟨.agg [.int .i64 j_.Time, .int .i64 r19.1, .int .i64 j_.Release, .int .i64 j_.Due], [(Blk.mk ng false 4 [[.int .i64 j_.Time, .int .i64 r19.1, .int .i64 j_.Release, .int .i64 j_.Due]]), (Blk.mk (ng + 1) false 4 [[.int .i64 j_.Time, .int .i64 r19.1, .int .i64 j_.Release, .int .i64 j_.Due]])], ng20, ?_, ?_⟩
      · simp only [c_spec_l1Cur_spoiltJob, evA, evB, Int.reduceToNat, eq_self, reduceCtorEq, ↓reduceIte, Nat.reduceEqDiff, Nat.reduceAdd, Nat.reduceLT, Nat.reduceLeDiff, Nat.reduceMul, Nat.reduceSub, spec_l1Cur.cells, rz_spec_l1Cur, pr_spec_l1Cur, impl_Job.cells, rz_impl_Job, pr_impl_Job, spec_l2Search.cells, rz_spec_l2Search, pr_spec_l2Search, *]
      · exact outR_flat rfl
    · rw [if_neg h18] at hr
      have e17 : (r1.1 = 1) = False := eq_false h18
      clear h18
      by_cases h27 : r1.1 = 2
      · rw [if_pos h27] at hr
        have e25 : (r1.1 = 2) = True := eq_true h27
        clear h27
        obtain ⟨r28, q31, hr⟩ := Option.bind_eq_some_iff.1 hr
        obtain ⟨ng29, e30⟩ : ∃ ng', gcall (shOf F) cl false n_spec_l1Cur_among [.ptr id g 0 0, .fs [[.int .i64 (-1)], [.int .i64 500], [.int .i64 501]]] (H0.set id (Blk.mk g false 3 [[.fs (r1.2.code.map (cI .u8)), .int .i64 r1.2.at_, .int .u64 r1.2.seed]]) ++ [(Blk.mk ng false 4 [[.int .i64 j_.Time, .int .i64 j_.Weight, .int .i64 j_.Release, .int .i64 j_.Due]]), (Blk.mk (ng + 1) false 4 [[.int .i64 0, .int .i64 0, .int .i64 0, .int .i64 0]])]) ng2 = some (.int .i64 r28.1, (H0.set id (Blk.mk g false 3 [[.fs (r28.2.code.map (cI .u8)), .int .i64 r28.2.at_, .int .u64 r28.2.seed]]) ++ [(Blk.mk ng false 4 [[.int .i64 j_.Time, .int .i64 j_.Weight, .int .i64 j_.Release, .int .i64 j_.Due]]), (Blk.mk (ng + 1) false 4 [[.int .i64 0, .int .i64 0, .int .i64 0, .int .i64 0]])]), ng', .all) := call_curA s_spec_l1Cur_among (K_spec_l1Cur_among _ _ _ q31) H0 [(Blk.mk ng false 4 [[.int .i64 j_.Time, .int .i64 j_.Weight, .int .i64 j_.Release, .int .i64 j_.Due]]), (Blk.mk (ng + 1) false 4 [[.int .i64 0, .int .i64 0, .int .i64 0, .int .i64 0]])] id g ng2 hid
        have hr_ := Option.some.inj hr; subst hr_
        refine ⟨.agg [.int .i64 j_.Time, .int .i64 j_.Weight, .int .i64 r28.1, .int .i64 j_.Due], [(Blk.mk ng false 4 [[.int .i64 j_.Time, .int .i64 j_.Weight, .int .i64 r28.1, .int .i64 j_.Due]]), (Blk.mk (ng + 1) false 4 [[.int .i64 j_.Time, .int .i64 j_.Weight, .int .i64 r28.1, .int .i64 j_.Due]])], ng29, ?_, ?_⟩
        · simp only [c_spec_l1Cur_spoiltJob, evA, evB, Int.reduceToNat, eq_self, reduceCtorEq, ↓reduceIte, Nat.reduceEqDiff, Nat.reduceAdd, Nat.reduceLT, Nat.reduceLeDiff, Nat.reduceMul, Nat.reduceSub, spec_l1Cur.cells, rz_spec_l1Cur, pr_spec_l1Cur, impl_Job.cells, rz_impl_Job, pr_impl_Job, spec_l2Search.cells, rz_spec_l2Search, pr_spec_l2Search, *]
        · exact outR_flat rfl
      · rw [if_neg h27] at hr
        have e26 : (r1.1 = 2) = False := eq_false h27
        clear h27
        obtain ⟨r32, q35, hr⟩ := Option.bind_eq_some_iff.1 hr
        obtain ⟨ng33, e34⟩ : ∃ ng', gcall (shOf F) cl false n_spec_l1Cur_among [.ptr id g 0 0, .fs [[.int .i64 (-1)], [.int .i64 500], [.int .i64 501], [.int .i64 (-9223372036854775808)]]] (H0.set id (Blk.mk g false 3 [[.fs (r1.2.code.map (cI .u8)), .int .i64 r1.2.at_, .int .u64 r1.2.seed]]) ++ [(Blk.mk ng false 4 [[.int .i64 j_.Time, .int .i64 j_.Weight, .int .i64 j_.Release, .int .i64 j_.Due]]), (Blk.mk (ng + 1) false 4 [[.int .i64 0, .int .i64 0, .int .i64 0, .int .i64 0]])]) ng2 = some (.int .i64 r32.1, (H0.set id (Blk.mk g false 3 [[.fs (r32.2.code.map (cI .u8)), .int .i64 r32.2.at_, .int .u64 r32.2.seed]]) ++ [(Blk.mk ng false 4 [[.int .i64 j_.Time, .int .i64 j_.Weight, .int .i64 j_.Release, .int .i64 j_.Due]]), (Blk.mk (ng + 1) false 4 [[.int .i64 0, .int .i64 0, .int .i64 0, .int .i64 0]])]), ng', .all) := call_curA s_spec_l1Cur_among (K_spec_l1Cur_among _ _ _ q35) H0 [(Blk.mk ng false 4 [[.int .i64 j_.Time, .int .i64 j_.Weight, .int .i64 j_.Release, .int .i64 j_.Due]]), (Blk.mk (ng + 1) false 4 [[.int .i64 0, .int .i64 0, .int .i64 0, .int .i64 0]])] id g ng2 hid
        have hr_ := Option.some.inj hr; subst hr_
        refine ⟨.agg [.int .i64 j_.Time, .int .i64 j_.Weight, .int .i64 j_.Release, .int .i64 r32.1], [(Blk.mk ng false 4 [[.int .i64 j_.Time, .int .i64 j_.Weight, .int .i64 j_.Release, .int .i64 r32.1]]), (Blk.mk (ng + 1) false 4 [[.int .i64 j_.Time, .int .i64 j_.Weight, .int .i64 j_.Release, .int .i64 r32.1]])], ng33, ?_, ?_⟩
        · simp only [c_spec_l1Cur_spoiltJob, evA, evB, Int.reduceToNat, eq_self, reduceCtorEq, ↓reduceIte, Nat.reduceEqDiff, Nat.reduceAdd, Nat.reduceLT, Nat.reduceLeDiff, Nat.reduceMul, Nat.reduceSub, spec_l1Cur.cells, rz_spec_l1Cur, pr_spec_l1Cur, impl_Job.cells, rz_impl_Job, pr_impl_Job, spec_l2Search.cells, rz_spec_l2Search, pr_spec_l2Search, *]
        · exact outR_flat rfl

theorem ok_spec_l1Cur_job {cl : Callee} (K_spec_l1Cur_pick : K_spec_l1Cur_pick x_spec_l1Cur_pick (cl n_spec_l1Cur_pick)) (K_spec_l1Cur_among : K_spec_l1Cur_among x_spec_l1Cur_among (cl n_spec_l1Cur_among)) : K_spec_l1Cur_job (x_spec_l1Cur_job) (gbody F LL cl c_spec_l1Cur_job) := by
  intro c_ released_ r hr
  intro H0 id g ng hid
  have w1_ : ∀ b, (H0.set id b)[id]? = some b := fun b => hs_get b hid
  have w2_ : ∀ b B, (H0.set id b ++ B)[id]? = some b := fun b B => hs_getA b hid
  have w3_ : ∀ a b B, (H0.set id a ++ B).set id b = H0.set id b ++ B := fun a b B => hs_setA a b hid
  unfold x_spec_l1Cur_job at hr
  try dsimp only at hr
  obtain ⟨r1, q4, hr⟩ := Option.bind_eq_some_iff.1 hr
  obtain ⟨ng2, e3⟩ : ∃ ng', gcall (shOf F) cl false n_spec_l1Cur_among [.ptr id g 0 0, .fs [[.int .i64 1], [.int .i64 2], [.int .i64 3], [.int .i64 4], [.int .i64 5], [.int .i64 7], [.int .i64 9]]] (H0.set id (Blk.mk g false 3 [[.fs (c_.code.map (cI .u8)), .int .i64 c_.at_, .int .u64 c_.seed]]) ++ [(Blk.mk ng false 4 [[.int .i64 0, .int .i64 0, .int .i64 0, .int .i64 0]])]) (ng + 1) = some (.int .i64 r1.1, (H0.set id (Blk.mk g false 3 [[.fs (r1.2.code.map (cI .u8)), .int .i64 r1.2.at_, .int .u64 r1.2.seed]]) ++ [(Blk.mk ng false 4 [[.int .i64 0, .int .i64 0, .int .i64 0, .int .i64 0]])]), ng', .all) := call_curA s_spec_l1Cur_among (K_spec_l1Cur_among _ _ _ q4) H0 [(Blk.mk ng false 4 [[.int .i64 0, .int .i64 0, .int .i64 0, .int .i64 0]])] id g (ng + 1) hid
  obtain ⟨r5, q8, hr⟩ := Option.bind_eq_some_iff.1 hr
  obtain ⟨ng6, e7⟩ : ∃ ng', gcall (shOf F) cl false n_spec_l1Cur_among [.ptr id g 0 0, .fs [[.int .i64 0], [.int .i64 1], [.int .i64 1], [.int .i64 2], [.int .i64 3], [.int .i64 5], [.int .i64 8]]] (H0.set id (Blk.mk g false 3 [[.fs (r1.2.code.map (cI .u8)), .int .i64 r1.2.at_, .int .u64 r1.2.seed]]) ++ [(Blk.mk ng false 4 [[.int .i64 0, .int .i64 0, .int .i64 0, .int .i64 0]])]) ng2 = some (.int .i64 r5.1, (H0.set id (Blk.mk g false 3 [[.fs (r5.2.code.map (cI .u8)), .int .i64 r5.2.at_, .int .u64 r5.2.seed]]) ++ [(Blk.mk ng false 4 [[.int .i64 0, .int .i64 0, .int .i64 0, .int .i64 0]])]), ng', .all) := call_curA s_spec_l1Cur_among (K_spec_l1Cur_among _ _ _ q8) H0 [(Blk.mk ng false 4 [[.int .i64 0, .int .i64 0, .int .i64 0, .int .i64 0]])] id g ng2 hid
  obtain ⟨r9, q12, hr⟩ := Option.bind_eq_some_iff.1 hr
  obtain ⟨ng10, e11⟩ : ∃ ng', gcall (shOf F) cl false n_spec_l1Cur_pick [.ptr id g 0 0, .int .i64 24] (H0.set id (Blk.mk g false 3 [[.fs (r5.2.code.map (cI .u8)), .int .i64 r5.2.at_, .int .u64 r5.2.seed]]) ++ [(Blk.mk ng false 4 [[.int .i64 0, .int .i64 0, .int .i64 0, .int .i64 0]])]) ng6 = some (.int .i64 r9.1, (H0.set id (Blk.mk g false 3 [[.fs (r9.2.code.map (cI .u8)), .int .i64 r9.2.at_, .int .u64 r9.2.seed]]) ++ [(Blk.mk ng false 4 [[.int .i64 0, .int .i64 0, .int .i64 0, .int .i64 0]])]), ng', .all) := call_curA s_spec_l1Cur_pick (K_spec_l1Cur_pick _ _ _ q12) H0 [(Blk.mk ng false 4 [[.int .i64 0, .int .i64 0, .int .i64 0, .int .i64 0]])] id g ng6 hid
  by_cases h15 : released_ = true
  · rw [if_pos h15] at hr
    have e13 : released_ = true := h15
    clear h15
    obtain ⟨r16, q19, hr⟩ := Option.bind_eq_some_iff.1 hr
    obtain ⟨ng17, e18⟩ : ∃ ng', gcall (shOf F) cl false n_spec_l1Cur_pick [.ptr id g 0 0, .int .i64 12] (H0.set id (Blk.mk g false 3 [[.fs (r9.2.code.map (cI .u8)), .int .i64 r9.2.at_, .int .u64 r9.2.seed]]) ++ [(Blk.mk ng false 4 [[.int .i64 0, .int .i64 0, .int .i64 0, .int .i64 0]]), (Blk.mk ng10 false 4 [[.int .i64 r1.1, .int .i64 r5.1, .int .i64 0, .int .i64 r9.1]])]) (ng10 + 1) = some (.int .i64 r16.1, (H0.set id (Blk.mk g false 3 [[.fs (r16.2.code.map (cI .u8)), .int .i64 r16.2.at_, .int .u64 r16.2.seed]]) ++ [(Blk.mk ng false 4 [[.int .i64 0, .int .i64 0, .int .i64 0, .int .i64 0]]), (Blk.mk ng10 false 4 [[.int .i64 r1.1, .int .i64 r5.1, .int .i64 0, .int .i64 r9.1]])]), ng', .all) := call_curA s_spec_l1Cur_pick (K_spec_l1Cur_pick _ _ _ q19) H0 [(Blk.mk ng false 4 [[.int .i64 0, .int .i64 0, .int .i64 0, .int .i64 0]]), (Blk.mk ng10 false 4 [[.int .i64 r1.1, .int .i64 r5.1, .int .i64 0, .int .i64 r9.1]])] id g (ng10 + 1) hid
    have hr_ := Option.some.inj hr; subst hr_
    refine ⟨.agg [.int .i64 r1.1, .int .i64 r5.1, .int .i64 r16.1, .int .i64 r9.1], [(Blk.mk ng false 4 [[.int .i64 r1.1, .int .i64 r5.1, .int .i64 r16.1, .int .i64 r9.1]]), (Blk.mk ng10 false 4 [[.int .i64 r1.1, .int .i64 r5.1, .int .i64 r16.1, .int .i64 r9.1]])], ng17, ?_, ?_⟩
    · simp only [c_spec_l1Cur_job, evA, evB, Int.reduceToNat, eq_self, reduceCtorEq, ↓reduceIte, Nat.reduceEqDiff, Nat.reduceAdd, Nat.reduceLT, Nat.reduceLeDiff, Nat.reduceMul, Nat.reduceSub, spec_l1Cur.cells, rz_spec_l1Cur, pr_spec_l1Cur, impl_Job.cells, rz_impl_Job, pr_impl_Job, spec_l2Search.cells, rz_spec_l2Search, pr_spec_l2Search, *]
    · exact outR_flat rfl
  · rw [if_neg h15] at hr
    have e14 : released_ = false := Bool.eq_false_iff.2 h15
    clear h15
    have hr_ := Option.some.inj hr; subst hr_
    refine ⟨.agg [.int .i64 r1.1, .int .i64 r5.1, .int .i64 0, .int .i64 r9.1], [(Blk.mk ng false 4 [[.int .i64 r1.1, .int .i64 r5.1, .int .i64 0, .int .i64 r9.1]]), (Blk.mk ng10 false 4 [[.int .i64 r1.1, .int .i64 r5.1, .int .i64 0, .int .i64 r9.1]])], (ng10 + 1), ?_, ?_⟩
    · simp only [c_spec_l1Cur_job, evA, evB, Int.reduceToNat, eq_self, reduceCtorEq, ↓reduceIte, Nat.reduceEqDiff, Nat.reduceAdd, Nat.reduceLT, Nat.reduceLeDiff, Nat.reduceMul, Nat.reduceSub, spec_l1Cur.cells, rz_spec_l1Cur, pr_spec_l1Cur, impl_Job.cells, rz_impl_Job, pr_impl_Job, spec_l2Search.cells, rz_spec_l2Search, pr_spec_l2Search, *]
    · exact outR_flat rfl

theorem st_spec_l1Cur_someJobs_l0 {cl : Callee} (K_spec_l1Cur_one : K_spec_l1Cur_one x_spec_l1Cur_one (cl n_spec_l1Cur_one)) (K_spec_l1Cur_pick : K_spec_l1Cur_pick x_spec_l1Cur_pick (cl n_spec_l1Cur_pick)) (K_spec_l1Cur_among : K_spec_l1Cur_among x_spec_l1Cur_among (cl n_spec_l1Cur_among)) (K_spec_l1Cur_spoiltJob : K_spec_l1Cur_spoiltJob x_spec_l1Cur_spoiltJob (cl n_spec_l1Cur_spoiltJob)) (K_spec_l1Cur_job : K_spec_l1Cur_job x_spec_l1Cur_job (cl n_spec_l1Cur_job)) (released_ : Bool) (most_ : Int) (H0 : List Blk) (id g : Nat) (hid : id < H0.length) (st_ : ((List impl_Job) × (List Int) × Int × Int × Int)) (c_ : Ctl ((List impl_Job) × (List Int) × Int × Int × Int) ((List impl_Job) × (List Int) × Int × Int)) (hr : x_spec_l1Cur_someJobs_l0 released_ most_ st_ = some c_) (T_ : Tm) (H_ : List Blk) (ng : Nat) (hR_ : R_spec_l1Cur_someJobs_l0 H0 id g released_ most_ st_ T_ H_) :
    ∃ e_ T1_ H1_ ng1_, gcode (shOf F) cl LL c_spec_l1Cur_someJobs_l0 ⟨maskT (some [0, 1, 2, 7, 8]) T_, H_, ng⟩ = some (e_, ⟨T1_, H1_, ng1_⟩) ∧ TurnOK (R_spec_l1Cur_someJobs_l0 H0 id g released_ most_) (Q_spec_l1Cur_someJobs_l0 H0 id g released_ most_) (H0.length + 1) c_ e_ T1_ H1_ := by
  obtain ⟨jobs_, k0, k1, k2, n_⟩ := st_
  obtain ⟨g0, f0_, f1_, f2_, f3_, f4_, rfl⟩ := hR_
  unfold x_spec_l1Cur_someJobs_l0 at hr
  try dsimp only at hr
  have w1_ : ∀ b, (H0.set id b)[id]? = some b := fun b => hs_get b hid
  have w2_ : ∀ b B, (H0.set id b ++ B)[id]? = some b := fun b B => hs_getA b hid
  have w3_ : ∀ a b B, (H0.set id a ++ B).set id b = H0.set id b ++ B := fun a b B => hs_setA a b hid
  by_cases h5 : 0 < n_
  · rw [if_pos h5] at hr
    have e3 : (0 < n_) = True := eq_true h5
    clear h5
    by_cases h10 : ((jobs_.length : Nat) : Int) < most_
    · rw [if_pos h10] at hr
      have e8 : (((jobs_.length : Nat) : Int) < most_) = True := eq_true h10
      clear h10
      obtain ⟨r11, q14, hr⟩ := Option.bind_eq_some_iff.1 hr
      obtain ⟨ng12, e13⟩ : ∃ ng', gcall (shOf F) cl false n_spec_l1Cur_job [.ptr id g 0 0, .bool released_] (H0.set id (Blk.mk g false 3 [[.fs (k0.map (cI .u8)), .int .i64 k1, .int .u64 k2]]) ++ [(Blk.mk g0 false 4 (jobs_.map impl_Job.cells))]) ng = some (.agg [.int .i64 r11.1.Time, .int .i64 r11.1.Weight, .int .i64 r11.1.Release, .int .i64 r11.1.Due], (H0.set id (Blk.mk g false 3 [[.fs (r11.2.code.map (cI .u8)), .int .i64 r11.2.at_, .int .u64 r11.2.seed]]) ++ [(Blk.mk g0 false 4 (jobs_.map impl_Job.cells))]), ng', .all) := call_curA s_spec_l1Cur_job (K_spec_l1Cur_job _ _ _ q14) H0 [(Blk.mk g0 false 4 (jobs_.map impl_Job.cells))] id g ng hid
      obtain ⟨l15, q23, hr⟩ := Option.bind_eq_some_iff.1 hr
      obtain ⟨e16, e17, e18, e19⟩ := app_some q23
      try simp only [List.length_cons, List.length_nil, Nat.zero_add, Nat.reduceAdd] at e16 e17 e19
      have e20 : (jobs_.map impl_Job.cells) ++ [[.int .i64 r11.1.Time, .int .i64 r11.1.Weight, .int .i64 r11.1.Release, .int .i64 r11.1.Due]] = l15.map impl_Job.cells := by rw [← e18, List.map_append] <;> rfl
      have e21 := e16
      have e22 := e17
      rw [e19] at e21 e22
      clear e18 q23
      have hr_ := Option.some.inj hr; subst hr_
      refine turn (by
        simp only [c_spec_l1Cur_someJobs_l0, evA, evB, Int.reduceToNat, eq_self, reduceCtorEq, ↓reduceIte, Nat.reduceEqDiff, Nat.reduceAdd, Nat.reduceLT, Nat.reduceLeDiff, Nat.reduceMul, Nat.reduceSub, spec_l1Cur.cells, rz_spec_l1Cur, pr_spec_l1Cur, impl_Job.cells, rz_impl_Job, pr_impl_Job, spec_l2Search.cells, rz_spec_l2Search, pr_spec_l2Search, *]
        rfl) ?_
      exact ⟨rfl, _, rfl, rfl, rfl, rfl, rfl, (by simp only [hs_takek, hs_take0, hs_take, List.take_succ_cons, List.take_zero, List.append_nil])⟩
    · rw [if_neg h10] at hr
      have e9 : (((jobs_.length : Nat) : Int) < most_) = False := eq_false h10
      clear h10
      have hr_ := Option.some.inj hr; subst hr_
      refine turn (by
        simp only [c_spec_l1Cur_someJobs_l0, evA, evB, Int.reduceToNat, eq_self, reduceCtorEq, ↓reduceIte, Nat.reduceEqDiff, Nat.reduceAdd, Nat.reduceLT, Nat.reduceLeDiff, Nat.reduceMul, Nat.reduceSub, spec_l1Cur.cells, rz_spec_l1Cur, pr_spec_l1Cur, impl_Job.cells, rz_impl_Job, pr_impl_Job, spec_l2Search.cells, rz_spec_l2Search, pr_spec_l2Search, *]
        rfl) ?_
      exact ⟨by simp, rfl, _, rfl, rfl, rfl, rfl⟩
  · rw [if_neg h5] at hr
    have e4 : (0 < n_) = False := eq_false h5
    clear h5
    have hr_ := Option.some.inj hr; subst hr_
    refine turn (by
      simp only [c_spec_l1Cur_someJobs_l0, evA, evB, Int.reduceToNat, eq_self, reduceCtorEq, ↓reduceIte, Nat.reduceEqDiff, Nat.reduceAdd, Nat.reduceLT, Nat.reduceLeDiff, Nat.reduceMul, Nat.reduceSub, spec_l1Cur.cells, rz_spec_l1Cur, pr_spec_l1Cur, impl_Job.cells, rz_impl_Job, pr_impl_Job, spec_l2Search.cells, rz_spec_l2Search, pr_spec_l2Search, *]
      rfl) ?_
    exact ⟨by simp, rfl, _, rfl, rfl, rfl, rfl⟩

theorem lp_spec_l1Cur_someJobs_l0 {cl : Callee} (K_spec_l1Cur_one : K_spec_l1Cur_one x_spec_l1Cur_one (cl n_spec_l1Cur_one)) (K_spec_l1Cur_pick : K_spec_l1Cur_pick x_spec_l1Cur_pick (cl n_spec_l1Cur_pick)) (K_spec_l1Cur_among : K_spec_l1Cur_among x_spec_l1Cur_among (cl n_spec_l1Cur_among)) (K_spec_l1Cur_spoiltJob : K_spec_l1Cur_spoiltJob x_spec_l1Cur_spoiltJob (cl n_spec_l1Cur_spoiltJob)) (K_spec_l1Cur_job : K_spec_l1Cur_job x_spec_l1Cur_job (cl n_spec_l1Cur_job)) (released_ : Bool) (most_ : Int) (H0 : List Blk) (id g : Nat) (hid : id < H0.length) (st_ : ((List impl_Job) × (List Int) × Int × Int × Int)) (p_ : ((List impl_Job) × (List Int) × Int × Int)) (hr : loopS (x_spec_l1Cur_someJobs_l0 released_ most_) LL st_ = some p_) (T_ : Tm) (H_ : List Blk) (ng : Nat) (hR_ : R_spec_l1Cur_someJobs_l0 H0 id g released_ most_ st_ T_ H_) (hn_ : H_.length = (H0.length + 1)) :
    ∃ e_ T1_ H1_ ng1_, gcode (shOf F) cl LL (.loop false (some [0, 1, 2, 7, 8]) c_spec_l1Cur_someJobs_l0) ⟨T_, H_, ng⟩ = some (e_, ⟨T1_, H1_, ng1_⟩) ∧ Q_spec_l1Cur_someJobs_l0 H0 id g released_ most_ p_ e_ T1_ H1_ :=
  sim_loop (n0 := (H0.length + 1)) (R_spec_l1Cur_someJobs_l0 H0 id g released_ most_) (Q_spec_l1Cur_someJobs_l0 H0 id g released_ most_) (st_spec_l1Cur_someJobs_l0 K_spec_l1Cur_one K_spec_l1Cur_pick K_spec_l1Cur_among K_spec_l1Cur_spoiltJob K_spec_l1Cur_job released_ most_ H0 id g hid) st_ p_ hr T_ H_ ng hR_ hn_

theorem st_spec_l1Cur_someJobs_l1 {cl : Callee} (K_spec_l1Cur_one : K_spec_l1Cur_one x_spec_l1Cur_one (cl n_spec_l1Cur_one)) (K_spec_l1Cur_pick : K_spec_l1Cur_pick x_spec_l1Cur_pick (cl n_spec_l1Cur_pick)) (K_spec_l1Cur_among : K_spec_l1Cur_among x_spec_l1Cur_among (cl n_spec_l1Cur_among)) (K_spec_l1Cur_spoiltJob : K_spec_l1Cur_spoiltJob x_spec_l1Cur_spoiltJob (cl n_spec_l1Cur_spoiltJob)) (K_spec_l1Cur_job : K_spec_l1Cur_job x_spec_l1Cur_job (cl n_spec_l1Cur_job)) (released_ : Bool) (H0 : List Blk) (id g : Nat) (hid : id < H0.length) (st_ : ((List impl_Job) × (List Int) × Int × Int)) (c_ : Ctl ((List impl_Job) × (List Int) × Int × Int) ((List impl_Job) × (List Int) × Int × Int)) (hr : x_spec_l1Cur_someJobs_l1 released_ st_ = some c_) (T_ : Tm) (H_ : List Blk) (ng : Nat) (hR_ : R_spec_l1Cur_someJobs_l1 H0 id g released_ st_ T_ H_) :
    ∃ e_ T1_ H1_ ng1_, gcode (shOf F) cl LL c_spec_l1Cur_someJobs_l1 ⟨maskT (some [0, 1, 7]) T_, H_, ng⟩ = some (e_, ⟨T1_, H1_, ng1_⟩) ∧ TurnOK (R_spec_l1Cur_someJobs_l1 H0 id g released_) (Q_spec_l1Cur_someJobs_l1 H0 id g released_) (H0.length + 1) c_ e_ T1_ H1_ := by
  obtain ⟨jobs_, k0, k1, k2⟩ := st_
  obtain ⟨g0, f0_, f1_, f2_, rfl⟩ := hR_
  unfold x_spec_l1Cur_someJobs_l1 at hr
  try dsimp only at hr
  have w1_ : ∀ b, (H0.set id b)[id]? = some b := fun b => hs_get b hid
  have w2_ : ∀ b B, (H0.set id b ++ B)[id]? = some b := fun b B => hs_getA b hid
  have w3_ : ∀ a b B, (H0.set id a ++ B).set id b = H0.set id b ++ B := fun a b B => hs_setA a b hid
  by_cases h5 : ((jobs_.length : Nat) : Int) < 9
  · rw [if_pos h5] at hr
    have e3 : (((jobs_.length : Nat) : Int) < 9) = True := eq_true h5
    clear h5
    obtain ⟨r6, q9, hr⟩ := Option.bind_eq_some_iff.1 hr
    obtain ⟨ng7, e8⟩ : ∃ ng', gcall (shOf F) cl false n_spec_l1Cur_job [.ptr id g 0 0, .bool released_] (H0.set id (Blk.mk g false 3 [[.fs (k0.map (cI .u8)), .int .i64 k1, .int .u64 k2]]) ++ [(Blk.mk g0 false 4 (jobs_.map impl_Job.cells))]) ng = some (.agg [.int .i64 r6.1.Time, .int .i64 r6.1.Weight, .int .i64 r6.1.Release, .int .i64 r6.1.Due], (H0.set id (Blk.mk g false 3 [[.fs (r6.2.code.map (cI .u8)), .int .i64 r6.2.at_, .int .u64 r6.2.seed]]) ++ [(Blk.mk g0 false 4 (jobs_.map impl_Job.cells))]), ng', .all) := call_curA s_spec_l1Cur_job (K_spec_l1Cur_job _ _ _ q9) H0 [(Blk.mk g0 false 4 (jobs_.map impl_Job.cells))] id g ng hid
    obtain ⟨l10, q18, hr⟩ := Option.bind_eq_some_iff.1 hr
    obtain ⟨e11, e12, e13, e14⟩ := app_some q18
    try simp only [List.length_cons, List.length_nil, Nat.zero_add, Nat.reduceAdd] at e11 e12 e14
    have e15 : (jobs_.map impl_Job.cells) ++ [[.int .i64 r6.1.Time, .int .i64 r6.1.Weight, .int .i64 r6.1.Release, .int .i64 r6.1.Due]] = l10.map impl_Job.cells := by rw [← e13, List.map_append] <;> rfl
    have e16 := e11
    have e17 := e12
    rw [e14] at e16 e17
    clear e13 q18
    have hr_ := Option.some.inj hr; subst hr_
    refine turn (by
      simp only [c_spec_l1Cur_someJobs_l1, evA, evB, Int.reduceToNat, eq_self, reduceCtorEq, ↓reduceIte, Nat.reduceEqDiff, Nat.reduceAdd, Nat.reduceLT, Nat.reduceLeDiff, Nat.reduceMul, Nat.reduceSub, spec_l1Cur.cells, rz_spec_l1Cur, pr_spec_l1Cur, impl_Job.cells, rz_impl_Job, pr_impl_Job, spec_l2Search.cells, rz_spec_l2Search, pr_spec_l2Search, *]
      rfl) ?_
    exact ⟨rfl, _, rfl, rfl, rfl, (by simp only [hs_takek, hs_take0, hs_take, List.take_succ_cons, List.take_zero, List.append_nil])⟩
  · rw [if_neg h5] at hr
    have e4 : (((jobs_.length : Nat) : Int) < 9) = False := eq_false h5
    clear h5
    have hr_ := Option.some.inj hr; subst hr_
    refine turn (by
      simp only [c_spec_l1Cur_someJobs_l1, evA, evB, Int.reduceToNat, eq_self, reduceCtorEq, ↓reduceIte, Nat.reduceEqDiff, Nat.reduceAdd, Nat.reduceLT, Nat.reduceLeDiff, Nat.reduceMul, Nat.reduceSub, spec_l1Cur.cells, rz_spec_l1Cur, pr_spec_l1Cur, impl_Job.cells, rz_impl_Job, pr_impl_Job, spec_l2Search.cells, rz_spec_l2Search, pr_spec_l2Search, *]
      rfl) ?_
    exact ⟨by simp, rfl, _, rfl, rfl⟩

theorem lp_spec_l1Cur_someJobs_l1 {cl : Callee} (K_spec_l1Cur_one : K_spec_l1Cur_one x_spec_l1Cur_one (cl n_spec_l1Cur_one)) (K_spec_l1Cur_pick : K_spec_l1Cur_pick x_spec_l1Cur_pick (cl n_spec_l1Cur_pick)) (K_spec_l1Cur_among : K_spec_l1Cur_among x_spec_l1Cur_among (cl n_spec_l1Cur_among)) (K_spec_l1Cur_spoiltJob : K_spec_l1Cur_spoiltJob x_spec_l1Cur_spoiltJob (cl n_spec_l1Cur_spoiltJob)) (K_spec_l1Cur_job : K_spec_l1Cur_job x_spec_l1Cur_job (cl n_spec_l1Cur_job)) (released_ : Bool) (H0 : List Blk) (id g : Nat) (hid : id < H0.length) (st_ : ((List impl_Job) × (List Int) × Int × Int)) (p_ : ((List impl_Job) × (List Int) × Int × Int)) (hr : loopS (x_spec_l1Cur_someJobs_l1 released_) LL st_ = some p_) (T_ : Tm) (H_ : List Blk) (ng : Nat) (hR_ : R_spec_l1Cur_someJobs_l1 H0 id g released_ st_ T_ H_) (hn_ : H_.length = (H0.length + 1)) :
    ∃ e_ T1_ H1_ ng1_, gcode (shOf F) cl LL (.loop false (some [0, 1, 7]) c_spec_l1Cur_someJobs_l1) ⟨T_, H_, ng⟩ = some (e_, ⟨T1_, H1_, ng1_⟩) ∧ Q_spec_l1Cur_someJobs_l1 H0 id g released_ p_ e_ T1_ H1_ :=
  sim_loop (n0 := (H0.length + 1)) (R_spec_l1Cur_someJobs_l1 H0 id g released_) (Q_spec_l1Cur_someJobs_l1 H0 id g released_) (st_spec_l1Cur_someJobs_l1 K_spec_l1Cur_one K_spec_l1Cur_pick K_spec_l1Cur_among K_spec_l1Cur_spoiltJob K_spec_l1Cur_job released_ H0 id g hid) st_ p_ hr T_ H_ ng hR_ hn_

theorem ok_spec_l1Cur_someJobs {cl : Callee} (K_spec_l1Cur_one : K_spec_l1Cur_one x_spec_l1Cur_one (cl n_spec_l1Cur_one)) (K_spec_l1Cur_pick : K_spec_l1Cur_pick x_spec_l1Cur_pick (cl n_spec_l1Cur_pick)) (K_spec_l1Cur_among : K_spec_l1Cur_among x_spec_l1Cur_among (cl n_spec_l1Cur_among)) (K_spec_l1Cur_spoiltJob : K_spec_l1Cur_spoiltJob x_spec_l1Cur_spoiltJob (cl n_spec_l1Cur_spoiltJob)) (K_spec_l1Cur_job : K_spec_l1Cur_job x_spec_l1Cur_job (cl n_spec_l1Cur_job)) : K_spec_l1Cur_someJobs (x_spec_l1Cur_someJobs) (gbody F LL cl c_spec_l1Cur_someJobs) := by
  intro c_ released_ most_ r hr
  intro H0 id g ng hid
  have w1_ : ∀ b, (H0.set id b)[id]? = some b := fun b => hs_get b hid
  have w2_ : ∀ b B, (H0.set id b ++ B)[id]? = some b := fun b B => hs_getA b hid
  have w3_ : ∀ a b B, (H0.set id a ++ B).set id b = H0.set id b ++ B := fun a b B => hs_setA a b hid
  unfold x_spec_l1Cur_someJobs at hr
  try dsimp only at hr
  obtain ⟨r1, q4, hr⟩ := Option.bind_eq_some_iff.1 hr
  obtain ⟨ng2, e3⟩ : ∃ ng', gcall (shOf F) cl false n_spec_l1Cur_among [.ptr id g 0 0, .fs [[.int .i64 3], [.int .i64 4], [.int .i64 5], [.int .i64 2], [.int .i64 6], [.int .i64 1], [.int .i64 0]]] (H0.set id (Blk.mk g false 3 [[.fs (c_.code.map (cI .u8)), .int .i64 c_.at_, .int .u64 c_.seed]]) ++ [(Blk.mk ng false 4 [])]) (ng + 1) = some (.int .i64 r1.1, (H0.set id (Blk.mk g false 3 [[.fs (r1.2.code.map (cI .u8)), .int .i64 r1.2.at_, .int .u64 r1.2.seed]]) ++ [(Blk.mk ng false 4 [])]), ng', .all) := call_curA s_spec_l1Cur_among (K_spec_l1Cur_among _ _ _ q4) H0 [(Blk.mk ng false 4 [])] id g (ng + 1) hid
  by_cases h9 : 6 < most_
  · rw [if_pos h9] at hr
    have e7 : (6 < most_) = True := eq_true h9
    clear h9
    obtain ⟨r10, q13, hr⟩ := Option.bind_eq_some_iff.1 hr
    obtain ⟨ng11, e12⟩ : ∃ ng', gcall (shOf F) cl false n_spec_l1Cur_one [.ptr id g 0 0, .int .i64 6] (H0.set id (Blk.mk g false 3 [[.fs (r1.2.code.map (cI .u8)), .int .i64 r1.2.at_, .int .u64 r1.2.seed]]) ++ [(Blk.mk ng false 4 [])]) ng2 = some (.bool r10.1, (H0.set id (Blk.mk g false 3 [[.fs (r10.2.code.map (cI .u8)), .int .i64 r10.2.at_, .int .u64 r10.2.seed]]) ++ [(Blk.mk ng false 4 [])]), ng', .all) := call_curA s_spec_l1Cur_one (K_spec_l1Cur_one _ _ _ q13) H0 [(Blk.mk ng false 4 [])] id g ng2 hid
    by_cases h16 : r10.1 = true
    · rw [if_pos h16] at hr
      have e14 : r10.1 = true := h16
      clear h16
      obtain ⟨r17, q20, hr⟩ := Option.bind_eq_some_iff.1 hr
      obtain ⟨ng18, e19⟩ : ∃ ng', gcall (shOf F) cl false n_spec_l1Cur_pick [.ptr id g 0 0, .int .i64 2] (H0.set id (Blk.mk g false 3 [[.fs (r10.2.code.map (cI .u8)), .int .i64 r10.2.at_, .int .u64 r10.2.seed]]) ++ [(Blk.mk ng false 4 [])]) ng11 = some (.int .i64 r17.1, (H0.set id (Blk.mk g false 3 [[.fs (r17.2.code.map (cI .u8)), .int .i64 r17.2.at_, .int .u64 r17.2.seed]]) ++ [(Blk.mk ng false 4 [])]), ng', .all) := call_curA s_spec_l1Cur_pick (K_spec_l1Cur_pick _ _ _ q20) H0 [(Blk.mk ng false 4 [])] id g ng11 hid
      obtain ⟨p21, q124, hr⟩ := Option.bind_eq_some_iff.1 hr
      obtain ⟨ex27, T24, H25, ng26, l23, m22⟩ := lp_spec_l1Cur_someJobs_l0 (cl := cl) K_spec_l1Cur_one K_spec_l1Cur_pick K_spec_l1Cur_among K_spec_l1Cur_spoiltJob K_spec_l1Cur_job  released_ most_ H0 id g hid _ _ q124 [(0, .ptr id g 0 0), (1, .bool released_), (2, .int .i64 most_), (7, .os H0.length ng 4 0 0), (8, .int .i64 (addK .i64 7 r17.1))] (H0.set id (Blk.mk g false 3 [[.fs (r17.2.code.map (cI .u8)), .int .i64 r17.2.at_, .int .u64 r17.2.seed]]) ++ [(Blk.mk ng false 4 [])]) ng18 (show R_spec_l1Cur_someJobs_l0 H0 id g released_ most_ (([] : List impl_Job), r17.2.code, r17.2.at_, r17.2.seed, (addK .i64 7 r17.1)) [(0, .ptr id g 0 0), (1, .bool released_), (2, .int .i64 most_), (7, .os H0.length ng 4 0 0), (8, .int .i64 (addK .i64 7 r17.1))] (H0.set id (Blk.mk g false 3 [[.fs (r17.2.code.map (cI .u8)), .int .i64 r17.2.at_, .int .u64 r17.2.seed]]) ++ [(Blk.mk ng false 4 [])]) from ⟨_, rfl, rfl, rfl, rfl, rfl, rfl⟩) (by simp)
      obtain ⟨rfl, g28, e29, e30, e31, e32⟩ := m22
      subst e32
      by_cases h37 : 0 < ((p21.1.length : Nat) : Int)
      · rw [if_pos h37] at hr
        have e35 : (0 < ((p21.1.length : Nat) : Int)) = True := eq_true h37
        clear h37
        obtain ⟨r38, q41, hr⟩ := Option.bind_eq_some_iff.1 hr
        obtain ⟨ng39, e40⟩ : ∃ ng', gcall (shOf F) cl false n_spec_l1Cur_one [.ptr id g 0 0, .int .i64 20] (H0.set id (Blk.mk g false 3 [[.fs (p21.2.1.map (cI .u8)), .int .i64 p21.2.2.1, .int .u64 p21.2.2.2]]) ++ [(Blk.mk g28 false 4 (p21.1.map impl_Job.cells))]) ng26 = some (.bool r38.1, (H0.set id (Blk.mk g false 3 [[.fs (r38.2.code.map (cI .u8)), .int .i64 r38.2.at_, .int .u64 r38.2.seed]]) ++ [(Blk.mk g28 false 4 (p21.1.map impl_Job.cells))]), ng', .all) := call_curA s_spec_l1Cur_one (K_spec_l1Cur_one _ _ _ q41) H0 [(Blk.mk g28 false 4 (p21.1.map impl_Job.cells))] id g ng26 hid
        by_cases h44 : r38.1 = true
        · rw [if_pos h44] at hr
          have e42 : r38.1 = true := h44
          clear h44
          obtain ⟨r45, q48, hr⟩ := Option.bind_eq_some_iff.1 hr
          obtain ⟨ng46, e47⟩ : ∃ ng', gcall (shOf F) cl false n_spec_l1Cur_pick [.ptr id g 0 0, .int .i64 ((p21.1.length : Nat) : Int)] (H0.set id (Blk.mk g false 3 [[.fs (r38.2.code.map (cI .u8)), .int .i64 r38.2.at_, .int .u64 r38.2.seed]]) ++ [(Blk.mk g28 false 4 (p21.1.map impl_Job.cells))]) ng39 = some (.int .i64 r45.1, (H0.set id (Blk.mk g false 3 [[.fs (r45.2.code.map (cI .u8)), .int .i64 r45.2.at_, .int .u64 r45.2.seed]]) ++ [(Blk.mk g28 false 4 (p21.1.map impl_Job.cells))]), ng', .all) := call_curA s_spec_l1Cur_pick (K_spec_l1Cur_pick _ _ _ q48) H0 [(Blk.mk g28 false 4 (p21.1.map impl_Job.cells))] id g ng39 hid
          obtain ⟨y49, q53, hr⟩ := Option.bind_eq_some_iff.1 hr
          obtain ⟨e50, e51, e52⟩ := ix_some q53
          try simp only [Int.toNat_natCast, Int.toNat_zero, Int.reduceToNat] at e51
          clear q53
          obtain ⟨r54, q57, hr⟩ := Option.bind_eq_some_iff.1 hr
          obtain ⟨ng55, e56⟩ : ∃ ng', gcall (shOf F) cl false n_spec_l1Cur_spoiltJob [.ptr id g 0 0, .agg [.int .i64 y49.Time, .int .i64 y49.Weight, .int .i64 y49.Release, .int .i64 y49.Due]] (H0.set id (Blk.mk g false 3 [[.fs (r45.2.code.map (cI .u8)), .int .i64 r45.2.at_, .int .u64 r45.2.seed]]) ++ [(Blk.mk g28 false 4 (p21.1.map impl_Job.cells))]) ng46 = some (.agg [.int .i64 r54.1.Time, .int .i64 r54.1.Weight, .int .i64 r54.1.Release, .int .i64 r54.1.Due], (H0.set id (Blk.mk g false 3 [[.fs (r54.2.code.map (cI .u8)), .int .i64 r54.2.at_, .int .u64 r54.2.seed]]) ++ [(Blk.mk g28 false 4 (p21.1.map impl_Job.cells))]), ng', .all) := call_curA s_spec_l1Cur_spoiltJob (K_spec_l1Cur_spoiltJob _ _ _ q57) H0 [(Blk.mk g28 false 4 (p21.1.map impl_Job.cells))] id g ng46 hid
          obtain ⟨l58, q63, hr⟩ := Option.bind_eq_some_iff.1 hr
          obtain ⟨_, _, e59, e60, _⟩ := put_some q63
          try simp only [Int.toNat_natCast, Int.toNat_zero, Int.reduceToNat] at e59
          have e61 : (p21.1.map impl_Job.cells).set (Int.toNat r45.1) [.int .i64 r54.1.Time, .int .i64 r54.1.Weight, .int .i64 r54.1.Release, .int .i64 r54.1.Due] = l58.map impl_Job.cells := by rw [← e59, List.map_set] <;> rfl
          replace e60 : Keep (p21.1.length = l58.length) := e60
          clear e59 q63
          obtain ⟨r64, q67, hr⟩ := Option.bind_eq_some_iff.1 hr
          obtain ⟨ng65, e66⟩ : ∃ ng', gcall (shOf F) cl false n_spec_l1Cur_one [.ptr id g 0 0, .int .i64 60] (H0.set id (Blk.mk g false 3 [[.fs (r54.2.code.map (cI .u8)), .int .i64 r54.2.at_, .int .u64 r54.2.seed]]) ++ [(Blk.mk g28 false 4 (l58.map impl_Job.cells))]) ng55 = some (.bool r64.1, (H0.set id (Blk.mk g false 3 [[.fs (r64.2.code.map (cI .u8)), .int .i64 r64.2.at_, .int .u64 r64.2.seed]]) ++ [(Blk.mk g28 false 4 (l58.map impl_Job.cells))]), ng', .all) := call_curA s_spec_l1Cur_one (K_spec_l1Cur_one _ _ _ q67) H0 [(Blk.mk g28 false 4 (l58.map impl_Job.cells))] id g ng55 hid
          by_cases h70 : r64.1 = true
          · rw [if_pos h70] at hr
            have e68 : r64.1 = true := h70
            clear h70
            obtain ⟨p71, q82, hr⟩ := Option.bind_eq_some_iff.1 hr
            obtain ⟨ex77, T74, H75, ng76, l73, m72⟩ := lp_spec_l1Cur_someJobs_l1 (cl := cl) K_spec_l1Cur_one K_spec_l1Cur_pick K_spec_l1Cur_among K_spec_l1Cur_spoiltJob K_spec_l1Cur_job  released_ H0 id g hid _ _ q82 [(0, .ptr id g 0 0), (1, .bool released_), (7, .os H0.length g28 4 0 p21.1.length), (60, .bool true)] (H0.set id (Blk.mk g false 3 [[.fs (r64.2.code.map (cI .u8)), .int .i64 r64.2.at_, .int .u64 r64.2.seed]]) ++ [(Blk.mk g28 false 4 (l58.map impl_Job.cells))]) ng65 (show R_spec_l1Cur_someJobs_l1 H0 id g released_ (l58, r64.2.code, r64.2.at_, r64.2.seed) [(0, .ptr id g 0 0), (1, .bool released_), (7, .os H0.length g28 4 0 p21.1.length), (60, .bool true)] (H0.set id (Blk.mk g false 3 [[.fs (r64.2.code.map (cI .u8)), .int .i64 r64.2.at_, .int .u64 r64.2.seed]]) ++ [(Blk.mk g28 false 4 (l58.map impl_Job.cells))]) from ⟨_, rfl, rfl, (congrArg (fun n_ => V.os H0.length g28 4 0 n_) e60), rfl⟩) (by simp)
            obtain ⟨rfl, g78, e79, e80⟩ := m72
            subst e80
            have hr_ := Option.some.inj hr; subst hr_
            refine ⟨.os H0.length g78 4 0 p71.1.length, [(Blk.mk g78 false 4 (p71.1.map impl_Job.cells))], ng76, ?_, ?_⟩
            · simp only [c_spec_l1Cur_someJobs, evA, evB, Int.reduceToNat, eq_self, reduceCtorEq, ↓reduceIte, Nat.reduceEqDiff, Nat.reduceAdd, Nat.reduceLT, Nat.reduceLeDiff, Nat.reduceMul, Nat.reduceSub, spec_l1Cur.cells, rz_spec_l1Cur, pr_spec_l1Cur, impl_Job.cells, rz_impl_Job, pr_impl_Job, spec_l2Search.cells, rz_spec_l2Search, pr_spec_l2Search, *]
            · skip
              have x81 : expC (hp (H0.set id (Blk.mk g false 3 [[.fs (p71.2.1.map (cI .u8)), .int .i64 p71.2.2.1, .int .u64 p71.2.2.2]]) ++ [(Blk.mk g78 false 4 (p71.1.map impl_Job.cells))])) H0.length expDepth (.os H0.length g78 4 0 p71.1.length) = some (.fs (p71.1.map impl_Job.cells)) := (exp_win (b := (Blk.mk g78 false 4 (p71.1.map impl_Job.cells))) (by simp) (by simp [hget, hp, hs_own0, hs_ownk, happ_get0, happ_getk]) (by simp) (pr_impl_Job _)).trans (by simp [take_map_len])
              simp [outR, outV, outVs, outC, outCs, x81]
          · rw [if_neg h70] at hr
            have e69 : r64.1 = false := Bool.eq_false_iff.2 h70
            clear h70
            have hr_ := Option.some.inj hr; subst hr_
            refine ⟨.os H0.length g28 4 0 p21.1.length, [(Blk.mk g28 false 4 (l58.map impl_Job.cells))], ng65, ?_, ?_⟩
            · simp only [c_spec_l1Cur_someJobs, evA, evB, Int.reduceToNat, eq_self, reduceCtorEq, ↓reduceIte, Nat.reduceEqDiff, Nat.reduceAdd, Nat.reduceLT, Nat.reduceLeDiff, Nat.reduceMul, Nat.reduceSub, spec_l1Cur.cells, rz_spec_l1Cur, pr_spec_l1Cur, impl_Job.cells, rz_impl_Job, pr_impl_Job, spec_l2Search.cells, rz_spec_l2Search, pr_spec_l2Search, *]
            · skip
              have x83 : expC (hp (H0.set id (Blk.mk g false 3 [[.fs (r64.2.code.map (cI .u8)), .int .i64 r64.2.at_, .int .u64 r64.2.seed]]) ++ [(Blk.mk g28 false 4 (l58.map impl_Job.cells))])) H0.length expDepth (.os H0.length g28 4 0 p21.1.length) = some (.fs (l58.map impl_Job.cells)) := (exp_win (b := (Blk.mk g28 false 4 (l58.map impl_Job.cells))) (by simp) (by simp [hget, hp, hs_own0, hs_ownk, happ_get0, happ_getk]) (by rw [show p21.1.length = _ from e60]; simp) (pr_impl_Job _)).trans (by rw [show p21.1.length = _ from e60]; simp [take_map_len])
              simp [outR, outV, outVs, outC, outCs, x83]
        · rw [if_neg h44] at hr
          have e43 : r38.1 = false := Bool.eq_false_iff.2 h44
          clear h44
          obtain ⟨r84, q87, hr⟩ := Option.bind_eq_some_iff.1 hr
          obtain ⟨ng85, e86⟩ : ∃ ng', gcall (shOf F) cl false n_spec_l1Cur_one [.ptr id g 0 0, .int .i64 60] (H0.set id (Blk.mk g false 3 [[.fs (r38.2.code.map (cI .u8)), .int .i64 r38.2.at_, .int .u64 r38.2.seed]]) ++ [(Blk.mk g28 false 4 (p21.1.map impl_Job.cells))]) ng39 = some (.bool r84.1, (H0.set id (Blk.mk g false 3 [[.fs (r84.2.code.map (cI .u8)), .int .i64 r84.2.at_, .int .u64 r84.2.seed]]) ++ [(Blk.mk g28 false 4 (p21.1.map impl_Job.cells))]), ng', .all) := call_curA s_spec_l1Cur_one (K_spec_l1Cur_one _ _ _ q87) H0 [(Blk.mk g28 false 4 (p21.1.map impl_Job.cells))] id g ng39 hid
          by_cases h90 : r84.1 = true
          · rw [if_pos h90] at hr
            have e88 : r84.1 = true := h90
            clear h90
            obtain ⟨p91, q102, hr⟩ := Option.bind_eq_some_iff.1 hr
            obtain ⟨ex97, T94, H95, ng96, l93, m92⟩ := lp_spec_l1Cur_someJobs_l1 (cl := cl) K_spec_l1Cur_one K_spec_l1Cur_pick K_spec_l1Cur_among K_spec_l1Cur_spoiltJob K_spec_l1Cur_job  released_ H0 id g hid _ _ q102 [(0, .ptr id g 0 0), (1, .bool released_), (7, .os H0.length g28 4 0 p21.1.length), (60, .bool true)] (H0.set id (Blk.mk g false 3 [[.fs (r84.2.code.map (cI .u8)), .int .i64 r84.2.at_, .int .u64 r84.2.seed]]) ++ [(Blk.mk g28 false 4 (p21.1.map impl_Job.cells))]) ng85 (show R_spec_l1Cur_someJobs_l1 H0 id g released_ (p21.1, r84.2.code, r84.2.at_, r84.2.seed) [(0, .ptr id g 0 0), (1, .bool released_), (7, .os H0.length g28 4 0 p21.1.length), (60, .bool true)] (H0.set id (Blk.mk g false 3 [[.fs (r84.2.code.map (cI .u8)), .int .i64 r84.2.at_, .int .u64 r84.2.seed]]) ++ [(Blk.mk g28 false 4 (p21.1.map impl_Job.cells))]) from ⟨_, rfl, rfl, rfl, rfl⟩) (by simp)
            obtain ⟨rfl, g98, e99, e100⟩ := m92
            subst e100
            have hr_ := Option.some.inj hr; subst hr_
            refine ⟨.os H0.length g98 4 0 p91.1.length, [(Blk.mk g98 false 4 (p91.1.map impl_Job.cells))], ng96, ?_, ?_⟩
            · simp only [c_spec_l1Cur_someJobs, evA, evB, Int.reduceToNat, eq_self, reduceCtorEq, ↓reduceIte, Nat.reduceEqDiff, Nat.reduceAdd, Nat.reduceLT, Nat.reduceLeDiff, Nat.reduceMul, Nat.reduceSub, spec_l1Cur.cells, rz_spec_l1Cur, pr_spec_l1Cur, impl_Job.cells, rz_impl_Job, pr_impl_Job, spec_l2Search.cells, rz_spec_l2Search, pr_spec_l2Search, *]
            · skip
              have x101 : expC (hp (H0.set id (Blk.mk g false 3 [[.fs (p91.2.1.map (cI .u8)), .int .i64 p91.2.2.1, .int .u64 p91.2.2.2]]) ++ [(Blk.mk g98 false 4 (p91.1.map impl_Job.cells))])) H0.length expDepth (.os H0.length g98 4 0 p91.1.length) = some (.fs (p91.1.map impl_Job.cells)) := (exp_win (b := (Blk.mk g98 false 4 (p91.1.map impl_Job.cells))) (by simp) (by simp [hget, hp, hs_own0, hs_ownk, happ_get0, happ_getk]) (by simp) (pr_impl_Job _)).trans (by simp [take_map_len])
              simp [outR, outV, outVs, outC, outCs, x101]
          · rw [if_neg h90] at hr
            have e89 : r84.1 = false := Bool.eq_false_iff.2 h90
            clear h90
            have hr_ := Option.some.inj hr; subst hr_
            refine ⟨.os H0.length g28 4 0 p21.1.length, [(Blk.mk g28 false 4 (p21.1.map impl_Job.cells))], ng85, ?_, ?_⟩
            · simp only [c_spec_l1Cur_someJobs, evA, evB, Int.reduceToNat, eq_self, reduceCtorEq, ↓reduceIte, Nat.reduceEqDiff, Nat.reduceAdd, Nat.reduceLT, Nat.reduceLeDiff, Nat.reduceMul, Nat.reduceSub, spec_l1Cur.cells, rz_spec_l1Cur, pr_spec_l1Cur, impl_Job.cells, rz_impl_Job, pr_impl_Job, spec_l2Search.cells, rz_spec_l2Search, pr_spec_l2Search, *]
            · skip
              have x103 : expC (hp (H0.set id (Blk.mk g false 3 [[.fs (r84.2.code.map (cI .u8)), .int .i64 r84.2.at_, .int .u64 r84.2.seed]]) ++ [(Blk.mk g28 false 4 (p21.1.map impl_Job.cells))])) H0.length expDepth (.os H0.length g28 4 0 p21.1.length) = some (.fs (p21.1.map impl_Job.cells)) := (exp_win (b := (Blk.mk g28 false 4 (p21.1.map impl_Job.cells))) (by simp) (by simp [hget, hp, hs_own0, hs_ownk, happ_get0, happ_getk]) (by simp) (pr_impl_Job _)).trans (by simp [take_map_len])
              simp [outR, outV, outVs, outC, outCs, x103]
      · rw [if_neg h37] at hr
        have e36 : (0 < ((p21.1.length : Nat) : Int)) = False := eq_false h37
        clear h37
        obtain ⟨r104, q107, hr⟩ := Option.bind_eq_some_iff.1 hr
        obtain ⟨ng105, e106⟩ : ∃ ng', gcall (shOf F) cl false n_spec_l1Cur_one [.ptr id g 0 0, .int .i64 60] (H0.set id (Blk.mk g false 3 [[.fs (p21.2.1.map (cI .u8)), .int .i64 p21.2.2.1, .int .u64 p21.2.2.2]]) ++ [(Blk.mk g28 false 4 (p21.1.map impl_Job.cells))]) ng26 = some (.bool r104.1, (H0.set id (Blk.mk g false 3 [[.fs (r104.2.code.map (cI .u8)), .int .i64 r104.2.at_, .int .u64 r104.2.seed]]) ++ [(Blk.mk g28 false 4 (p21.1.map impl_Job.cells))]), ng', .all) := call_curA s_spec_l1Cur_one (K_spec_l1Cur_one _ _ _ q107) H0 [(Blk.mk g28 false 4 (p21.1.map impl_Job.cells))] id g ng26 hid
        by_cases h110 : r104.1 = true
        · rw [if_pos h110] at hr
          have e108 : r104.1 = true := h110
          clear h110
          obtain ⟨p111, q122, hr⟩ := Option.bind_eq_some_iff.1 hr
          obtain ⟨ex117, T114, H115, ng116, l113, m112⟩ := lp_spec_l1Cur_someJobs_l1 (cl := cl) K_spec_l1Cur_one K_spec_l1Cur_pick K_spec_l1Cur_among K_spec_l1Cur_spoiltJob K_spec_l1Cur_job  released_ H0 id g hid _ _ q122 [(0, .ptr id g 0 0), (1, .bool released_), (7, .os H0.length g28 4 0 p21.1.length), (60, .bool true)] (H0.set id (Blk.mk g false 3 [[.fs (r104.2.code.map (cI .u8)), .int .i64 r104.2.at_, .int .u64 r104.2.seed]]) ++ [(Blk.mk g28 false 4 (p21.1.map impl_Job.cells))]) ng105 (show R_spec_l1Cur_someJobs_l1 H0 id g released_ (p21.1, r104.2.code, r104.2.at_, r104.2.seed) [(0, .ptr id g 0 0), (1, .bool released_), (7, .os H0.length g28 4 0 p21.1.length), (60, .bool true)] (H0.set id (Blk.mk g false 3 [[.fs (r104.2.code.map (cI .u8)), .int .i64 r104.2.at_, .int .u64 r104.2.seed]]) ++ [(Blk.mk g28 false 4 (p21.1.map impl_Job.cells))]) from ⟨_, rfl, rfl, rfl, rfl⟩) (by simp)
          obtain ⟨rfl, g118, e119, e120⟩ := m112
          subst e120
          have hr_ := Option.some.inj hr; subst hr_
          refine ⟨.os H0.length g118 4 0 p111.1.length, [(Blk.mk g118 false 4 (p111.1.map impl_Job.cells))], ng116, ?_, ?_⟩
          · simp only [c_spec_l1Cur_someJobs, evA, evB, Int.reduceToNat, eq_self, reduceCtorEq, ↓reduceIte, Nat.reduceEqDiff, Nat.reduceAdd, Nat.reduceLT, Nat.reduceLeDiff, Nat.reduceMul, Nat.reduceSub, spec_l1Cur.cells, rz_spec_l1Cur, pr_spec_l1Cur, impl_Job.cells, rz_impl_Job, pr_impl_Job, spec_l2Search.cells, rz_spec_l2Search, pr_spec_l2Search, *]
          · skip
            have x121 : expC (hp (H0.set id (Blk.mk g false 3 [[.fs (p111.2.1.map (cI .u8)), .int .i64 p111.2.2.1, .int .u64 p111.2.2.2]]) ++ [(Blk.mk g118 false 4 (p111.1.map impl_Job.cells))])) H0.length expDepth (.os H0.length g118 4 0 p111.1.length) = some (.fs (p111.1.map impl_Job.cells)) := (exp_win (b := (Blk.mk g118 false 4 (p111.1.map impl_Job.cells))) (by simp) (by simp [hget, hp, hs_own0, hs_ownk, happ_get0, happ_getk]) (by simp) (pr_impl_Job _)).trans (by simp [take_map_len])
            simp [outR, outV, outVs, outC, outCs, x121]
        · rw [if_neg h110] at hr
          have e109 : r104.1 = false := Bool.eq_false_iff.2 h110
          clear h110
          have hr_ := Option.some.inj hr; subst hr_
          refine ⟨.os H0.length g28 4 0 p21.1.length, [(Blk.mk g28 false 4 (p21.1.map impl_Job.cells))], ng105, ?_, ?_⟩
          · simp only [c_spec_l1Cur_someJobs, evA, evB, Int.reduceToNat, eq_self, reduceCtorEq, ↓reduceIte, Nat.reduceEqDiff, Nat.reduceAdd, Nat.reduceLT, Nat.reduceLeDiff, Nat.reduceMul, Nat.reduceSub, spec_l1Cur.cells, rz_spec_l1Cur, pr_spec_l1Cur, impl_Job.cells, rz_impl_Job, pr_impl_Job, spec_l2Search.cells, rz_spec_l2Search, pr_spec_l2Search, *]
          · skip
            have x123 : expC (hp (H0.set id (Blk.mk g false 3 [[.fs (r104.2.code.map (cI .u8)), .int .i64 r104.2.at_, .int .u64 r104.2.seed]]) ++ [(Blk.mk g28 false 4 (p21.1.map impl_Job.cells))])) H0.length expDepth (.os H0.length g28 4 0 p21.1.length) = some (.fs (p21.1.map impl_Job.cells)) := (exp_win (b := (Blk.mk g28 false 4 (p21.1.map impl_Job.cells))) (by simp) (by simp [hget, hp, hs_own0, hs_ownk, happ_get0, happ_getk]) (by simp) (pr_impl_Job _)).trans (by simp [take_map_len])
            simp [outR, outV, outVs, outC, outCs, x123]
    · rw [if_neg h16] at hr
      have e15 : r10.1 = false := Bool.eq_false_iff.2 h16
      clear h16
      obtain ⟨p125, q228, hr⟩ := Option.bind_eq_some_iff.1 hr
      obtain ⟨ex131, T128, H129, ng130, l127, m126⟩ := lp_spec_l1Cur_someJobs_l0 (cl := cl) K_spec_l1Cur_one K_spec_l1Cur_pick K_spec_l1Cur_among K_spec_l1Cur_spoiltJob K_spec_l1Cur_job  released_ most_ H0 id g hid _ _ q228 [(0, .ptr id g 0 0), (1, .bool released_), (2, .int .i64 most_), (7, .os H0.length ng 4 0 0), (8, .int .i64 r1.1), (19, .bool false)] (H0.set id (Blk.mk g false 3 [[.fs (r10.2.code.map (cI .u8)), .int .i64 r10.2.at_, .int .u64 r10.2.seed]]) ++ [(Blk.mk ng false 4 [])]) ng11 (show R_spec_l1Cur_someJobs_l0 H0 id g released_ most_ (([] : List impl_Job), r10.2.code, r10.2.at_, r10.2.seed, r1.1) [(0, .ptr id g 0 0), (1, .bool released_), (2, .int .i64 most_), (7, .os H0.length ng 4 0 0), (8, .int .i64 r1.1), (19, .bool false)] (H0.set id (Blk.mk g false 3 [[.fs (r10.2.code.map (cI .u8)), .int .i64 r10.2.at_, .int .u64 r10.2.seed]]) ++ [(Blk.mk ng false 4 [])]) from ⟨_, rfl, rfl, rfl, rfl, rfl, rfl⟩) (by simp)
      obtain ⟨rfl, g132, e133, e134, e135, e136⟩ := m126
      subst e136
      by_cases h141 : 0 < ((p125.1.length : Nat) : Int)
      · rw [if_pos h141] at hr
        have e139 : (0 < ((p125.1.length : Nat) : Int)) = True := eq_true h141
        clear h141
        obtain ⟨r142, q145, hr⟩ := Option.bind_eq_some_iff.1 hr
        obtain ⟨ng143, e144⟩ : ∃ ng', gcall (shOf F) cl false n_spec_l1Cur_one [.ptr id g 0 0, .int .i64 20] (H0.set id (Blk.mk g false 3 [[.fs (p125.2.1.map (cI .u8)), .int .i64 p125.2.2.1, .int .u64 p125.2.2.2]]) ++ [(Blk.mk g132 false 4 (p125.1.map impl_Job.cells))]) ng130 = some (.bool r142.1, (H0.set id (Blk.mk g false 3 [[.fs (r142.2.code.map (cI .u8)), .int .i64 r142.2.at_, .int .u64 r142.2.seed]]) ++ [(Blk.mk g132 false 4 (p125.1.map impl_Job.cells))]), ng', .all) := call_curA s_spec_l1Cur_one (K_spec_l1Cur_one _ _ _ q145) H0 [(Blk.mk g132 false 4 (p125.1.map impl_Job.cells))] id g ng130 hid
        by_cases h148 : r142.1 = true
        · rw [if_pos h148] at hr
          have e146 : r142.1 = true := h148
          clear h148
          obtain ⟨r149, q152, hr⟩ := Option.bind_eq_some_iff.1 hr
          obtain ⟨ng150, e151⟩ : ∃ ng', gcall (shOf F) cl false n_spec_l1Cur_pick [.ptr id g 0 0, .int .i64 ((p125.1.length : Nat) : Int)] (H0.set id (Blk.mk g false 3 [[.fs (r142.2.code.map (cI .u8)), .int .i64 r142.2.at_, .int .u64 r142.2.seed]]) ++ [(Blk.mk g132 false 4 (p125.1.map impl_Job.cells))]) ng143 = some (.int .i64 r149.1, (H0.set id (Blk.mk g false 3 [[.fs (r149.2.code.map (cI .u8)), .int .i64 r149.2.at_, .int .u64 r149.2.seed]]) ++ [(Blk.mk g132 false 4 (p125.1.map impl_Job.cells))]), ng', .all) := call_curA s_spec_l1Cur_pick (K_spec_l1Cur_pick _ _ _ q152) H0 [(Blk.mk g132 false 4 (p125.1.map impl_Job.cells))] id g ng143 hid
          obtain ⟨y153, q157, hr⟩ := Option.bind_eq_some_iff.1 hr
          obtain ⟨e154, e155, e156⟩ := ix_some q157
          try simp only [Int.toNat_natCast, Int.toNat_zero, Int.reduceToNat] at e155
          clear q157
          obtain ⟨r158, q161, hr⟩ := Option.bind_eq_some_iff.1 hr
          obtain ⟨ng159, e160⟩ : ∃ ng', gcall (shOf F) cl false n_spec_l1Cur_spoiltJob [.ptr id g 0 0, .agg [.int .i64 y153.Time, .int .i64 y153.Weight, .int .i64 y153.Release, .int .i64 y153.Due]] (H0.set id (Blk.mk g false 3 [[.fs (r149.2.code.map (cI .u8)), .int .i64 r149.2.at_, .int .u64 r149.2.seed]]) ++ [(Blk.mk g132 false 4 (p125.1.map impl_Job.cells))]) ng150 = some (.agg [.int .i64 r158.1.Time, .int .i64 r158.1.Weight, .int .i64 r158.1.Release, .int .i64 r158.1.Due], (H0.set id (Blk.mk g false 3 [[.fs (r158.2.code.map (cI .u8)), .int .i64 r158.2.at_, .int .u64 r158.2.seed]]) ++ [(Blk.mk g132 false 4 (p125.1.map impl_Job.cells))]), ng', .all) := call_curA s_spec_l1Cur_spoiltJob (K_spec_l1Cur_spoiltJob _ _ _ q161) H0 [(Blk.mk g132 false 4 (p125.1.map impl_Job.cells))] id g ng150 hid
          obtain ⟨l162, q167, hr⟩ := Option.bind_eq_some_iff.1 hr
          obtain ⟨_, _, e163, e164, _⟩ := put_some q167
          try simp only [Int.toNat_natCast, Int.toNat_zero, Int.reduceToNat] at e163
          have e165 : (p125.1.map impl_Job.cells).set (Int.toNat r149.1) [.int .i64 r158.1.Time, .int .i64 r158.1.Weight, .int .i64 r158.1.Release, .int .i64 r158.1.Due] = l162.map impl_Job.cells := by rw [← e163, List.map_set] <;> rfl
          replace e164 : Keep (p125.1.length = l162.length) := e164
          clear e163 q167
          obtain ⟨r168, q171, hr⟩ := Option.bind_eq_some_iff.1 hr
          obtain ⟨ng169, e170⟩ : ∃ ng', gcall (shOf F) cl false n_spec_l1Cur_one [.ptr id g 0 0, .int .i64 60] (H0.set id (Blk.mk g false 3 [[.fs (r158.2.code.map (cI .u8)), .int .i64 r158.2.at_, .int .u64 r158.2.seed]]) ++ [(Blk.mk g132 false 4 (l162.map impl_Job.cells))]) ng159 = some (.bool r168.1, (H0.set id (Blk.mk g false 3 [[.fs (r168.2.code.map (cI .u8)), .int .i64 r168.2.at_, .int .u64 r168.2.seed]]) ++ [(Blk.mk g132 false 4 (l162.map impl_Job.cells))]), ng', .all) := call_curA s_spec_l1Cur_one (K_spec_l1Cur_one _ _ _ q171) H0 [(Blk.mk g132 false 4 (l162.map impl_Job.cells))] id g ng159 hid
          by_cases h174 : r168.1 = true
          · rw [if_pos h174] at hr
            have e172 : r168.1 = true := h174
            clear h174
            obtain ⟨p175, q186, hr⟩ := Option.bind_eq_some_iff.1 hr
            obtain ⟨ex181, T178, H179, ng180, l177, m176⟩ := lp_spec_l1Cur_someJobs_l1 (cl := cl) K_spec_l1Cur_one K_spec_l1Cur_pick K_spec_l1Cur_among K_spec_l1Cur_spoiltJob K_spec_l1Cur_job  released_ H0 id g hid _ _ q186 [(0, .ptr id g 0 0), (1, .bool released_), (7, .os H0.length g132 4 0 p125.1.length), (60, .bool true)] (H0.set id (Blk.mk g false 3 [[.fs (r168.2.code.map (cI .u8)), .int .i64 r168.2.at_, .int .u64 r168.2.seed]]) ++ [(Blk.mk g132 false 4 (l162.map impl_Job.cells))]) ng169 (show R_spec_l1Cur_someJobs_l1 H0 id g released_ (l162, r168.2.code, r168.2.at_, r168.2.seed) [(0, .ptr id g 0 0), (1, .bool released_), (7, .os H0.length g132 4 0 p125.1.length), (60, .bool true)] (H0.set id (Blk.mk g false 3 [[.fs (r168.2.code.map (cI .u8)), .int .i64 r168.2.at_, .int .u64 r168.2.seed]]) ++ [(Blk.mk g132 false 4 (l162.map impl_Job.cells))]) from ⟨_, rfl, rfl, (congrArg (fun n_ => V.os H0.length g132 4 0 n_) e164), rfl⟩) (by simp)
            obtain ⟨rfl, g182, e183, e184⟩ := m176
            subst e184
            have hr_ := Option.some.inj hr; subst hr_
            refine ⟨.os H0.length g182 4 0 p175.1.length, [(Blk.mk g182 false 4 (p175.1.map impl_Job.cells))], ng180, ?_, ?_⟩
            · simp only [c_spec_l1Cur_someJobs, evA, evB, Int.reduceToNat, eq_self, reduceCtorEq, ↓reduceIte, Nat.reduceEqDiff, Nat.reduceAdd, Nat.reduceLT, Nat.reduceLeDiff, Nat.reduceMul, Nat.reduceSub, spec_l1Cur.cells, rz_spec_l1Cur, pr_spec_l1Cur, impl_Job.cells, rz_impl_Job, pr_impl_Job, spec_l2Search.cells, rz_spec_l2Search, pr_spec_l2Search, *]
            · skip
              have x185 : expC (hp (H0.set id (Blk.mk g false 3 [[.fs (p175.2.1.map (cI .u8)), .int .i64 p175.2.2.1, .int .u64 p175.2.2.2]]) ++ [(Blk.mk g182 false 4 (p175.1.map impl_Job.cells))])) H0.length expDepth (.os H0.length g182 4 0 p175.1.length) = some (.fs (p175.1.map impl_Job.cells)) := (exp_win (b := (Blk.mk g182 false 4 (p175.1.map impl_Job.cells))) (by simp) (by simp [hget, hp, hs_own0, hs_ownk, happ_get0, happ_getk]) (by simp) (pr_impl_Job _)).trans (by simp [take_map_len])
              simp [outR, outV, outVs, outC, outCs, x185]
          · rw [if_neg h174] at hr
            have e173 : r168.1 = false := Bool.eq_false_iff.2 h174
            clear h174
            have hr_ := Option.some.inj hr; subst hr_
            refine ⟨.os H0.length g132 4 0 p125.1.length, [(Blk.mk g132 false 4 (l162.map impl_Job.cells))], ng169, ?_, ?_⟩
            · simp only [c_spec_l1Cur_someJobs, evA, evB, Int.reduceToNat, eq_self, reduceCtorEq, ↓reduceIte, Nat.reduceEqDiff, Nat.reduceAdd, Nat.reduceLT, Nat.reduceLeDiff, Nat.reduceMul, Nat.reduceSub, spec_l1Cur.cells, rz_spec_l1Cur, pr_spec_l1Cur, impl_Job.cells, rz_impl_Job, pr_impl_Job, spec_l2Search.cells, rz_spec_l2Search, pr_spec_l2Search, *]
            · skip
              have x187 : expC (hp (H0.set id (Blk.mk g false 3 [[.fs (r168.2.code.map (cI .u8)), .int .i64 r168.2.at_, .int .u64 r168.2.seed]]) ++ [(Blk.mk g132 false 4 (l162.map impl_Job.cells))])) H0.length expDepth (.os H0.length g132 4 0 p125.1.length) = some (.fs (l162.map impl_Job.cells)) := (exp_win (b := (Blk.mk g132 false 4 (l162.map impl_Job.cells))) (by simp) (by simp [hget, hp, hs_own0, hs_ownk, happ_get0, happ_getk]) (by rw [show p125.1.length = _ from e164]; simp) (pr_impl_Job _)).trans (by rw [show p125.1.length = _ from e164]; simp [take_map_len])
              simp [outR, outV, outVs, outC, outCs, x187]
        · rw [if_neg h148] at hr
          have e147 : r142.1 = false := Bool.eq_false_iff.2 h148
          clear h148
          obtain ⟨r188, q191, hr⟩ := Option.bind_eq_some_iff.1 hr
          obtain ⟨ng189, e190⟩ : ∃ ng', gcall (shOf F) cl false n_spec_l1Cur_one [.ptr id g 0 0, .int .i64 60] (H0.set id (Blk.mk g false 3 [[.fs (r142.2.code.map (cI .u8)), .int .i64 r142.2.at_, .int .u64 r142.2.seed]]) ++ [(Blk.mk g132 false 4 (p125.1.map impl_Job.cells))]) ng143 = some (.bool r188.1, (H0.set id (Blk.mk g false 3 [[.fs (r188.2.code.map (cI .u8)), .int .i64 r188.2.at_, .int .u64 r188.2.seed]]) ++ [(Blk.mk g132 false 4 (p125.1.map impl_Job.cells))]), ng', .all) := call_curA s_spec_l1Cur_one (K_spec_l1Cur_one _ _ _ q191) H0 [(Blk.mk g132 false 4 (p125.1.map impl_Job.cells))] id g ng143 hid
          by_cases h194 : r188.1 = true
          · rw [if_pos h194] at hr
            have e192 : r188.1 = true := h194
            clear h194
            obtain ⟨p195, q206, hr⟩ := Option.bind_eq_some_iff.1 hr
            obtain ⟨ex201, T198, H199, ng200, l197, m196⟩ := lp_spec_l1Cur_someJobs_l1 (cl := cl) K_spec_l1Cur_one K_spec_l1Cur_pick K_spec_l1Cur_among K_spec_l1Cur_spoiltJob K_spec_l1Cur_job  released_ H0 id g hid _ _ q206 [(0, .ptr id g 0 0), (1, .bool released_), (7, .os H0.length g132 4 0 p125.1.length), (60, .bool true)] (H0.set id (Blk.mk g false 3 [[.fs (r188.2.code.map (cI .u8)), .int .i64 r188.2.at_, .int .u64 r188.2.seed]]) ++ [(Blk.mk g132 false 4 (p125.1.map impl_Job.cells))]) ng189 (show R_spec_l1Cur_someJobs_l1 H0 id g released_ (p125.1, r188.2.code, r188.2.at_, r188.2.seed) [(0, .ptr id g 0 0), (1, .bool released_), (7, .os H0.length g132 4 0 p125.1.length), (60, .bool true)] (H0.set id (Blk.mk g false 3 [[.fs (r188.2.code.map (cI .u8)), .int .i64 r188.2.at_, .int .u64 r188.2.seed]]) ++ [(Blk.mk g132 false 4 (p125.1.map impl_Job.cells))]) from ⟨_, rfl, rfl, rfl, rfl⟩) (by simp)
            obtain ⟨rfl, g202, e203, e204⟩ := m196
            subst e204
            have hr_ := Option.some.inj hr; subst hr_
            refine ⟨.os H0.length g202 4 0 p195.1.length, [(Blk.mk g202 false 4 (p195.1.map impl_Job.cells))], ng200, ?_, ?_⟩
            · simp only [c_spec_l1Cur_someJobs, evA, evB, Int.reduceToNat, eq_self, reduceCtorEq, ↓reduceIte, Nat.reduceEqDiff, Nat.reduceAdd, Nat.reduceLT, Nat.reduceLeDiff, Nat.reduceMul, Nat.reduceSub, spec_l1Cur.cells, rz_spec_l1Cur, pr_spec_l1Cur, impl_Job.cells, rz_impl_Job, pr_impl_Job, spec_l2Search.cells, rz_spec_l2Search, pr_spec_l2Search, *]
            · skip
              have x205 : expC (hp (H0.set id (Blk.mk g false 3 [[.fs (p195.2.1.map (cI .u8)), .int .i64 p195.2.2.1, .int .u64 p195.2.2.2]]) ++ [(Blk.mk g202 false 4 (p195.1.map impl_Job.cells))])) H0.length expDepth (.os H0.length g202 4 0 p195.1.length) = some (.fs (p195.1.map impl_Job.cells)) := (exp_win (b := (Blk.mk g202 false 4 (p195.1.map impl_Job.cells))) (by simp) (by simp [hget, hp, hs_own0, hs_ownk, happ_get0, happ_getk]) (by simp) (pr_impl_Job _)).trans (by simp [take_map_len])
              simp [outR, outV, outVs, outC, outCs, x205]
          · rw [if_neg h194] at hr
            have e193 : r188.1 = false := Bool.eq_false_iff.2 h194
            clear h194
            have hr_ := Option.some.inj hr; subst hr_
            refine ⟨.os H0.length g132 4 0 p125.1.length, [(Blk.mk g132 false 4 (p125.1.map impl_Job.cells))], ng189, ?_, ?_⟩
            · simp only [c_spec_l1Cur_someJobs, evA, evB, Int.reduceToNat, eq_self, reduceCtorEq, ↓reduceIte, Nat.reduceEqDiff, Nat.reduceAdd, Nat.reduceLT, Nat.reduceLeDiff, Nat.reduceMul, Nat.reduceSub, spec_l1Cur.cells, rz_spec_l1Cur, pr_spec_l1Cur, impl_Job.cells, rz_impl_Job, pr_impl_Job, spec_l2Search.cells, rz_spec_l2Search, pr_spec_l2Search, *]
            · skip
              have x207 : expC (hp (H0.set id (Blk.mk g false 3 [[.fs (r188.2.code.map (cI .u8)), .int .i64 r188.2.at_, .int .u64 r188.2.seed]]) ++ [(Blk.mk g132 false 4 (p125.1.map impl_Job.cells))])) H0.length expDepth (.os H0.length g132 4 0 p125.1.length) = some (.fs (p125.1.map impl_Job.cells)) := (exp_win (b := (Blk.mk g132 false 4 (p125.1.map impl_Job.cells))) (by simp) (by simp [hget, hp, hs_own0, hs_ownk, happ_get0, happ_getk]) (by simp) (pr_impl_Job _)).trans (by simp [take_map_len])
              simp [outR, outV, outVs, outC, outCs, x207]
      · rw [if_neg h141] at hr
        have e140 : (0 < ((p125.1.length : Nat) : Int)) = False := eq_false h141
        clear h141
        obtain ⟨r208, q211, hr⟩ := Option.bind_eq_some_iff.1 hr
        obtain ⟨ng209, e210⟩ : ∃ ng', gcall (shOf F) cl false n_spec_l1Cur_one [.ptr id g 0 0, .int .i64 60] (H0.set id (Blk.mk g false 3 [[.fs (p125.2.1.map (cI .u8)), .int .i64 p125.2.2.1, .int .u64 p125.2.2.2]]) ++ [(Blk.mk g132 false 4 (p125.1.map impl_Job.cells))]) ng130 = some (.bool r208.1, (H0.set id (Blk.mk g false 3 [[.fs (r208.2.code.map (cI .u8)), .int .i64 r208.2.at_, .int .u64 r208.2.seed]]) ++ [(Blk.mk g132 false 4 (p125.1.map impl_Job.cells))]), ng', .all) := call_curA s_spec_l1Cur_one (K_spec_l1Cur_one _ _ _ q211) H0 [(Blk.mk g132 false 4 (p125.1.map impl_Job.cells))] id g ng130 hid
        by_cases h214 : r208.1 = true
        · rw [if_pos h214] at hr
          have e212 : r208.1 = true := h214
          clear h214
          obtain ⟨p215, q226, hr⟩ := Option.bind_eq_some_iff.1 hr
          obtain ⟨ex221, T218, H219, ng220, l217, m216⟩ := lp_spec_l1Cur_someJobs_l1 (cl := cl) K_spec_l1Cur_one K_spec_l1Cur_pick K_spec_l1Cur_among K_spec_l1Cur_spoiltJob K_spec_l1Cur_job  released_ H0 id g hid _ _ q226 [(0, .ptr id g 0 0), (1, .bool released_), (7, .os H0.length g132 4 0 p125.1.length), (60, .bool true)] (H0.set id (Blk.mk g false 3 [[.fs (r208.2.code.map (cI .u8)), .int .i64 r208.2.at_, .int .u64 r208.2.seed]]) ++ [(Blk.mk g132 false 4 (p125.1.map impl_Job.cells))]) ng209 (show R_spec_l1Cur_someJobs_l1 H0 id g released_ (p125.1, r208.2.code, r208.2.at_, r208.2.seed) [(0, .ptr id g 0 0), (1, .bool released_), (7, .os H0.length g132 4 0 p125.1.length), (60, .bool true)] (H0.set id (Blk.mk g false 3 [[.fs (r208.2.code.map (cI .u8)), .int .i64 r208.2.at_, .int .u64 r208.2.seed]]) ++ [(Blk.mk g132 false 4 (p125.1.map impl_Job.cells))]) from ⟨_, rfl, rfl, rfl, rfl⟩) (by simp)
          obtain ⟨rfl, g222, e223, e224⟩ := m216
          subst e224
          have hr_ := Option.some.inj hr; subst hr_
          refine ⟨.os H0.length g222 4 0 p215.1.length, [(Blk.mk g222 false 4 (p215.1.map impl_Job.cells))], ng220, ?_, ?_⟩
          · simp only [c_spec_l1Cur_someJobs, evA, evB, Int.reduceToNat, eq_self, reduceCtorEq, ↓reduceIte, Nat.reduceEqDiff, Nat.reduceAdd, Nat.reduceLT, Nat.reduceLeDiff, Nat.reduceMul, Nat.reduceSub, spec_l1Cur.cells, rz_spec_l1Cur, pr_spec_l1Cur, impl_Job.cells, rz_impl_Job, pr_impl_Job, spec_l2Search.cells, rz_spec_l2Search, pr_spec_l2Search, *]
          · skip
            have x225 : expC (hp (H0.set id (Blk.mk g false 3 [[.fs (p215.2.1.map (cI .u8)), .int .i64 p215.2.2.1, .int .u64 p215.2.2.2]]) ++ [(Blk.mk g222 false 4 (p215.1.map impl_Job.cells))])) H0.length expDepth (.os H0.length g222 4 0 p215.1.length) = some (.fs (p215.1.map impl_Job.cells)) := (exp_win (b := (Blk.mk g222 false 4 (p215.1.map impl_Job.cells))) (by simp) (by simp [hget, hp, hs_own0, hs_ownk, happ_get0, happ_getk]) (by simp) (pr_impl_Job _)).trans (by simp [take_map_len])
            simp [outR, outV, outVs, outC, outCs, x225]
        · rw [if_neg h214] at hr
          have e213 : r208.1 = false := Bool.eq_false_iff.2 h214
          clear h214
          have hr_ := Option.some.inj hr; subst hr_
          refine ⟨.os H0.length g132 4 0 p125.1.length, [(Blk.mk g132 false 4 (p125.1.map impl_Job.cells))], ng209, ?_, ?_⟩
          · simp only [c_spec_l1Cur_someJobs, evA, evB, Int.reduceToNat, eq_self, reduceCtorEq, ↓reduceIte, Nat.reduceEqDiff, Nat.reduceAdd, Nat.reduceLT, Nat.reduceLeDiff, Nat.reduceMul, Nat.reduceSub, spec_l1Cur.cells, rz_spec_l1Cur, pr_spec_l1Cur, impl_Job.cells, rz_impl_Job, pr_impl_Job, spec_l2Search.cells, rz_spec_l2Search, pr_spec_l2Search, *]
          · skip
            have x227 : expC (hp (H0.set id (Blk.mk g false 3 [[.fs (r208.2.code.map (cI .u8)), .int .i64 r208.2.at_, .int .u64 r208.2.seed]]) ++ [(Blk.mk g132 false 4 (p125.1.map impl_Job.cells))])) H0.length expDepth (.os H0.length g132 4 0 p125.1.length) = some (.fs (p125.1.map impl_Job.cells)) := (exp_win (b := (Blk.mk g132 false 4 (p125.1.map impl_Job.cells))) (by simp) (by simp [hget, hp, hs_own0, hs_ownk, happ_get0, happ_getk]) (by simp) (pr_impl_Job _)).trans (by simp [take_map_len])
            simp [outR, outV, outVs, outC, outCs, x227]
  · rw [if_neg h9] at hr
    have e8 : (6 < most_) = False := eq_false h9
    clear h9
    obtain ⟨p229, q332, hr⟩ := Option.bind_eq_some_iff.1 hr
    obtain ⟨ex235, T232, H233, ng234, l231, m230⟩ := lp_spec_l1Cur_someJobs_l0 (cl := cl) K_spec_l1Cur_one K_spec_l1Cur_pick K_spec_l1Cur_among K_spec_l1Cur_spoiltJob K_spec_l1Cur_job  released_ most_ H0 id g hid _ _ q332 [(0, .ptr id g 0 0), (1, .bool released_), (2, .int .i64 most_), (7, .os H0.length ng 4 0 0), (8, .int .i64 r1.1), (19, .bool false)] (H0.set id (Blk.mk g false 3 [[.fs (r1.2.code.map (cI .u8)), .int .i64 r1.2.at_, .int .u64 r1.2.seed]]) ++ [(Blk.mk ng false 4 [])]) ng2 (show R_spec_l1Cur_someJobs_l0 H0 id g released_ most_ (([] : List impl_Job), r1.2.code, r1.2.at_, r1.2.seed, r1.1) [(0, .ptr id g 0 0), (1, .bool released_), (2, .int .i64 most_), (7, .os H0.length ng 4 0 0), (8, .int .i64 r1.1), (19, .bool false)] (H0.set id (Blk.mk g false 3 [[.fs (r1.2.code.map (cI .u8)), .int .i64 r1.2.at_, .int .u64 r1.2.seed]]) ++ [(Blk.mk ng false 4 [])]) from ⟨_, rfl, rfl, rfl, rfl, rfl, rfl⟩) (by simp)
    obtain ⟨rfl, g236, e237, e238, e239, e240⟩ := m230
    subst e240
    by_cases h245 : 0 < ((p229.1.length : Nat) : Int)
    · rw [if_pos h245] at hr
      have e243 : (0 < ((p229.1.length : Nat) : Int)) = True := eq_true h245
      clear h245
      obtain ⟨r246, q249, hr⟩ := Option.bind_eq_some_iff.1 hr
      obtain ⟨ng247, e248⟩ : ∃ ng', gcall (shOf F) cl false n_spec_l1Cur_one [.ptr id g 0 0, .int .i64 20] (H0.set id (Blk.mk g false 3 [[.fs (p229.2.1.map (cI .u8)), .int .i64 p229.2.2.1, .int .u64 p229.2.2.2]]) ++ [(Blk.mk g236 false 4 (p229.1.map impl_Job.cells))]) ng234 = some (.bool r246.1, (H0.set id (Blk.mk g false 3 [[.fs (r246.2.code.map (cI .u8)), .int .i64 r246.2.at_, .int .u64 r246.2.seed]]) ++ [(Blk.mk g236 false 4 (p229.1.map impl_Job.cells))]), ng', .all) := call_curA s_spec_l1Cur_one (K_spec_l1Cur_one _ _ _ q249) H0 [(Blk.mk g236 false 4 (p229.1.map impl_Job.cells))] id g ng234 hid
      by_cases h252 : r246.1 = true
      · rw [if_pos h252] at hr
        have e250 : r246.1 = true := h252
        clear h252
        obtain ⟨r253, q256, hr⟩ := Option.bind_eq_some_iff.1 hr
        obtain ⟨ng254, e255⟩ : ∃ ng', gcall (shOf F) cl false n_spec_l1Cur_pick [.ptr id g 0 0, .int .i64 ((p229.1.length : Nat) : Int)] (H0.set id (Blk.mk g false 3 [[.fs (r246.2.code.map (cI .u8)), .int .i64 r246.2.at_, .int .u64 r246.2.seed]]) ++ [(Blk.mk g236 false 4 (p229.1.map impl_Job.cells))]) ng247 = some (.int .i64 r253.1, (H0.set id (Blk.mk g false 3 [[.fs (r253.2.code.map (cI .u8)), .int .i64 r253.2.at_, .int .u64 r253.2.seed]]) ++ [(Blk.mk g236 false 4 (p229.1.map impl_Job.cells))]), ng', .all) := call_curA s_spec_l1Cur_pick (K_spec_l1Cur_pick _ _ _ q256) H0 [(Blk.mk g236 false 4 (p229.1.map impl_Job.cells))] id g ng247 hid
        obtain ⟨y257, q261, hr⟩ := Option.bind_eq_some_iff.1 hr
        obtain ⟨e258, e259, e260⟩ := ix_some q261
        try simp only [Int.toNat_natCast, Int.toNat_zero, Int.reduceToNat] at e259
        clear q261
        obtain ⟨r262, q265, hr⟩ := Option.bind_eq_some_iff.1 hr
        obtain ⟨ng263, e264⟩ : ∃ ng', gcall (shOf F) cl false n_spec_l1Cur_spoiltJob [.ptr id g 0 0, .agg [.int .i64 y257.Time, .int .i64 y257.Weight, .int .i64 y257.Release, .int .i64 y257.Due]] (H0.set id (Blk.mk g false 3 [[.fs (r253.2.code.map (cI .u8)), .int .i64 r253.2.at_, .int .u64 r253.2.seed]]) ++ [(Blk.mk g236 false 4 (p229.1.map impl_Job.cells))]) ng254 = some (.agg [.int .i64 r262.1.Time, .int .i64 r262.1.Weight, .int .i64 r262.1.Release, .int .i64 r262.1.Due], (H0.set id (Blk.mk g false 3 [[.fs (r262.2.code.map (cI .u8)), .int .i64 r262.2.at_, .int .u64 r262.2.seed]]) ++ [(Blk.mk g236 false 4 (p229.1.map impl_Job.cells))]), ng', .all) := call_curA s_spec_l1Cur_spoiltJob (K_spec_l1Cur_spoiltJob _ _ _ q265) H0 [(Blk.mk g236 false 4 (p229.1.map impl_Job.cells))] id g ng254 hid
        obtain ⟨l266, q271, hr⟩ := Option.bind_eq_some_iff.1 hr
        obtain ⟨_, _, e267, e268, _⟩ := put_some q271
        try simp only [Int.toNat_natCast, Int.toNat_zero, Int.reduceToNat] at e267
        have e269 : (p229.1.map impl_Job.cells).set (Int.toNat r253.1) [.int .i64 r262.1.Time, .int .i64 r262.1.Weight, .int .i64 r262.1.Release, .int .i64 r262.1.Due] = l266.map impl_Job.cells := by rw [← e267, List.map_set] <;> rfl
        replace e268 : Keep (p229.1.length = l266.length) := e268
        clear e267 q271
        obtain ⟨r272, q275, hr⟩ := Option.bind_eq_some_iff.1 hr
        obtain ⟨ng273, e274⟩ : ∃ ng', gcall (shOf F) cl false n_spec_l1Cur_one [.ptr id g 0 0, .int .i64 60] (H0.set id (Blk.mk g false 3 [[.fs (r262.2.code.map (cI .u8)), .int .i64 r262.2.at_, .int .u64 r262.2.seed]]) ++ [(Blk.mk g236 false 4 (l266.map impl_Job.cells))]) ng263 = some (.bool r272.1, (H0.set id (Blk.mk g false 3 [[.fs (r272.2.code.map (cI .u8)), .int .i64 r272.2.at_, .int .u64 r272.2.seed]]) ++ [(Blk.mk g236 false 4 (l266.map impl_Job.cells))]), ng', .all) := call_curA s_spec_l1Cur_one (K_spec_l1Cur_one _ _ _ q275) H0 [(Blk.mk g236 false 4 (l266.map impl_Job.cells))] id g ng263 hid
        by_cases h278 : r272.1 = true
        · rw [if_pos h278] at hr
          have e276 : r272.1 = true := h278
          clear h278
          obtain ⟨p279, q290, hr⟩ := Option.bind_eq_some_iff.1 hr
          obtain ⟨ex285, T282, H283, ng284, l281, m280⟩ := lp_spec_l1Cur_someJobs_l1 (cl := cl) K_spec_l1Cur_one K_spec_l1Cur_pick K_spec_l1Cur_among K_spec_l1Cur_spoiltJob K_spec_l1Cur_job  released_ H0 id g hid _ _ q290 [(0, .ptr id g 0 0), (1, .bool released_), (7, .os H0.length g236 4 0 p229.1.length), (60, .bool true)] (H0.set id (Blk.mk g false 3 [[.fs (r272.2.code.map (cI .u8)), .int .i64 r272.2.at_, .int .u64 r272.2.seed]]) ++ [(Blk.mk g236 false 4 (l266.map impl_Job.cells))]) ng273 (show R_spec_l1Cur_someJobs_l1 H0 id g released_ (l266, r272.2.code, r272.2.at_, r272.2.seed) [(0, .ptr id g 0 0), (1, .bool released_), (7, .os H0.length g236 4 0 p229.1.length), (60, .bool true)] (H0.set id (Blk.mk g false 3 [[.fs (r272.2.code.map (cI .u8)), .int .i64 r272.2.at_, .int .u64 r272.2.seed]]) ++ [(Blk.mk g236 false 4 (l266.map impl_Job.cells))]) from ⟨_, rfl, rfl, (congrArg (fun n_ => V.os H0.length g236 4 0 n_) e268), rfl⟩) (by simp)
          obtain ⟨rfl, g286, e287, e288⟩ := m280
          subst e288
          have hr_ := Option.some.inj hr; subst hr_
          refine ⟨.os H0.length g286 4 0 p279.1.length, [(Blk.mk g286 false 4 (p279.1.map impl_Job.cells))], ng284, ?_, ?_⟩
          · simp only [c_spec_l1Cur_someJobs, evA, evB, Int.reduceToNat, eq_self, reduceCtorEq, ↓reduceIte, Nat.reduceEqDiff, Nat.reduceAdd, Nat.reduceLT, Nat.reduceLeDiff, Nat.reduceMul, Nat.reduceSub, spec_l1Cur.cells, rz_spec_l1Cur, pr_spec_l1Cur, impl_Job.cells, rz_impl_Job, pr_impl_Job, spec_l2Search.cells, rz_spec_l2Search, pr_spec_l2Search, *]
          · skip
            have x289 : expC (hp (H0.set id (Blk.mk g false 3 [[.fs (p279.2.1.map (cI .u8)), .int .i64 p279.2.2.1, .int .u64 p279.2.2.2]]) ++ [(Blk.mk g286 false 4 (p279.1.map impl_Job.cells))])) H0.length expDepth (.os H0.length g286 4 0 p279.1.length) = some (.fs (p279.1.map impl_Job.cells)) := (exp_win (b := (Blk.mk g286 false 4 (p279.1.map impl_Job.cells))) (by simp) (by simp [hget, hp, hs_own0, hs_ownk, happ_get0, happ_getk]) (by simp) (pr_impl_Job _)).trans (by simp [take_map_len])
            simp [outR, outV, outVs, outC, outCs, x289]
        · rw [if_neg h278] at hr
          have e277 : r272.1 = false := Bool.eq_false_iff.2 h278
          clear h278
          have hr_ := Option.some.inj hr; subst hr_
          refine ⟨.os H0.length g236 4 0 p229.1.length, [(Blk.mk g236 false 4 (l266.map impl_Job.cells))], ng273, ?_, ?_⟩
          · simp only [c_spec_l1Cur_someJobs, evA, evB, Int.reduceToNat, eq_self, reduceCtorEq, ↓reduceIte, Nat.reduceEqDiff, Nat.reduceAdd, Nat.reduceLT, Nat.reduceLeDiff, Nat.reduceMul, Nat.reduceSub, spec_l1Cur.cells, rz_spec_l1Cur, pr_spec_l1Cur, impl_Job.cells, rz_impl_Job, pr_impl_Job, spec_l2Search.cells, rz_spec_l2Search, pr_spec_l2Search, *]
          · skip
            have x291 : expC (hp (H0.set id (Blk.mk g false 3 [[.fs (r272.2.code.map (cI .u8)), .int .i64 r272.2.at_, .int .u64 r272.2.seed]]) ++ [(Blk.mk g236 false 4 (l266.map impl_Job.cells))])) H0.length expDepth (.os H0.length g236 4 0 p229.1.length) = some (.fs (l266.map impl_Job.cells)) := (exp_win (b := (Blk.mk g236 false 4 (l266.map impl_Job.cells))) (by simp) (by simp [hget, hp, hs_own0, hs_ownk, happ_get0, happ_getk]) (by rw [show p229.1.length = _ from e268]; simp) (pr_impl_Job _)).trans (by rw [show p229.1.length = _ from e268]; simp [take_map_len])
            simp [outR, outV, outVs, outC, outCs, x291]
      · rw [if_neg h252] at hr
        have e251 : r246.1 = false := Bool.eq_false_iff.2 h252
        clear h252
        obtain ⟨r292, q295, hr⟩ := Option.bind_eq_some_iff.1 hr
        obtain ⟨ng293, e294⟩ : ∃ ng', gcall (shOf F) cl false n_spec_l1Cur_one [.ptr id g 0 0, .int .i64 60] (H0.set id (Blk.mk g false 3 [[.fs (r246.2.code.map (cI .u8)), .int .i64 r246.2.at_, .int .u64 r246.2.seed]]) ++ [(Blk.mk g236 false 4 (p229.1.map impl_Job.cells))]) ng247 = some (.bool r292.1, (H0.set id (Blk.mk g false 3 [[.fs (r292.2.code.map (cI .u8)), .int .i64 r292.2.at_, .int .u64 r292.2.seed]]) ++ [(Blk.mk g236 false 4 (p229.1.map impl_Job.cells))]), ng', .all) := call_curA s_spec_l1Cur_one (K_spec_l1Cur_one _ _ _ q295) H0 [(Blk.mk g236 false 4 (p229.1.map impl_Job.cells))] id g ng247 hid
        by_cases h298 : r292.1 = true
        · rw [if_pos h298] at hr
          have e296 : r292.1 = true := h298
          clear h298
          obtain ⟨p299, q310, hr⟩ := Option.bind_eq_some_iff.1 hr
          obtain ⟨ex305, T302, H303, ng304, l301, m300⟩ := lp_spec_l1Cur_someJobs_l1 (cl := cl) K_spec_l1Cur_one K_spec_l1Cur_pick K_spec_l1Cur_among K_spec_l1Cur_spoiltJob K_spec_l1Cur_job  released_ H0 id g hid _ _ q310 [(0, .ptr id g 0 0), (1, .bool released_), (7, .os H0.length g236 4 0 p229.1.length), (60, .bool true)] (H0.set id (Blk.mk g false 3 [[.fs (r292.2.code.map (cI .u8)), .int .i64 r292.2.at_, .int .u64 r292.2.seed]]) ++ [(Blk.mk g236 false 4 (p229.1.map impl_Job.cells))]) ng293 (show R_spec_l1Cur_someJobs_l1 H0 id g released_ (p229.1, r292.2.code, r292.2.at_, r292.2.seed) [(0, .ptr id g 0 0), (1, .bool released_), (7, .os H0.length g236 4 0 p229.1.length), (60, .bool true)] (H0.set id (Blk.mk g false 3 [[.fs (r292.2.code.map (cI .u8)), .int .i64 r292.2.at_, .int .u64 r292.2.seed]]) ++ [(Blk.mk g236 false 4 (p229.1.map impl_Job.cells))]) from ⟨_, rfl, rfl, rfl, rfl⟩) (by simp)
          obtain ⟨rfl, g306, e307, e308⟩ := m300
          subst e308
          have hr_ := Option.some.inj hr; subst hr_
          refine ⟨.os H0.length g306 4 0 p299.1.length, [(Blk.mk g306 false 4 (p299.1.map impl_Job.cells))], ng304, ?_, ?_⟩
          · simp only [c_spec_l1Cur_someJobs, evA, evB, Int.reduceToNat, eq_self, reduceCtorEq, ↓reduceIte, Nat.reduceEqDiff, Nat.reduceAdd, Nat.reduceLT, Nat.reduceLeDiff, Nat.reduceMul, Nat.reduceSub, spec_l1Cur.cells, rz_spec_l1Cur, pr_spec_l1Cur, impl_Job.cells, rz_impl_Job, pr_impl_Job, spec_l2Search.cells, rz_spec_l2Search, pr_spec_l2Search, *]
          · skip
            have x309 : expC (hp (H0.set id (Blk.mk g false 3 [[.fs (p299.2.1.map (cI .u8)), .int .i64 p299.2.2.1, .int .u64 p299.2.2.2]]) ++ [(Blk.mk g306 false 4 (p299.1.map impl_Job.cells))])) H0.length expDepth (.os H0.length g306 4 0 p299.1.length) = some (.fs (p299.1.map impl_Job.cells)) := (exp_win (b := (Blk.mk g306 false 4 (p299.1.map impl_Job.cells))) (by simp) (by simp [hget, hp, hs_own0, hs_ownk, happ_get0, happ_getk]) (by simp) (pr_impl_Job _)).trans (by simp [take_map_len])
            simp [outR, outV, outVs, outC, outCs, x309]
        · rw [if_neg h298] at hr
          have e297 : r292.1 = false := Bool.eq_false_iff.2 h298
          clear h298
          have hr_ := Option.some.inj hr; subst hr_
          refine ⟨.os H0.length g236 4 0 p229.1.length, [(Blk.mk g236 false 4 (p229.1.map impl_Job.cells))], ng293, ?_, ?_⟩
          · simp only [c_spec_l1Cur_someJobs, evA, evB, Int.reduceToNat, eq_self, reduceCtorEq, ↓reduceIte, Nat.reduceEqDiff, Nat.reduceAdd, Nat.reduceLT, Nat.reduceLeDiff, Nat.reduceMul, Nat.reduceSub, spec_l1Cur.cells, rz_spec_l1Cur, pr_spec_l1Cur, impl_Job.cells, rz_impl_Job, pr_impl_Job, spec_l2Search.cells, rz_spec_l2Search, pr_spec_l2Search, *]
          · skip
            have x311 : expC (hp (H0.set id (Blk.mk g false 3 [[.fs (r292.2.code.map (cI .u8)), .int .i64 r292.2.at_, .int .u64 r292.2.seed]]) ++ [(Blk.mk g236 false 4 (p229.1.map impl_Job.cells))])) H0.length expDepth (.os H0.length g236 4 0 p229.1.length) = some (.fs (p229.1.map impl_Job.cells)) := (exp_win (b := (Blk.mk g236 false 4 (p229.1.map impl_Job.cells))) (by simp) (by simp [hget, hp, hs_own0, hs_ownk, happ_get0, happ_getk]) (by simp) (pr_impl_Job _)).trans (by simp [take_map_len])
            simp [outR, outV, outVs, outC, outCs, x311]
    · rw [if_neg h245] at hr
      have e244 : (0 < ((p229.1.length : Nat) : Int)) = False := eq_false h245
      clear h245
      obtain ⟨r312, q315, hr⟩ := Option.bind_eq_some_iff.1 hr
      obtain ⟨ng313, e314⟩ : ∃ ng', gcall (shOf F) cl false n_spec_l1Cur_one [.ptr id g 0 0, .int .i64 60] (H0.set id (Blk.mk g false 3 [[.fs (p229.2.1.map (cI .u8)), .int .i64 p229.2.2.1, .int .u64 p229.2.2.2]]) ++ [(Blk.mk g236 false 4 (p229.1.map impl_Job.cells))]) ng234 = some (.bool r312.1, (H0.set id (Blk.mk g false 3 [[.fs (r312.2.code.map (cI .u8)), .int .i64 r312.2.at_, .int .u64 r312.2.seed]]) ++ [(Blk.mk g236 false 4 (p229.1.map impl_Job.cells))]), ng', .all) := call_curA s_spec_l1Cur_one (K_spec_l1Cur_one _ _ _ q315) H0 [(Blk.mk g236 false 4 (p229.1.map impl_Job.cells))] id g ng234 hid
      by_cases h318 : r312.1 = true
      · rw [if_pos h318] at hr
        have e316 : r312.1 = true := h318
        clear h318
        obtain ⟨p319, q330, hr⟩ := Option.bind_eq_some_iff.1 hr
        obtain ⟨ex325, T322, H323, ng324, l321, m320⟩ := lp_spec_l1Cur_someJobs_l1 (cl := cl) K_spec_l1Cur_one K_spec_l1Cur_pick K_spec_l1Cur_among K_spec_l1Cur_spoiltJob K_spec_l1Cur_job  released_ H0 id g hid _ _ q330 [(0, .ptr id g 0 0), (1, .bool released_), (7, .os H0.length g236 4 0 p229.1.length), (60, .bool true)] (H0.set id (Blk.mk g false 3 [[.fs (r312.2.code.map (cI .u8)), .int .i64 r312.2.at_, .int .u64 r312.2.seed]]) ++ [(Blk.mk g236 false 4 (p229.1.map impl_Job.cells))]) ng313 (show R_spec_l1Cur_someJobs_l1 H0 id g released_ (p229.1, r312.2.code, r312.2.at_, r312.2.seed) [(0, .ptr id g 0 0), (1, .bool released_), (7, .os H0.length g236 4 0 p229.1.length), (60, .bool true)] (H0.set id (Blk.mk g false 3 [[.fs (r312.2.code.map (cI .u8)), .int .i64 r312.2.at_, .int .u64 r312.2.seed]]) ++ [(Blk.mk g236 false 4 (p229.1.map impl_Job.cells))]) from ⟨_, rfl, rfl, rfl, rfl⟩) (by simp)
        obtain ⟨rfl, g326, e327, e328⟩ := m320
        subst e328
        have hr_ := Option.some.inj hr; subst hr_
        refine ⟨.os H0.length g326 4 0 p319.1.length, [(Blk.mk g326 false 4 (p319.1.map impl_Job.cells))], ng324, ?_, ?_⟩
        · simp only [c_spec_l1Cur_someJobs, evA, evB, Int.reduceToNat, eq_self, reduceCtorEq, ↓reduceIte, Nat.reduceEqDiff, Nat.reduceAdd, Nat.reduceLT, Nat.reduceLeDiff, Nat.reduceMul, Nat.reduceSub, spec_l1Cur.cells, rz_spec_l1Cur, pr_spec_l1Cur, impl_Job.cells, rz_impl_Job, pr_impl_Job, spec_l2Search.cells, rz_spec_l2Search, pr_spec_l2Search, *]
        · skip
          have x329 : expC (hp (H0.set id (Blk.mk g false 3 [[.fs (p319.2.1.map (cI .u8)), .int .i64 p319.2.2.1, .int .u64 p319.2.2.2]]) ++ [(Blk.mk g326 false 4 (p319.1.map impl_Job.cells))])) H0.length expDepth (.os H0.length g326 4 0 p319.1.length) = some (.fs (p319.1.map impl_Job.cells)) := (exp_win (b := (Blk.mk g326 false 4 (p319.1.map impl_Job.cells))) (by simp) (by simp [hget, hp, hs_own0, hs_ownk, happ_get0, happ_getk]) (by simp) (pr_impl_Job _)).trans (by simp [take_map_len])
          simp [outR, outV, outVs, outC, outCs, x329]
      · rw [if_neg h318] at hr
        have e317 : r312.1 = false := Bool.eq_false_iff.2 h318
        clear h318
        have hr_ := Option.some.inj hr; subst hr_
        refine ⟨.os H0.length g236 4 0 p229.1.length, [(Blk.mk g236 false 4 (p229.1.map impl_Job.cells))], ng313, ?_, ?_⟩
        · simp only [c_spec_l1Cur_someJobs, evA, evB, Int.reduceToNat, eq_self, reduceCtorEq, ↓reduceIte, Nat.reduceEqDiff, Nat.reduceAdd, Nat.reduceLT, Nat.reduceLeDiff, Nat.reduceMul, Nat.reduceSub, spec_l1Cur.cells, rz_spec_l1Cur, pr_spec_l1Cur, impl_Job.cells, rz_impl_Job, pr_impl_Job, spec_l2Search.cells, rz_spec_l2Search, pr_spec_l2Search, *]
        · skip
          have x331 : expC (hp (H0.set id (Blk.mk g false 3 [[.fs (r312.2.code.map (cI .u8)), .int .i64 r312.2.at_, .int .u64 r312.2.seed]]) ++ [(Blk.mk g236 false 4 (p229.1.map impl_Job.cells))])) H0.length expDepth (.os H0.length g236 4 0 p229.1.length) = some (.fs (p229.1.map impl_Job.cells)) := (exp_win (b := (Blk.mk g236 false 4 (p229.1.map impl_Job.cells))) (by simp) (by simp [hget, hp, hs_own0, hs_ownk, happ_get0, happ_getk]) (by simp) (pr_impl_Job _)).trans (by simp [take_map_len])
          simp [outR, outV, outVs, outC, outCs, x331]

theorem ok_spec_l1Cur_plainJobs {cl : Callee} (K_spec_l1Cur_one : K_spec_l1Cur_one x_spec_l1Cur_one (cl n_spec_l1Cur_one)) (K_spec_l1Cur_someJobs : K_spec_l1Cur_someJobs x_spec_l1Cur_someJobs (cl n_spec_l1Cur_someJobs)) : K_spec_l1Cur_plainJobs (x_spec_l1Cur_plainJobs) (gbody F LL cl c_spec_l1Cur_plainJobs) := by
  intro c_ most_ r hr
  intro H0 id g ng hid
  have w1_ : ∀ b, (H0.set id b)[id]? = some b := fun b => hs_get b hid
  have w2_ : ∀ b B, (H0.set id b ++ B)[id]? = some b := fun b B => hs_getA b hid
  have w3_ : ∀ a b B, (H0.set id a ++ B).set id b = H0.set id b ++ B := fun a b B => hs_setA a b hid
  unfold x_spec_l1Cur_plainJobs at hr
  try dsimp only at hr
  obtain ⟨r1, q4, hr⟩ := Option.bind_eq_some_iff.1 hr
  obtain ⟨ng2, e3⟩ : ∃ ng', gcall (shOf F) cl false n_spec_l1Cur_one [.ptr id g 0 0, .int .i64 16] (H0.set id (Blk.mk g false 3 [[.fs (c_.code.map (cI .u8)), .int .i64 c_.at_, .int .u64 c_.seed]])) ng = some (.bool r1.1, (H0.set id (Blk.mk g false 3 [[.fs (r1.2.code.map (cI .u8)), .int .i64 r1.2.at_, .int .u64 r1.2.seed]])), ng', .all) := call_cur s_spec_l1Cur_one (K_spec_l1Cur_one _ _ _ q4) H0 id g ng hid
  obtain ⟨r5, q8, hr⟩ := Option.bind_eq_some_iff.1 hr
  obtain ⟨ng6, e7⟩ : ∃ ng', gcall (shOf F) cl false n_spec_l1Cur_someJobs [.ptr id g 0 0, .bool r1.1, .int .i64 most_] (H0.set id (Blk.mk g false 3 [[.fs (r1.2.code.map (cI .u8)), .int .i64 r1.2.at_, .int .u64 r1.2.seed]])) ng2 = some (.fs (r5.1.map impl_Job.cells), (H0.set id (Blk.mk g false 3 [[.fs (r5.2.code.map (cI .u8)), .int .i64 r5.2.at_, .int .u64 r5.2.seed]])), ng', .all) := call_cur s_spec_l1Cur_someJobs (K_spec_l1Cur_someJobs _ _ _ _ q8) H0 id g ng2 hid
  have hr_ := Option.some.inj hr; subst hr_
  refine ⟨.fs (r5.1.map impl_Job.cells), [], ng6, ?_, ?_⟩
  · simp only [c_spec_l1Cur_plainJobs, evA, evB, Int.reduceToNat, eq_self, reduceCtorEq, ↓reduceIte, Nat.reduceEqDiff, Nat.reduceAdd, Nat.reduceLT, Nat.reduceLeDiff, Nat.reduceMul, Nat.reduceSub, spec_l1Cur.cells, rz_spec_l1Cur, pr_spec_l1Cur, impl_Job.cells, rz_impl_Job, pr_impl_Job, spec_l2Search.cells, rz_spec_l2Search, pr_spec_l2Search, *]
  · exact outR_flat rfl

theorem ok_spec_l1In {cl : Callee} : K_spec_l1In (x_spec_l1In) (gbody F LL cl c_spec_l1In) := by
  intro x_ a_ b_ r hr
  unfold x_spec_l1In at hr
  try dsimp only at hr
  by_cases h5 : a_ ≤ x_
  · rw [if_pos h5] at hr
    have e3 : (a_ ≤ x_) = True := eq_true h5
    clear h5
    have hr_ := Option.some.inj hr; subst hr_
    refine RetF.scal (by
      simp only [c_spec_l1In, evA, evB, Int.reduceToNat, eq_self, reduceCtorEq, ↓reduceIte, Nat.reduceEqDiff, Nat.reduceAdd, Nat.reduceLT, Nat.reduceLeDiff, Nat.reduceMul, Nat.reduceSub, spec_l1Cur.cells, rz_spec_l1Cur, pr_spec_l1Cur, impl_Job.cells, rz_impl_Job, pr_impl_Job, spec_l2Search.cells, rz_spec_l2Search, pr_spec_l2Search, *]
      rfl) rfl rfl
  · rw [if_neg h5] at hr
    have e4 : (a_ ≤ x_) = False := eq_false h5
    clear h5
    have hr_ := Option.some.inj hr; subst hr_
    refine RetF.scal (by
      simp only [c_spec_l1In, evA, evB, Int.reduceToNat, eq_self, reduceCtorEq, ↓reduceIte, Nat.reduceEqDiff, Nat.reduceAdd, Nat.reduceLT, Nat.reduceLeDiff, Nat.reduceMul, Nat.reduceSub, spec_l1Cur.cells, rz_spec_l1Cur, pr_spec_l1Cur, impl_Job.cells, rz_impl_Job, pr_impl_Job, spec_l2Search.cells, rz_spec_l2Search, pr_spec_l2Search, *]
      rfl) rfl rfl

theorem ok_spec_l2Job {cl : Callee} (K_spec_l1In : K_spec_l1In x_spec_l1In (cl n_spec_l1In)) : K_spec_l2Job (x_spec_l2Job) (gbody F LL cl c_spec_l2Job) := by
  intro j_ r hr
  unfold x_spec_l2Job at hr
  try dsimp only at hr
  obtain ⟨r1, q3, hr⟩ := Option.bind_eq_some_iff.1 hr
  have e2 : ∀ H ng, gcall (shOf F) cl false n_spec_l1In [.int .i64 j_.Time, .int .i64 1, .int .i64 50] H ng = some (.bool r1, H, ng, .inert) := fun H ng => call_far s_spec_l1In rfl (K_spec_l1In _ _ _ _ q3).ret
  by_cases h6 : r1 = true
  · rw [if_pos h6] at hr
    have e4 : r1 = true := h6
    clear h6
    obtain ⟨r7, q9, hr⟩ := Option.bind_eq_some_iff.1 hr
    have e8 : ∀ H ng, gcall (shOf F) cl false n_spec_l1In [.int .i64 j_.Weight, .int .i64 0, .int .i64 50] H ng = some (.bool r7, H, ng, .inert) := fun H ng => call_far s_spec_l1In rfl (K_spec_l1In _ _ _ _ q9).ret
    by_cases h12 : r7 = true
    · rw [if_pos h12] at hr
      have e10 : r7 = true := h12
      clear h12
      obtain ⟨r13, q15, hr⟩ := Option.bind_eq_some_iff.1 hr
      have e14 : ∀ H ng, gcall (shOf F) cl false n_spec_l1In [.int .i64 j_.Release, .int .i64 0, .int .i64 500] H ng = some (.bool r13, H, ng, .inert) := fun H ng => call_far s_spec_l1In rfl (K_spec_l1In _ _ _ _ q15).ret
      by_cases h18 : r13 = true
      · rw [if_pos h18] at hr
        have e16 : r13 = true := h18
        clear h18
        obtain ⟨r19, q21, hr⟩ := Option.bind_eq_some_iff.1 hr
        have e20 : ∀ H ng, gcall (shOf F) cl false n_spec_l1In [.int .i64 j_.Due, .int .i64 0, .int .i64 500] H ng = some (.bool r19, H, ng, .inert) := fun H ng => call_far s_spec_l1In rfl (K_spec_l1In _ _ _ _ q21).ret
        have hr_ := Option.some.inj hr; subst hr_
        refine RetF.scal (by
          simp only [c_spec_l2Job, evA, evB, Int.reduceToNat, eq_self, reduceCtorEq, ↓reduceIte, Nat.reduceEqDiff, Nat.reduceAdd, Nat.reduceLT, Nat.reduceLeDiff, Nat.reduceMul, Nat.reduceSub, spec_l1Cur.cells, rz_spec_l1Cur, pr_spec_l1Cur, impl_Job.cells, rz_impl_Job, pr_impl_Job, spec_l2Search.cells, rz_spec_l2Search, pr_spec_l2Search, *]
          rfl) rfl rfl
      · rw [if_neg h18] at hr
        have e17 : r13 = false := Bool.eq_false_iff.2 h18
        clear h18
        have hr_ := Option.some.inj hr; subst hr_
        refine RetF.scal (by
          simp only [c_spec_l2Job, evA, evB, Int.reduceToNat, eq_self, reduceCtorEq, ↓reduceIte, Nat.reduceEqDiff, Nat.reduceAdd, Nat.reduceLT, Nat.reduceLeDiff, Nat.reduceMul, Nat.reduceSub, spec_l1Cur.cells, rz_spec_l1Cur, pr_spec_l1Cur, impl_Job.cells, rz_impl_Job, pr_impl_Job, spec_l2Search.cells, rz_spec_l2Search, pr_spec_l2Search, *]
          rfl) rfl rfl
    · rw [if_neg h12] at hr
      have e11 : r7 = false := Bool.eq_false_iff.2 h12
      clear h12
      have hr_ := Option.some.inj hr; subst hr_
      refine RetF.scal (by
        simp only [c_spec_l2Job, evA, evB, Int.reduceToNat, eq_self, reduceCtorEq, ↓reduceIte, Nat.reduceEqDiff, Nat.reduceAdd, Nat.reduceLT, Nat.reduceLeDiff, Nat.reduceMul, Nat.reduceSub, spec_l1Cur.cells, rz_spec_l1Cur, pr_spec_l1Cur, impl_Job.cells, rz_impl_Job, pr_impl_Job, spec_l2Search.cells, rz_spec_l2Search, pr_spec_l2Search, *]
        rfl) rfl rfl
  · rw [if_neg h6] at hr
    have e5 : r1 = false := Bool.eq_false_iff.2 h6
    clear h6
    have hr_ := Option.some.inj hr; subst hr_
    refine RetF.scal (by
      simp only [c_spec_l2Job, evA, evB, Int.reduceToNat, eq_self, reduceCtorEq, ↓reduceIte, Nat.reduceEqDiff, Nat.reduceAdd, Nat.reduceLT, Nat.reduceLeDiff, Nat.reduceMul, Nat.reduceSub, spec_l1Cur.cells, rz_spec_l1Cur, pr_spec_l1Cur, impl_Job.cells, rz_impl_Job, pr_impl_Job, spec_l2Search.cells, rz_spec_l2Search, pr_spec_l2Search, *]
      rfl) rfl rfl

theorem st_spec_l2Good_l0 {cl : Callee} (K_spec_l2Job : K_spec_l2Job x_spec_l2Job (cl n_spec_l2Job)) (jobs_ : (List impl_Job)) (st_ : (Int)) (c_ : Ctl (Int) (Unit ⊕ (Bool))) (hr : x_spec_l2Good_l0 jobs_ st_ = some c_) (T_ : Tm) (H_ : List Blk) (ng : Nat) (hR_ : R_spec_l2Good_l0 jobs_ st_ T_ H_) :
    ∃ e_ T1_ H1_ ng1_, gcode (shOf F) cl LL c_spec_l2Good_l0 ⟨maskT (some [0, 3]) T_, H_, ng⟩ = some (e_, ⟨T1_, H1_, ng1_⟩) ∧ TurnOK (R_spec_l2Good_l0 jobs_) (Q_spec_l2Good_l0 jobs_) 0 c_ e_ T1_ H1_ := by
  obtain ⟨i_, hst_⟩ : ∃ x, x = st_ := ⟨_, rfl⟩; subst hst_
  obtain ⟨f0_, f1_, rfl⟩ := hR_
  unfold x_spec_l2Good_l0 at hr
  try dsimp only at hr
  by_cases h5 : i_ < (jobs_.length : Int)
  · rw [if_pos h5] at hr
    have e3 : (i_ < (jobs_.length : Int)) = True := eq_true h5
    clear h5
    obtain ⟨y6, q10, hr⟩ := Option.bind_eq_some_iff.1 hr
    obtain ⟨e7, e8, e9⟩ := ix_some q10
    try simp only [Int.toNat_natCast, Int.toNat_zero, Int.reduceToNat] at e8
    clear q10
    obtain ⟨r11, q13, hr⟩ := Option.bind_eq_some_iff.1 hr
    have e12 : ∀ H ng, gcall (shOf F) cl false n_spec_l2Job [.agg [.int .i64 y6.Time, .int .i64 y6.Weight, .int .i64 y6.Release, .int .i64 y6.Due]] H ng = some (.bool r11, H, ng, .inert) := fun H ng => call_far s_spec_l2Job rfl (K_spec_l2Job _ _ q13).ret
    by_cases h16 : r11 = true
    · rw [if_pos h16] at hr
      have e14 : r11 = true := h16
      clear h16
      have hr_ := Option.some.inj hr; subst hr_
      refine turn (by
        simp only [c_spec_l2Good_l0, evA, evB, Int.reduceToNat, eq_self, reduceCtorEq, ↓reduceIte, Nat.reduceEqDiff, Nat.reduceAdd, Nat.reduceLT, Nat.reduceLeDiff, Nat.reduceMul, Nat.reduceSub, spec_l1Cur.cells, rz_spec_l1Cur, pr_spec_l1Cur, impl_Job.cells, rz_impl_Job, pr_impl_Job, spec_l2Search.cells, rz_spec_l2Search, pr_spec_l2Search, *]
        rfl) ?_
      exact ⟨rfl, rfl, rfl, rfl⟩
    · rw [if_neg h16] at hr
      have e15 : r11 = false := Bool.eq_false_iff.2 h16
      clear h16
      have hr_ := Option.some.inj hr; subst hr_
      refine turn (by
        simp only [c_spec_l2Good_l0, evA, evB, Int.reduceToNat, eq_self, reduceCtorEq, ↓reduceIte, Nat.reduceEqDiff, Nat.reduceAdd, Nat.reduceLT, Nat.reduceLeDiff, Nat.reduceMul, Nat.reduceSub, spec_l1Cur.cells, rz_spec_l1Cur, pr_spec_l1Cur, impl_Job.cells, rz_impl_Job, pr_impl_Job, spec_l2Search.cells, rz_spec_l2Search, pr_spec_l2Search, *]
        rfl) ?_
      exact ⟨by simp, rfl, rfl⟩
  · rw [if_neg h5] at hr
    have e4 : (i_ < (jobs_.length : Int)) = False := eq_false h5
    clear h5
    have hr_ := Option.some.inj hr; subst hr_
    refine turn (by
      simp only [c_spec_l2Good_l0, evA, evB, Int.reduceToNat, eq_self, reduceCtorEq, ↓reduceIte, Nat.reduceEqDiff, Nat.reduceAdd, Nat.reduceLT, Nat.reduceLeDiff, Nat.reduceMul, Nat.reduceSub, spec_l1Cur.cells, rz_spec_l1Cur, pr_spec_l1Cur, impl_Job.cells, rz_impl_Job, pr_impl_Job, spec_l2Search.cells, rz_spec_l2Search, pr_spec_l2Search, *]
      rfl) ?_
    exact ⟨by simp, rfl, rfl, rfl⟩

theorem lp_spec_l2Good_l0 {cl : Callee} (K_spec_l2Job : K_spec_l2Job x_spec_l2Job (cl n_spec_l2Job)) (jobs_ : (List impl_Job)) (st_ : (Int)) (p_ : (Unit ⊕ (Bool))) (hr : loopS (x_spec_l2Good_l0 jobs_) LL st_ = some p_) (T_ : Tm) (H_ : List Blk) (ng : Nat) (hR_ : R_spec_l2Good_l0 jobs_ st_ T_ H_) (hn_ : H_.length = 0) :
    ∃ e_ T1_ H1_ ng1_, gcode (shOf F) cl LL (.loop false (some [0, 3]) c_spec_l2Good_l0) ⟨T_, H_, ng⟩ = some (e_, ⟨T1_, H1_, ng1_⟩) ∧ Q_spec_l2Good_l0 jobs_ p_ e_ T1_ H1_ :=
  sim_loop (n0 := 0) (R_spec_l2Good_l0 jobs_) (Q_spec_l2Good_l0 jobs_) (st_spec_l2Good_l0 K_spec_l2Job jobs_) st_ p_ hr T_ H_ ng hR_ hn_

theorem ok_spec_l2Good {cl : Callee} (K_spec_l2Job : K_spec_l2Job x_spec_l2Job (cl n_spec_l2Job)) : K_spec_l2Good (x_spec_l2Good) (gbody F LL cl c_spec_l2Good) := by
  intro jobs_ r hr
  unfold x_spec_l2Good at hr
  try dsimp only at hr
  obtain ⟨p1, q11, hr⟩ := Option.bind_eq_some_iff.1 hr
  obtain ⟨ex7, T4, H5, ng6, l3, m2⟩ := lp_spec_l2Good_l0 (cl := cl) K_spec_l2Job  jobs_ _ _ q11 [(0, .fs (jobs_.map impl_Job.cells)), (3, .int .i64 0)] [] 0 (show R_spec_l2Good_l0 jobs_ 0 [(0, .fs (jobs_.map impl_Job.cells)), (3, .int .i64 0)] [] from ⟨rfl, rfl, rfl⟩) rfl
  rcases p1 with p1 | p1
  · dsimp only at hr
    obtain ⟨rfl, e8, e9⟩ := m2
    subst e9
    have hr_ := Option.some.inj hr; subst hr_
    refine RetF.scal (by
      simp only [c_spec_l2Good, evA, evB, Int.reduceToNat, eq_self, reduceCtorEq, ↓reduceIte, Nat.reduceEqDiff, Nat.reduceAdd, Nat.reduceLT, Nat.reduceLeDiff, Nat.reduceMul, Nat.reduceSub, spec_l1Cur.cells, rz_spec_l1Cur, pr_spec_l1Cur, impl_Job.cells, rz_impl_Job, pr_impl_Job, spec_l2Search.cells, rz_spec_l2Search, pr_spec_l2Search, *]
      rfl) rfl rfl
  · dsimp only at hr
    obtain ⟨rfl, e10⟩ := m2
    have hr_ := Option.some.inj hr; subst hr_
    refine RetF.scal (by
      simp only [c_spec_l2Good, evA, evB, Int.reduceToNat, eq_self, reduceCtorEq, ↓reduceIte, Nat.reduceEqDiff, Nat.reduceAdd, Nat.reduceLT, Nat.reduceLeDiff, Nat.reduceMul, Nat.reduceSub, spec_l1Cur.cells, rz_spec_l1Cur, pr_spec_l1Cur, impl_Job.cells, rz_impl_Job, pr_impl_Job, spec_l2Search.cells, rz_spec_l2Search, pr_spec_l2Search, *]
      rfl) rfl rfl

theorem st_spec_l4Free_l0 {cl : Callee} (jobs_ : (List impl_Job)) (st_ : (Int)) (c_ : Ctl (Int) (Unit ⊕ (Bool))) (hr : x_spec_l4Free_l0 jobs_ st_ = some c_) (T_ : Tm) (H_ : List Blk) (ng : Nat) (hR_ : R_spec_l4Free_l0 jobs_ st_ T_ H_) :
    ∃ e_ T1_ H1_ ng1_, gcode (shOf F) cl LL c_spec_l4Free_l0 ⟨maskT (some [0, 3]) T_, H_, ng⟩ = some (e_, ⟨T1_, H1_, ng1_⟩) ∧ TurnOK (R_spec_l4Free_l0 jobs_) (Q_spec_l4Free_l0 jobs_) 0 c_ e_ T1_ H1_ := by
  obtain ⟨i_, hst_⟩ : ∃ x, x = st_ := ⟨_, rfl⟩; subst hst_
  obtain ⟨f0_, f1_, rfl⟩ := hR_
  unfold x_spec_l4Free_l0 at hr
  try dsimp only at hr
  by_cases h5 : i_ < (jobs_.length : Int)
  · rw [if_pos h5] at hr
    have e3 : (i_ < (jobs_.length : Int)) = True := eq_true h5
    clear h5
    obtain ⟨y6, q10, hr⟩ := Option.bind_eq_some_iff.1 hr
    obtain ⟨e7, e8, e9⟩ := ix_some q10
    try simp only [Int.toNat_natCast, Int.toNat_zero, Int.reduceToNat] at e8
    clear q10
    by_cases h15 : 0 < y6.Release
    · rw [if_pos h15] at hr
      have e13 : (0 < y6.Release) = True := eq_true h15
      clear h15
      have hr_ := Option.some.inj hr; subst hr_
      refine turn (by
        simp only [c_spec_l4Free_l0, evA, evB, Int.reduceToNat, eq_self, reduceCtorEq, ↓reduceIte, Nat.reduceEqDiff, Nat.reduceAdd, Nat.reduceLT, Nat.reduceLeDiff, Nat.reduceMul, Nat.reduceSub, spec_l1Cur.cells, rz_spec_l1Cur, pr_spec_l1Cur, impl_Job.cells, rz_impl_Job, pr_impl_Job, spec_l2Search.cells, rz_spec_l2Search, pr_spec_l2Search, *]
        rfl) ?_
      exact ⟨by simp, rfl, rfl⟩
    · rw [if_neg h15] at hr
      have e14 : (0 < y6.Release) = False := eq_false h15
      clear h15
      have hr_ := Option.some.inj hr; subst hr_
      refine turn (by
        simp only [c_spec_l4Free_l0, evA, evB, Int.reduceToNat, eq_self, reduceCtorEq, ↓reduceIte, Nat.reduceEqDiff, Nat.reduceAdd, Nat.reduceLT, Nat.reduceLeDiff, Nat.reduceMul, Nat.reduceSub, spec_l1Cur.cells, rz_spec_l1Cur, pr_spec_l1Cur, impl_Job.cells, rz_impl_Job, pr_impl_Job, spec_l2Search.cells, rz_spec_l2Search, pr_spec_l2Search, *]
        rfl) ?_
      exact ⟨rfl, rfl, rfl, rfl⟩
  · rw [if_neg h5] at hr
    have e4 : (i_ < (jobs_.length : Int)) = False := eq_false h5
    clear h5
    have hr_ := Option.some.inj hr; subst hr_
    refine turn (by
      simp only [c_spec_l4Free_l0, evA, evB, Int.reduceToNat, eq_self, reduceCtorEq, ↓reduceIte, Nat.reduceEqDiff, Nat.reduceAdd, Nat.reduceLT, Nat.reduceLeDiff, Nat.reduceMul, Nat.reduceSub, spec_l1Cur.cells, rz_spec_l1Cur, pr_spec_l1Cur, impl_Job.cells, rz_impl_Job, pr_impl_Job, spec_l2Search.cells, rz_spec_l2Search, pr_spec_l2Search, *]
      rfl) ?_
    exact ⟨by simp, rfl, rfl⟩

theorem lp_spec_l4Free_l0 {cl : Callee} (jobs_ : (List impl_Job)) (st_ : (Int)) (p_ : (Unit ⊕ (Bool))) (hr : loopS (x_spec_l4Free_l0 jobs_) LL st_ = some p_) (T_ : Tm) (H_ : List Blk) (ng : Nat) (hR_ : R_spec_l4Free_l0 jobs_ st_ T_ H_) (hn_ : H_.length = 0) :
    ∃ e_ T1_ H1_ ng1_, gcode (shOf F) cl LL (.loop false (some [0, 3]) c_spec_l4Free_l0) ⟨T_, H_, ng⟩ = some (e_, ⟨T1_, H1_, ng1_⟩) ∧ Q_spec_l4Free_l0 jobs_ p_ e_ T1_ H1_ :=
  sim_loop (n0 := 0) (R_spec_l4Free_l0 jobs_) (Q_spec_l4Free_l0 jobs_) (st_spec_l4Free_l0 jobs_) st_ p_ hr T_ H_ ng hR_ hn_

theorem ok_spec_l4Free {cl : Callee} : K_spec_l4Free (x_spec_l4Free) (gbody F LL cl c_spec_l4Free) := by
  intro jobs_ r hr
  unfold x_spec_l4Free at hr
  try dsimp only at hr
  obtain ⟨p1, q10, hr⟩ := Option.bind_eq_some_iff.1 hr
  obtain ⟨ex7, T4, H5, ng6, l3, m2⟩ := lp_spec_l4Free_l0 (cl := cl)  jobs_ _ _ q10 [(0, .fs (jobs_.map impl_Job.cells)), (3, .int .i64 0)] [] 0 (show R_spec_l4Free_l0 jobs_ 0 [(0, .fs (jobs_.map impl_Job.cells)), (3, .int .i64 0)] [] from ⟨rfl, rfl, rfl⟩) rfl
  rcases p1 with p1 | p1
  · dsimp only at hr
    obtain ⟨rfl, e8⟩ := m2
    subst e8
    have hr_ := Option.some.inj hr; subst hr_
    refine RetF.scal (by
      simp only [c_spec_l4Free, evA, evB, Int.reduceToNat, eq_self, reduceCtorEq, ↓reduceIte, Nat.reduceEqDiff, Nat.reduceAdd, Nat.reduceLT, Nat.reduceLeDiff, Nat.reduceMul, Nat.reduceSub, spec_l1Cur.cells, rz_spec_l1Cur, pr_spec_l1Cur, impl_Job.cells, rz_impl_Job, pr_impl_Job, spec_l2Search.cells, rz_spec_l2Search, pr_spec_l2Search, *]
      rfl) rfl rfl
  · dsimp only at hr
    obtain ⟨rfl, e9⟩ := m2
    have hr_ := Option.some.inj hr; subst hr_
    refine RetF.scal (by
      simp only [c_spec_l4Free, evA, evB, Int.reduceToNat, eq_self, reduceCtorEq, ↓reduceIte, Nat.reduceEqDiff, Nat.reduceAdd, Nat.reduceLT, Nat.reduceLeDiff, Nat.reduceMul, Nat.reduceSub, spec_l1Cur.cells, rz_spec_l1Cur, pr_spec_l1Cur, impl_Job.cells, rz_impl_Job, pr_impl_Job, spec_l2Search.cells, rz_spec_l2Search, pr_spec_l2Search, *]
      rfl) rfl rfl

theorem ok_spec_l6Good {cl : Callee} (K_spec_l2Good : K_spec_l2Good x_spec_l2Good (cl n_spec_l2Good)) (K_spec_l4Free : K_spec_l4Free x_spec_l4Free (cl n_spec_l4Free)) : K_spec_l6Good (x_spec_l6Good) (gbody F LL cl c_spec_l6Good) := by
  intro jobs_ r hr
  unfold x_spec_l6Good at hr
  try dsimp only at hr
  obtain ⟨r1, q3, hr⟩ := Option.bind_eq_some_iff.1 hr
  have e2 : ∀ H ng, gcall (shOf F) cl false n_spec_l2Good [.fs (jobs_.map impl_Job.cells)] H ng = some (.bool r1, H, ng, .inert) := fun H ng => call_far s_spec_l2Good rfl (K_spec_l2Good _ _ q3).ret
  by_cases h6 : r1 = true
  · rw [if_pos h6] at hr
    have e4 : r1 = true := h6
    clear h6
    obtain ⟨r7, q9, hr⟩ := Option.bind_eq_some_iff.1 hr
    have e8 : ∀ H ng, gcall (shOf F) cl false n_spec_l4Free [.fs (jobs_.map impl_Job.cells)] H ng = some (.bool r7, H, ng, .inert) := fun H ng => call_far s_spec_l4Free rfl (K_spec_l4Free _ _ q9).ret
    have hr_ := Option.some.inj hr; subst hr_
    refine RetF.scal (by
      simp only [c_spec_l6Good, evA, evB, Int.reduceToNat, eq_self, reduceCtorEq, ↓reduceIte, Nat.reduceEqDiff, Nat.reduceAdd, Nat.reduceLT, Nat.reduceLeDiff, Nat.reduceMul, Nat.reduceSub, spec_l1Cur.cells, rz_spec_l1Cur, pr_spec_l1Cur, impl_Job.cells, rz_impl_Job, pr_impl_Job, spec_l2Search.cells, rz_spec_l2Search, pr_spec_l2Search, *]
      rfl) rfl rfl
  · rw [if_neg h6] at hr
    have e5 : r1 = false := Bool.eq_false_iff.2 h6
    clear h6
    have hr_ := Option.some.inj hr; subst hr_
    refine RetF.scal (by
      simp only [c_spec_l6Good, evA, evB, Int.reduceToNat, eq_self, reduceCtorEq, ↓reduceIte, Nat.reduceEqDiff, Nat.reduceAdd, Nat.reduceLT, Nat.reduceLeDiff, Nat.reduceMul, Nat.reduceSub, spec_l1Cur.cells, rz_spec_l1Cur, pr_spec_l1Cur, impl_Job.cells, rz_impl_Job, pr_impl_Job, spec_l2Search.cells, rz_spec_l2Search, pr_spec_l2Search, *]
      rfl) rfl rfl

theorem st_spec_l4Set_l0 {cl : Callee} (n_ : Int) (code_ : Int) (st_ : ((List Int) × Int)) (c_ : Ctl ((List Int) × Int) ((List Int))) (hr : x_spec_l4Set_l0 n_ code_ st_ = some c_) (T_ : Tm) (H_ : List Blk) (ng : Nat) (hR_ : R_spec_l4Set_l0 n_ code_ st_ T_ H_) :
    ∃ e_ T1_ H1_ ng1_, gcode (shOf F) cl LL c_spec_l4Set_l0 ⟨maskT (some [0, 1, 5, 6]) T_, H_, ng⟩ = some (e_, ⟨T1_, H1_, ng1_⟩) ∧ TurnOK (R_spec_l4Set_l0 n_ code_) (Q_spec_l4Set_l0 n_ code_) 2 c_ e_ T1_ H1_ := by
  obtain ⟨out_, i_⟩ := st_
  obtain ⟨b0, g1, f0_, f1_, f2_, f3_, rfl⟩ := hR_
  unfold x_spec_l4Set_l0 at hr
  try dsimp only at hr
  by_cases h5 : i_ < n_
  · rw [if_pos h5] at hr
    have e3 : (i_ < n_) = True := eq_true h5
    clear h5
    by_cases h7 : 0 ≤ i_
    · rw [if_pos h7] at hr
      have e6 : binI .shr .i64 code_ .i64 i_ = some (.int .i64 (shrK .i64 code_ i_)) := bi_shr _ _ _ _ h7
      clear h7
      by_cases h12 : (andK .i64 (shrK .i64 code_ i_) 1) = 1
      · rw [if_pos h12] at hr
        have e10 : ((andK .i64 (shrK .i64 code_ i_) 1) = 1) = True := eq_true h12
        clear h12
        obtain ⟨l13, q21, hr⟩ := Option.bind_eq_some_iff.1 hr
        obtain ⟨e14, e15, e16, e17⟩ := app_some q21
        try simp only [List.length_cons, List.length_nil, Nat.zero_add, Nat.reduceAdd] at e14 e15 e17
        have e18 : (out_.map (cI .i64)) ++ [[.int .i64 i_]] = l13.map (cI .i64) := by rw [← e16, List.map_append] <;> rfl
        have e19 := e14
        have e20 := e15
        rw [e17] at e19 e20
        clear e16 q21
        have hr_ := Option.some.inj hr; subst hr_
        refine turn (by
          simp only [c_spec_l4Set_l0, evA, evB, Int.reduceToNat, eq_self, reduceCtorEq, ↓reduceIte, Nat.reduceEqDiff, Nat.reduceAdd, Nat.reduceLT, Nat.reduceLeDiff, Nat.reduceMul, Nat.reduceSub, spec_l1Cur.cells, rz_spec_l1Cur, pr_spec_l1Cur, impl_Job.cells, rz_impl_Job, pr_impl_Job, spec_l2Search.cells, rz_spec_l2Search, pr_spec_l2Search, *]
          rfl) ?_
        exact ⟨rfl, _, _, rfl, rfl, rfl, rfl, rfl⟩
      · rw [if_neg h12] at hr
        have e11 : ((andK .i64 (shrK .i64 code_ i_) 1) = 1) = False := eq_false h12
        clear h12
        have hr_ := Option.some.inj hr; subst hr_
        refine turn (by
          simp only [c_spec_l4Set_l0, evA, evB, Int.reduceToNat, eq_self, reduceCtorEq, ↓reduceIte, Nat.reduceEqDiff, Nat.reduceAdd, Nat.reduceLT, Nat.reduceLeDiff, Nat.reduceMul, Nat.reduceSub, spec_l1Cur.cells, rz_spec_l1Cur, pr_spec_l1Cur, impl_Job.cells, rz_impl_Job, pr_impl_Job, spec_l2Search.cells, rz_spec_l2Search, pr_spec_l2Search, *]
          rfl) ?_
        exact ⟨rfl, _, _, rfl, rfl, rfl, rfl, rfl⟩
    · rw [if_neg h7] at hr
      clear h7
      exact nomatch hr
  · rw [if_neg h5] at hr
    have e4 : (i_ < n_) = False := eq_false h5
    clear h5
    have hr_ := Option.some.inj hr; subst hr_
    refine turn (by
      simp only [c_spec_l4Set_l0, evA, evB, Int.reduceToNat, eq_self, reduceCtorEq, ↓reduceIte, Nat.reduceEqDiff, Nat.reduceAdd, Nat.reduceLT, Nat.reduceLeDiff, Nat.reduceMul, Nat.reduceSub, spec_l1Cur.cells, rz_spec_l1Cur, pr_spec_l1Cur, impl_Job.cells, rz_impl_Job, pr_impl_Job, spec_l2Search.cells, rz_spec_l2Search, pr_spec_l2Search, *]
      rfl) ?_
    exact ⟨by simp, rfl, _, _, rfl, rfl⟩

theorem lp_spec_l4Set_l0 {cl : Callee} (n_ : Int) (code_ : Int) (st_ : ((List Int) × Int)) (p_ : ((List Int))) (hr : loopS (x_spec_l4Set_l0 n_ code_) LL st_ = some p_) (T_ : Tm) (H_ : List Blk) (ng : Nat) (hR_ : R_spec_l4Set_l0 n_ code_ st_ T_ H_) (hn_ : H_.length = 2) :
    ∃ e_ T1_ H1_ ng1_, gcode (shOf F) cl LL (.loop false (some [0, 1, 5, 6]) c_spec_l4Set_l0) ⟨T_, H_, ng⟩ = some (e_, ⟨T1_, H1_, ng1_⟩) ∧ Q_spec_l4Set_l0 n_ code_ p_ e_ T1_ H1_ :=
  sim_loop (n0 := 2) (R_spec_l4Set_l0 n_ code_) (Q_spec_l4Set_l0 n_ code_) (st_spec_l4Set_l0 n_ code_) st_ p_ hr T_ H_ ng hR_ hn_

theorem ok_spec_l4Set {cl : Callee} : K_spec_l4Set (x_spec_l4Set) (gbody F LL cl c_spec_l4Set) := by
  intro n_ code_ r hr
  unfold x_spec_l4Set at hr
  try dsimp only at hr
  obtain ⟨p1, q12, hr⟩ := Option.bind_eq_some_iff.1 hr
  obtain ⟨ex7, T4, H5, ng6, l3, m2⟩ := lp_spec_l4Set_l0 (cl := cl)  n_ code_ _ _ q12 [(0, .int .i64 n_), (1, .int .i64 code_), (5, .os 1 1 1 0 0), (6, .int .i64 0)] [(Blk.mk 0 false 1 []), (Blk.mk 1 false 1 [])] 2 (show R_spec_l4Set_l0 n_ code_ (([] : List Int), 0) [(0, .int .i64 n_), (1, .int .i64 code_), (5, .os 1 1 1 0 0), (6, .int .i64 0)] [(Blk.mk 0 false 1 []), (Blk.mk 1 false 1 [])] from ⟨_, _, rfl, rfl, rfl, rfl, rfl⟩) rfl
  obtain ⟨rfl, b8, g9, e10, e11⟩ := m2
  subst e11
  have hr_ := Option.some.inj hr; subst hr_
  refine ⟨1, g9, [b8, (Blk.mk g9 false 1 (p1.map (cI .i64)))], ng6, ?_, by simp [hget, hp], sc_cI _ _⟩
  simp only [c_spec_l4Set, evA, evB, Int.reduceToNat, eq_self, reduceCtorEq, ↓reduceIte, Nat.reduceEqDiff, Nat.reduceAdd, Nat.reduceLT, Nat.reduceLeDiff, Nat.reduceMul, Nat.reduceSub, spec_l1Cur.cells, rz_spec_l1Cur, pr_spec_l1Cur, impl_Job.cells, rz_impl_Job, pr_impl_Job, spec_l2Search.cells, rz_spec_l2Search, pr_spec_l2Search, *]

theorem ok_spec_l6All {cl : Callee} (K_spec_l4Set : K_spec_l4Set x_spec_l4Set (cl n_spec_l4Set)) : K_spec_l6All (x_spec_l6All) (gbody F LL cl c_spec_l6All) := by
  intro jobs_ r hr
  unfold x_spec_l6All at hr
  try dsimp only at hr
  have e4 : binI .shl .i64 1 .i64 (jobs_.length : Int) = some (.int .i64 (shlK .i64 1 (jobs_.length : Int))) := bi_shl _ _ _ _ (Int.natCast_nonneg _)
  obtain ⟨r1, q3, hr⟩ := Option.bind_eq_some_iff.1 hr
  have e2 : ∀ H ng, gcall (shOf F) cl true n_spec_l4Set [.int .i64 (jobs_.length : Int), .int .i64 (subK .i64 (shlK .i64 1 (jobs_.length : Int)) 1)] H ng = some (.os H.length ng 1 0 r1.length, H ++ [⟨ng, false, 1, (r1.map (cI .i64))⟩], ng + 1, .touch [] []) := fun H ng => by have := call_far_own (H := H) (ng := ng) s_spec_l4Set rfl (K_spec_l4Set _ _ _ q3); simp only [List.length_map] at this; exact this
  have hr_ := Option.some.inj hr; subst hr_
  refine ⟨0, 0, [(Blk.mk 0 false 1 (r1.map (cI .i64)))], 1, ?_, by simp [hget, hp], sc_cI _ _⟩
  simp only [c_spec_l6All, evA, evB, Int.reduceToNat, eq_self, reduceCtorEq, ↓reduceIte, Nat.reduceEqDiff, Nat.reduceAdd, Nat.reduceLT, Nat.reduceLeDiff, Nat.reduceMul, Nat.reduceSub, spec_l1Cur.cells, rz_spec_l1Cur, pr_spec_l1Cur, impl_Job.cells, rz_impl_Job, pr_impl_Job, spec_l2Search.cells, rz_spec_l2Search, pr_spec_l2Search, *]

end Gh
