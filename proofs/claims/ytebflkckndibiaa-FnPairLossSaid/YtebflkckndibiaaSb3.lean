/- The ghost answers as the shallow functions do, part 3. Written by program. -/
import Derived.Test.YtebflkckndibiaaSa
namespace Gh
open Go
set_option linter.unusedSimpArgs false
set_option linter.unusedVariables false
set_option maxRecDepth 100000
set_option maxHeartbeats 20000000

theorem st_laws_FnPairLoss_l0 {cl : Callee} (K_laws_vBig : K_laws_vBig x_laws_vBig (cl n_laws_vBig)) (K_impl_IsRuledOrder : K_impl_IsRuledOrder x_impl_IsRuledOrder (cl n_impl_IsRuledOrder)) (K_laws_vCut : K_laws_vCut x_laws_vCut (cl n_laws_vCut)) (K_impl_RuleDifference : K_impl_RuleDifference x_impl_RuleDifference (cl n_impl_RuleDifference)) (K_impl_BestValue : K_impl_BestValue x_impl_BestValue (cl n_impl_BestValue)) (K_impl_ValueOf : K_impl_ValueOf x_impl_ValueOf (cl n_impl_ValueOf)) (K_spec_DrawPairLoss : K_spec_DrawPairLoss x_spec_DrawPairLoss (cl n_spec_DrawPairLoss)) (K_impl_PairLoss : K_impl_PairLoss x_impl_PairLoss (cl n_impl_PairLoss)) (K_spec_PairLoss : K_spec_PairLoss x_spec_PairLoss (cl n_spec_PairLoss)) (K_spec_DrawInversionsOf : K_spec_DrawInversionsOf x_spec_DrawInversionsOf (cl n_spec_DrawInversionsOf)) (K_impl_InversionsOf : K_impl_InversionsOf x_impl_InversionsOf (cl n_impl_InversionsOf)) (K_spec_InversionsOf : K_spec_InversionsOf x_spec_InversionsOf (cl n_spec_InversionsOf)) (K_laws_vPairs : K_laws_vPairs x_laws_vPairs (cl n_laws_vPairs)) (K_impl_ExchangeGain : K_impl_ExchangeGain x_impl_ExchangeGain (cl n_impl_ExchangeGain)) (r_ : (List impl_Job)) (r_z1 : (List Int)) (st_ : (Int)) (c_ : Ctl (Int) (Unit ⊕ (Bool))) (hr : x_laws_FnPairLoss_l0 r_ r_z1 st_ = some c_) (T_ : Tm) (H_ : List Blk) (ng : Nat) (hR_ : R_laws_FnPairLoss_l0 r_ r_z1 st_ T_ H_) :
    ∃ e_ T1_ H1_ ng1_, gcode (shOf F) cl LL c_laws_FnPairLoss_l0 ⟨maskT (some [3, 4, 22]) T_, H_, ng⟩ = some (e_, ⟨T1_, H1_, ng1_⟩) ∧ TurnOK (R_laws_FnPairLoss_l0 r_ r_z1) (Q_laws_FnPairLoss_l0 r_ r_z1) 0 c_ e_ T1_ H1_ := by
  obtain ⟨v, hst_⟩ : ∃ x, x = st_ := ⟨_, rfl⟩; subst hst_
  obtain ⟨f0_, f1_, f2_, rfl⟩ := hR_
  unfold x_laws_FnPairLoss_l0 at hr
  try dsimp only at hr
  by_cases h5 : (addK .i64 v 1) < (r_z1.length : Int)
  · rw [if_pos h5] at hr
    have e3 : ((addK .i64 v 1) < (r_z1.length : Int)) = True := eq_true h5
    clear h5
    obtain ⟨r6, q8, hr⟩ := Option.bind_eq_some_iff.1 hr
    have e7 : ∀ H ng, gcall (shOf F) cl false n_impl_ExchangeGain [.fs (r_.map impl_Job.cells), .fs (r_z1.map (cI .i64)), .int .i64 v, .int .i64 3] H ng = some (.tup [.int .i64 r6.1, .bool r6.2], H, ng, .inert) := fun H ng => call_far s_impl_ExchangeGain rfl (K_impl_ExchangeGain _ _ _ _ _ q8).ret
    obtain ⟨y9, q13, hr⟩ := Option.bind_eq_some_iff.1 hr
    obtain ⟨e10, e11, e12⟩ := ix_some q13
    try simp only [Int.toNat_natCast, Int.toNat_zero, Int.reduceToNat] at e11
    clear q13
    obtain ⟨y14, q18, hr⟩ := Option.bind_eq_some_iff.1 hr
    obtain ⟨e15, e16, e17⟩ := ix_some q18
    try simp only [Int.toNat_natCast, Int.toNat_zero, Int.reduceToNat] at e16
    clear q18
    obtain ⟨r19, q21, hr⟩ := Option.bind_eq_some_iff.1 hr
    have e20 : ∀ H ng, gcall (shOf F) cl false n_impl_RuleDifference [.fs (r_.map impl_Job.cells), .int .i64 3, .int .i64 y9, .int .i64 y14] H ng = some (.tup [.int .i64 r19.1, .bool r19.2], H, ng, .inert) := fun H ng => call_far s_impl_RuleDifference rfl (K_impl_RuleDifference _ _ _ _ _ q21).ret
    by_cases h26 : r6.1 = r19.1
    · rw [if_pos h26] at hr
      have e24 : (r6.1 = r19.1) = True := eq_true h26
      clear h26
      have hr_ := Option.some.inj hr; subst hr_
      refine turn (by
        simp only [c_laws_FnPairLoss_l0, evA, evB, Int.reduceToNat, eq_self, reduceCtorEq, ↓reduceIte, Nat.reduceEqDiff, Nat.reduceAdd, Nat.reduceLT, Nat.reduceLeDiff, Nat.reduceMul, Nat.reduceSub, Nat.reduceBEq, impl_Job.cells, rz_impl_Job, pr_impl_Job, spec_l1Cur.cells, rz_spec_l1Cur, pr_spec_l1Cur, arr_2_int.cells, rz_arr_2_int, pr_arr_2_int, *]
        rfl) ?_
      exact ⟨rfl, rfl, rfl, rfl, rfl⟩
    · rw [if_neg h26] at hr
      have e25 : (r6.1 = r19.1) = False := eq_false h26
      clear h26
      have hr_ := Option.some.inj hr; subst hr_
      refine turn (by
        simp only [c_laws_FnPairLoss_l0, evA, evB, Int.reduceToNat, eq_self, reduceCtorEq, ↓reduceIte, Nat.reduceEqDiff, Nat.reduceAdd, Nat.reduceLT, Nat.reduceLeDiff, Nat.reduceMul, Nat.reduceSub, Nat.reduceBEq, impl_Job.cells, rz_impl_Job, pr_impl_Job, spec_l1Cur.cells, rz_spec_l1Cur, pr_spec_l1Cur, arr_2_int.cells, rz_arr_2_int, pr_arr_2_int, *]
        rfl) ?_
      exact ⟨by simp, rfl, rfl⟩
  · rw [if_neg h5] at hr
    have e4 : ((addK .i64 v 1) < (r_z1.length : Int)) = False := eq_false h5
    clear h5
    have hr_ := Option.some.inj hr; subst hr_
    refine turn (by
      simp only [c_laws_FnPairLoss_l0, evA, evB, Int.reduceToNat, eq_self, reduceCtorEq, ↓reduceIte, Nat.reduceEqDiff, Nat.reduceAdd, Nat.reduceLT, Nat.reduceLeDiff, Nat.reduceMul, Nat.reduceSub, Nat.reduceBEq, impl_Job.cells, rz_impl_Job, pr_impl_Job, spec_l1Cur.cells, rz_spec_l1Cur, pr_spec_l1Cur, arr_2_int.cells, rz_arr_2_int, pr_arr_2_int, *]
      rfl) ?_
    exact ⟨by simp, rfl, rfl⟩

theorem lp_laws_FnPairLoss_l0 {cl : Callee} (K_laws_vBig : K_laws_vBig x_laws_vBig (cl n_laws_vBig)) (K_impl_IsRuledOrder : K_impl_IsRuledOrder x_impl_IsRuledOrder (cl n_impl_IsRuledOrder)) (K_laws_vCut : K_laws_vCut x_laws_vCut (cl n_laws_vCut)) (K_impl_RuleDifference : K_impl_RuleDifference x_impl_RuleDifference (cl n_impl_RuleDifference)) (K_impl_BestValue : K_impl_BestValue x_impl_BestValue (cl n_impl_BestValue)) (K_impl_ValueOf : K_impl_ValueOf x_impl_ValueOf (cl n_impl_ValueOf)) (K_spec_DrawPairLoss : K_spec_DrawPairLoss x_spec_DrawPairLoss (cl n_spec_DrawPairLoss)) (K_impl_PairLoss : K_impl_PairLoss x_impl_PairLoss (cl n_impl_PairLoss)) (K_spec_PairLoss : K_spec_PairLoss x_spec_PairLoss (cl n_spec_PairLoss)) (K_spec_DrawInversionsOf : K_spec_DrawInversionsOf x_spec_DrawInversionsOf (cl n_spec_DrawInversionsOf)) (K_impl_InversionsOf : K_impl_InversionsOf x_impl_InversionsOf (cl n_impl_InversionsOf)) (K_spec_InversionsOf : K_spec_InversionsOf x_spec_InversionsOf (cl n_spec_InversionsOf)) (K_laws_vPairs : K_laws_vPairs x_laws_vPairs (cl n_laws_vPairs)) (K_impl_ExchangeGain : K_impl_ExchangeGain x_impl_ExchangeGain (cl n_impl_ExchangeGain)) (r_ : (List impl_Job)) (r_z1 : (List Int)) (st_ : (Int)) (p_ : (Unit ⊕ (Bool))) (hr : loopS (x_laws_FnPairLoss_l0 r_ r_z1) LL st_ = some p_) (T_ : Tm) (H_ : List Blk) (ng : Nat) (hR_ : R_laws_FnPairLoss_l0 r_ r_z1 st_ T_ H_) (hn_ : H_.length = 0) :
    ∃ e_ T1_ H1_ ng1_, gcode (shOf F) cl LL (.loop false (some [3, 4, 22]) c_laws_FnPairLoss_l0) ⟨T_, H_, ng⟩ = some (e_, ⟨T1_, H1_, ng1_⟩) ∧ Q_laws_FnPairLoss_l0 r_ r_z1 p_ e_ T1_ H1_ :=
  sim_loop (n0 := 0) (R_laws_FnPairLoss_l0 r_ r_z1) (Q_laws_FnPairLoss_l0 r_ r_z1) (st_laws_FnPairLoss_l0 K_laws_vBig K_impl_IsRuledOrder K_laws_vCut K_impl_RuleDifference K_impl_BestValue K_impl_ValueOf K_spec_DrawPairLoss K_impl_PairLoss K_spec_PairLoss K_spec_DrawInversionsOf K_impl_InversionsOf K_spec_InversionsOf K_laws_vPairs K_impl_ExchangeGain r_ r_z1) st_ p_ hr T_ H_ ng hR_ hn_

theorem ok_laws_FnPairLoss {cl : Callee} (K_laws_vBig : K_laws_vBig x_laws_vBig (cl n_laws_vBig)) (K_impl_IsRuledOrder : K_impl_IsRuledOrder x_impl_IsRuledOrder (cl n_impl_IsRuledOrder)) (K_laws_vCut : K_laws_vCut x_laws_vCut (cl n_laws_vCut)) (K_impl_RuleDifference : K_impl_RuleDifference x_impl_RuleDifference (cl n_impl_RuleDifference)) (K_impl_BestValue : K_impl_BestValue x_impl_BestValue (cl n_impl_BestValue)) (K_impl_ValueOf : K_impl_ValueOf x_impl_ValueOf (cl n_impl_ValueOf)) (K_spec_DrawPairLoss : K_spec_DrawPairLoss x_spec_DrawPairLoss (cl n_spec_DrawPairLoss)) (K_impl_PairLoss : K_impl_PairLoss x_impl_PairLoss (cl n_impl_PairLoss)) (K_spec_PairLoss : K_spec_PairLoss x_spec_PairLoss (cl n_spec_PairLoss)) (K_spec_DrawInversionsOf : K_spec_DrawInversionsOf x_spec_DrawInversionsOf (cl n_spec_DrawInversionsOf)) (K_impl_InversionsOf : K_impl_InversionsOf x_impl_InversionsOf (cl n_impl_InversionsOf)) (K_spec_InversionsOf : K_spec_InversionsOf x_spec_InversionsOf (cl n_spec_InversionsOf)) (K_laws_vPairs : K_laws_vPairs x_laws_vPairs (cl n_laws_vPairs)) (K_impl_ExchangeGain : K_impl_ExchangeGain x_impl_ExchangeGain (cl n_impl_ExchangeGain)) : K_laws_FnPairLoss (x_laws_FnPairLoss) (gbody F LL cl c_laws_FnPairLoss) := by
  intro t_ r hr
  unfold x_laws_FnPairLoss at hr
  try dsimp only at hr
  obtain ⟨r1, q3, hr⟩ := Option.bind_eq_some_iff.1 hr
  have e2 : ∀ H ng, gcall (shOf F) cl false n_laws_vBig [.fs (t_.map (cI .u8))] H ng = some (.bool r1, H, ng, .inert) := fun H ng => call_far s_laws_vBig rfl (K_laws_vBig _ _ q3).ret
  by_cases h6 : r1 = true
  · rw [if_pos h6] at hr
    have e4 : r1 = true := h6
    clear h6
    have hr_ := Option.some.inj hr; subst hr_
    refine RetF.scal (by
      simp only [c_laws_FnPairLoss, evA, evB, Int.reduceToNat, eq_self, reduceCtorEq, ↓reduceIte, Nat.reduceEqDiff, Nat.reduceAdd, Nat.reduceLT, Nat.reduceLeDiff, Nat.reduceMul, Nat.reduceSub, Nat.reduceBEq, impl_Job.cells, rz_impl_Job, pr_impl_Job, spec_l1Cur.cells, rz_spec_l1Cur, pr_spec_l1Cur, arr_2_int.cells, rz_arr_2_int, pr_arr_2_int, *]
      rfl) rfl rfl
  · rw [if_neg h6] at hr
    have e5 : r1 = false := Bool.eq_false_iff.2 h6
    clear h6
    obtain ⟨r7, q9, hr⟩ := Option.bind_eq_some_iff.1 hr
    have e8 : ∀ H ng, gcall (shOf F) cl false n_spec_DrawPairLoss [.fs (t_.map (cI .u8))] H ng = some (.tup [.fs (r7.1.map impl_Job.cells), .fs (r7.2.map (cI .i64))], H, ng, .inert) := fun H ng => call_far s_spec_DrawPairLoss rfl (K_spec_DrawPairLoss _ _ q9)
    obtain ⟨r10, q12, hr⟩ := Option.bind_eq_some_iff.1 hr
    have e11 : ∀ H ng, gcall (shOf F) cl false n_impl_PairLoss [.fs (r7.1.map impl_Job.cells), .fs (r7.2.map (cI .i64))] H ng = some (.tup [.int .i64 r10.1, .bool r10.2], H, ng, .inert) := fun H ng => call_far s_impl_PairLoss rfl (K_impl_PairLoss _ _ _ q12).ret
    obtain ⟨r13, q15, hr⟩ := Option.bind_eq_some_iff.1 hr
    have e14 : ∀ H ng, gcall (shOf F) cl false n_spec_PairLoss [.fs (r7.1.map impl_Job.cells), .fs (r7.2.map (cI .i64))] H ng = some (.tup [.int .i64 r13.1, .bool r13.2], H, ng, .inert) := fun H ng => call_far s_spec_PairLoss rfl (K_spec_PairLoss _ _ _ q15).ret
    obtain ⟨r16, q18, hr⟩ := Option.bind_eq_some_iff.1 hr
    have e17 : ∀ H ng, gcall (shOf F) cl false n_laws_vCut [.fs (t_.map (cI .u8)), .int .i64 1] H ng = some (.fs (r16.map (cI .u8)), H, ng, .inert) := fun H ng => call_far s_laws_vCut rfl (K_laws_vCut _ _ _ q18).retF.ret
    obtain ⟨r19, q21, hr⟩ := Option.bind_eq_some_iff.1 hr
    have e20 : ∀ H ng, gcall (shOf F) cl false n_spec_DrawInversionsOf [.fs (r16.map (cI .u8))] H ng = some (.tup [.fs (r19.1.map impl_Job.cells), .fs (r19.2.1.map (cI .i64)), .int .i64 r19.2.2], H, ng, .inert) := fun H ng => call_far s_spec_DrawInversionsOf rfl (K_spec_DrawInversionsOf _ _ q21)
    obtain ⟨r22, q24, hr⟩ := Option.bind_eq_some_iff.1 hr
    have e23 : ∀ H ng, gcall (shOf F) cl false n_impl_InversionsOf [.fs (r19.1.map impl_Job.cells), .fs (r19.2.1.map (cI .i64)), .int .i64 r19.2.2] H ng = some (.tup [.fs (r22.1.map arr_2_int.cells), .bool r22.2], H, ng, .inert) := fun H ng => call_far s_impl_InversionsOf rfl (K_impl_InversionsOf _ _ _ _ q24)
    obtain ⟨r25, q27, hr⟩ := Option.bind_eq_some_iff.1 hr
    have e26 : ∀ H ng, gcall (shOf F) cl false n_spec_InversionsOf [.fs (r19.1.map impl_Job.cells), .fs (r19.2.1.map (cI .i64)), .int .i64 r19.2.2] H ng = some (.tup [.fs (r25.1.map arr_2_int.cells), .bool r25.2], H, ng, .inert) := fun H ng => call_far s_spec_InversionsOf rfl (K_spec_InversionsOf _ _ _ _ q27)
    by_cases h30 : r10.2 = r13.2
    · rw [if_pos h30] at hr
      have e28 : (r10.2 == r13.2) = true := beq_iff_eq.2 h30
      clear h30
      by_cases h35 : r10.1 = r13.1
      · rw [if_pos h35] at hr
        have e33 : (r10.1 = r13.1) = True := eq_true h35
        clear h35
        by_cases h38 : r22.2 = r25.2
        · rw [if_pos h38] at hr
          have e36 : (r22.2 == r25.2) = true := beq_iff_eq.2 h38
          clear h38
          obtain ⟨r39, q41, hr⟩ := Option.bind_eq_some_iff.1 hr
          have e40 : ∀ H ng, gcall (shOf F) cl false n_laws_vPairs [.fs (r22.1.map arr_2_int.cells), .fs (r25.1.map arr_2_int.cells)] H ng = some (.bool r39, H, ng, .inert) := fun H ng => call_far s_laws_vPairs rfl (K_laws_vPairs _ _ _ q41).ret
          by_cases h44 : r39 = true
          · rw [if_pos h44] at hr
            have e42 : r39 = true := h44
            clear h44
            by_cases h47 : r22.2 = true
            · rw [if_pos h47] at hr
              have e45 : r22.2 = true := h47
              clear h47
              have e48 : r25.2 = true := beq_l e36 e45
              obtain ⟨r49, q51, hr⟩ := Option.bind_eq_some_iff.1 hr
              have e50 : ∀ H ng, gcall (shOf F) cl false n_impl_IsRuledOrder [.fs (r19.1.map impl_Job.cells), .fs (r19.2.1.map (cI .i64)), .int .i64 r19.2.2] H ng = some (.tup [.bool r49.1, .bool r49.2], H, ng, .inert) := fun H ng => call_far s_impl_IsRuledOrder rfl (K_impl_IsRuledOrder _ _ _ _ q51).ret
              by_cases h54 : r49.1 = (decide ((r22.1.length : Int) = 0))
              · rw [if_pos h54] at hr
                have e52 : (r49.1 == (decide ((r22.1.length : Int) = 0))) = true := beq_iff_eq.2 h54
                clear h54
                by_cases h57 : r10.2 = true
                · rw [if_pos h57] at hr
                  have e55 : r10.2 = true := h57
                  clear h57
                  have e58 : r13.2 = true := beq_l e28 e55
                  obtain ⟨r59, q61, hr⟩ := Option.bind_eq_some_iff.1 hr
                  have e60 : ∀ H ng, gcall (shOf F) cl false n_impl_ValueOf [.fs (r7.1.map impl_Job.cells), .fs (r7.2.map (cI .i64)), .int .i64 3] H ng = some (.tup [.int .i64 r59.1, .bool r59.2], H, ng, .inert) := fun H ng => call_far s_impl_ValueOf rfl (K_impl_ValueOf _ _ _ _ q61).ret
                  obtain ⟨r62, q64, hr⟩ := Option.bind_eq_some_iff.1 hr
                  have e63 : ∀ H ng, gcall (shOf F) cl false n_impl_BestValue [.fs (r7.1.map impl_Job.cells), .int .i64 3] H ng = some (.tup [.int .i64 r62.1, .bool r62.2], H, ng, .inert) := fun H ng => call_far s_impl_BestValue rfl (K_impl_BestValue _ _ _ q64).ret
                  by_cases h69 : (subK .i64 r59.1 r62.1) = r10.1
                  · rw [if_pos h69] at hr
                    have e67 : ((subK .i64 r59.1 r62.1) = r10.1) = True := eq_true h69
                    clear h69
                    obtain ⟨p70, q79, hr⟩ := Option.bind_eq_some_iff.1 hr
                    obtain ⟨ex76, T73, H74, ng75, l72, m71⟩ := lp_laws_FnPairLoss_l0 (cl := cl) K_laws_vBig K_impl_IsRuledOrder K_laws_vCut K_impl_RuleDifference K_impl_BestValue K_impl_ValueOf K_spec_DrawPairLoss K_impl_PairLoss K_spec_PairLoss K_spec_DrawInversionsOf K_impl_InversionsOf K_spec_InversionsOf K_laws_vPairs K_impl_ExchangeGain  r7.1 r7.2 _ _ q79 [(3, .fs (r7.1.map impl_Job.cells)), (4, .fs (r7.2.map (cI .i64))), (22, .int .i64 0)] [] 0 (show R_laws_FnPairLoss_l0 r7.1 r7.2 0 [(3, .fs (r7.1.map impl_Job.cells)), (4, .fs (r7.2.map (cI .i64))), (22, .int .i64 0)] [] from ⟨rfl, rfl, rfl, rfl⟩) rfl
                    rcases p70 with p70 | p70
                    · dsimp only at hr
                      obtain ⟨rfl, e77⟩ := m71
                      subst e77
                      have hr_ := Option.some.inj hr; subst hr_
                      refine RetF.scal (by
                        simp only [c_laws_FnPairLoss, evA, evB, Int.reduceToNat, eq_self, reduceCtorEq, ↓reduceIte, Nat.reduceEqDiff, Nat.reduceAdd, Nat.reduceLT, Nat.reduceLeDiff, Nat.reduceMul, Nat.reduceSub, Nat.reduceBEq, impl_Job.cells, rz_impl_Job, pr_impl_Job, spec_l1Cur.cells, rz_spec_l1Cur, pr_spec_l1Cur, arr_2_int.cells, rz_arr_2_int, pr_arr_2_int, *]
                        rfl) rfl rfl
                    · dsimp only at hr
                      obtain ⟨rfl, e78⟩ := m71
                      have hr_ := Option.some.inj hr; subst hr_
                      refine RetF.scal (by
                        simp only [c_laws_FnPairLoss, evA, evB, Int.reduceToNat, eq_self, reduceCtorEq, ↓reduceIte, Nat.reduceEqDiff, Nat.reduceAdd, Nat.reduceLT, Nat.reduceLeDiff, Nat.reduceMul, Nat.reduceSub, Nat.reduceBEq, impl_Job.cells, rz_impl_Job, pr_impl_Job, spec_l1Cur.cells, rz_spec_l1Cur, pr_spec_l1Cur, arr_2_int.cells, rz_arr_2_int, pr_arr_2_int, *]
                        rfl) rfl rfl
                  · rw [if_neg h69] at hr
                    have e68 : ((subK .i64 r59.1 r62.1) = r10.1) = False := eq_false h69
                    clear h69
                    have hr_ := Option.some.inj hr; subst hr_
                    refine RetF.scal (by
                      simp only [c_laws_FnPairLoss, evA, evB, Int.reduceToNat, eq_self, reduceCtorEq, ↓reduceIte, Nat.reduceEqDiff, Nat.reduceAdd, Nat.reduceLT, Nat.reduceLeDiff, Nat.reduceMul, Nat.reduceSub, Nat.reduceBEq, impl_Job.cells, rz_impl_Job, pr_impl_Job, spec_l1Cur.cells, rz_spec_l1Cur, pr_spec_l1Cur, arr_2_int.cells, rz_arr_2_int, pr_arr_2_int, *]
                      rfl) rfl rfl
                · rw [if_neg h57] at hr
                  have e56 : r10.2 = false := Bool.eq_false_iff.2 h57
                  clear h57
                  have e80 : r13.2 = false := beq_l e28 e56
                  have hr_ := Option.some.inj hr; subst hr_
                  refine RetF.scal (by
                    simp only [c_laws_FnPairLoss, evA, evB, Int.reduceToNat, eq_self, reduceCtorEq, ↓reduceIte, Nat.reduceEqDiff, Nat.reduceAdd, Nat.reduceLT, Nat.reduceLeDiff, Nat.reduceMul, Nat.reduceSub, Nat.reduceBEq, impl_Job.cells, rz_impl_Job, pr_impl_Job, spec_l1Cur.cells, rz_spec_l1Cur, pr_spec_l1Cur, arr_2_int.cells, rz_arr_2_int, pr_arr_2_int, *]
                    rfl) rfl rfl
              · rw [if_neg h54] at hr
                have e53 : (r49.1 == (decide ((r22.1.length : Int) = 0))) = false := beq_eq_false_iff_ne.2 h54
                clear h54
                have hr_ := Option.some.inj hr; subst hr_
                refine RetF.scal (by
                  simp only [c_laws_FnPairLoss, evA, evB, Int.reduceToNat, eq_self, reduceCtorEq, ↓reduceIte, Nat.reduceEqDiff, Nat.reduceAdd, Nat.reduceLT, Nat.reduceLeDiff, Nat.reduceMul, Nat.reduceSub, Nat.reduceBEq, impl_Job.cells, rz_impl_Job, pr_impl_Job, spec_l1Cur.cells, rz_spec_l1Cur, pr_spec_l1Cur, arr_2_int.cells, rz_arr_2_int, pr_arr_2_int, *]
                  rfl) rfl rfl
            · rw [if_neg h47] at hr
              have e46 : r22.2 = false := Bool.eq_false_iff.2 h47
              clear h47
              have e81 : r25.2 = false := beq_l e36 e46
              by_cases h84 : r10.2 = true
              · rw [if_pos h84] at hr
                have e82 : r10.2 = true := h84
                clear h84
                have e85 : r13.2 = true := beq_l e28 e82
                obtain ⟨r86, q88, hr⟩ := Option.bind_eq_some_iff.1 hr
                have e87 : ∀ H ng, gcall (shOf F) cl false n_impl_ValueOf [.fs (r7.1.map impl_Job.cells), .fs (r7.2.map (cI .i64)), .int .i64 3] H ng = some (.tup [.int .i64 r86.1, .bool r86.2], H, ng, .inert) := fun H ng => call_far s_impl_ValueOf rfl (K_impl_ValueOf _ _ _ _ q88).ret
                obtain ⟨r89, q91, hr⟩ := Option.bind_eq_some_iff.1 hr
                have e90 : ∀ H ng, gcall (shOf F) cl false n_impl_BestValue [.fs (r7.1.map impl_Job.cells), .int .i64 3] H ng = some (.tup [.int .i64 r89.1, .bool r89.2], H, ng, .inert) := fun H ng => call_far s_impl_BestValue rfl (K_impl_BestValue _ _ _ q91).ret
                by_cases h96 : (subK .i64 r86.1 r89.1) = r10.1
                · rw [if_pos h96] at hr
                  have e94 : ((subK .i64 r86.1 r89.1) = r10.1) = True := eq_true h96
                  clear h96
                  obtain ⟨p97, q106, hr⟩ := Option.bind_eq_some_iff.1 hr
                  obtain ⟨ex103, T100, H101, ng102, l99, m98⟩ := lp_laws_FnPairLoss_l0 (cl := cl) K_laws_vBig K_impl_IsRuledOrder K_laws_vCut K_impl_RuleDifference K_impl_BestValue K_impl_ValueOf K_spec_DrawPairLoss K_impl_PairLoss K_spec_PairLoss K_spec_DrawInversionsOf K_impl_InversionsOf K_spec_InversionsOf K_laws_vPairs K_impl_ExchangeGain  r7.1 r7.2 _ _ q106 [(3, .fs (r7.1.map impl_Job.cells)), (4, .fs (r7.2.map (cI .i64))), (22, .int .i64 0)] [] 0 (show R_laws_FnPairLoss_l0 r7.1 r7.2 0 [(3, .fs (r7.1.map impl_Job.cells)), (4, .fs (r7.2.map (cI .i64))), (22, .int .i64 0)] [] from ⟨rfl, rfl, rfl, rfl⟩) rfl
                  rcases p97 with p97 | p97
                  · dsimp only at hr
                    obtain ⟨rfl, e104⟩ := m98
                    subst e104
                    have hr_ := Option.some.inj hr; subst hr_
                    refine RetF.scal (by
                      simp only [c_laws_FnPairLoss, evA, evB, Int.reduceToNat, eq_self, reduceCtorEq, ↓reduceIte, Nat.reduceEqDiff, Nat.reduceAdd, Nat.reduceLT, Nat.reduceLeDiff, Nat.reduceMul, Nat.reduceSub, Nat.reduceBEq, impl_Job.cells, rz_impl_Job, pr_impl_Job, spec_l1Cur.cells, rz_spec_l1Cur, pr_spec_l1Cur, arr_2_int.cells, rz_arr_2_int, pr_arr_2_int, *]
                      rfl) rfl rfl
                  · dsimp only at hr
                    obtain ⟨rfl, e105⟩ := m98
                    have hr_ := Option.some.inj hr; subst hr_
                    refine RetF.scal (by
                      simp only [c_laws_FnPairLoss, evA, evB, Int.reduceToNat, eq_self, reduceCtorEq, ↓reduceIte, Nat.reduceEqDiff, Nat.reduceAdd, Nat.reduceLT, Nat.reduceLeDiff, Nat.reduceMul, Nat.reduceSub, Nat.reduceBEq, impl_Job.cells, rz_impl_Job, pr_impl_Job, spec_l1Cur.cells, rz_spec_l1Cur, pr_spec_l1Cur, arr_2_int.cells, rz_arr_2_int, pr_arr_2_int, *]
                      rfl) rfl rfl
                · rw [if_neg h96] at hr
                  have e95 : ((subK .i64 r86.1 r89.1) = r10.1) = False := eq_false h96
                  clear h96
                  have hr_ := Option.some.inj hr; subst hr_
                  refine RetF.scal (by
                    simp only [c_laws_FnPairLoss, evA, evB, Int.reduceToNat, eq_self, reduceCtorEq, ↓reduceIte, Nat.reduceEqDiff, Nat.reduceAdd, Nat.reduceLT, Nat.reduceLeDiff, Nat.reduceMul, Nat.reduceSub, Nat.reduceBEq, impl_Job.cells, rz_impl_Job, pr_impl_Job, spec_l1Cur.cells, rz_spec_l1Cur, pr_spec_l1Cur, arr_2_int.cells, rz_arr_2_int, pr_arr_2_int, *]
                    rfl) rfl rfl
              · rw [if_neg h84] at hr
                have e83 : r10.2 = false := Bool.eq_false_iff.2 h84
                clear h84
                have e107 : r13.2 = false := beq_l e28 e83
                have hr_ := Option.some.inj hr; subst hr_
                refine RetF.scal (by
                  simp only [c_laws_FnPairLoss, evA, evB, Int.reduceToNat, eq_self, reduceCtorEq, ↓reduceIte, Nat.reduceEqDiff, Nat.reduceAdd, Nat.reduceLT, Nat.reduceLeDiff, Nat.reduceMul, Nat.reduceSub, Nat.reduceBEq, impl_Job.cells, rz_impl_Job, pr_impl_Job, spec_l1Cur.cells, rz_spec_l1Cur, pr_spec_l1Cur, arr_2_int.cells, rz_arr_2_int, pr_arr_2_int, *]
                  rfl) rfl rfl
          · rw [if_neg h44] at hr
            have e43 : r39 = false := Bool.eq_false_iff.2 h44
            clear h44
            have hr_ := Option.some.inj hr; subst hr_
            refine RetF.scal (by
              simp only [c_laws_FnPairLoss, evA, evB, Int.reduceToNat, eq_self, reduceCtorEq, ↓reduceIte, Nat.reduceEqDiff, Nat.reduceAdd, Nat.reduceLT, Nat.reduceLeDiff, Nat.reduceMul, Nat.reduceSub, Nat.reduceBEq, impl_Job.cells, rz_impl_Job, pr_impl_Job, spec_l1Cur.cells, rz_spec_l1Cur, pr_spec_l1Cur, arr_2_int.cells, rz_arr_2_int, pr_arr_2_int, *]
              rfl) rfl rfl
        · rw [if_neg h38] at hr
          have e37 : (r22.2 == r25.2) = false := beq_eq_false_iff_ne.2 h38
          clear h38
          have hr_ := Option.some.inj hr; subst hr_
          refine RetF.scal (by
            simp only [c_laws_FnPairLoss, evA, evB, Int.reduceToNat, eq_self, reduceCtorEq, ↓reduceIte, Nat.reduceEqDiff, Nat.reduceAdd, Nat.reduceLT, Nat.reduceLeDiff, Nat.reduceMul, Nat.reduceSub, Nat.reduceBEq, impl_Job.cells, rz_impl_Job, pr_impl_Job, spec_l1Cur.cells, rz_spec_l1Cur, pr_spec_l1Cur, arr_2_int.cells, rz_arr_2_int, pr_arr_2_int, *]
            rfl) rfl rfl
      · rw [if_neg h35] at hr
        have e34 : (r10.1 = r13.1) = False := eq_false h35
        clear h35
        have hr_ := Option.some.inj hr; subst hr_
        refine RetF.scal (by
          simp only [c_laws_FnPairLoss, evA, evB, Int.reduceToNat, eq_self, reduceCtorEq, ↓reduceIte, Nat.reduceEqDiff, Nat.reduceAdd, Nat.reduceLT, Nat.reduceLeDiff, Nat.reduceMul, Nat.reduceSub, Nat.reduceBEq, impl_Job.cells, rz_impl_Job, pr_impl_Job, spec_l1Cur.cells, rz_spec_l1Cur, pr_spec_l1Cur, arr_2_int.cells, rz_arr_2_int, pr_arr_2_int, *]
          rfl) rfl rfl
    · rw [if_neg h30] at hr
      have e29 : (r10.2 == r13.2) = false := beq_eq_false_iff_ne.2 h30
      clear h30
      have hr_ := Option.some.inj hr; subst hr_
      refine RetF.scal (by
        simp only [c_laws_FnPairLoss, evA, evB, Int.reduceToNat, eq_self, reduceCtorEq, ↓reduceIte, Nat.reduceEqDiff, Nat.reduceAdd, Nat.reduceLT, Nat.reduceLeDiff, Nat.reduceMul, Nat.reduceSub, Nat.reduceBEq, impl_Job.cells, rz_impl_Job, pr_impl_Job, spec_l1Cur.cells, rz_spec_l1Cur, pr_spec_l1Cur, arr_2_int.cells, rz_arr_2_int, pr_arr_2_int, *]
        rfl) rfl rfl

end Gh
