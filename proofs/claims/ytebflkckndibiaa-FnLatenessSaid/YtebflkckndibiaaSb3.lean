/- The ghost answers as the shallow functions do, part 3. Written by program. -/
import Derived.Test.YtebflkckndibiaaSa
namespace Gh
open Go
set_option linter.unusedSimpArgs false
set_option linter.unusedVariables false
set_option maxRecDepth 100000
set_option maxHeartbeats 1000000

theorem ok_laws_FnLateness {cl : Callee} (K_laws_rBig : K_laws_rBig x_laws_rBig (cl n_laws_rBig)) (K_spec_DrawTimelyAfter : K_spec_DrawTimelyAfter x_spec_DrawTimelyAfter (cl n_spec_DrawTimelyAfter)) (K_impl_TimelyAfter : K_impl_TimelyAfter x_impl_TimelyAfter (cl n_impl_TimelyAfter)) (K_spec_TimelyAfter : K_spec_TimelyAfter x_spec_TimelyAfter (cl n_spec_TimelyAfter)) (K_impl_EarliestLatest : K_impl_EarliestLatest x_impl_EarliestLatest (cl n_impl_EarliestLatest)) (K_spec_EarliestLatest : K_spec_EarliestLatest x_spec_EarliestLatest (cl n_spec_EarliestLatest)) (K_laws_rBest : K_laws_rBest x_laws_rBest (cl n_laws_rBest)) (K_impl_DueOrder : K_impl_DueOrder x_impl_DueOrder (cl n_impl_DueOrder)) (K_impl_ValueOf : K_impl_ValueOf x_impl_ValueOf (cl n_impl_ValueOf)) : K_laws_FnLateness (x_laws_FnLateness) (gbody F LL cl c_laws_FnLateness) := by
  intro code_ r hr
  unfold x_laws_FnLateness at hr
  try dsimp only at hr
  obtain ⟨r1, q3, hr⟩ := Option.bind_eq_some_iff.1 hr
  have e2 : ∀ H ng, gcall (shOf F) cl false n_laws_rBig [.fs (code_.map (cI .u8))] H ng = some (.bool r1, H, ng, .inert) := fun H ng => call_far s_laws_rBig rfl (K_laws_rBig _ _ q3).ret
  by_cases h6 : r1 = true
  · rw [if_pos h6] at hr
    have e4 : r1 = true := h6
    clear h6
    have hr_ := Option.some.inj hr; subst hr_
    refine RetF.scal (by
      simp only [c_laws_FnLateness, evA, evB, Int.reduceToNat, eq_self, reduceCtorEq, ↓reduceIte, Nat.reduceEqDiff, Nat.reduceAdd, Nat.reduceLT, Nat.reduceLeDiff, Nat.reduceMul, Nat.reduceSub, spec_l1Cur.cells, rz_spec_l1Cur, pr_spec_l1Cur, impl_Job.cells, rz_impl_Job, pr_impl_Job, spec_l2Search.cells, rz_spec_l2Search, pr_spec_l2Search, *]
      rfl) rfl rfl
  · rw [if_neg h6] at hr
    have e5 : r1 = false := Bool.eq_false_iff.2 h6
    clear h6
    obtain ⟨r7, q9, hr⟩ := Option.bind_eq_some_iff.1 hr
    have e8 : ∀ H ng, gcall (shOf F) cl false n_spec_DrawTimelyAfter [.fs (code_.map (cI .u8))] H ng = some (.tup [.fs (r7.1.map impl_Job.cells), .int .i64 r7.2], H, ng, .inert) := fun H ng => call_far s_spec_DrawTimelyAfter rfl (K_spec_DrawTimelyAfter _ _ q9)
    obtain ⟨r10, q12, hr⟩ := Option.bind_eq_some_iff.1 hr
    have e11 : ∀ H ng, gcall (shOf F) cl false n_impl_TimelyAfter [.fs (r7.1.map impl_Job.cells), .int .i64 r7.2] H ng = some (.tup [.bool r10.1, .bool r10.2], H, ng, .inert) := fun H ng => call_far s_impl_TimelyAfter rfl (K_impl_TimelyAfter _ _ _ q12).ret
    obtain ⟨r13, q15, hr⟩ := Option.bind_eq_some_iff.1 hr
    have e14 : ∀ H ng, gcall (shOf F) cl false n_spec_TimelyAfter [.fs (r7.1.map impl_Job.cells), .int .i64 r7.2] H ng = some (.tup [.bool r13.1, .bool r13.2], H, ng, .inert) := fun H ng => call_far s_spec_TimelyAfter rfl (K_spec_TimelyAfter _ _ _ q15).ret
    by_cases h18 : r10.1 = r13.1
    · rw [if_pos h18] at hr
      have e16 : (r10.1 == r13.1) = true := beq_iff_eq.2 h18
      clear h18
      by_cases h21 : r10.2 = r13.2
      · rw [if_pos h21] at hr
        have e19 : (r10.2 == r13.2) = true := beq_iff_eq.2 h21
        clear h21
        obtain ⟨r22, q24, hr⟩ := Option.bind_eq_some_iff.1 hr
        have e23 : ∀ H ng, gcall (shOf F) cl false n_impl_EarliestLatest [.fs (r7.1.map impl_Job.cells)] H ng = some (.tup [.int .i64 r22.1, .bool r22.2], H, ng, .inert) := fun H ng => call_far s_impl_EarliestLatest rfl (K_impl_EarliestLatest _ _ q24).ret
        obtain ⟨r25, q27, hr⟩ := Option.bind_eq_some_iff.1 hr
        have e26 : ∀ H ng, gcall (shOf F) cl false n_spec_EarliestLatest [.fs (r7.1.map impl_Job.cells)] H ng = some (.tup [.int .i64 r25.1, .bool r25.2], H, ng, .inert) := fun H ng => call_far s_spec_EarliestLatest rfl (K_spec_EarliestLatest _ _ q27).ret
        by_cases h32 : r22.1 = r25.1
        · rw [if_pos h32] at hr
          have e30 : (r22.1 = r25.1) = True := eq_true h32
          clear h32
          by_cases h35 : r22.2 = r25.2
          · rw [if_pos h35] at hr
            have e33 : (r22.2 == r25.2) = true := beq_iff_eq.2 h35
            clear h35
            by_cases h38 : r22.2 = true
            · rw [if_pos h38] at hr
              have e36 : r22.2 = true := h38
              clear h38
              have e39 : r25.2 = true := beq_l e33 e36
              obtain ⟨r40, q42, hr⟩ := Option.bind_eq_some_iff.1 hr
              have e41 : ∀ H ng, gcall (shOf F) cl false n_laws_rBest [.fs (r7.1.map impl_Job.cells), .int .i64 4] H ng = some (.tup [.int .i64 r40.1, .bool r40.2], H, ng, .inert) := fun H ng => call_far s_laws_rBest rfl (K_laws_rBest _ _ _ q42).ret
              obtain ⟨r43, q45, hr⟩ := Option.bind_eq_some_iff.1 hr
              have e44 : ∀ H ng, gcall (shOf F) cl false n_impl_DueOrder [.fs (r7.1.map impl_Job.cells)] H ng = some (.tup [.fs (r43.1.map (cI .i64)), .bool r43.2], H, ng, .inert) := fun H ng => call_far s_impl_DueOrder rfl (K_impl_DueOrder _ _ q45)
              obtain ⟨r46, q48, hr⟩ := Option.bind_eq_some_iff.1 hr
              have e47 : ∀ H ng, gcall (shOf F) cl false n_impl_ValueOf [.fs (r7.1.map impl_Job.cells), .fs (r43.1.map (cI .i64)), .int .i64 4] H ng = some (.tup [.int .i64 r46.1, .bool r46.2], H, ng, .inert) := fun H ng => call_far s_impl_ValueOf rfl (K_impl_ValueOf _ _ _ _ q48).ret
              by_cases h51 : r40.2 = true
              · rw [if_pos h51] at hr
                have e49 : r40.2 = true := h51
                clear h51
                by_cases h54 : r43.2 = true
                · rw [if_pos h54] at hr
                  have e52 : r43.2 = true := h54
                  clear h54
                  by_cases h57 : r46.2 = true
                  · rw [if_pos h57] at hr
                    have e55 : r46.2 = true := h57
                    clear h57
                    by_cases h62 : r40.1 = r22.1
                    · rw [if_pos h62] at hr
                      have e60 : (r40.1 = r22.1) = True := eq_true h62
                      clear h62
                      by_cases h67 : r46.1 = r22.1
                      · rw [if_pos h67] at hr
                        have e65 : (r46.1 = r22.1) = True := eq_true h67
                        clear h67
                        by_cases h70 : r10.2 = true
                        · rw [if_pos h70] at hr
                          have e68 : r10.2 = true := h70
                          clear h70
                          have e71 : r13.2 = true := beq_l e19 e68
                          by_cases h74 : r10.1 = (decide (r22.1 ≤ r7.2))
                          · rw [if_pos h74] at hr
                            have e72 : (r10.1 == (decide (r22.1 ≤ r7.2))) = true := beq_iff_eq.2 h74
                            clear h74
                            have hr_ := Option.some.inj hr; subst hr_
                            refine RetF.scal (by
                              simp only [c_laws_FnLateness, evA, evB, Int.reduceToNat, eq_self, reduceCtorEq, ↓reduceIte, Nat.reduceEqDiff, Nat.reduceAdd, Nat.reduceLT, Nat.reduceLeDiff, Nat.reduceMul, Nat.reduceSub, spec_l1Cur.cells, rz_spec_l1Cur, pr_spec_l1Cur, impl_Job.cells, rz_impl_Job, pr_impl_Job, spec_l2Search.cells, rz_spec_l2Search, pr_spec_l2Search, *]
                              rfl) rfl rfl
                          · rw [if_neg h74] at hr
                            have e73 : (r10.1 == (decide (r22.1 ≤ r7.2))) = false := beq_eq_false_iff_ne.2 h74
                            clear h74
                            have hr_ := Option.some.inj hr; subst hr_
                            refine RetF.scal (by
                              simp only [c_laws_FnLateness, evA, evB, Int.reduceToNat, eq_self, reduceCtorEq, ↓reduceIte, Nat.reduceEqDiff, Nat.reduceAdd, Nat.reduceLT, Nat.reduceLeDiff, Nat.reduceMul, Nat.reduceSub, spec_l1Cur.cells, rz_spec_l1Cur, pr_spec_l1Cur, impl_Job.cells, rz_impl_Job, pr_impl_Job, spec_l2Search.cells, rz_spec_l2Search, pr_spec_l2Search, *]
                              rfl) rfl rfl
                        · rw [if_neg h70] at hr
                          have e69 : r10.2 = false := Bool.eq_false_iff.2 h70
                          clear h70
                          have e75 : r13.2 = false := beq_l e19 e69
                          have hr_ := Option.some.inj hr; subst hr_
                          refine RetF.scal (by
                            simp only [c_laws_FnLateness, evA, evB, Int.reduceToNat, eq_self, reduceCtorEq, ↓reduceIte, Nat.reduceEqDiff, Nat.reduceAdd, Nat.reduceLT, Nat.reduceLeDiff, Nat.reduceMul, Nat.reduceSub, spec_l1Cur.cells, rz_spec_l1Cur, pr_spec_l1Cur, impl_Job.cells, rz_impl_Job, pr_impl_Job, spec_l2Search.cells, rz_spec_l2Search, pr_spec_l2Search, *]
                            rfl) rfl rfl
                      · rw [if_neg h67] at hr
                        have e66 : (r46.1 = r22.1) = False := eq_false h67
                        clear h67
                        have hr_ := Option.some.inj hr; subst hr_
                        refine RetF.scal (by
                          simp only [c_laws_FnLateness, evA, evB, Int.reduceToNat, eq_self, reduceCtorEq, ↓reduceIte, Nat.reduceEqDiff, Nat.reduceAdd, Nat.reduceLT, Nat.reduceLeDiff, Nat.reduceMul, Nat.reduceSub, spec_l1Cur.cells, rz_spec_l1Cur, pr_spec_l1Cur, impl_Job.cells, rz_impl_Job, pr_impl_Job, spec_l2Search.cells, rz_spec_l2Search, pr_spec_l2Search, *]
                          rfl) rfl rfl
                    · rw [if_neg h62] at hr
                      have e61 : (r40.1 = r22.1) = False := eq_false h62
                      clear h62
                      have hr_ := Option.some.inj hr; subst hr_
                      refine RetF.scal (by
                        simp only [c_laws_FnLateness, evA, evB, Int.reduceToNat, eq_self, reduceCtorEq, ↓reduceIte, Nat.reduceEqDiff, Nat.reduceAdd, Nat.reduceLT, Nat.reduceLeDiff, Nat.reduceMul, Nat.reduceSub, spec_l1Cur.cells, rz_spec_l1Cur, pr_spec_l1Cur, impl_Job.cells, rz_impl_Job, pr_impl_Job, spec_l2Search.cells, rz_spec_l2Search, pr_spec_l2Search, *]
                        rfl) rfl rfl
                  · rw [if_neg h57] at hr
                    have e56 : r46.2 = false := Bool.eq_false_iff.2 h57
                    clear h57
                    have hr_ := Option.some.inj hr; subst hr_
                    refine RetF.scal (by
                      simp only [c_laws_FnLateness, evA, evB, Int.reduceToNat, eq_self, reduceCtorEq, ↓reduceIte, Nat.reduceEqDiff, Nat.reduceAdd, Nat.reduceLT, Nat.reduceLeDiff, Nat.reduceMul, Nat.reduceSub, spec_l1Cur.cells, rz_spec_l1Cur, pr_spec_l1Cur, impl_Job.cells, rz_impl_Job, pr_impl_Job, spec_l2Search.cells, rz_spec_l2Search, pr_spec_l2Search, *]
                      rfl) rfl rfl
                · rw [if_neg h54] at hr
                  have e53 : r43.2 = false := Bool.eq_false_iff.2 h54
                  clear h54
                  have hr_ := Option.some.inj hr; subst hr_
                  refine RetF.scal (by
                    simp only [c_laws_FnLateness, evA, evB, Int.reduceToNat, eq_self, reduceCtorEq, ↓reduceIte, Nat.reduceEqDiff, Nat.reduceAdd, Nat.reduceLT, Nat.reduceLeDiff, Nat.reduceMul, Nat.reduceSub, spec_l1Cur.cells, rz_spec_l1Cur, pr_spec_l1Cur, impl_Job.cells, rz_impl_Job, pr_impl_Job, spec_l2Search.cells, rz_spec_l2Search, pr_spec_l2Search, *]
                    rfl) rfl rfl
              · rw [if_neg h51] at hr
                have e50 : r40.2 = false := Bool.eq_false_iff.2 h51
                clear h51
                have hr_ := Option.some.inj hr; subst hr_
                refine RetF.scal (by
                  simp only [c_laws_FnLateness, evA, evB, Int.reduceToNat, eq_self, reduceCtorEq, ↓reduceIte, Nat.reduceEqDiff, Nat.reduceAdd, Nat.reduceLT, Nat.reduceLeDiff, Nat.reduceMul, Nat.reduceSub, spec_l1Cur.cells, rz_spec_l1Cur, pr_spec_l1Cur, impl_Job.cells, rz_impl_Job, pr_impl_Job, spec_l2Search.cells, rz_spec_l2Search, pr_spec_l2Search, *]
                  rfl) rfl rfl
            · rw [if_neg h38] at hr
              have e37 : r22.2 = false := Bool.eq_false_iff.2 h38
              clear h38
              have e76 : r25.2 = false := beq_l e33 e37
              by_cases h79 : r10.2 = true
              · rw [if_pos h79] at hr
                have e77 : r10.2 = true := h79
                clear h79
                have e80 : r13.2 = true := beq_l e19 e77
                have hr_ := Option.some.inj hr; subst hr_
                refine RetF.scal (by
                  simp only [c_laws_FnLateness, evA, evB, Int.reduceToNat, eq_self, reduceCtorEq, ↓reduceIte, Nat.reduceEqDiff, Nat.reduceAdd, Nat.reduceLT, Nat.reduceLeDiff, Nat.reduceMul, Nat.reduceSub, spec_l1Cur.cells, rz_spec_l1Cur, pr_spec_l1Cur, impl_Job.cells, rz_impl_Job, pr_impl_Job, spec_l2Search.cells, rz_spec_l2Search, pr_spec_l2Search, *]
                  rfl) rfl rfl
              · rw [if_neg h79] at hr
                have e78 : r10.2 = false := Bool.eq_false_iff.2 h79
                clear h79
                have e81 : r13.2 = false := beq_l e19 e78
                have hr_ := Option.some.inj hr; subst hr_
                refine RetF.scal (by
                  simp only [c_laws_FnLateness, evA, evB, Int.reduceToNat, eq_self, reduceCtorEq, ↓reduceIte, Nat.reduceEqDiff, Nat.reduceAdd, Nat.reduceLT, Nat.reduceLeDiff, Nat.reduceMul, Nat.reduceSub, spec_l1Cur.cells, rz_spec_l1Cur, pr_spec_l1Cur, impl_Job.cells, rz_impl_Job, pr_impl_Job, spec_l2Search.cells, rz_spec_l2Search, pr_spec_l2Search, *]
                  rfl) rfl rfl
          · rw [if_neg h35] at hr
            have e34 : (r22.2 == r25.2) = false := beq_eq_false_iff_ne.2 h35
            clear h35
            have hr_ := Option.some.inj hr; subst hr_
            refine RetF.scal (by
              simp only [c_laws_FnLateness, evA, evB, Int.reduceToNat, eq_self, reduceCtorEq, ↓reduceIte, Nat.reduceEqDiff, Nat.reduceAdd, Nat.reduceLT, Nat.reduceLeDiff, Nat.reduceMul, Nat.reduceSub, spec_l1Cur.cells, rz_spec_l1Cur, pr_spec_l1Cur, impl_Job.cells, rz_impl_Job, pr_impl_Job, spec_l2Search.cells, rz_spec_l2Search, pr_spec_l2Search, *]
              rfl) rfl rfl
        · rw [if_neg h32] at hr
          have e31 : (r22.1 = r25.1) = False := eq_false h32
          clear h32
          have hr_ := Option.some.inj hr; subst hr_
          refine RetF.scal (by
            simp only [c_laws_FnLateness, evA, evB, Int.reduceToNat, eq_self, reduceCtorEq, ↓reduceIte, Nat.reduceEqDiff, Nat.reduceAdd, Nat.reduceLT, Nat.reduceLeDiff, Nat.reduceMul, Nat.reduceSub, spec_l1Cur.cells, rz_spec_l1Cur, pr_spec_l1Cur, impl_Job.cells, rz_impl_Job, pr_impl_Job, spec_l2Search.cells, rz_spec_l2Search, pr_spec_l2Search, *]
            rfl) rfl rfl
      · rw [if_neg h21] at hr
        have e20 : (r10.2 == r13.2) = false := beq_eq_false_iff_ne.2 h21
        clear h21
        have hr_ := Option.some.inj hr; subst hr_
        refine RetF.scal (by
          simp only [c_laws_FnLateness, evA, evB, Int.reduceToNat, eq_self, reduceCtorEq, ↓reduceIte, Nat.reduceEqDiff, Nat.reduceAdd, Nat.reduceLT, Nat.reduceLeDiff, Nat.reduceMul, Nat.reduceSub, spec_l1Cur.cells, rz_spec_l1Cur, pr_spec_l1Cur, impl_Job.cells, rz_impl_Job, pr_impl_Job, spec_l2Search.cells, rz_spec_l2Search, pr_spec_l2Search, *]
          rfl) rfl rfl
    · rw [if_neg h18] at hr
      have e17 : (r10.1 == r13.1) = false := beq_eq_false_iff_ne.2 h18
      clear h18
      have hr_ := Option.some.inj hr; subst hr_
      refine RetF.scal (by
        simp only [c_laws_FnLateness, evA, evB, Int.reduceToNat, eq_self, reduceCtorEq, ↓reduceIte, Nat.reduceEqDiff, Nat.reduceAdd, Nat.reduceLT, Nat.reduceLeDiff, Nat.reduceMul, Nat.reduceSub, spec_l1Cur.cells, rz_spec_l1Cur, pr_spec_l1Cur, impl_Job.cells, rz_impl_Job, pr_impl_Job, spec_l2Search.cells, rz_spec_l2Search, pr_spec_l2Search, *]
        rfl) rfl rfl

end Gh
