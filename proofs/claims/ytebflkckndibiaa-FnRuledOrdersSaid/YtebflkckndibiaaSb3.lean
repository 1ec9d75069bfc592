/- The ghost answers as the shallow functions do, part 3. Written by program. -/
import Derived.Test.YtebflkckndibiaaSa
namespace Gh
open Go
set_option linter.unusedSimpArgs false
set_option linter.unusedVariables false
set_option maxRecDepth 100000
set_option maxHeartbeats 20000000

theorem ok_laws_FnRuledOrders {cl : Callee} (K_laws_vBig : K_laws_vBig x_laws_vBig (cl n_laws_vBig)) (K_spec_DrawIsRuledOrder : K_spec_DrawIsRuledOrder x_spec_DrawIsRuledOrder (cl n_spec_DrawIsRuledOrder)) (K_impl_IsRuledOrder : K_impl_IsRuledOrder x_impl_IsRuledOrder (cl n_impl_IsRuledOrder)) (K_spec_IsRuledOrder : K_spec_IsRuledOrder x_spec_IsRuledOrder (cl n_spec_IsRuledOrder)) (K_impl_RuledOrder : K_impl_RuledOrder x_impl_RuledOrder (cl n_impl_RuledOrder)) (K_spec_RuledOrder : K_spec_RuledOrder x_spec_RuledOrder (cl n_spec_RuledOrder)) (K_spec_DrawIsPlain : K_spec_DrawIsPlain x_spec_DrawIsPlain (cl n_spec_DrawIsPlain)) (K_laws_vCut : K_laws_vCut x_laws_vCut (cl n_laws_vCut)) (K_spec_DrawRuleDifference : K_spec_DrawRuleDifference x_spec_DrawRuleDifference (cl n_spec_DrawRuleDifference)) (K_impl_RuleDifference : K_impl_RuleDifference x_impl_RuleDifference (cl n_impl_RuleDifference)) (K_spec_RuleDifference : K_spec_RuleDifference x_spec_RuleDifference (cl n_spec_RuleDifference)) (K_laws_vInts : K_laws_vInts x_laws_vInts (cl n_laws_vInts)) (K_impl_IsPlain : K_impl_IsPlain x_impl_IsPlain (cl n_impl_IsPlain)) (K_spec_IsPlain : K_spec_IsPlain x_spec_IsPlain (cl n_spec_IsPlain)) (K_impl_IsBestOrder : K_impl_IsBestOrder x_impl_IsBestOrder (cl n_impl_IsBestOrder)) : K_laws_FnRuledOrders (x_laws_FnRuledOrders) (gbody F LL cl c_laws_FnRuledOrders) := by
  intro t_ r hr
  unfold x_laws_FnRuledOrders at hr
  try dsimp only at hr
  obtain ⟨r1, q3, hr⟩ := Option.bind_eq_some_iff.1 hr
  have e2 : ∀ H ng, gcall (shOf F) cl false n_laws_vBig [.fs (t_.map (cI .u8))] H ng = some (.bool r1, H, ng, .inert) := fun H ng => call_far s_laws_vBig rfl (K_laws_vBig _ _ q3).ret
  by_cases h6 : r1 = true
  · rw [if_pos h6] at hr
    have e4 : r1 = true := h6
    clear h6
    have hr_ := Option.some.inj hr; subst hr_
    refine RetF.scal (by
      simp only [c_laws_FnRuledOrders, evA, evB, Int.reduceToNat, eq_self, reduceCtorEq, ↓reduceIte, Nat.reduceEqDiff, Nat.reduceAdd, Nat.reduceLT, Nat.reduceLeDiff, Nat.reduceMul, Nat.reduceSub, Nat.reduceBEq, spec_l1Cur.cells, rz_spec_l1Cur, pr_spec_l1Cur, impl_Job.cells, rz_impl_Job, pr_impl_Job, *]
      rfl) rfl rfl
  · rw [if_neg h6] at hr
    have e5 : r1 = false := Bool.eq_false_iff.2 h6
    clear h6
    obtain ⟨r7, q9, hr⟩ := Option.bind_eq_some_iff.1 hr
    have e8 : ∀ H ng, gcall (shOf F) cl false n_spec_DrawIsRuledOrder [.fs (t_.map (cI .u8))] H ng = some (.tup [.fs (r7.1.map impl_Job.cells), .fs (r7.2.1.map (cI .i64)), .int .i64 r7.2.2], H, ng, .inert) := fun H ng => call_far s_spec_DrawIsRuledOrder rfl (K_spec_DrawIsRuledOrder _ _ q9)
    obtain ⟨r10, q12, hr⟩ := Option.bind_eq_some_iff.1 hr
    have e11 : ∀ H ng, gcall (shOf F) cl false n_impl_IsRuledOrder [.fs (r7.1.map impl_Job.cells), .fs (r7.2.1.map (cI .i64)), .int .i64 r7.2.2] H ng = some (.tup [.bool r10.1, .bool r10.2], H, ng, .inert) := fun H ng => call_far s_impl_IsRuledOrder rfl (K_impl_IsRuledOrder _ _ _ _ q12).ret
    obtain ⟨r13, q15, hr⟩ := Option.bind_eq_some_iff.1 hr
    have e14 : ∀ H ng, gcall (shOf F) cl false n_spec_IsRuledOrder [.fs (r7.1.map impl_Job.cells), .fs (r7.2.1.map (cI .i64)), .int .i64 r7.2.2] H ng = some (.tup [.bool r13.1, .bool r13.2], H, ng, .inert) := fun H ng => call_far s_spec_IsRuledOrder rfl (K_spec_IsRuledOrder _ _ _ _ q15).ret
    obtain ⟨r16, q18, hr⟩ := Option.bind_eq_some_iff.1 hr
    have e17 : ∀ H ng, gcall (shOf F) cl false n_impl_RuledOrder [.fs (r7.1.map impl_Job.cells), .int .i64 r7.2.2] H ng = some (.tup [.fs (r16.1.map (cI .i64)), .bool r16.2], H, ng, .inert) := fun H ng => call_far s_impl_RuledOrder rfl (K_impl_RuledOrder _ _ _ q18)
    obtain ⟨r19, q21, hr⟩ := Option.bind_eq_some_iff.1 hr
    have e20 : ∀ H ng, gcall (shOf F) cl false n_spec_RuledOrder [.fs (r7.1.map impl_Job.cells), .int .i64 r7.2.2] H ng = some (.tup [.fs (r19.1.map (cI .i64)), .bool r19.2], H, ng, .inert) := fun H ng => call_far s_spec_RuledOrder rfl (K_spec_RuledOrder _ _ _ q21)
    obtain ⟨r22, q24, hr⟩ := Option.bind_eq_some_iff.1 hr
    have e23 : ∀ H ng, gcall (shOf F) cl false n_laws_vCut [.fs (t_.map (cI .u8)), .int .i64 1] H ng = some (.fs (r22.map (cI .u8)), H, ng, .inert) := fun H ng => call_far s_laws_vCut rfl (K_laws_vCut _ _ _ q24).retF.ret
    obtain ⟨r25, q27, hr⟩ := Option.bind_eq_some_iff.1 hr
    have e26 : ∀ H ng, gcall (shOf F) cl false n_spec_DrawIsPlain [.fs (r22.map (cI .u8))] H ng = some (.fs (r25.map impl_Job.cells), H, ng, .inert) := fun H ng => call_far s_spec_DrawIsPlain rfl (K_spec_DrawIsPlain _ _ q27)
    obtain ⟨r28, q30, hr⟩ := Option.bind_eq_some_iff.1 hr
    have e29 : ∀ H ng, gcall (shOf F) cl false n_laws_vCut [.fs (t_.map (cI .u8)), .int .i64 2] H ng = some (.fs (r28.map (cI .u8)), H, ng, .inert) := fun H ng => call_far s_laws_vCut rfl (K_laws_vCut _ _ _ q30).retF.ret
    obtain ⟨r31, q33, hr⟩ := Option.bind_eq_some_iff.1 hr
    have e32 : ∀ H ng, gcall (shOf F) cl false n_spec_DrawRuleDifference [.fs (r28.map (cI .u8))] H ng = some (.tup [.fs (r31.1.map impl_Job.cells), .int .i64 r31.2.1, .int .i64 r31.2.2.1, .int .i64 r31.2.2.2], H, ng, .inert) := fun H ng => call_far s_spec_DrawRuleDifference rfl (K_spec_DrawRuleDifference _ _ q33)
    obtain ⟨r34, q36, hr⟩ := Option.bind_eq_some_iff.1 hr
    have e35 : ∀ H ng, gcall (shOf F) cl false n_impl_RuleDifference [.fs (r31.1.map impl_Job.cells), .int .i64 r31.2.1, .int .i64 r31.2.2.1, .int .i64 r31.2.2.2] H ng = some (.tup [.int .i64 r34.1, .bool r34.2], H, ng, .inert) := fun H ng => call_far s_impl_RuleDifference rfl (K_impl_RuleDifference _ _ _ _ _ q36).ret
    obtain ⟨r37, q39, hr⟩ := Option.bind_eq_some_iff.1 hr
    have e38 : ∀ H ng, gcall (shOf F) cl false n_spec_RuleDifference [.fs (r31.1.map impl_Job.cells), .int .i64 r31.2.1, .int .i64 r31.2.2.1, .int .i64 r31.2.2.2] H ng = some (.tup [.int .i64 r37.1, .bool r37.2], H, ng, .inert) := fun H ng => call_far s_spec_RuleDifference rfl (K_spec_RuleDifference _ _ _ _ _ q39).ret
    by_cases h42 : r10.1 = r13.1
    · rw [if_pos h42] at hr
      have e40 : (r10.1 == r13.1) = true := beq_iff_eq.2 h42
      clear h42
      by_cases h45 : r10.2 = r13.2
      · rw [if_pos h45] at hr
        have e43 : (r10.2 == r13.2) = true := beq_iff_eq.2 h45
        clear h45
        by_cases h48 : r16.2 = r19.2
        · rw [if_pos h48] at hr
          have e46 : (r16.2 == r19.2) = true := beq_iff_eq.2 h48
          clear h48
          obtain ⟨r49, q51, hr⟩ := Option.bind_eq_some_iff.1 hr
          have e50 : ∀ H ng, gcall (shOf F) cl false n_laws_vInts [.fs (r16.1.map (cI .i64)), .fs (r19.1.map (cI .i64))] H ng = some (.bool r49, H, ng, .inert) := fun H ng => call_far s_laws_vInts rfl (K_laws_vInts _ _ _ q51).ret
          by_cases h54 : r49 = true
          · rw [if_pos h54] at hr
            have e52 : r49 = true := h54
            clear h54
            obtain ⟨r55, q57, hr⟩ := Option.bind_eq_some_iff.1 hr
            have e56 : ∀ H ng, gcall (shOf F) cl false n_impl_IsPlain [.fs (r25.map impl_Job.cells)] H ng = some (.bool r55, H, ng, .inert) := fun H ng => call_far s_impl_IsPlain rfl (K_impl_IsPlain _ _ q57).ret
            obtain ⟨r58, q60, hr⟩ := Option.bind_eq_some_iff.1 hr
            have e59 : ∀ H ng, gcall (shOf F) cl false n_spec_IsPlain [.fs (r25.map impl_Job.cells)] H ng = some (.bool r58, H, ng, .inert) := fun H ng => call_far s_spec_IsPlain rfl (K_spec_IsPlain _ _ q60).ret
            by_cases h63 : r55 = r58
            · rw [if_pos h63] at hr
              have e61 : (r55 == r58) = true := beq_iff_eq.2 h63
              clear h63
              by_cases h68 : r34.1 = r37.1
              · rw [if_pos h68] at hr
                have e66 : (r34.1 = r37.1) = True := eq_true h68
                clear h68
                by_cases h71 : r34.2 = r37.2
                · rw [if_pos h71] at hr
                  have e69 : (r34.2 == r37.2) = true := beq_iff_eq.2 h71
                  clear h71
                  by_cases h74 : r34.2 = true
                  · rw [if_pos h74] at hr
                    have e72 : r34.2 = true := h74
                    clear h74
                    have e75 : r37.2 = true := beq_l e69 e72
                    obtain ⟨r76, q78, hr⟩ := Option.bind_eq_some_iff.1 hr
                    have e77 : ∀ H ng, gcall (shOf F) cl false n_impl_RuleDifference [.fs (r31.1.map impl_Job.cells), .int .i64 r31.2.1, .int .i64 r31.2.2.2, .int .i64 r31.2.2.1] H ng = some (.tup [.int .i64 r76.1, .bool r76.2], H, ng, .inert) := fun H ng => call_far s_impl_RuleDifference rfl (K_impl_RuleDifference _ _ _ _ _ q78).ret
                    by_cases h81 : r76.2 = true
                    · rw [if_pos h81] at hr
                      have e79 : r76.2 = true := h81
                      clear h81
                      by_cases h86 : r76.1 = (negK .i64 r34.1)
                      · rw [if_pos h86] at hr
                        have e84 : (r76.1 = (negK .i64 r34.1)) = True := eq_true h86
                        clear h86
                        by_cases h89 : r16.2 = true
                        · rw [if_pos h89] at hr
                          have e87 : r16.2 = true := h89
                          clear h89
                          have e90 : r19.2 = true := beq_l e46 e87
                          obtain ⟨r91, q93, hr⟩ := Option.bind_eq_some_iff.1 hr
                          have e92 : ∀ H ng, gcall (shOf F) cl false n_impl_IsBestOrder [.fs (r7.1.map impl_Job.cells), .fs (r16.1.map (cI .i64)), .int .i64 r7.2.2] H ng = some (.tup [.bool r91.1, .bool r91.2], H, ng, .inert) := fun H ng => call_far s_impl_IsBestOrder rfl (K_impl_IsBestOrder _ _ _ _ q93).ret
                          obtain ⟨r94, q96, hr⟩ := Option.bind_eq_some_iff.1 hr
                          have e95 : ∀ H ng, gcall (shOf F) cl false n_impl_IsRuledOrder [.fs (r7.1.map impl_Job.cells), .fs (r16.1.map (cI .i64)), .int .i64 r7.2.2] H ng = some (.tup [.bool r94.1, .bool r94.2], H, ng, .inert) := fun H ng => call_far s_impl_IsRuledOrder rfl (K_impl_IsRuledOrder _ _ _ _ q96).ret
                          by_cases h99 : r91.2 = true
                          · rw [if_pos h99] at hr
                            have e97 : r91.2 = true := h99
                            clear h99
                            by_cases h102 : r94.2 = true
                            · rw [if_pos h102] at hr
                              have e100 : r94.2 = true := h102
                              clear h102
                              by_cases h105 : r91.1 = true
                              · rw [if_pos h105] at hr
                                have e103 : r91.1 = true := h105
                                clear h105
                                by_cases h108 : r94.1 = true
                                · rw [if_pos h108] at hr
                                  have e106 : r94.1 = true := h108
                                  clear h108
                                  by_cases h111 : r10.2 = true
                                  · rw [if_pos h111] at hr
                                    have e109 : r10.2 = true := h111
                                    clear h111
                                    have e112 : r13.2 = true := beq_l e43 e109
                                    obtain ⟨r113, q115, hr⟩ := Option.bind_eq_some_iff.1 hr
                                    have e114 : ∀ H ng, gcall (shOf F) cl false n_impl_IsBestOrder [.fs (r7.1.map impl_Job.cells), .fs (r7.2.1.map (cI .i64)), .int .i64 r7.2.2] H ng = some (.tup [.bool r113.1, .bool r113.2], H, ng, .inert) := fun H ng => call_far s_impl_IsBestOrder rfl (K_impl_IsBestOrder _ _ _ _ q115).ret
                                    by_cases h118 : r113.2 = true
                                    · rw [if_pos h118] at hr
                                      have e116 : r113.2 = true := h118
                                      clear h118
                                      by_cases h121 : r10.1 = true
                                      · rw [if_pos h121] at hr
                                        have e119 : r10.1 = true := h121
                                        clear h121
                                        have e122 : r13.1 = true := beq_l e40 e119
                                        by_cases h125 : r113.1 = true
                                        · rw [if_pos h125] at hr
                                          have e123 : r113.1 = true := h125
                                          clear h125
                                          by_cases h130 : r7.2.2 = 2
                                          · rw [if_pos h130] at hr
                                            have e128 : (r7.2.2 = 2) = True := eq_true h130
                                            clear h130
                                            have hr_ := Option.some.inj hr; subst hr_
                                            refine RetF.scal (by
                                              simp only [c_laws_FnRuledOrders, evA, evB, Int.reduceToNat, eq_self, reduceCtorEq, ↓reduceIte, Nat.reduceEqDiff, Nat.reduceAdd, Nat.reduceLT, Nat.reduceLeDiff, Nat.reduceMul, Nat.reduceSub, Nat.reduceBEq, spec_l1Cur.cells, rz_spec_l1Cur, pr_spec_l1Cur, impl_Job.cells, rz_impl_Job, pr_impl_Job, *]
                                              rfl) rfl rfl
                                          · rw [if_neg h130] at hr
                                            have e129 : (r7.2.2 = 2) = False := eq_false h130
                                            clear h130
                                            by_cases h135 : r7.2.2 = 3
                                            · rw [if_pos h135] at hr
                                              have e133 : (r7.2.2 = 3) = True := eq_true h135
                                              clear h135
                                              have hr_ := Option.some.inj hr; subst hr_
                                              refine RetF.scal (by
                                                simp only [c_laws_FnRuledOrders, evA, evB, Int.reduceToNat, eq_self, reduceCtorEq, ↓reduceIte, Nat.reduceEqDiff, Nat.reduceAdd, Nat.reduceLT, Nat.reduceLeDiff, Nat.reduceMul, Nat.reduceSub, Nat.reduceBEq, spec_l1Cur.cells, rz_spec_l1Cur, pr_spec_l1Cur, impl_Job.cells, rz_impl_Job, pr_impl_Job, *]
                                                rfl) rfl rfl
                                            · rw [if_neg h135] at hr
                                              have e134 : (r7.2.2 = 3) = False := eq_false h135
                                              clear h135
                                              have hr_ := Option.some.inj hr; subst hr_
                                              refine RetF.scal (by
                                                simp only [c_laws_FnRuledOrders, evA, evB, Int.reduceToNat, eq_self, reduceCtorEq, ↓reduceIte, Nat.reduceEqDiff, Nat.reduceAdd, Nat.reduceLT, Nat.reduceLeDiff, Nat.reduceMul, Nat.reduceSub, Nat.reduceBEq, spec_l1Cur.cells, rz_spec_l1Cur, pr_spec_l1Cur, impl_Job.cells, rz_impl_Job, pr_impl_Job, *]
                                                rfl) rfl rfl
                                        · rw [if_neg h125] at hr
                                          have e124 : r113.1 = false := Bool.eq_false_iff.2 h125
                                          clear h125
                                          have hr_ := Option.some.inj hr; subst hr_
                                          refine RetF.scal (by
                                            simp only [c_laws_FnRuledOrders, evA, evB, Int.reduceToNat, eq_self, reduceCtorEq, ↓reduceIte, Nat.reduceEqDiff, Nat.reduceAdd, Nat.reduceLT, Nat.reduceLeDiff, Nat.reduceMul, Nat.reduceSub, Nat.reduceBEq, spec_l1Cur.cells, rz_spec_l1Cur, pr_spec_l1Cur, impl_Job.cells, rz_impl_Job, pr_impl_Job, *]
                                            rfl) rfl rfl
                                      · rw [if_neg h121] at hr
                                        have e120 : r10.1 = false := Bool.eq_false_iff.2 h121
                                        clear h121
                                        have e136 : r13.1 = false := beq_l e40 e120
                                        by_cases h141 : r7.2.2 = 2
                                        · rw [if_pos h141] at hr
                                          have e139 : (r7.2.2 = 2) = True := eq_true h141
                                          clear h141
                                          by_cases h144 : r113.1 = true
                                          · rw [if_pos h144] at hr
                                            have e142 : r113.1 = true := h144
                                            clear h144
                                            have hr_ := Option.some.inj hr; subst hr_
                                            refine RetF.scal (by
                                              simp only [c_laws_FnRuledOrders, evA, evB, Int.reduceToNat, eq_self, reduceCtorEq, ↓reduceIte, Nat.reduceEqDiff, Nat.reduceAdd, Nat.reduceLT, Nat.reduceLeDiff, Nat.reduceMul, Nat.reduceSub, Nat.reduceBEq, spec_l1Cur.cells, rz_spec_l1Cur, pr_spec_l1Cur, impl_Job.cells, rz_impl_Job, pr_impl_Job, *]
                                              rfl) rfl rfl
                                          · rw [if_neg h144] at hr
                                            have e143 : r113.1 = false := Bool.eq_false_iff.2 h144
                                            clear h144
                                            have hr_ := Option.some.inj hr; subst hr_
                                            refine RetF.scal (by
                                              simp only [c_laws_FnRuledOrders, evA, evB, Int.reduceToNat, eq_self, reduceCtorEq, ↓reduceIte, Nat.reduceEqDiff, Nat.reduceAdd, Nat.reduceLT, Nat.reduceLeDiff, Nat.reduceMul, Nat.reduceSub, Nat.reduceBEq, spec_l1Cur.cells, rz_spec_l1Cur, pr_spec_l1Cur, impl_Job.cells, rz_impl_Job, pr_impl_Job, *]
                                              rfl) rfl rfl
                                        · rw [if_neg h141] at hr
                                          have e140 : (r7.2.2 = 2) = False := eq_false h141
                                          clear h141
                                          by_cases h149 : r7.2.2 = 3
                                          · rw [if_pos h149] at hr
                                            have e147 : (r7.2.2 = 3) = True := eq_true h149
                                            clear h149
                                            by_cases h152 : r113.1 = true
                                            · rw [if_pos h152] at hr
                                              have e150 : r113.1 = true := h152
                                              clear h152
                                              have hr_ := Option.some.inj hr; subst hr_
                                              refine RetF.scal (by
                                                simp only [c_laws_FnRuledOrders, evA, evB, Int.reduceToNat, eq_self, reduceCtorEq, ↓reduceIte, Nat.reduceEqDiff, Nat.reduceAdd, Nat.reduceLT, Nat.reduceLeDiff, Nat.reduceMul, Nat.reduceSub, Nat.reduceBEq, spec_l1Cur.cells, rz_spec_l1Cur, pr_spec_l1Cur, impl_Job.cells, rz_impl_Job, pr_impl_Job, *]
                                                rfl) rfl rfl
                                            · rw [if_neg h152] at hr
                                              have e151 : r113.1 = false := Bool.eq_false_iff.2 h152
                                              clear h152
                                              have hr_ := Option.some.inj hr; subst hr_
                                              refine RetF.scal (by
                                                simp only [c_laws_FnRuledOrders, evA, evB, Int.reduceToNat, eq_self, reduceCtorEq, ↓reduceIte, Nat.reduceEqDiff, Nat.reduceAdd, Nat.reduceLT, Nat.reduceLeDiff, Nat.reduceMul, Nat.reduceSub, Nat.reduceBEq, spec_l1Cur.cells, rz_spec_l1Cur, pr_spec_l1Cur, impl_Job.cells, rz_impl_Job, pr_impl_Job, *]
                                                rfl) rfl rfl
                                          · rw [if_neg h149] at hr
                                            have e148 : (r7.2.2 = 3) = False := eq_false h149
                                            clear h149
                                            have hr_ := Option.some.inj hr; subst hr_
                                            refine RetF.scal (by
                                              simp only [c_laws_FnRuledOrders, evA, evB, Int.reduceToNat, eq_self, reduceCtorEq, ↓reduceIte, Nat.reduceEqDiff, Nat.reduceAdd, Nat.reduceLT, Nat.reduceLeDiff, Nat.reduceMul, Nat.reduceSub, Nat.reduceBEq, spec_l1Cur.cells, rz_spec_l1Cur, pr_spec_l1Cur, impl_Job.cells, rz_impl_Job, pr_impl_Job, *]
                                              rfl) rfl rfl
                                    · rw [if_neg h118] at hr
                                      have e117 : r113.2 = false := Bool.eq_false_iff.2 h118
                                      clear h118
                                      have hr_ := Option.some.inj hr; subst hr_
                                      refine RetF.scal (by
                                        simp only [c_laws_FnRuledOrders, evA, evB, Int.reduceToNat, eq_self, reduceCtorEq, ↓reduceIte, Nat.reduceEqDiff, Nat.reduceAdd, Nat.reduceLT, Nat.reduceLeDiff, Nat.reduceMul, Nat.reduceSub, Nat.reduceBEq, spec_l1Cur.cells, rz_spec_l1Cur, pr_spec_l1Cur, impl_Job.cells, rz_impl_Job, pr_impl_Job, *]
                                        rfl) rfl rfl
                                  · rw [if_neg h111] at hr
                                    have e110 : r10.2 = false := Bool.eq_false_iff.2 h111
                                    clear h111
                                    have e153 : r13.2 = false := beq_l e43 e110
                                    have hr_ := Option.some.inj hr; subst hr_
                                    refine RetF.scal (by
                                      simp only [c_laws_FnRuledOrders, evA, evB, Int.reduceToNat, eq_self, reduceCtorEq, ↓reduceIte, Nat.reduceEqDiff, Nat.reduceAdd, Nat.reduceLT, Nat.reduceLeDiff, Nat.reduceMul, Nat.reduceSub, Nat.reduceBEq, spec_l1Cur.cells, rz_spec_l1Cur, pr_spec_l1Cur, impl_Job.cells, rz_impl_Job, pr_impl_Job, *]
                                      rfl) rfl rfl
                                · rw [if_neg h108] at hr
                                  have e107 : r94.1 = false := Bool.eq_false_iff.2 h108
                                  clear h108
                                  have hr_ := Option.some.inj hr; subst hr_
                                  refine RetF.scal (by
                                    simp only [c_laws_FnRuledOrders, evA, evB, Int.reduceToNat, eq_self, reduceCtorEq, ↓reduceIte, Nat.reduceEqDiff, Nat.reduceAdd, Nat.reduceLT, Nat.reduceLeDiff, Nat.reduceMul, Nat.reduceSub, Nat.reduceBEq, spec_l1Cur.cells, rz_spec_l1Cur, pr_spec_l1Cur, impl_Job.cells, rz_impl_Job, pr_impl_Job, *]
                                    rfl) rfl rfl
                              · rw [if_neg h105] at hr
                                have e104 : r91.1 = false := Bool.eq_false_iff.2 h105
                                clear h105
                                have hr_ := Option.some.inj hr; subst hr_
                                refine RetF.scal (by
                                  simp only [c_laws_FnRuledOrders, evA, evB, Int.reduceToNat, eq_self, reduceCtorEq, ↓reduceIte, Nat.reduceEqDiff, Nat.reduceAdd, Nat.reduceLT, Nat.reduceLeDiff, Nat.reduceMul, Nat.reduceSub, Nat.reduceBEq, spec_l1Cur.cells, rz_spec_l1Cur, pr_spec_l1Cur, impl_Job.cells, rz_impl_Job, pr_impl_Job, *]
                                  rfl) rfl rfl
                            · rw [if_neg h102] at hr
                              have e101 : r94.2 = false := Bool.eq_false_iff.2 h102
                              clear h102
                              have hr_ := Option.some.inj hr; subst hr_
                              refine RetF.scal (by
                                simp only [c_laws_FnRuledOrders, evA, evB, Int.reduceToNat, eq_self, reduceCtorEq, ↓reduceIte, Nat.reduceEqDiff, Nat.reduceAdd, Nat.reduceLT, Nat.reduceLeDiff, Nat.reduceMul, Nat.reduceSub, Nat.reduceBEq, spec_l1Cur.cells, rz_spec_l1Cur, pr_spec_l1Cur, impl_Job.cells, rz_impl_Job, pr_impl_Job, *]
                                rfl) rfl rfl
                          · rw [if_neg h99] at hr
                            have e98 : r91.2 = false := Bool.eq_false_iff.2 h99
                            clear h99
                            have hr_ := Option.some.inj hr; subst hr_
                            refine RetF.scal (by
                              simp only [c_laws_FnRuledOrders, evA, evB, Int.reduceToNat, eq_self, reduceCtorEq, ↓reduceIte, Nat.reduceEqDiff, Nat.reduceAdd, Nat.reduceLT, Nat.reduceLeDiff, Nat.reduceMul, Nat.reduceSub, Nat.reduceBEq, spec_l1Cur.cells, rz_spec_l1Cur, pr_spec_l1Cur, impl_Job.cells, rz_impl_Job, pr_impl_Job, *]
                              rfl) rfl rfl
                        · rw [if_neg h89] at hr
                          have e88 : r16.2 = false := Bool.eq_false_iff.2 h89
                          clear h89
                          have e154 : r19.2 = false := beq_l e46 e88
                          have hr_ := Option.some.inj hr; subst hr_
                          refine RetF.scal (by
                            simp only [c_laws_FnRuledOrders, evA, evB, Int.reduceToNat, eq_self, reduceCtorEq, ↓reduceIte, Nat.reduceEqDiff, Nat.reduceAdd, Nat.reduceLT, Nat.reduceLeDiff, Nat.reduceMul, Nat.reduceSub, Nat.reduceBEq, spec_l1Cur.cells, rz_spec_l1Cur, pr_spec_l1Cur, impl_Job.cells, rz_impl_Job, pr_impl_Job, *]
                            rfl) rfl rfl
                      · rw [if_neg h86] at hr
                        have e85 : (r76.1 = (negK .i64 r34.1)) = False := eq_false h86
                        clear h86
                        have hr_ := Option.some.inj hr; subst hr_
                        refine RetF.scal (by
                          simp only [c_laws_FnRuledOrders, evA, evB, Int.reduceToNat, eq_self, reduceCtorEq, ↓reduceIte, Nat.reduceEqDiff, Nat.reduceAdd, Nat.reduceLT, Nat.reduceLeDiff, Nat.reduceMul, Nat.reduceSub, Nat.reduceBEq, spec_l1Cur.cells, rz_spec_l1Cur, pr_spec_l1Cur, impl_Job.cells, rz_impl_Job, pr_impl_Job, *]
                          rfl) rfl rfl
                    · rw [if_neg h81] at hr
                      have e80 : r76.2 = false := Bool.eq_false_iff.2 h81
                      clear h81
                      have hr_ := Option.some.inj hr; subst hr_
                      refine RetF.scal (by
                        simp only [c_laws_FnRuledOrders, evA, evB, Int.reduceToNat, eq_self, reduceCtorEq, ↓reduceIte, Nat.reduceEqDiff, Nat.reduceAdd, Nat.reduceLT, Nat.reduceLeDiff, Nat.reduceMul, Nat.reduceSub, Nat.reduceBEq, spec_l1Cur.cells, rz_spec_l1Cur, pr_spec_l1Cur, impl_Job.cells, rz_impl_Job, pr_impl_Job, *]
                        rfl) rfl rfl
                  · rw [if_neg h74] at hr
                    have e73 : r34.2 = false := Bool.eq_false_iff.2 h74
                    clear h74
                    have e155 : r37.2 = false := beq_l e69 e73
                    by_cases h158 : r16.2 = true
                    · rw [if_pos h158] at hr
                      have e156 : r16.2 = true := h158
                      clear h158
                      have e159 : r19.2 = true := beq_l e46 e156
                      obtain ⟨r160, q162, hr⟩ := Option.bind_eq_some_iff.1 hr
                      have e161 : ∀ H ng, gcall (shOf F) cl false n_impl_IsBestOrder [.fs (r7.1.map impl_Job.cells), .fs (r16.1.map (cI .i64)), .int .i64 r7.2.2] H ng = some (.tup [.bool r160.1, .bool r160.2], H, ng, .inert) := fun H ng => call_far s_impl_IsBestOrder rfl (K_impl_IsBestOrder _ _ _ _ q162).ret
                      obtain ⟨r163, q165, hr⟩ := Option.bind_eq_some_iff.1 hr
                      have e164 : ∀ H ng, gcall (shOf F) cl false n_impl_IsRuledOrder [.fs (r7.1.map impl_Job.cells), .fs (r16.1.map (cI .i64)), .int .i64 r7.2.2] H ng = some (.tup [.bool r163.1, .bool r163.2], H, ng, .inert) := fun H ng => call_far s_impl_IsRuledOrder rfl (K_impl_IsRuledOrder _ _ _ _ q165).ret
                      by_cases h168 : r160.2 = true
                      · rw [if_pos h168] at hr
                        have e166 : r160.2 = true := h168
                        clear h168
                        by_cases h171 : r163.2 = true
                        · rw [if_pos h171] at hr
                          have e169 : r163.2 = true := h171
                          clear h171
                          by_cases h174 : r160.1 = true
                          · rw [if_pos h174] at hr
                            have e172 : r160.1 = true := h174
                            clear h174
                            by_cases h177 : r163.1 = true
                            · rw [if_pos h177] at hr
                              have e175 : r163.1 = true := h177
                              clear h177
                              by_cases h180 : r10.2 = true
                              · rw [if_pos h180] at hr
                                have e178 : r10.2 = true := h180
                                clear h180
                                have e181 : r13.2 = true := beq_l e43 e178
                                obtain ⟨r182, q184, hr⟩ := Option.bind_eq_some_iff.1 hr
                                have e183 : ∀ H ng, gcall (shOf F) cl false n_impl_IsBestOrder [.fs (r7.1.map impl_Job.cells), .fs (r7.2.1.map (cI .i64)), .int .i64 r7.2.2] H ng = some (.tup [.bool r182.1, .bool r182.2], H, ng, .inert) := fun H ng => call_far s_impl_IsBestOrder rfl (K_impl_IsBestOrder _ _ _ _ q184).ret
                                by_cases h187 : r182.2 = true
                                · rw [if_pos h187] at hr
                                  have e185 : r182.2 = true := h187
                                  clear h187
                                  by_cases h190 : r10.1 = true
                                  · rw [if_pos h190] at hr
                                    have e188 : r10.1 = true := h190
                                    clear h190
                                    have e191 : r13.1 = true := beq_l e40 e188
                                    by_cases h194 : r182.1 = true
                                    · rw [if_pos h194] at hr
                                      have e192 : r182.1 = true := h194
                                      clear h194
                                      by_cases h199 : r7.2.2 = 2
                                      · rw [if_pos h199] at hr
                                        have e197 : (r7.2.2 = 2) = True := eq_true h199
                                        clear h199
                                        have hr_ := Option.some.inj hr; subst hr_
                                        refine RetF.scal (by
                                          simp only [c_laws_FnRuledOrders, evA, evB, Int.reduceToNat, eq_self, reduceCtorEq, ↓reduceIte, Nat.reduceEqDiff, Nat.reduceAdd, Nat.reduceLT, Nat.reduceLeDiff, Nat.reduceMul, Nat.reduceSub, Nat.reduceBEq, spec_l1Cur.cells, rz_spec_l1Cur, pr_spec_l1Cur, impl_Job.cells, rz_impl_Job, pr_impl_Job, *]
                                          rfl) rfl rfl
                                      · rw [if_neg h199] at hr
                                        have e198 : (r7.2.2 = 2) = False := eq_false h199
                                        clear h199
                                        by_cases h204 : r7.2.2 = 3
                                        · rw [if_pos h204] at hr
                                          have e202 : (r7.2.2 = 3) = True := eq_true h204
                                          clear h204
                                          have hr_ := Option.some.inj hr; subst hr_
                                          refine RetF.scal (by
                                            simp only [c_laws_FnRuledOrders, evA, evB, Int.reduceToNat, eq_self, reduceCtorEq, ↓reduceIte, Nat.reduceEqDiff, Nat.reduceAdd, Nat.reduceLT, Nat.reduceLeDiff, Nat.reduceMul, Nat.reduceSub, Nat.reduceBEq, spec_l1Cur.cells, rz_spec_l1Cur, pr_spec_l1Cur, impl_Job.cells, rz_impl_Job, pr_impl_Job, *]
                                            rfl) rfl rfl
                                        · rw [if_neg h204] at hr
                                          have e203 : (r7.2.2 = 3) = False := eq_false h204
                                          clear h204
                                          have hr_ := Option.some.inj hr; subst hr_
                                          refine RetF.scal (by
                                            simp only [c_laws_FnRuledOrders, evA, evB, Int.reduceToNat, eq_self, reduceCtorEq, ↓reduceIte, Nat.reduceEqDiff, Nat.reduceAdd, Nat.reduceLT, Nat.reduceLeDiff, Nat.reduceMul, Nat.reduceSub, Nat.reduceBEq, spec_l1Cur.cells, rz_spec_l1Cur, pr_spec_l1Cur, impl_Job.cells, rz_impl_Job, pr_impl_Job, *]
                                            rfl) rfl rfl
                                    · rw [if_neg h194] at hr
                                      have e193 : r182.1 = false := Bool.eq_false_iff.2 h194
                                      clear h194
                                      have hr_ := Option.some.inj hr; subst hr_
                                      refine RetF.scal (by
                                        simp only [c_laws_FnRuledOrders, evA, evB, Int.reduceToNat, eq_self, reduceCtorEq, ↓reduceIte, Nat.reduceEqDiff, Nat.reduceAdd, Nat.reduceLT, Nat.reduceLeDiff, Nat.reduceMul, Nat.reduceSub, Nat.reduceBEq, spec_l1Cur.cells, rz_spec_l1Cur, pr_spec_l1Cur, impl_Job.cells, rz_impl_Job, pr_impl_Job, *]
                                        rfl) rfl rfl
                                  · rw [if_neg h190] at hr
                                    have e189 : r10.1 = false := Bool.eq_false_iff.2 h190
                                    clear h190
                                    have e205 : r13.1 = false := beq_l e40 e189
                                    by_cases h210 : r7.2.2 = 2
                                    · rw [if_pos h210] at hr
                                      have e208 : (r7.2.2 = 2) = True := eq_true h210
                                      clear h210
                                      by_cases h213 : r182.1 = true
                                      · rw [if_pos h213] at hr
                                        have e211 : r182.1 = true := h213
                                        clear h213
                                        have hr_ := Option.some.inj hr; subst hr_
                                        refine RetF.scal (by
                                          simp only [c_laws_FnRuledOrders, evA, evB, Int.reduceToNat, eq_self, reduceCtorEq, ↓reduceIte, Nat.reduceEqDiff, Nat.reduceAdd, Nat.reduceLT, Nat.reduceLeDiff, Nat.reduceMul, Nat.reduceSub, Nat.reduceBEq, spec_l1Cur.cells, rz_spec_l1Cur, pr_spec_l1Cur, impl_Job.cells, rz_impl_Job, pr_impl_Job, *]
                                          rfl) rfl rfl
                                      · rw [if_neg h213] at hr
                                        have e212 : r182.1 = false := Bool.eq_false_iff.2 h213
                                        clear h213
                                        have hr_ := Option.some.inj hr; subst hr_
                                        refine RetF.scal (by
                                          simp only [c_laws_FnRuledOrders, evA, evB, Int.reduceToNat, eq_self, reduceCtorEq, ↓reduceIte, Nat.reduceEqDiff, Nat.reduceAdd, Nat.reduceLT, Nat.reduceLeDiff, Nat.reduceMul, Nat.reduceSub, Nat.reduceBEq, spec_l1Cur.cells, rz_spec_l1Cur, pr_spec_l1Cur, impl_Job.cells, rz_impl_Job, pr_impl_Job, *]
                                          rfl) rfl rfl
                                    · rw [if_neg h210] at hr
                                      have e209 : (r7.2.2 = 2) = False := eq_false h210
                                      clear h210
                                      by_cases h218 : r7.2.2 = 3
                                      · rw [if_pos h218] at hr
                                        have e216 : (r7.2.2 = 3) = True := eq_true h218
                                        clear h218
                                        by_cases h221 : r182.1 = true
                                        · rw [if_pos h221] at hr
                                          have e219 : r182.1 = true := h221
                                          clear h221
                                          have hr_ := Option.some.inj hr; subst hr_
                                          refine RetF.scal (by
                                            simp only [c_laws_FnRuledOrders, evA, evB, Int.reduceToNat, eq_self, reduceCtorEq, ↓reduceIte, Nat.reduceEqDiff, Nat.reduceAdd, Nat.reduceLT, Nat.reduceLeDiff, Nat.reduceMul, Nat.reduceSub, Nat.reduceBEq, spec_l1Cur.cells, rz_spec_l1Cur, pr_spec_l1Cur, impl_Job.cells, rz_impl_Job, pr_impl_Job, *]
                                            rfl) rfl rfl
                                        · rw [if_neg h221] at hr
                                          have e220 : r182.1 = false := Bool.eq_false_iff.2 h221
                                          clear h221
                                          have hr_ := Option.some.inj hr; subst hr_
                                          refine RetF.scal (by
                                            simp only [c_laws_FnRuledOrders, evA, evB, Int.reduceToNat, eq_self, reduceCtorEq, ↓reduceIte, Nat.reduceEqDiff, Nat.reduceAdd, Nat.reduceLT, Nat.reduceLeDiff, Nat.reduceMul, Nat.reduceSub, Nat.reduceBEq, spec_l1Cur.cells, rz_spec_l1Cur, pr_spec_l1Cur, impl_Job.cells, rz_impl_Job, pr_impl_Job, *]
                                            rfl) rfl rfl
                                      · rw [if_neg h218] at hr
                                        have e217 : (r7.2.2 = 3) = False := eq_false h218
                                        clear h218
                                        have hr_ := Option.some.inj hr; subst hr_
                                        refine RetF.scal (by
                                          simp only [c_laws_FnRuledOrders, evA, evB, Int.reduceToNat, eq_self, reduceCtorEq, ↓reduceIte, Nat.reduceEqDiff, Nat.reduceAdd, Nat.reduceLT, Nat.reduceLeDiff, Nat.reduceMul, Nat.reduceSub, Nat.reduceBEq, spec_l1Cur.cells, rz_spec_l1Cur, pr_spec_l1Cur, impl_Job.cells, rz_impl_Job, pr_impl_Job, *]
                                          rfl) rfl rfl
                                · rw [if_neg h187] at hr
                                  have e186 : r182.2 = false := Bool.eq_false_iff.2 h187
                                  clear h187
                                  have hr_ := Option.some.inj hr; subst hr_
                                  refine RetF.scal (by
                                    simp only [c_laws_FnRuledOrders, evA, evB, Int.reduceToNat, eq_self, reduceCtorEq, ↓reduceIte, Nat.reduceEqDiff, Nat.reduceAdd, Nat.reduceLT, Nat.reduceLeDiff, Nat.reduceMul, Nat.reduceSub, Nat.reduceBEq, spec_l1Cur.cells, rz_spec_l1Cur, pr_spec_l1Cur, impl_Job.cells, rz_impl_Job, pr_impl_Job, *]
                                    rfl) rfl rfl
                              · rw [if_neg h180] at hr
                                have e179 : r10.2 = false := Bool.eq_false_iff.2 h180
                                clear h180
                                have e222 : r13.2 = false := beq_l e43 e179
                                have hr_ := Option.some.inj hr; subst hr_
                                refine RetF.scal (by
                                  simp only [c_laws_FnRuledOrders, evA, evB, Int.reduceToNat, eq_self, reduceCtorEq, ↓reduceIte, Nat.reduceEqDiff, Nat.reduceAdd, Nat.reduceLT, Nat.reduceLeDiff, Nat.reduceMul, Nat.reduceSub, Nat.reduceBEq, spec_l1Cur.cells, rz_spec_l1Cur, pr_spec_l1Cur, impl_Job.cells, rz_impl_Job, pr_impl_Job, *]
                                  rfl) rfl rfl
                            · rw [if_neg h177] at hr
                              have e176 : r163.1 = false := Bool.eq_false_iff.2 h177
                              clear h177
                              have hr_ := Option.some.inj hr; subst hr_
                              refine RetF.scal (by
                                simp only [c_laws_FnRuledOrders, evA, evB, Int.reduceToNat, eq_self, reduceCtorEq, ↓reduceIte, Nat.reduceEqDiff, Nat.reduceAdd, Nat.reduceLT, Nat.reduceLeDiff, Nat.reduceMul, Nat.reduceSub, Nat.reduceBEq, spec_l1Cur.cells, rz_spec_l1Cur, pr_spec_l1Cur, impl_Job.cells, rz_impl_Job, pr_impl_Job, *]
                                rfl) rfl rfl
                          · rw [if_neg h174] at hr
                            have e173 : r160.1 = false := Bool.eq_false_iff.2 h174
                            clear h174
                            have hr_ := Option.some.inj hr; subst hr_
                            refine RetF.scal (by
                              simp only [c_laws_FnRuledOrders, evA, evB, Int.reduceToNat, eq_self, reduceCtorEq, ↓reduceIte, Nat.reduceEqDiff, Nat.reduceAdd, Nat.reduceLT, Nat.reduceLeDiff, Nat.reduceMul, Nat.reduceSub, Nat.reduceBEq, spec_l1Cur.cells, rz_spec_l1Cur, pr_spec_l1Cur, impl_Job.cells, rz_impl_Job, pr_impl_Job, *]
                              rfl) rfl rfl
                        · rw [if_neg h171] at hr
                          have e170 : r163.2 = false := Bool.eq_false_iff.2 h171
                          clear h171
                          have hr_ := Option.some.inj hr; subst hr_
                          refine RetF.scal (by
                            simp only [c_laws_FnRuledOrders, evA, evB, Int.reduceToNat, eq_self, reduceCtorEq, ↓reduceIte, Nat.reduceEqDiff, Nat.reduceAdd, Nat.reduceLT, Nat.reduceLeDiff, Nat.reduceMul, Nat.reduceSub, Nat.reduceBEq, spec_l1Cur.cells, rz_spec_l1Cur, pr_spec_l1Cur, impl_Job.cells, rz_impl_Job, pr_impl_Job, *]
                            rfl) rfl rfl
                      · rw [if_neg h168] at hr
                        have e167 : r160.2 = false := Bool.eq_false_iff.2 h168
                        clear h168
                        have hr_ := Option.some.inj hr; subst hr_
                        refine RetF.scal (by
                          simp only [c_laws_FnRuledOrders, evA, evB, Int.reduceToNat, eq_self, reduceCtorEq, ↓reduceIte, Nat.reduceEqDiff, Nat.reduceAdd, Nat.reduceLT, Nat.reduceLeDiff, Nat.reduceMul, Nat.reduceSub, Nat.reduceBEq, spec_l1Cur.cells, rz_spec_l1Cur, pr_spec_l1Cur, impl_Job.cells, rz_impl_Job, pr_impl_Job, *]
                          rfl) rfl rfl
                    · rw [if_neg h158] at hr
                      have e157 : r16.2 = false := Bool.eq_false_iff.2 h158
                      clear h158
                      have e223 : r19.2 = false := beq_l e46 e157
                      have hr_ := Option.some.inj hr; subst hr_
                      refine RetF.scal (by
                        simp only [c_laws_FnRuledOrders, evA, evB, Int.reduceToNat, eq_self, reduceCtorEq, ↓reduceIte, Nat.reduceEqDiff, Nat.reduceAdd, Nat.reduceLT, Nat.reduceLeDiff, Nat.reduceMul, Nat.reduceSub, Nat.reduceBEq, spec_l1Cur.cells, rz_spec_l1Cur, pr_spec_l1Cur, impl_Job.cells, rz_impl_Job, pr_impl_Job, *]
                        rfl) rfl rfl
                · rw [if_neg h71] at hr
                  have e70 : (r34.2 == r37.2) = false := beq_eq_false_iff_ne.2 h71
                  clear h71
                  have hr_ := Option.some.inj hr; subst hr_
                  refine RetF.scal (by
                    simp only [c_laws_FnRuledOrders, evA, evB, Int.reduceToNat, eq_self, reduceCtorEq, ↓reduceIte, Nat.reduceEqDiff, Nat.reduceAdd, Nat.reduceLT, Nat.reduceLeDiff, Nat.reduceMul, Nat.reduceSub, Nat.reduceBEq, spec_l1Cur.cells, rz_spec_l1Cur, pr_spec_l1Cur, impl_Job.cells, rz_impl_Job, pr_impl_Job, *]
                    rfl) rfl rfl
              · rw [if_neg h68] at hr
                have e67 : (r34.1 = r37.1) = False := eq_false h68
                clear h68
                have hr_ := Option.some.inj hr; subst hr_
                refine RetF.scal (by
                  simp only [c_laws_FnRuledOrders, evA, evB, Int.reduceToNat, eq_self, reduceCtorEq, ↓reduceIte, Nat.reduceEqDiff, Nat.reduceAdd, Nat.reduceLT, Nat.reduceLeDiff, Nat.reduceMul, Nat.reduceSub, Nat.reduceBEq, spec_l1Cur.cells, rz_spec_l1Cur, pr_spec_l1Cur, impl_Job.cells, rz_impl_Job, pr_impl_Job, *]
                  rfl) rfl rfl
            · rw [if_neg h63] at hr
              have e62 : (r55 == r58) = false := beq_eq_false_iff_ne.2 h63
              clear h63
              have hr_ := Option.some.inj hr; subst hr_
              refine RetF.scal (by
                simp only [c_laws_FnRuledOrders, evA, evB, Int.reduceToNat, eq_self, reduceCtorEq, ↓reduceIte, Nat.reduceEqDiff, Nat.reduceAdd, Nat.reduceLT, Nat.reduceLeDiff, Nat.reduceMul, Nat.reduceSub, Nat.reduceBEq, spec_l1Cur.cells, rz_spec_l1Cur, pr_spec_l1Cur, impl_Job.cells, rz_impl_Job, pr_impl_Job, *]
                rfl) rfl rfl
          · rw [if_neg h54] at hr
            have e53 : r49 = false := Bool.eq_false_iff.2 h54
            clear h54
            have hr_ := Option.some.inj hr; subst hr_
            refine RetF.scal (by
              simp only [c_laws_FnRuledOrders, evA, evB, Int.reduceToNat, eq_self, reduceCtorEq, ↓reduceIte, Nat.reduceEqDiff, Nat.reduceAdd, Nat.reduceLT, Nat.reduceLeDiff, Nat.reduceMul, Nat.reduceSub, Nat.reduceBEq, spec_l1Cur.cells, rz_spec_l1Cur, pr_spec_l1Cur, impl_Job.cells, rz_impl_Job, pr_impl_Job, *]
              rfl) rfl rfl
        · rw [if_neg h48] at hr
          have e47 : (r16.2 == r19.2) = false := beq_eq_false_iff_ne.2 h48
          clear h48
          have hr_ := Option.some.inj hr; subst hr_
          refine RetF.scal (by
            simp only [c_laws_FnRuledOrders, evA, evB, Int.reduceToNat, eq_self, reduceCtorEq, ↓reduceIte, Nat.reduceEqDiff, Nat.reduceAdd, Nat.reduceLT, Nat.reduceLeDiff, Nat.reduceMul, Nat.reduceSub, Nat.reduceBEq, spec_l1Cur.cells, rz_spec_l1Cur, pr_spec_l1Cur, impl_Job.cells, rz_impl_Job, pr_impl_Job, *]
            rfl) rfl rfl
      · rw [if_neg h45] at hr
        have e44 : (r10.2 == r13.2) = false := beq_eq_false_iff_ne.2 h45
        clear h45
        have hr_ := Option.some.inj hr; subst hr_
        refine RetF.scal (by
          simp only [c_laws_FnRuledOrders, evA, evB, Int.reduceToNat, eq_self, reduceCtorEq, ↓reduceIte, Nat.reduceEqDiff, Nat.reduceAdd, Nat.reduceLT, Nat.reduceLeDiff, Nat.reduceMul, Nat.reduceSub, Nat.reduceBEq, spec_l1Cur.cells, rz_spec_l1Cur, pr_spec_l1Cur, impl_Job.cells, rz_impl_Job, pr_impl_Job, *]
          rfl) rfl rfl
    · rw [if_neg h42] at hr
      have e41 : (r10.1 == r13.1) = false := beq_eq_false_iff_ne.2 h42
      clear h42
      have hr_ := Option.some.inj hr; subst hr_
      refine RetF.scal (by
        simp only [c_laws_FnRuledOrders, evA, evB, Int.reduceToNat, eq_self, reduceCtorEq, ↓reduceIte, Nat.reduceEqDiff, Nat.reduceAdd, Nat.reduceLT, Nat.reduceLeDiff, Nat.reduceMul, Nat.reduceSub, Nat.reduceBEq, spec_l1Cur.cells, rz_spec_l1Cur, pr_spec_l1Cur, impl_Job.cells, rz_impl_Job, pr_impl_Job, *]
        rfl) rfl rfl

end Gh
