/- The contracts at every depth that is enough. Written by program. -/
import Derived.Test.YtebflkckndibiaaSb0
import Derived.Test.YtebflkckndibiaaSb1
import Derived.Test.YtebflkckndibiaaSb2
import Derived.Test.YtebflkckndibiaaSb3
namespace Gh
open Go
set_option linter.unusedSimpArgs false
set_option linter.unusedVariables false
set_option maxRecDepth 100000
set_option maxHeartbeats 20000000

theorem at_laws_vBig (d : Nat) (h : 1 ≤ d) : K_laws_vBig x_laws_vBig (gfun F LL d n_laws_vBig) := by
  obtain ⟨e_, rfl⟩ : ∃ e, d = e + 1 := ⟨d - 1, by omega⟩; rw [gfun_succ f_laws_vBig]
  exact ok_laws_vBig
theorem at_impl_within (d : Nat) (h : 1 ≤ d) : K_impl_within x_impl_within (gfun F LL d n_impl_within) := by
  obtain ⟨e_, rfl⟩ : ∃ e, d = e + 1 := ⟨d - 1, by omega⟩; rw [gfun_succ f_impl_within]
  exact ok_impl_within
theorem at_impl_isDate (d : Nat) (h : 2 ≤ d) : K_impl_isDate x_impl_isDate (gfun F LL d n_impl_isDate) := by
  obtain ⟨e_, rfl⟩ : ∃ e, d = e + 1 := ⟨d - 1, by omega⟩; rw [gfun_succ f_impl_isDate]
  exact ok_impl_isDate (at_impl_within e_ (by omega))
theorem at_impl_IsJobs (d : Nat) (h : 3 ≤ d) : K_impl_IsJobs x_impl_IsJobs (gfun F LL d n_impl_IsJobs) := by
  obtain ⟨e_, rfl⟩ : ∃ e, d = e + 1 := ⟨d - 1, by omega⟩; rw [gfun_succ f_impl_IsJobs]
  exact ok_impl_IsJobs (at_impl_within e_ (by omega)) (at_impl_isDate e_ (by omega))
theorem at_impl_isPlain (d : Nat) (h : 1 ≤ d) : K_impl_isPlain x_impl_isPlain (gfun F LL d n_impl_isPlain) := by
  obtain ⟨e_, rfl⟩ : ∃ e, d = e + 1 := ⟨d - 1, by omega⟩; rw [gfun_succ f_impl_isPlain]
  exact ok_impl_isPlain
theorem at_impl_isRuled (d : Nat) (h : 4 ≤ d) : K_impl_isRuled x_impl_isRuled (gfun F LL d n_impl_isRuled) := by
  obtain ⟨e_, rfl⟩ : ∃ e, d = e + 1 := ⟨d - 1, by omega⟩; rw [gfun_succ f_impl_isRuled]
  exact ok_impl_isRuled (at_impl_IsJobs e_ (by omega)) (at_impl_isPlain e_ (by omega)) (at_impl_within e_ (by omega))
theorem at_impl_isNumber (d : Nat) (h : 2 ≤ d) : K_impl_isNumber x_impl_isNumber (gfun F LL d n_impl_isNumber) := by
  obtain ⟨e_, rfl⟩ : ∃ e, d = e + 1 := ⟨d - 1, by omega⟩; rw [gfun_succ f_impl_isNumber]
  exact ok_impl_isNumber (at_impl_within e_ (by omega))
theorem at_impl_has (d : Nat) (h : 1 ≤ d) : K_impl_has x_impl_has (gfun F LL d n_impl_has) := by
  obtain ⟨e_, rfl⟩ : ∃ e, d = e + 1 := ⟨d - 1, by omega⟩; rw [gfun_succ f_impl_has]
  exact ok_impl_has
theorem at_impl_areDifferent (d : Nat) (h : 3 ≤ d) : K_impl_areDifferent x_impl_areDifferent (gfun F LL d n_impl_areDifferent) := by
  obtain ⟨e_, rfl⟩ : ∃ e, d = e + 1 := ⟨d - 1, by omega⟩; rw [gfun_succ f_impl_areDifferent]
  exact ok_impl_areDifferent (at_impl_isNumber e_ (by omega)) (at_impl_has e_ (by omega))
theorem at_impl_isOrder (d : Nat) (h : 4 ≤ d) : K_impl_isOrder x_impl_isOrder (gfun F LL d n_impl_isOrder) := by
  obtain ⟨e_, rfl⟩ : ∃ e, d = e + 1 := ⟨d - 1, by omega⟩; rw [gfun_succ f_impl_isOrder]
  exact ok_impl_isOrder (at_impl_areDifferent e_ (by omega))
theorem at_impl_isRuledAndOrdered (d : Nat) (h : 5 ≤ d) : K_impl_isRuledAndOrdered x_impl_isRuledAndOrdered (gfun F LL d n_impl_isRuledAndOrdered) := by
  obtain ⟨e_, rfl⟩ : ∃ e, d = e + 1 := ⟨d - 1, by omega⟩; rw [gfun_succ f_impl_isRuledAndOrdered]
  exact ok_impl_isRuledAndOrdered (at_impl_isRuled e_ (by omega)) (at_impl_isOrder e_ (by omega))
theorem at_impl_difference (d : Nat) (h : 1 ≤ d) : K_impl_difference x_impl_difference (gfun F LL d n_impl_difference) := by
  obtain ⟨e_, rfl⟩ : ∃ e, d = e + 1 := ⟨d - 1, by omega⟩; rw [gfun_succ f_impl_difference]
  exact ok_impl_difference
theorem at_impl_IsRuledOrder (d : Nat) (h : 6 ≤ d) : K_impl_IsRuledOrder x_impl_IsRuledOrder (gfun F LL d n_impl_IsRuledOrder) := by
  obtain ⟨e_, rfl⟩ : ∃ e, d = e + 1 := ⟨d - 1, by omega⟩; rw [gfun_succ f_impl_IsRuledOrder]
  exact ok_impl_IsRuledOrder (at_impl_isRuledAndOrdered e_ (by omega)) (at_impl_difference e_ (by omega))
theorem at_laws_vCut (d : Nat) (h : 1 ≤ d) : K_laws_vCut x_laws_vCut (gfun F LL d n_laws_vCut) := by
  obtain ⟨e_, rfl⟩ : ∃ e, d = e + 1 := ⟨d - 1, by omega⟩; rw [gfun_succ f_laws_vCut]
  exact ok_laws_vCut
theorem at_impl_RuleDifference (d : Nat) (h : 5 ≤ d) : K_impl_RuleDifference x_impl_RuleDifference (gfun F LL d n_impl_RuleDifference) := by
  obtain ⟨e_, rfl⟩ : ∃ e, d = e + 1 := ⟨d - 1, by omega⟩; rw [gfun_succ f_impl_RuleDifference]
  exact ok_impl_RuleDifference (at_impl_difference e_ (by omega)) (at_impl_isRuled e_ (by omega)) (at_impl_isNumber e_ (by omega))
theorem at_impl_numbersTo (d : Nat) (h : 1 ≤ d) : K_impl_numbersTo x_impl_numbersTo (gfun F LL d n_impl_numbersTo) := by
  obtain ⟨e_, rfl⟩ : ∃ e, d = e + 1 := ⟨d - 1, by omega⟩; rw [gfun_succ f_impl_numbersTo]
  exact ok_impl_numbersTo
theorem at_impl_nextOrder (d : Nat) (h : 1 ≤ d) : K_impl_nextOrder x_impl_nextOrder (gfun F LL d n_impl_nextOrder) := by
  obtain ⟨e_, rfl⟩ : ∃ e, d = e + 1 := ⟨d - 1, by omega⟩; rw [gfun_succ f_impl_nextOrder]
  exact ok_impl_nextOrder
theorem at_impl_add (d : Nat) (h : 1 ≤ d) : K_impl_add x_impl_add (gfun F LL d n_impl_add) := by
  obtain ⟨e_, rfl⟩ : ∃ e, d = e + 1 := ⟨d - 1, by omega⟩; rw [gfun_succ f_impl_add]
  exact ok_impl_add
theorem at_impl_valueOfEnds (d : Nat) (h : 2 ≤ d) : K_impl_valueOfEnds x_impl_valueOfEnds (gfun F LL d n_impl_valueOfEnds) := by
  obtain ⟨e_, rfl⟩ : ∃ e, d = e + 1 := ⟨d - 1, by omega⟩; rw [gfun_succ f_impl_valueOfEnds]
  exact ok_impl_valueOfEnds (at_impl_add e_ (by omega))
theorem at_impl_endsOf (d : Nat) (h : 1 ≤ d) : K_impl_endsOf x_impl_endsOf (gfun F LL d n_impl_endsOf) := by
  obtain ⟨e_, rfl⟩ : ∃ e, d = e + 1 := ⟨d - 1, by omega⟩; rw [gfun_succ f_impl_endsOf]
  exact ok_impl_endsOf
theorem at_impl_valueOf (d : Nat) (h : 3 ≤ d) : K_impl_valueOf x_impl_valueOf (gfun F LL d n_impl_valueOf) := by
  obtain ⟨e_, rfl⟩ : ∃ e, d = e + 1 := ⟨d - 1, by omega⟩; rw [gfun_succ f_impl_valueOf]
  exact ok_impl_valueOf (at_impl_valueOfEnds e_ (by omega)) (at_impl_endsOf e_ (by omega))
theorem at_impl_copyInts (d : Nat) (h : 1 ≤ d) : K_impl_copyInts x_impl_copyInts (gfun F LL d n_impl_copyInts) := by
  obtain ⟨e_, rfl⟩ : ∃ e, d = e + 1 := ⟨d - 1, by omega⟩; rw [gfun_succ f_impl_copyInts]
  exact ok_impl_copyInts
theorem at_impl_best_c1 (d : Nat) (h : 4 ≤ d) : K_impl_best_c1 x_impl_best_c1 (gfun F LL d n_impl_best_c1) := by
  obtain ⟨e_, rfl⟩ : ∃ e, d = e + 1 := ⟨d - 1, by omega⟩; rw [gfun_succ f_impl_best_c1]
  exact ok_impl_best_c1 (at_impl_valueOf e_ (by omega)) (at_impl_copyInts e_ (by omega))
theorem at_impl_eachOrder__impl_best_c1 (d : Nat) (h : 5 ≤ d) : K_impl_eachOrder__impl_best_c1 (gfun F LL d n_impl_eachOrder) := by
  obtain ⟨e_, rfl⟩ : ∃ e, d = e + 1 := ⟨d - 1, by omega⟩; rw [gfun_succ f_impl_eachOrder]
  intro x0_0 x1_0 a0_ st_ r hr g0 g1 g2 g3 g4 ng
  exact ok_impl_eachOrder (at_impl_nextOrder e_ (by omega)) (at_impl_numbersTo e_ (by omega)) (σ := ((List Int) × Int × Int)) (fun st_ => [(Blk.mk g0 false 1 [[.fs (x0_0.map impl_Job.cells)]]), (Blk.mk g1 false 1 [[.int .i64 x1_0]]), (Blk.mk g2 false 1 [[.fs (st_.1.map (cI .i64))]]), (Blk.mk g3 false 1 [[.int .i64 st_.2.1]]), (Blk.mk g4 false 1 [[.int .i64 st_.2.2]])]) 5 (fun _ => rfl) n_impl_best_c1 [.ptr 0 g0 0 0, .ptr 1 g1 0 0, .ptr 4 g4 0 0, .ptr 3 g3 0 0, .ptr 2 g2 0 0] (x_impl_best_c1 x0_0 x1_0) (fun s_ o_ s1_ q_ g ng_ => call_P' s_impl_best_c1 (at_impl_best_c1 e_ (by omega) x0_0 x1_0 s_ o_ s1_ q_ g0 g1 g2 g3 g4 g ng_) rfl) a0_ st_ r hr ng
theorem at_impl_best (d : Nat) (h : 6 ≤ d) : K_impl_best x_impl_best (gfun F LL d n_impl_best) := by
  obtain ⟨e_, rfl⟩ : ∃ e, d = e + 1 := ⟨d - 1, by omega⟩; rw [gfun_succ f_impl_best]
  exact ok_impl_best (at_impl_eachOrder__impl_best_c1 e_ (by omega))
theorem at_impl_isObjective (d : Nat) (h : 2 ≤ d) : K_impl_isObjective x_impl_isObjective (gfun F LL d n_impl_isObjective) := by
  obtain ⟨e_, rfl⟩ : ∃ e, d = e + 1 := ⟨d - 1, by omega⟩; rw [gfun_succ f_impl_isObjective]
  exact ok_impl_isObjective (at_impl_within e_ (by omega))
theorem at_impl_BestValue (d : Nat) (h : 7 ≤ d) : K_impl_BestValue x_impl_BestValue (gfun F LL d n_impl_BestValue) := by
  obtain ⟨e_, rfl⟩ : ∃ e, d = e + 1 := ⟨d - 1, by omega⟩; rw [gfun_succ f_impl_BestValue]
  exact ok_impl_BestValue (at_impl_IsJobs e_ (by omega)) (at_impl_best e_ (by omega)) (at_impl_isObjective e_ (by omega))
theorem at_impl_isScheduled (d : Nat) (h : 5 ≤ d) : K_impl_isScheduled x_impl_isScheduled (gfun F LL d n_impl_isScheduled) := by
  obtain ⟨e_, rfl⟩ : ∃ e, d = e + 1 := ⟨d - 1, by omega⟩; rw [gfun_succ f_impl_isScheduled]
  exact ok_impl_isScheduled (at_impl_IsJobs e_ (by omega)) (at_impl_isOrder e_ (by omega))
theorem at_impl_isValued (d : Nat) (h : 6 ≤ d) : K_impl_isValued x_impl_isValued (gfun F LL d n_impl_isValued) := by
  obtain ⟨e_, rfl⟩ : ∃ e, d = e + 1 := ⟨d - 1, by omega⟩; rw [gfun_succ f_impl_isValued]
  exact ok_impl_isValued (at_impl_isObjective e_ (by omega)) (at_impl_isScheduled e_ (by omega))
theorem at_impl_ValueOf (d : Nat) (h : 7 ≤ d) : K_impl_ValueOf x_impl_ValueOf (gfun F LL d n_impl_ValueOf) := by
  obtain ⟨e_, rfl⟩ : ∃ e, d = e + 1 := ⟨d - 1, by omega⟩; rw [gfun_succ f_impl_ValueOf]
  exact ok_impl_ValueOf (at_impl_isValued e_ (by omega)) (at_impl_valueOf e_ (by omega))
theorem at_spec_l1Cur_next (d : Nat) (h : 1 ≤ d) : K_spec_l1Cur_next x_spec_l1Cur_next (gfun F LL d n_spec_l1Cur_next) := by
  obtain ⟨e_, rfl⟩ : ∃ e, d = e + 1 := ⟨d - 1, by omega⟩; rw [gfun_succ f_spec_l1Cur_next]
  exact ok_spec_l1Cur_next
theorem at_spec_l1Cur_pick (d : Nat) (h : 2 ≤ d) : K_spec_l1Cur_pick x_spec_l1Cur_pick (gfun F LL d n_spec_l1Cur_pick) := by
  obtain ⟨e_, rfl⟩ : ∃ e, d = e + 1 := ⟨d - 1, by omega⟩; rw [gfun_succ f_spec_l1Cur_pick]
  exact ok_spec_l1Cur_pick (at_spec_l1Cur_next e_ (by omega))
theorem at_spec_l1Cur_one (d : Nat) (h : 3 ≤ d) : K_spec_l1Cur_one x_spec_l1Cur_one (gfun F LL d n_spec_l1Cur_one) := by
  obtain ⟨e_, rfl⟩ : ∃ e, d = e + 1 := ⟨d - 1, by omega⟩; rw [gfun_succ f_spec_l1Cur_one]
  exact ok_spec_l1Cur_one (at_spec_l1Cur_pick e_ (by omega))
theorem at_spec_l1Cur_among (d : Nat) (h : 3 ≤ d) : K_spec_l1Cur_among x_spec_l1Cur_among (gfun F LL d n_spec_l1Cur_among) := by
  obtain ⟨e_, rfl⟩ : ∃ e, d = e + 1 := ⟨d - 1, by omega⟩; rw [gfun_succ f_spec_l1Cur_among]
  exact ok_spec_l1Cur_among (at_spec_l1Cur_pick e_ (by omega))
theorem at_spec_l1Cur_order (d : Nat) (h : 4 ≤ d) : K_spec_l1Cur_order x_spec_l1Cur_order (gfun F LL d n_spec_l1Cur_order) := by
  obtain ⟨e_, rfl⟩ : ∃ e, d = e + 1 := ⟨d - 1, by omega⟩; rw [gfun_succ f_spec_l1Cur_order]
  exact ok_spec_l1Cur_order (at_spec_l1Cur_one e_ (by omega)) (at_spec_l1Cur_pick e_ (by omega)) (at_spec_l1Cur_among e_ (by omega))
theorem at_spec_l1Cur_spoiltJob (d : Nat) (h : 4 ≤ d) : K_spec_l1Cur_spoiltJob x_spec_l1Cur_spoiltJob (gfun F LL d n_spec_l1Cur_spoiltJob) := by
  obtain ⟨e_, rfl⟩ : ∃ e, d = e + 1 := ⟨d - 1, by omega⟩; rw [gfun_succ f_spec_l1Cur_spoiltJob]
  exact ok_spec_l1Cur_spoiltJob (at_spec_l1Cur_pick e_ (by omega)) (at_spec_l1Cur_among e_ (by omega))
theorem at_spec_l1Cur_job (d : Nat) (h : 4 ≤ d) : K_spec_l1Cur_job x_spec_l1Cur_job (gfun F LL d n_spec_l1Cur_job) := by
  obtain ⟨e_, rfl⟩ : ∃ e, d = e + 1 := ⟨d - 1, by omega⟩; rw [gfun_succ f_spec_l1Cur_job]
  exact ok_spec_l1Cur_job (at_spec_l1Cur_pick e_ (by omega)) (at_spec_l1Cur_among e_ (by omega))
theorem at_spec_l1Cur_someJobs (d : Nat) (h : 5 ≤ d) : K_spec_l1Cur_someJobs x_spec_l1Cur_someJobs (gfun F LL d n_spec_l1Cur_someJobs) := by
  obtain ⟨e_, rfl⟩ : ∃ e, d = e + 1 := ⟨d - 1, by omega⟩; rw [gfun_succ f_spec_l1Cur_someJobs]
  exact ok_spec_l1Cur_someJobs (at_spec_l1Cur_one e_ (by omega)) (at_spec_l1Cur_pick e_ (by omega)) (at_spec_l1Cur_among e_ (by omega)) (at_spec_l1Cur_spoiltJob e_ (by omega)) (at_spec_l1Cur_job e_ (by omega))
theorem at_spec_l1Cur_jobs (d : Nat) (h : 6 ≤ d) : K_spec_l1Cur_jobs x_spec_l1Cur_jobs (gfun F LL d n_spec_l1Cur_jobs) := by
  obtain ⟨e_, rfl⟩ : ∃ e, d = e + 1 := ⟨d - 1, by omega⟩; rw [gfun_succ f_spec_l1Cur_jobs]
  exact ok_spec_l1Cur_jobs (at_spec_l1Cur_one e_ (by omega)) (at_spec_l1Cur_someJobs e_ (by omega))
theorem at_spec_l1Cur_plain3 (d : Nat) (h : 7 ≤ d) : K_spec_l1Cur_plain3 x_spec_l1Cur_plain3 (gfun F LL d n_spec_l1Cur_plain3) := by
  obtain ⟨e_, rfl⟩ : ∃ e, d = e + 1 := ⟨d - 1, by omega⟩; rw [gfun_succ f_spec_l1Cur_plain3]
  exact ok_spec_l1Cur_plain3 (at_spec_l1Cur_one e_ (by omega)) (at_spec_l1Cur_jobs e_ (by omega))
theorem at_spec_DrawPairLoss (d : Nat) (h : 8 ≤ d) : K_spec_DrawPairLoss x_spec_DrawPairLoss (gfun F LL d n_spec_DrawPairLoss) := by
  obtain ⟨e_, rfl⟩ : ∃ e, d = e + 1 := ⟨d - 1, by omega⟩; rw [gfun_succ f_spec_DrawPairLoss]
  exact ok_spec_DrawPairLoss (at_spec_l1Cur_order e_ (by omega)) (at_spec_l1Cur_plain3 e_ (by omega))
theorem at_impl_inversions (d : Nat) (h : 2 ≤ d) : K_impl_inversions x_impl_inversions (gfun F LL d n_impl_inversions) := by
  obtain ⟨e_, rfl⟩ : ∃ e, d = e + 1 := ⟨d - 1, by omega⟩; rw [gfun_succ f_impl_inversions]
  exact ok_impl_inversions (at_impl_difference e_ (by omega))
theorem at_impl_PairLoss (d : Nat) (h : 6 ≤ d) : K_impl_PairLoss x_impl_PairLoss (gfun F LL d n_impl_PairLoss) := by
  obtain ⟨e_, rfl⟩ : ∃ e, d = e + 1 := ⟨d - 1, by omega⟩; rw [gfun_succ f_impl_PairLoss]
  exact ok_impl_PairLoss (at_impl_isRuledAndOrdered e_ (by omega)) (at_impl_difference e_ (by omega)) (at_impl_inversions e_ (by omega))
theorem at_spec_l1In (d : Nat) (h : 1 ≤ d) : K_spec_l1In x_spec_l1In (gfun F LL d n_spec_l1In) := by
  obtain ⟨e_, rfl⟩ : ∃ e, d = e + 1 := ⟨d - 1, by omega⟩; rw [gfun_succ f_spec_l1In]
  exact ok_spec_l1In
theorem at_spec_l2Job (d : Nat) (h : 2 ≤ d) : K_spec_l2Job x_spec_l2Job (gfun F LL d n_spec_l2Job) := by
  obtain ⟨e_, rfl⟩ : ∃ e, d = e + 1 := ⟨d - 1, by omega⟩; rw [gfun_succ f_spec_l2Job]
  exact ok_spec_l2Job (at_spec_l1In e_ (by omega))
theorem at_spec_l2Good (d : Nat) (h : 3 ≤ d) : K_spec_l2Good x_spec_l2Good (gfun F LL d n_spec_l2Good) := by
  obtain ⟨e_, rfl⟩ : ∃ e, d = e + 1 := ⟨d - 1, by omega⟩; rw [gfun_succ f_spec_l2Good]
  exact ok_spec_l2Good (at_spec_l2Job e_ (by omega))
theorem at_spec_l3Plain (d : Nat) (h : 1 ≤ d) : K_spec_l3Plain x_spec_l3Plain (gfun F LL d n_spec_l3Plain) := by
  obtain ⟨e_, rfl⟩ : ∃ e, d = e + 1 := ⟨d - 1, by omega⟩; rw [gfun_succ f_spec_l3Plain]
  exact ok_spec_l3Plain
theorem at_spec_l3Ruled (d : Nat) (h : 4 ≤ d) : K_spec_l3Ruled x_spec_l3Ruled (gfun F LL d n_spec_l3Ruled) := by
  obtain ⟨e_, rfl⟩ : ∃ e, d = e + 1 := ⟨d - 1, by omega⟩; rw [gfun_succ f_spec_l3Ruled]
  exact ok_spec_l3Ruled (at_spec_l2Good e_ (by omega)) (at_spec_l3Plain e_ (by omega)) (at_spec_l1In e_ (by omega))
theorem at_spec_l1Has (d : Nat) (h : 1 ≤ d) : K_spec_l1Has x_spec_l1Has (gfun F LL d n_spec_l1Has) := by
  obtain ⟨e_, rfl⟩ : ∃ e, d = e + 1 := ⟨d - 1, by omega⟩; rw [gfun_succ f_spec_l1Has]
  exact ok_spec_l1Has
theorem at_spec_l2Order (d : Nat) (h : 2 ≤ d) : K_spec_l2Order x_spec_l2Order (gfun F LL d n_spec_l2Order) := by
  obtain ⟨e_, rfl⟩ : ∃ e, d = e + 1 := ⟨d - 1, by omega⟩; rw [gfun_succ f_spec_l2Order]
  exact ok_spec_l2Order (at_spec_l1In e_ (by omega)) (at_spec_l1Has e_ (by omega))
theorem at_spec_l3Both (d : Nat) (h : 5 ≤ d) : K_spec_l3Both x_spec_l3Both (gfun F LL d n_spec_l3Both) := by
  obtain ⟨e_, rfl⟩ : ∃ e, d = e + 1 := ⟨d - 1, by omega⟩; rw [gfun_succ f_spec_l3Both]
  exact ok_spec_l3Both (at_spec_l3Ruled e_ (by omega)) (at_spec_l2Order e_ (by omega))
theorem at_spec_l3Gap (d : Nat) (h : 1 ≤ d) : K_spec_l3Gap x_spec_l3Gap (gfun F LL d n_spec_l3Gap) := by
  obtain ⟨e_, rfl⟩ : ∃ e, d = e + 1 := ⟨d - 1, by omega⟩; rw [gfun_succ f_spec_l3Gap]
  exact ok_spec_l3Gap
theorem at_spec_l3Inversions (d : Nat) (h : 2 ≤ d) : K_spec_l3Inversions x_spec_l3Inversions (gfun F LL d n_spec_l3Inversions) := by
  obtain ⟨e_, rfl⟩ : ∃ e, d = e + 1 := ⟨d - 1, by omega⟩; rw [gfun_succ f_spec_l3Inversions]
  exact ok_spec_l3Inversions (at_spec_l3Gap e_ (by omega))
theorem at_spec_PairLoss (d : Nat) (h : 6 ≤ d) : K_spec_PairLoss x_spec_PairLoss (gfun F LL d n_spec_PairLoss) := by
  obtain ⟨e_, rfl⟩ : ∃ e, d = e + 1 := ⟨d - 1, by omega⟩; rw [gfun_succ f_spec_PairLoss]
  exact ok_spec_PairLoss (at_spec_l3Both e_ (by omega)) (at_spec_l3Gap e_ (by omega)) (at_spec_l3Inversions e_ (by omega))
theorem at_spec_l1Cur_ruled3 (d : Nat) (h : 8 ≤ d) : K_spec_l1Cur_ruled3 x_spec_l1Cur_ruled3 (gfun F LL d n_spec_l1Cur_ruled3) := by
  obtain ⟨e_, rfl⟩ : ∃ e, d = e + 1 := ⟨d - 1, by omega⟩; rw [gfun_succ f_spec_l1Cur_ruled3]
  exact ok_spec_l1Cur_ruled3 (at_spec_l1Cur_one e_ (by omega)) (at_spec_l1Cur_pick e_ (by omega)) (at_spec_l1Cur_jobs e_ (by omega)) (at_spec_l1Cur_plain3 e_ (by omega)) (at_spec_l1Cur_among e_ (by omega))
theorem at_spec_l1Own (d : Nat) (h : 1 ≤ d) : K_spec_l1Own x_spec_l1Own (gfun F LL d n_spec_l1Own) := by
  obtain ⟨e_, rfl⟩ : ∃ e, d = e + 1 := ⟨d - 1, by omega⟩; rw [gfun_succ f_spec_l1Own]
  exact ok_spec_l1Own
theorem at_spec_l3Order (d : Nat) (h : 2 ≤ d) : K_spec_l3Order x_spec_l3Order (gfun F LL d n_spec_l3Order) := by
  obtain ⟨e_, rfl⟩ : ∃ e, d = e + 1 := ⟨d - 1, by omega⟩; rw [gfun_succ f_spec_l3Order]
  exact ok_spec_l3Order (at_spec_l3Gap e_ (by omega)) (at_spec_l1Own e_ (by omega))
theorem at_spec_l2Swap (d : Nat) (h : 2 ≤ d) : K_spec_l2Swap x_spec_l2Swap (gfun F LL d n_spec_l2Swap) := by
  obtain ⟨e_, rfl⟩ : ∃ e, d = e + 1 := ⟨d - 1, by omega⟩; rw [gfun_succ f_spec_l2Swap]
  exact ok_spec_l2Swap (at_spec_l1Own e_ (by omega))
theorem at_spec_DrawIsRuledOrder (d : Nat) (h : 9 ≤ d) : K_spec_DrawIsRuledOrder x_spec_DrawIsRuledOrder (gfun F LL d n_spec_DrawIsRuledOrder) := by
  obtain ⟨e_, rfl⟩ : ∃ e, d = e + 1 := ⟨d - 1, by omega⟩; rw [gfun_succ f_spec_DrawIsRuledOrder]
  exact ok_spec_DrawIsRuledOrder (at_spec_l1Cur_ruled3 e_ (by omega)) (at_spec_l1Cur_order e_ (by omega)) (at_spec_l3Ruled e_ (by omega)) (at_spec_l1Cur_one e_ (by omega)) (at_spec_l3Order e_ (by omega)) (at_spec_l2Swap e_ (by omega)) (at_spec_l1Cur_pick e_ (by omega))
theorem at_spec_DrawInversionsOf (d : Nat) (h : 10 ≤ d) : K_spec_DrawInversionsOf x_spec_DrawInversionsOf (gfun F LL d n_spec_DrawInversionsOf) := by
  obtain ⟨e_, rfl⟩ : ∃ e, d = e + 1 := ⟨d - 1, by omega⟩; rw [gfun_succ f_spec_DrawInversionsOf]
  exact ok_spec_DrawInversionsOf (at_spec_DrawIsRuledOrder e_ (by omega))
theorem at_impl_InversionsOf (d : Nat) (h : 6 ≤ d) : K_impl_InversionsOf x_impl_InversionsOf (gfun F LL d n_impl_InversionsOf) := by
  obtain ⟨e_, rfl⟩ : ∃ e, d = e + 1 := ⟨d - 1, by omega⟩; rw [gfun_succ f_impl_InversionsOf]
  exact ok_impl_InversionsOf (at_impl_isRuledAndOrdered e_ (by omega)) (at_impl_inversions e_ (by omega))
theorem at_spec_InversionsOf (d : Nat) (h : 6 ≤ d) : K_spec_InversionsOf x_spec_InversionsOf (gfun F LL d n_spec_InversionsOf) := by
  obtain ⟨e_, rfl⟩ : ∃ e, d = e + 1 := ⟨d - 1, by omega⟩; rw [gfun_succ f_spec_InversionsOf]
  exact ok_spec_InversionsOf (at_spec_l3Both e_ (by omega)) (at_spec_l3Inversions e_ (by omega))
theorem at_laws_vPairs (d : Nat) (h : 1 ≤ d) : K_laws_vPairs x_laws_vPairs (gfun F LL d n_laws_vPairs) := by
  obtain ⟨e_, rfl⟩ : ∃ e, d = e + 1 := ⟨d - 1, by omega⟩; rw [gfun_succ f_laws_vPairs]
  exact ok_laws_vPairs
theorem at_impl_exchanged (d : Nat) (h : 2 ≤ d) : K_impl_exchanged x_impl_exchanged (gfun F LL d n_impl_exchanged) := by
  obtain ⟨e_, rfl⟩ : ∃ e, d = e + 1 := ⟨d - 1, by omega⟩; rw [gfun_succ f_impl_exchanged]
  exact ok_impl_exchanged (at_impl_copyInts e_ (by omega))
theorem at_impl_gain (d : Nat) (h : 4 ≤ d) : K_impl_gain x_impl_gain (gfun F LL d n_impl_gain) := by
  obtain ⟨e_, rfl⟩ : ∃ e, d = e + 1 := ⟨d - 1, by omega⟩; rw [gfun_succ f_impl_gain]
  exact ok_impl_gain (at_impl_valueOf e_ (by omega)) (at_impl_exchanged e_ (by omega))
theorem at_impl_ExchangeGain (d : Nat) (h : 7 ≤ d) : K_impl_ExchangeGain x_impl_ExchangeGain (gfun F LL d n_impl_ExchangeGain) := by
  obtain ⟨e_, rfl⟩ : ∃ e, d = e + 1 := ⟨d - 1, by omega⟩; rw [gfun_succ f_impl_ExchangeGain]
  exact ok_impl_ExchangeGain (at_impl_isValued e_ (by omega)) (at_impl_within e_ (by omega)) (at_impl_gain e_ (by omega))
theorem at_laws_FnPairLoss (d : Nat) (h : 11 ≤ d) : K_laws_FnPairLoss x_laws_FnPairLoss (gfun F LL d n_laws_FnPairLoss) := by
  obtain ⟨e_, rfl⟩ : ∃ e, d = e + 1 := ⟨d - 1, by omega⟩; rw [gfun_succ f_laws_FnPairLoss]
  exact ok_laws_FnPairLoss (at_laws_vBig e_ (by omega)) (at_impl_IsRuledOrder e_ (by omega)) (at_laws_vCut e_ (by omega)) (at_impl_RuleDifference e_ (by omega)) (at_impl_BestValue e_ (by omega)) (at_impl_ValueOf e_ (by omega)) (at_spec_DrawPairLoss e_ (by omega)) (at_impl_PairLoss e_ (by omega)) (at_spec_PairLoss e_ (by omega)) (at_spec_DrawInversionsOf e_ (by omega)) (at_impl_InversionsOf e_ (by omega)) (at_spec_InversionsOf e_ (by omega)) (at_laws_vPairs e_ (by omega)) (at_impl_ExchangeGain e_ (by omega))

end Gh
