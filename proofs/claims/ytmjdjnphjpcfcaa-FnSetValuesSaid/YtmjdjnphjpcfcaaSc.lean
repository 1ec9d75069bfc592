/- The contracts at every depth that is enough. Written by program. -/
import Derived.Test.YtmjdjnphjpcfcaaSb0
import Derived.Test.YtmjdjnphjpcfcaaSb1
import Derived.Test.YtmjdjnphjpcfcaaSb2
import Derived.Test.YtmjdjnphjpcfcaaSb3
namespace Gh
open Go
set_option linter.unusedSimpArgs false
set_option linter.unusedVariables false
set_option maxRecDepth 100000
set_option maxHeartbeats 20000000

theorem at_laws_rBig (d : Nat) (h : 1 ≤ d) : K_laws_rBig x_laws_rBig (gfun F LL d n_laws_rBig) := by
  obtain ⟨e_, rfl⟩ : ∃ e, d = e + 1 := ⟨d - 1, by omega⟩; rw [gfun_succ f_laws_rBig]
  exact ok_laws_rBig
theorem at_spec_l1Cur_next (d : Nat) (h : 1 ≤ d) : K_spec_l1Cur_next x_spec_l1Cur_next (gfun F LL d n_spec_l1Cur_next) := by
  obtain ⟨e_, rfl⟩ : ∃ e, d = e + 1 := ⟨d - 1, by omega⟩; rw [gfun_succ f_spec_l1Cur_next]
  exact ok_spec_l1Cur_next
theorem at_spec_l1Cur_pick (d : Nat) (h : 2 ≤ d) : K_spec_l1Cur_pick x_spec_l1Cur_pick (gfun F LL d n_spec_l1Cur_pick) := by
  obtain ⟨e_, rfl⟩ : ∃ e, d = e + 1 := ⟨d - 1, by omega⟩; rw [gfun_succ f_spec_l1Cur_pick]
  exact ok_spec_l1Cur_pick (at_spec_l1Cur_next e_ (by omega))
theorem at_spec_l1Cur_one (d : Nat) (h : 3 ≤ d) : K_spec_l1Cur_one x_spec_l1Cur_one (gfun F LL d n_spec_l1Cur_one) := by
  obtain ⟨e_, rfl⟩ : ∃ e, d = e + 1 := ⟨d - 1, by omega⟩; rw [gfun_succ f_spec_l1Cur_one]
  exact ok_spec_l1Cur_one (at_spec_l1Cur_pick e_ (by omega))
theorem at_spec_l1Cur_among (d : Nat) (h : 3 ≤ d) : K_spec_l1Cur_among x_spec_l1Cur_among (gfun F LL d n_spec_l1Cur_among) := by
  obtain ⟨e_, rfl⟩ : ∃ e, d = e + 1 := ⟨d - 1, by omega⟩; rw [gfun_succ f_spec_l1Cur_among]
  exact ok_spec_l1Cur_among (at_spec_l1Cur_pick e_ (by omega))
theorem at_spec_l1Cur_spoiltJob (d : Nat) (h : 4 ≤ d) : K_spec_l1Cur_spoiltJob x_spec_l1Cur_spoiltJob (gfun F LL d n_spec_l1Cur_spoiltJob) := by
  obtain ⟨e_, rfl⟩ : ∃ e, d = e + 1 := ⟨d - 1, by omega⟩; rw [gfun_succ f_spec_l1Cur_spoiltJob]
  exact ok_spec_l1Cur_spoiltJob (at_spec_l1Cur_pick e_ (by omega)) (at_spec_l1Cur_among e_ (by omega))
theorem at_spec_l1Cur_job (d : Nat) (h : 4 ≤ d) : K_spec_l1Cur_job x_spec_l1Cur_job (gfun F LL d n_spec_l1Cur_job) := by
  obtain ⟨e_, rfl⟩ : ∃ e, d = e + 1 := ⟨d - 1, by omega⟩; rw [gfun_succ f_spec_l1Cur_job]
  exact ok_spec_l1Cur_job (at_spec_l1Cur_pick e_ (by omega)) (at_spec_l1Cur_among e_ (by omega))
theorem at_spec_l1Cur_someJobs (d : Nat) (h : 5 ≤ d) : K_spec_l1Cur_someJobs x_spec_l1Cur_someJobs (gfun F LL d n_spec_l1Cur_someJobs) := by
  obtain ⟨e_, rfl⟩ : ∃ e, d = e + 1 := ⟨d - 1, by omega⟩; rw [gfun_succ f_spec_l1Cur_someJobs]
  exact ok_spec_l1Cur_someJobs (at_spec_l1Cur_pick e_ (by omega)) (at_spec_l1Cur_one e_ (by omega)) (at_spec_l1Cur_among e_ (by omega)) (at_spec_l1Cur_spoiltJob e_ (by omega)) (at_spec_l1Cur_job e_ (by omega))
theorem at_spec_l1Cur_plainJobs (d : Nat) (h : 6 ≤ d) : K_spec_l1Cur_plainJobs x_spec_l1Cur_plainJobs (gfun F LL d n_spec_l1Cur_plainJobs) := by
  obtain ⟨e_, rfl⟩ : ∃ e, d = e + 1 := ⟨d - 1, by omega⟩; rw [gfun_succ f_spec_l1Cur_plainJobs]
  exact ok_spec_l1Cur_plainJobs (at_spec_l1Cur_someJobs e_ (by omega)) (at_spec_l1Cur_one e_ (by omega))
theorem at_spec_l1Cur_objective (d : Nat) (h : 4 ≤ d) : K_spec_l1Cur_objective x_spec_l1Cur_objective (gfun F LL d n_spec_l1Cur_objective) := by
  obtain ⟨e_, rfl⟩ : ∃ e, d = e + 1 := ⟨d - 1, by omega⟩; rw [gfun_succ f_spec_l1Cur_objective]
  exact ok_spec_l1Cur_objective (at_spec_l1Cur_pick e_ (by omega)) (at_spec_l1Cur_one e_ (by omega)) (at_spec_l1Cur_among e_ (by omega))
theorem at_spec_l1Cur_sums (d : Nat) (h : 5 ≤ d) : K_spec_l1Cur_sums x_spec_l1Cur_sums (gfun F LL d n_spec_l1Cur_sums) := by
  obtain ⟨e_, rfl⟩ : ∃ e, d = e + 1 := ⟨d - 1, by omega⟩; rw [gfun_succ f_spec_l1Cur_sums]
  exact ok_spec_l1Cur_sums (at_spec_l1Cur_one e_ (by omega)) (at_spec_l1Cur_objective e_ (by omega)) (at_spec_l1Cur_among e_ (by omega))
theorem at_spec_DrawSetValues (d : Nat) (h : 7 ≤ d) : K_spec_DrawSetValues x_spec_DrawSetValues (gfun F LL d n_spec_DrawSetValues) := by
  obtain ⟨e_, rfl⟩ : ∃ e, d = e + 1 := ⟨d - 1, by omega⟩; rw [gfun_succ f_spec_DrawSetValues]
  exact ok_spec_DrawSetValues (at_spec_l1Cur_plainJobs e_ (by omega)) (at_spec_l1Cur_sums e_ (by omega))
theorem at_impl_within (d : Nat) (h : 1 ≤ d) : K_impl_within x_impl_within (gfun F LL d n_impl_within) := by
  obtain ⟨e_, rfl⟩ : ∃ e, d = e + 1 := ⟨d - 1, by omega⟩; rw [gfun_succ f_impl_within]
  exact ok_impl_within
theorem at_impl_isDate (d : Nat) (h : 2 ≤ d) : K_impl_isDate x_impl_isDate (gfun F LL d n_impl_isDate) := by
  obtain ⟨e_, rfl⟩ : ∃ e, d = e + 1 := ⟨d - 1, by omega⟩; rw [gfun_succ f_impl_isDate]
  exact ok_impl_isDate (at_impl_within e_ (by omega))
theorem at_impl_IsJobs (d : Nat) (h : 3 ≤ d) : K_impl_IsJobs x_impl_IsJobs (gfun F LL d n_impl_IsJobs) := by
  obtain ⟨e_, rfl⟩ : ∃ e, d = e + 1 := ⟨d - 1, by omega⟩; rw [gfun_succ f_impl_IsJobs]
  exact ok_impl_IsJobs (at_impl_within e_ (by omega)) (at_impl_isDate e_ (by omega))
theorem at_impl_isPlain (d : Nat) (h : 1 ≤ d) : K_impl_isPlain x_impl_isPlain (gfun F LL d n_impl_isPlain) := by
  obtain ⟨e_, rfl⟩ : ∃ e, d = e + 1 := ⟨d - 1, by omega⟩; rw [gfun_succ f_impl_isPlain]
  exact ok_impl_isPlain
theorem at_impl_IsPlain (d : Nat) (h : 4 ≤ d) : K_impl_IsPlain x_impl_IsPlain (gfun F LL d n_impl_IsPlain) := by
  obtain ⟨e_, rfl⟩ : ∃ e, d = e + 1 := ⟨d - 1, by omega⟩; rw [gfun_succ f_impl_IsPlain]
  exact ok_impl_IsPlain (at_impl_IsJobs e_ (by omega)) (at_impl_isPlain e_ (by omega))
theorem at_impl_isObjective (d : Nat) (h : 2 ≤ d) : K_impl_isObjective x_impl_isObjective (gfun F LL d n_impl_isObjective) := by
  obtain ⟨e_, rfl⟩ : ∃ e, d = e + 1 := ⟨d - 1, by omega⟩; rw [gfun_succ f_impl_isObjective]
  exact ok_impl_isObjective (at_impl_within e_ (by omega))
theorem at_impl_isSumObjective (d : Nat) (h : 3 ≤ d) : K_impl_isSumObjective x_impl_isSumObjective (gfun F LL d n_impl_isSumObjective) := by
  obtain ⟨e_, rfl⟩ : ∃ e, d = e + 1 := ⟨d - 1, by omega⟩; rw [gfun_succ f_impl_isSumObjective]
  exact ok_impl_isSumObjective (at_impl_isObjective e_ (by omega))
theorem at_impl_listOf (d : Nat) (h : 1 ≤ d) : K_impl_listOf x_impl_listOf (gfun F LL d n_impl_listOf) := by
  obtain ⟨e_, rfl⟩ : ∃ e, d = e + 1 := ⟨d - 1, by omega⟩; rw [gfun_succ f_impl_listOf]
  exact ok_impl_listOf
theorem at_impl_add (d : Nat) (h : 1 ≤ d) : K_impl_add x_impl_add (gfun F LL d n_impl_add) := by
  obtain ⟨e_, rfl⟩ : ∃ e, d = e + 1 := ⟨d - 1, by omega⟩; rw [gfun_succ f_impl_add]
  exact ok_impl_add
theorem at_impl_timeOf (d : Nat) (h : 2 ≤ d) : K_impl_timeOf x_impl_timeOf (gfun F LL d n_impl_timeOf) := by
  obtain ⟨e_, rfl⟩ : ∃ e, d = e + 1 := ⟨d - 1, by omega⟩; rw [gfun_succ f_impl_timeOf]
  exact ok_impl_timeOf (at_impl_listOf e_ (by omega))
theorem at_impl_setValues (d : Nat) (h : 3 ≤ d) : K_impl_setValues x_impl_setValues (gfun F LL d n_impl_setValues) := by
  obtain ⟨e_, rfl⟩ : ∃ e, d = e + 1 := ⟨d - 1, by omega⟩; rw [gfun_succ f_impl_setValues]
  exact ok_impl_setValues (at_impl_listOf e_ (by omega)) (at_impl_add e_ (by omega)) (at_impl_timeOf e_ (by omega))
theorem at_impl_SetValues (d : Nat) (h : 5 ≤ d) : K_impl_SetValues x_impl_SetValues (gfun F LL d n_impl_SetValues) := by
  obtain ⟨e_, rfl⟩ : ∃ e, d = e + 1 := ⟨d - 1, by omega⟩; rw [gfun_succ f_impl_SetValues]
  exact ok_impl_SetValues (at_impl_IsPlain e_ (by omega)) (at_impl_isSumObjective e_ (by omega)) (at_impl_setValues e_ (by omega))
theorem at_spec_l1In (d : Nat) (h : 1 ≤ d) : K_spec_l1In x_spec_l1In (gfun F LL d n_spec_l1In) := by
  obtain ⟨e_, rfl⟩ : ∃ e, d = e + 1 := ⟨d - 1, by omega⟩; rw [gfun_succ f_spec_l1In]
  exact ok_spec_l1In
theorem at_spec_l2Job (d : Nat) (h : 2 ≤ d) : K_spec_l2Job x_spec_l2Job (gfun F LL d n_spec_l2Job) := by
  obtain ⟨e_, rfl⟩ : ∃ e, d = e + 1 := ⟨d - 1, by omega⟩; rw [gfun_succ f_spec_l2Job]
  exact ok_spec_l2Job (at_spec_l1In e_ (by omega))
theorem at_spec_l2Good (d : Nat) (h : 3 ≤ d) : K_spec_l2Good x_spec_l2Good (gfun F LL d n_spec_l2Good) := by
  obtain ⟨e_, rfl⟩ : ∃ e, d = e + 1 := ⟨d - 1, by omega⟩; rw [gfun_succ f_spec_l2Good]
  exact ok_spec_l2Good (at_spec_l2Job e_ (by omega))
theorem at_spec_l4Free (d : Nat) (h : 1 ≤ d) : K_spec_l4Free x_spec_l4Free (gfun F LL d n_spec_l4Free) := by
  obtain ⟨e_, rfl⟩ : ∃ e, d = e + 1 := ⟨d - 1, by omega⟩; rw [gfun_succ f_spec_l4Free]
  exact ok_spec_l4Free
theorem at_spec_l6Good (d : Nat) (h : 4 ≤ d) : K_spec_l6Good x_spec_l6Good (gfun F LL d n_spec_l6Good) := by
  obtain ⟨e_, rfl⟩ : ∃ e, d = e + 1 := ⟨d - 1, by omega⟩; rw [gfun_succ f_spec_l6Good]
  exact ok_spec_l6Good (at_spec_l2Good e_ (by omega)) (at_spec_l4Free e_ (by omega))
theorem at_spec_l2Objective (d : Nat) (h : 2 ≤ d) : K_spec_l2Objective x_spec_l2Objective (gfun F LL d n_spec_l2Objective) := by
  obtain ⟨e_, rfl⟩ : ∃ e, d = e + 1 := ⟨d - 1, by omega⟩; rw [gfun_succ f_spec_l2Objective]
  exact ok_spec_l2Objective (at_spec_l1In e_ (by omega))
theorem at_spec_l2Greatest (d : Nat) (h : 1 ≤ d) : K_spec_l2Greatest x_spec_l2Greatest (gfun F LL d n_spec_l2Greatest) := by
  obtain ⟨e_, rfl⟩ : ∃ e, d = e + 1 := ⟨d - 1, by omega⟩; rw [gfun_succ f_spec_l2Greatest]
  exact ok_spec_l2Greatest
theorem at_spec_l6Sum (d : Nat) (h : 3 ≤ d) : K_spec_l6Sum x_spec_l6Sum (gfun F LL d n_spec_l6Sum) := by
  obtain ⟨e_, rfl⟩ : ∃ e, d = e + 1 := ⟨d - 1, by omega⟩; rw [gfun_succ f_spec_l6Sum]
  exact ok_spec_l6Sum (at_spec_l2Objective e_ (by omega)) (at_spec_l2Greatest e_ (by omega))
theorem at_spec_l1Most (d : Nat) (h : 1 ≤ d) : K_spec_l1Most x_spec_l1Most (gfun F LL d n_spec_l1Most) := by
  obtain ⟨e_, rfl⟩ : ∃ e, d = e + 1 := ⟨d - 1, by omega⟩; rw [gfun_succ f_spec_l1Most]
  exact ok_spec_l1Most
theorem at_spec_l2Cost (d : Nat) (h : 2 ≤ d) : K_spec_l2Cost x_spec_l2Cost (gfun F LL d n_spec_l2Cost) := by
  obtain ⟨e_, rfl⟩ : ∃ e, d = e + 1 := ⟨d - 1, by omega⟩; rw [gfun_succ f_spec_l2Cost]
  exact ok_spec_l2Cost (at_spec_l1Most e_ (by omega))
theorem at_spec_l6Times (d : Nat) (h : 1 ≤ d) : K_spec_l6Times x_spec_l6Times (gfun F LL d n_spec_l6Times) := by
  obtain ⟨e_, rfl⟩ : ∃ e, d = e + 1 := ⟨d - 1, by omega⟩; rw [gfun_succ f_spec_l6Times]
  exact ok_spec_l6Times
theorem at_spec_l6Last (d : Nat) (h : 3 ≤ d) : K_spec_l6Last x_spec_l6Last (gfun F LL d n_spec_l6Last) := by
  obtain ⟨e_, rfl⟩ : ∃ e, d = e + 1 := ⟨d - 1, by omega⟩; rw [gfun_succ f_spec_l6Last]
  exact ok_spec_l6Last (at_spec_l2Cost e_ (by omega)) (at_spec_l6Times e_ (by omega))
theorem at_spec_l6Values (d : Nat) (h : 4 ≤ d) : K_spec_l6Values x_spec_l6Values (gfun F LL d n_spec_l6Values) := by
  obtain ⟨e_, rfl⟩ : ∃ e, d = e + 1 := ⟨d - 1, by omega⟩; rw [gfun_succ f_spec_l6Values]
  exact ok_spec_l6Values (at_spec_l6Last e_ (by omega))
theorem at_spec_SetValues (d : Nat) (h : 5 ≤ d) : K_spec_SetValues x_spec_SetValues (gfun F LL d n_spec_SetValues) := by
  obtain ⟨e_, rfl⟩ : ∃ e, d = e + 1 := ⟨d - 1, by omega⟩; rw [gfun_succ f_spec_SetValues]
  exact ok_spec_SetValues (at_spec_l6Good e_ (by omega)) (at_spec_l6Sum e_ (by omega)) (at_spec_l6Values e_ (by omega))
theorem at_laws_rInts (d : Nat) (h : 1 ≤ d) : K_laws_rInts x_laws_rInts (gfun F LL d n_laws_rInts) := by
  obtain ⟨e_, rfl⟩ : ∃ e, d = e + 1 := ⟨d - 1, by omega⟩; rw [gfun_succ f_laws_rInts]
  exact ok_laws_rInts
theorem at_impl_SetOrder (d : Nat) (h : 5 ≤ d) : K_impl_SetOrder x_impl_SetOrder (gfun F LL d n_impl_SetOrder) := by
  obtain ⟨e_, rfl⟩ : ∃ e, d = e + 1 := ⟨d - 1, by omega⟩; rw [gfun_succ f_impl_SetOrder]
  exact ok_impl_SetOrder (at_impl_IsPlain e_ (by omega)) (at_impl_isSumObjective e_ (by omega)) (at_impl_setValues e_ (by omega)) (at_impl_listOf e_ (by omega)) (at_impl_add e_ (by omega)) (at_impl_timeOf e_ (by omega))
theorem at_spec_SetOrder (d : Nat) (h : 5 ≤ d) : K_spec_SetOrder x_spec_SetOrder (gfun F LL d n_spec_SetOrder) := by
  obtain ⟨e_, rfl⟩ : ∃ e, d = e + 1 := ⟨d - 1, by omega⟩; rw [gfun_succ f_spec_SetOrder]
  exact ok_spec_SetOrder (at_spec_l6Good e_ (by omega)) (at_spec_l6Sum e_ (by omega)) (at_spec_l6Values e_ (by omega)) (at_spec_l6Last e_ (by omega))
theorem at_impl_totalOf (d : Nat) (h : 1 ≤ d) : K_impl_totalOf x_impl_totalOf (gfun F LL d n_impl_totalOf) := by
  obtain ⟨e_, rfl⟩ : ∃ e, d = e + 1 := ⟨d - 1, by omega⟩; rw [gfun_succ f_impl_totalOf]
  exact ok_impl_totalOf
theorem at_impl_TotalTime (d : Nat) (h : 5 ≤ d) : K_impl_TotalTime x_impl_TotalTime (gfun F LL d n_impl_TotalTime) := by
  obtain ⟨e_, rfl⟩ : ∃ e, d = e + 1 := ⟨d - 1, by omega⟩; rw [gfun_succ f_impl_TotalTime]
  exact ok_impl_TotalTime (at_impl_IsPlain e_ (by omega)) (at_impl_totalOf e_ (by omega))
theorem at_spec_l2Times (d : Nat) (h : 1 ≤ d) : K_spec_l2Times x_spec_l2Times (gfun F LL d n_spec_l2Times) := by
  obtain ⟨e_, rfl⟩ : ∃ e, d = e + 1 := ⟨d - 1, by omega⟩; rw [gfun_succ f_spec_l2Times]
  exact ok_spec_l2Times
theorem at_spec_TotalTime (d : Nat) (h : 5 ≤ d) : K_spec_TotalTime x_spec_TotalTime (gfun F LL d n_spec_TotalTime) := by
  obtain ⟨e_, rfl⟩ : ∃ e, d = e + 1 := ⟨d - 1, by omega⟩; rw [gfun_succ f_spec_TotalTime]
  exact ok_spec_TotalTime (at_spec_l6Good e_ (by omega)) (at_spec_l2Times e_ (by omega))
theorem at_impl_numbersTo (d : Nat) (h : 1 ≤ d) : K_impl_numbersTo x_impl_numbersTo (gfun F LL d n_impl_numbersTo) := by
  obtain ⟨e_, rfl⟩ : ∃ e, d = e + 1 := ⟨d - 1, by omega⟩; rw [gfun_succ f_impl_numbersTo]
  exact ok_impl_numbersTo
theorem at_impl_nextOrder (d : Nat) (h : 1 ≤ d) : K_impl_nextOrder x_impl_nextOrder (gfun F LL d n_impl_nextOrder) := by
  obtain ⟨e_, rfl⟩ : ∃ e, d = e + 1 := ⟨d - 1, by omega⟩; rw [gfun_succ f_impl_nextOrder]
  exact ok_impl_nextOrder
theorem at_impl_endsOf (d : Nat) (h : 1 ≤ d) : K_impl_endsOf x_impl_endsOf (gfun F LL d n_impl_endsOf) := by
  obtain ⟨e_, rfl⟩ : ∃ e, d = e + 1 := ⟨d - 1, by omega⟩; rw [gfun_succ f_impl_endsOf]
  exact ok_impl_endsOf
theorem at_impl_valueOfEnds (d : Nat) (h : 2 ≤ d) : K_impl_valueOfEnds x_impl_valueOfEnds (gfun F LL d n_impl_valueOfEnds) := by
  obtain ⟨e_, rfl⟩ : ∃ e, d = e + 1 := ⟨d - 1, by omega⟩; rw [gfun_succ f_impl_valueOfEnds]
  exact ok_impl_valueOfEnds (at_impl_add e_ (by omega))
theorem at_impl_valueOf (d : Nat) (h : 3 ≤ d) : K_impl_valueOf x_impl_valueOf (gfun F LL d n_impl_valueOf) := by
  obtain ⟨e_, rfl⟩ : ∃ e, d = e + 1 := ⟨d - 1, by omega⟩; rw [gfun_succ f_impl_valueOf]
  exact ok_impl_valueOf (at_impl_endsOf e_ (by omega)) (at_impl_valueOfEnds e_ (by omega))
theorem at_impl_copyInts (d : Nat) (h : 1 ≤ d) : K_impl_copyInts x_impl_copyInts (gfun F LL d n_impl_copyInts) := by
  obtain ⟨e_, rfl⟩ : ∃ e, d = e + 1 := ⟨d - 1, by omega⟩; rw [gfun_succ f_impl_copyInts]
  exact ok_impl_copyInts
theorem at_impl_best_c1 (d : Nat) (h : 4 ≤ d) : K_impl_best_c1 x_impl_best_c1 (gfun F LL d n_impl_best_c1) := by
  obtain ⟨e_, rfl⟩ : ∃ e, d = e + 1 := ⟨d - 1, by omega⟩; rw [gfun_succ f_impl_best_c1]
  exact ok_impl_best_c1 (at_impl_valueOf e_ (by omega)) (at_impl_copyInts e_ (by omega))
theorem at_impl_eachOrder__impl_best_c1 (d : Nat) (h : 5 ≤ d) : K_impl_eachOrder__impl_best_c1 (gfun F LL d n_impl_eachOrder) := by
  obtain ⟨e_, rfl⟩ : ∃ e, d = e + 1 := ⟨d - 1, by omega⟩; rw [gfun_succ f_impl_eachOrder]
  intro x0_0 x1_0 a0_ st_ r hr g0 g1 g2 g3 g4 ng
  exact ok_impl_eachOrder (at_impl_nextOrder e_ (by omega)) (at_impl_numbersTo e_ (by omega)) (σ := ((List Int) × Int × Int)) (fun st_ => [(Blk.mk g0 false 1 [[.fs (x0_0.map impl_Job.cells)]]), (Blk.mk g1 false 1 [[.int .i64 x1_0]]), (Blk.mk g2 false 1 [[.fs (st_.1.map (cI .i64))]]), (Blk.mk g3 false 1 [[.int .i64 st_.2.1]]), (Blk.mk g4 false 1 [[.int .i64 st_.2.2]])]) 5 (fun _ => rfl) n_impl_best_c1 [.ptr 0 g0 0 0, .ptr 1 g1 0 0, .ptr 4 g4 0 0, .ptr 3 g3 0 0, .ptr 2 g2 0 0] (x_impl_best_c1 x0_0 x1_0) (fun s_ o_ s1_ q_ g ng_ => call_P' s_impl_best_c1 (at_impl_best_c1 e_ (by omega) x0_0 x1_0 s_ o_ s1_ q_ g0 g1 g2 g3 g4 g ng_) rfl) a0_ st_ r hr ng
theorem at_impl_best (d : Nat) (h : 6 ≤ d) : K_impl_best x_impl_best (gfun F LL d n_impl_best) := by
  obtain ⟨e_, rfl⟩ : ∃ e, d = e + 1 := ⟨d - 1, by omega⟩; rw [gfun_succ f_impl_best]
  exact ok_impl_best (at_impl_eachOrder__impl_best_c1 e_ (by omega))
theorem at_impl_BestValue (d : Nat) (h : 7 ≤ d) : K_impl_BestValue x_impl_BestValue (gfun F LL d n_impl_BestValue) := by
  obtain ⟨e_, rfl⟩ : ∃ e, d = e + 1 := ⟨d - 1, by omega⟩; rw [gfun_succ f_impl_BestValue]
  exact ok_impl_BestValue (at_impl_isObjective e_ (by omega)) (at_impl_IsJobs e_ (by omega)) (at_impl_best e_ (by omega))
theorem at_spec_l1Has (d : Nat) (h : 1 ≤ d) : K_spec_l1Has x_spec_l1Has (gfun F LL d n_spec_l1Has) := by
  obtain ⟨e_, rfl⟩ : ∃ e, d = e + 1 := ⟨d - 1, by omega⟩; rw [gfun_succ f_spec_l1Has]
  exact ok_spec_l1Has
theorem at_spec_l1Own (d : Nat) (h : 1 ≤ d) : K_spec_l1Own x_spec_l1Own (gfun F LL d n_spec_l1Own) := by
  obtain ⟨e_, rfl⟩ : ∃ e, d = e + 1 := ⟨d - 1, by omega⟩; rw [gfun_succ f_spec_l1Own]
  exact ok_spec_l1Own
theorem at_spec_l2Starts (d : Nat) (h : 2 ≤ d) : K_spec_l2Starts x_spec_l2Starts (gfun F LL d n_spec_l2Starts) := by
  obtain ⟨e_, rfl⟩ : ∃ e, d = e + 1 := ⟨d - 1, by omega⟩; rw [gfun_succ f_spec_l2Starts]
  exact ok_spec_l2Starts (at_spec_l1Most e_ (by omega))
theorem at_spec_l2Ends (d : Nat) (h : 3 ≤ d) : K_spec_l2Ends x_spec_l2Ends (gfun F LL d n_spec_l2Ends) := by
  obtain ⟨e_, rfl⟩ : ∃ e, d = e + 1 := ⟨d - 1, by omega⟩; rw [gfun_succ f_spec_l2Ends]
  exact ok_spec_l2Ends (at_spec_l2Starts e_ (by omega))
theorem at_spec_l2Of (d : Nat) (h : 3 ≤ d) : K_spec_l2Of x_spec_l2Of (gfun F LL d n_spec_l2Of) := by
  obtain ⟨e_, rfl⟩ : ∃ e, d = e + 1 := ⟨d - 1, by omega⟩; rw [gfun_succ f_spec_l2Of]
  exact ok_spec_l2Of (at_spec_l2Greatest e_ (by omega)) (at_spec_l2Cost e_ (by omega))
theorem at_spec_l2Value (d : Nat) (h : 4 ≤ d) : K_spec_l2Value x_spec_l2Value (gfun F LL d n_spec_l2Value) := by
  obtain ⟨e_, rfl⟩ : ∃ e, d = e + 1 := ⟨d - 1, by omega⟩; rw [gfun_succ f_spec_l2Value]
  exact ok_spec_l2Value (at_spec_l2Ends e_ (by omega)) (at_spec_l2Of e_ (by omega))
theorem atr_spec_l2Try (k : Nat) : ∀ d, 5 + k ≤ d → K_spec_l2Try (x_spec_l2Try k) (gfun F LL d n_spec_l2Try) := by
  induction k with
  | zero => intro d _; unfold K_spec_l2Try; intros; rename_i hr; exact nomatch hr
  | succ k ih =>
    intro d h; obtain ⟨e_, rfl⟩ : ∃ e, d = e + 1 := ⟨d - 1, by omega⟩; rw [gfun_succ f_spec_l2Try]
    exact ok_spec_l2Try (at_spec_l1Has e_ (by omega)) (at_spec_l1Own e_ (by omega)) (at_spec_l2Value e_ (by omega)) (x_spec_l2Try k) (ih e_ (by omega))
theorem at_spec_l2Try (d : Nat) (h : 105 ≤ d) : K_spec_l2Try (x_spec_l2Try DD) (gfun F LL d n_spec_l2Try) := atr_spec_l2Try DD d (by unfold DD; omega)
theorem at_spec_l2All (d : Nat) (h : 106 ≤ d) : K_spec_l2All x_spec_l2All (gfun F LL d n_spec_l2All) := by
  obtain ⟨e_, rfl⟩ : ∃ e, d = e + 1 := ⟨d - 1, by omega⟩; rw [gfun_succ f_spec_l2All]
  exact ok_spec_l2All (at_spec_l2Try e_ (by omega))
theorem at_spec_l2Best (d : Nat) (h : 107 ≤ d) : K_spec_l2Best x_spec_l2Best (gfun F LL d n_spec_l2Best) := by
  obtain ⟨e_, rfl⟩ : ∃ e, d = e + 1 := ⟨d - 1, by omega⟩; rw [gfun_succ f_spec_l2Best]
  exact ok_spec_l2Best (at_spec_l2All e_ (by omega))
theorem at_spec_BestValue (d : Nat) (h : 108 ≤ d) : K_spec_BestValue x_spec_BestValue (gfun F LL d n_spec_BestValue) := by
  obtain ⟨e_, rfl⟩ : ∃ e, d = e + 1 := ⟨d - 1, by omega⟩; rw [gfun_succ f_spec_BestValue]
  exact ok_spec_BestValue (at_spec_l2Objective e_ (by omega)) (at_spec_l2Good e_ (by omega)) (at_spec_l2Best e_ (by omega))
theorem at_laws_rBest (d : Nat) (h : 109 ≤ d) : K_laws_rBest x_laws_rBest (gfun F LL d n_laws_rBest) := by
  obtain ⟨e_, rfl⟩ : ∃ e, d = e + 1 := ⟨d - 1, by omega⟩; rw [gfun_succ f_laws_rBest]
  exact ok_laws_rBest (at_impl_BestValue e_ (by omega)) (at_spec_BestValue e_ (by omega))
theorem at_impl_isNumber (d : Nat) (h : 2 ≤ d) : K_impl_isNumber x_impl_isNumber (gfun F LL d n_impl_isNumber) := by
  obtain ⟨e_, rfl⟩ : ∃ e, d = e + 1 := ⟨d - 1, by omega⟩; rw [gfun_succ f_impl_isNumber]
  exact ok_impl_isNumber (at_impl_within e_ (by omega))
theorem at_impl_has (d : Nat) (h : 1 ≤ d) : K_impl_has x_impl_has (gfun F LL d n_impl_has) := by
  obtain ⟨e_, rfl⟩ : ∃ e, d = e + 1 := ⟨d - 1, by omega⟩; rw [gfun_succ f_impl_has]
  exact ok_impl_has
theorem at_impl_areDifferent (d : Nat) (h : 3 ≤ d) : K_impl_areDifferent x_impl_areDifferent (gfun F LL d n_impl_areDifferent) := by
  obtain ⟨e_, rfl⟩ : ∃ e, d = e + 1 := ⟨d - 1, by omega⟩; rw [gfun_succ f_impl_areDifferent]
  exact ok_impl_areDifferent (at_impl_isNumber e_ (by omega)) (at_impl_has e_ (by omega))
theorem at_impl_isOrder (d : Nat) (h : 4 ≤ d) : K_impl_isOrder x_impl_isOrder (gfun F LL d n_impl_isOrder) := by
  obtain ⟨e_, rfl⟩ : ∃ e, d = e + 1 := ⟨d - 1, by omega⟩; rw [gfun_succ f_impl_isOrder]
  exact ok_impl_isOrder (at_impl_areDifferent e_ (by omega))
theorem at_impl_isScheduled (d : Nat) (h : 5 ≤ d) : K_impl_isScheduled x_impl_isScheduled (gfun F LL d n_impl_isScheduled) := by
  obtain ⟨e_, rfl⟩ : ∃ e, d = e + 1 := ⟨d - 1, by omega⟩; rw [gfun_succ f_impl_isScheduled]
  exact ok_impl_isScheduled (at_impl_IsJobs e_ (by omega)) (at_impl_isOrder e_ (by omega))
theorem at_impl_isValued (d : Nat) (h : 6 ≤ d) : K_impl_isValued x_impl_isValued (gfun F LL d n_impl_isValued) := by
  obtain ⟨e_, rfl⟩ : ∃ e, d = e + 1 := ⟨d - 1, by omega⟩; rw [gfun_succ f_impl_isValued]
  exact ok_impl_isValued (at_impl_isObjective e_ (by omega)) (at_impl_isScheduled e_ (by omega))
theorem at_impl_ValueOf (d : Nat) (h : 7 ≤ d) : K_impl_ValueOf x_impl_ValueOf (gfun F LL d n_impl_ValueOf) := by
  obtain ⟨e_, rfl⟩ : ∃ e, d = e + 1 := ⟨d - 1, by omega⟩; rw [gfun_succ f_impl_ValueOf]
  exact ok_impl_ValueOf (at_impl_isValued e_ (by omega)) (at_impl_valueOf e_ (by omega))
theorem at_laws_FnSetValues (d : Nat) (h : 110 ≤ d) : K_laws_FnSetValues x_laws_FnSetValues (gfun F LL d n_laws_FnSetValues) := by
  obtain ⟨e_, rfl⟩ : ∃ e, d = e + 1 := ⟨d - 1, by omega⟩; rw [gfun_succ f_laws_FnSetValues]
  exact ok_laws_FnSetValues (at_laws_rBig e_ (by omega)) (at_spec_DrawSetValues e_ (by omega)) (at_impl_SetValues e_ (by omega)) (at_spec_SetValues e_ (by omega)) (at_laws_rInts e_ (by omega)) (at_impl_SetOrder e_ (by omega)) (at_spec_SetOrder e_ (by omega)) (at_impl_TotalTime e_ (by omega)) (at_spec_TotalTime e_ (by omega)) (at_laws_rBest e_ (by omega)) (at_impl_ValueOf e_ (by omega))

end Gh
