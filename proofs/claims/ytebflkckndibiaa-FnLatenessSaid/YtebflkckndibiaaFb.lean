/- The tables of types and functions, and that they hold. Written by program. -/
import Derived.Test.YtebflkckndibiaaChecked
import Derived.Test.YtebflkckndibiaaFa0
namespace Gh
open Go Go.Proofs
set_option maxRecDepth 100000

def tyL : List (Nat × TI) := [(3, ⟨.int .i64, 1, 8, [(.int .i64 0)], false⟩),
  (4, ⟨.bool, 1, 1, [(.bool false)], false⟩),
  (5, ⟨.int .u8, 1, 1, [(.int .u8 0)], false⟩),
  (22, ⟨.slice 5, 1, 24, [(.fs [])], false⟩),
  (24, ⟨.slice 73, 1, 24, [(.fs [])], false⟩),
  (25, ⟨.slice 3, 1, 24, [(.fs [])], false⟩),
  (59, ⟨.other, 1, 8, [], false⟩),
  (60, ⟨.int .u64, 1, 8, [(.int .u64 0)], false⟩),
  (62, ⟨.struct [(0, 1, 22), (1, 1, 3), (2, 1, 60)], 3, 40, [(.fs []), (.int .i64 0), (.int .u64 0)], false⟩),
  (73, ⟨.struct [(0, 1, 3), (1, 1, 3), (2, 1, 3), (3, 1, 3)], 4, 32, [(.int .i64 0), (.int .i64 0), (.int .i64 0), (.int .i64 0)], false⟩),
  (77, ⟨.other, 1, 8, [], false⟩),
  (106, ⟨.other, 1, 8, [], false⟩),
  (119, ⟨.struct [(0, 1, 25), (1, 1, 3), (2, 1, 3)], 3, 40, [(.fs []), (.int .i64 0), (.int .i64 0)], false⟩)]
def tab : Tab := find tyL
theorem tyB : tabB Try.prog tyL = true := by kernel_rfl

def fnL : List (Nat × GFun) := [(n_laws_rBig, c_laws_rBig), (n_spec_l1Cur_next, c_spec_l1Cur_next), (n_spec_l1Cur_pick, c_spec_l1Cur_pick), (n_spec_l1Cur_one, c_spec_l1Cur_one), (n_spec_l1Cur_among, c_spec_l1Cur_among), (n_spec_l1Cur_spoiltJob, c_spec_l1Cur_spoiltJob), (n_spec_l1Cur_job, c_spec_l1Cur_job), (n_spec_l1Cur_someJobs, c_spec_l1Cur_someJobs), (n_spec_l1Cur_plainJobs, c_spec_l1Cur_plainJobs), (n_spec_l1In, c_spec_l1In), (n_spec_l2Job, c_spec_l2Job), (n_spec_l2Good, c_spec_l2Good), (n_spec_l4Free, c_spec_l4Free), (n_spec_l6Good, c_spec_l6Good), (n_spec_l4Set, c_spec_l4Set), (n_spec_l6All, c_spec_l6All), (n_spec_l2Greatest, c_spec_l2Greatest), (n_spec_l1Most, c_spec_l1Most), (n_spec_l2Cost, c_spec_l2Cost), (n_spec_l2Of, c_spec_l2Of), (n_spec_l2Starts, c_spec_l2Starts), (n_spec_l2Ends, c_spec_l2Ends), (n_spec_l2Value, c_spec_l2Value), (n_spec_l6Sooner, c_spec_l6Sooner), (n_spec_l6Due, c_spec_l6Due), (n_spec_l6Latest, c_spec_l6Latest), (n_spec_DrawTimelyAfter, c_spec_DrawTimelyAfter), (n_impl_within, c_impl_within), (n_impl_isDate, c_impl_isDate), (n_impl_IsJobs, c_impl_IsJobs), (n_impl_isPlain, c_impl_isPlain), (n_impl_IsPlain, c_impl_IsPlain), (n_impl_sortedBy, c_impl_sortedBy), (n_impl_onTime_c1, c_impl_onTime_c1), (n_impl_onTime, c_impl_onTime), (n_impl_numbersTo, c_impl_numbersTo), (n_impl_TimelyAfter, c_impl_TimelyAfter), (n_spec_l6Timely, c_spec_l6Timely), (n_spec_TimelyAfter, c_spec_TimelyAfter), (n_impl_add, c_impl_add), (n_impl_valueOfEnds, c_impl_valueOfEnds), (n_impl_endsOf, c_impl_endsOf), (n_impl_valueOf, c_impl_valueOf), (n_impl_ascending_c1, c_impl_ascending_c1), (n_impl_ascending, c_impl_ascending), (n_impl_inDueOrder_c1, c_impl_inDueOrder_c1), (n_impl_inDueOrder, c_impl_inDueOrder), (n_impl_EarliestLatest, c_impl_EarliestLatest), (n_spec_EarliestLatest, c_spec_EarliestLatest), (n_impl_nextOrder, c_impl_nextOrder), (n_impl_eachOrder, c_impl_eachOrder), (n_impl_copyInts, c_impl_copyInts), (n_impl_best_c1, c_impl_best_c1), (n_impl_best, c_impl_best), (n_impl_isObjective, c_impl_isObjective), (n_impl_BestValue, c_impl_BestValue), (n_spec_l2Objective, c_spec_l2Objective), (n_spec_l1Own, c_spec_l1Own), (n_spec_l1Has, c_spec_l1Has), (n_spec_l2Try, c_spec_l2Try), (n_spec_l2All, c_spec_l2All), (n_spec_l2Best, c_spec_l2Best), (n_spec_BestValue, c_spec_BestValue), (n_laws_rBest, c_laws_rBest), (n_impl_DueOrder, c_impl_DueOrder), (n_impl_isNumber, c_impl_isNumber), (n_impl_has, c_impl_has), (n_impl_areDifferent, c_impl_areDifferent), (n_impl_isOrder, c_impl_isOrder), (n_impl_isScheduled, c_impl_isScheduled), (n_impl_isValued, c_impl_isValued), (n_impl_ValueOf, c_impl_ValueOf), (n_laws_FnLateness, c_laws_FnLateness)]
def F : Table := find fnL
theorem ck31 : chkFun tab Try.f31 c_laws_rBig = true := by kernel_rfl
theorem ck106 : chkFun tab Try.f106 c_spec_l1Cur_next = true := by kernel_rfl
theorem ck54 : chkFun tab Try.f54 c_spec_l1Cur_pick = true := by kernel_rfl
theorem ck51 : chkFun tab Try.f51 c_spec_l1Cur_one = true := by kernel_rfl
theorem ck75 : chkFun tab Try.f75 c_spec_l1Cur_among = true := by kernel_rfl
theorem ck119 : chkFun tab Try.f119 c_spec_l1Cur_spoiltJob = true := by kernel_rfl
theorem ck137 : chkFun tab Try.f137 c_spec_l1Cur_job = true := by kernel_rfl
theorem ck111 : chkFun tab Try.f111 c_spec_l1Cur_someJobs = true := by kernel_rfl
theorem ck91 : chkFun tab Try.f91 c_spec_l1Cur_plainJobs = true := by kernel_rfl
theorem ck97 : chkFun tab Try.f97 c_spec_l1In = true := by kernel_rfl
theorem ck113 : chkFun tab Try.f113 c_spec_l2Job = true := by kernel_rfl
theorem ck69 : chkFun tab Try.f69 c_spec_l2Good = true := by kernel_rfl
theorem ck126 : chkFun tab Try.f126 c_spec_l4Free = true := by kernel_rfl
theorem ck92 : chkFun tab Try.f92 c_spec_l6Good = true := by kernel_rfl
theorem ck130 : chkFun tab Try.f130 c_spec_l4Set = true := by kernel_rfl
theorem ck99 : chkFun tab Try.f99 c_spec_l6All = true := by kernel_rfl
theorem ck144 : chkFun tab Try.f144 c_spec_l2Greatest = true := by kernel_rfl
theorem ck63 : chkFun tab Try.f63 c_spec_l1Most = true := by kernel_rfl
theorem ck145 : chkFun tab Try.f145 c_spec_l2Cost = true := by kernel_rfl
theorem ck139 : chkFun tab Try.f139 c_spec_l2Of = true := by kernel_rfl
theorem ck146 : chkFun tab Try.f146 c_spec_l2Starts = true := by kernel_rfl
theorem ck140 : chkFun tab Try.f140 c_spec_l2Ends = true := by kernel_rfl
theorem ck127 : chkFun tab Try.f127 c_spec_l2Value = true := by kernel_rfl
theorem ck141 : chkFun tab Try.f141 c_spec_l6Sooner = true := by kernel_rfl
theorem ck128 : chkFun tab Try.f128 c_spec_l6Due = true := by kernel_rfl
theorem ck93 : chkFun tab Try.f93 c_spec_l6Latest = true := by kernel_rfl
theorem ck32 : chkFun tab Try.f32 c_spec_DrawTimelyAfter = true := by kernel_rfl
theorem ck94 : chkFun tab Try.f94 c_impl_within = true := by kernel_rfl
theorem ck112 : chkFun tab Try.f112 c_impl_isDate = true := by kernel_rfl
theorem ck67 : chkFun tab Try.f67 c_impl_IsJobs = true := by kernel_rfl
theorem ck68 : chkFun tab Try.f68 c_impl_isPlain = true := by kernel_rfl
theorem ck19 : chkFun tab Try.f19 c_impl_IsPlain = true := by kernel_rfl
theorem ck109 : chkFun tab Try.f109 c_impl_sortedBy = true := by kernel_rfl
theorem ck129 : chkFun tab Try.f129 c_impl_onTime_c1 = true := by kernel_rfl
theorem ck95 : chkFun tab Try.f95 c_impl_onTime = true := by kernel_rfl
theorem ck96 : chkFun tab Try.f96 c_impl_numbersTo = true := by kernel_rfl
theorem ck33 : chkFun tab Try.f33 c_impl_TimelyAfter = true := by kernel_rfl
theorem ck98 : chkFun tab Try.f98 c_spec_l6Timely = true := by kernel_rfl
theorem ck34 : chkFun tab Try.f34 c_spec_TimelyAfter = true := by kernel_rfl
theorem ck125 : chkFun tab Try.f125 c_impl_add = true := by kernel_rfl
theorem ck87 : chkFun tab Try.f87 c_impl_valueOfEnds = true := by kernel_rfl
theorem ck118 : chkFun tab Try.f118 c_impl_endsOf = true := by kernel_rfl
theorem ck73 : chkFun tab Try.f73 c_impl_valueOf = true := by kernel_rfl
theorem ck142 : chkFun tab Try.f142 c_impl_ascending_c1 = true := by kernel_rfl
theorem ck131 : chkFun tab Try.f131 c_impl_ascending = true := by kernel_rfl
theorem ck132 : chkFun tab Try.f132 c_impl_inDueOrder_c1 = true := by kernel_rfl
theorem ck100 : chkFun tab Try.f100 c_impl_inDueOrder = true := by kernel_rfl
theorem ck35 : chkFun tab Try.f35 c_impl_EarliestLatest = true := by kernel_rfl
theorem ck36 : chkFun tab Try.f36 c_spec_EarliestLatest = true := by kernel_rfl
theorem ck138 : chkFun tab Try.f138 c_impl_nextOrder = true := by kernel_rfl
theorem ck115 : chkFun tab Try.f115 c_impl_eachOrder = true := by kernel_rfl
theorem ck117 : chkFun tab Try.f117 c_impl_copyInts = true := by kernel_rfl
theorem ck116 : chkFun tab Try.f116 c_impl_best_c1 = true := by kernel_rfl
theorem ck72 : chkFun tab Try.f72 c_impl_best = true := by kernel_rfl
theorem ck86 : chkFun tab Try.f86 c_impl_isObjective = true := by kernel_rfl
theorem ck30 : chkFun tab Try.f30 c_impl_BestValue = true := by kernel_rfl
theorem ck133 : chkFun tab Try.f133 c_spec_l2Objective = true := by kernel_rfl
theorem ck105 : chkFun tab Try.f105 c_spec_l1Own = true := by kernel_rfl
theorem ck136 : chkFun tab Try.f136 c_spec_l1Has = true := by kernel_rfl
theorem ck147 : chkFun tab Try.f147 c_spec_l2Try = true := by kernel_rfl
theorem ck143 : chkFun tab Try.f143 c_spec_l2All = true := by kernel_rfl
theorem ck134 : chkFun tab Try.f134 c_spec_l2Best = true := by kernel_rfl
theorem ck101 : chkFun tab Try.f101 c_spec_BestValue = true := by kernel_rfl
theorem ck37 : chkFun tab Try.f37 c_laws_rBest = true := by kernel_rfl
theorem ck38 : chkFun tab Try.f38 c_impl_DueOrder = true := by kernel_rfl
theorem ck64 : chkFun tab Try.f64 c_impl_isNumber = true := by kernel_rfl
theorem ck124 : chkFun tab Try.f124 c_impl_has = true := by kernel_rfl
theorem ck121 : chkFun tab Try.f121 c_impl_areDifferent = true := by kernel_rfl
theorem ck107 : chkFun tab Try.f107 c_impl_isOrder = true := by kernel_rfl
theorem ck114 : chkFun tab Try.f114 c_impl_isScheduled = true := by kernel_rfl
theorem ck71 : chkFun tab Try.f71 c_impl_isValued = true := by kernel_rfl
theorem ck39 : chkFun tab Try.f39 c_impl_ValueOf = true := by kernel_rfl
theorem ck5 : chkFun tab Try.f5 c_laws_FnLateness = true := by kernel_rfl
theorem f_laws_rBig : F n_laws_rBig = some c_laws_rBig := by kernel_rfl
theorem f_spec_l1Cur_next : F n_spec_l1Cur_next = some c_spec_l1Cur_next := by kernel_rfl
theorem f_spec_l1Cur_pick : F n_spec_l1Cur_pick = some c_spec_l1Cur_pick := by kernel_rfl
theorem f_spec_l1Cur_one : F n_spec_l1Cur_one = some c_spec_l1Cur_one := by kernel_rfl
theorem f_spec_l1Cur_among : F n_spec_l1Cur_among = some c_spec_l1Cur_among := by kernel_rfl
theorem f_spec_l1Cur_spoiltJob : F n_spec_l1Cur_spoiltJob = some c_spec_l1Cur_spoiltJob := by kernel_rfl
theorem f_spec_l1Cur_job : F n_spec_l1Cur_job = some c_spec_l1Cur_job := by kernel_rfl
theorem f_spec_l1Cur_someJobs : F n_spec_l1Cur_someJobs = some c_spec_l1Cur_someJobs := by kernel_rfl
theorem f_spec_l1Cur_plainJobs : F n_spec_l1Cur_plainJobs = some c_spec_l1Cur_plainJobs := by kernel_rfl
theorem f_spec_l1In : F n_spec_l1In = some c_spec_l1In := by kernel_rfl
theorem f_spec_l2Job : F n_spec_l2Job = some c_spec_l2Job := by kernel_rfl
theorem f_spec_l2Good : F n_spec_l2Good = some c_spec_l2Good := by kernel_rfl
theorem f_spec_l4Free : F n_spec_l4Free = some c_spec_l4Free := by kernel_rfl
theorem f_spec_l6Good : F n_spec_l6Good = some c_spec_l6Good := by kernel_rfl
theorem f_spec_l4Set : F n_spec_l4Set = some c_spec_l4Set := by kernel_rfl
theorem f_spec_l6All : F n_spec_l6All = some c_spec_l6All := by kernel_rfl
theorem f_spec_l2Greatest : F n_spec_l2Greatest = some c_spec_l2Greatest := by kernel_rfl
theorem f_spec_l1Most : F n_spec_l1Most = some c_spec_l1Most := by kernel_rfl
theorem f_spec_l2Cost : F n_spec_l2Cost = some c_spec_l2Cost := by kernel_rfl
theorem f_spec_l2Of : F n_spec_l2Of = some c_spec_l2Of := by kernel_rfl
theorem f_spec_l2Starts : F n_spec_l2Starts = some c_spec_l2Starts := by kernel_rfl
theorem f_spec_l2Ends : F n_spec_l2Ends = some c_spec_l2Ends := by kernel_rfl
theorem f_spec_l2Value : F n_spec_l2Value = some c_spec_l2Value := by kernel_rfl
theorem f_spec_l6Sooner : F n_spec_l6Sooner = some c_spec_l6Sooner := by kernel_rfl
theorem f_spec_l6Due : F n_spec_l6Due = some c_spec_l6Due := by kernel_rfl
theorem f_spec_l6Latest : F n_spec_l6Latest = some c_spec_l6Latest := by kernel_rfl
theorem f_spec_DrawTimelyAfter : F n_spec_DrawTimelyAfter = some c_spec_DrawTimelyAfter := by kernel_rfl
theorem f_impl_within : F n_impl_within = some c_impl_within := by kernel_rfl
theorem f_impl_isDate : F n_impl_isDate = some c_impl_isDate := by kernel_rfl
theorem f_impl_IsJobs : F n_impl_IsJobs = some c_impl_IsJobs := by kernel_rfl
theorem f_impl_isPlain : F n_impl_isPlain = some c_impl_isPlain := by kernel_rfl
theorem f_impl_IsPlain : F n_impl_IsPlain = some c_impl_IsPlain := by kernel_rfl
theorem f_impl_sortedBy : F n_impl_sortedBy = some c_impl_sortedBy := by kernel_rfl
theorem f_impl_onTime_c1 : F n_impl_onTime_c1 = some c_impl_onTime_c1 := by kernel_rfl
theorem f_impl_onTime : F n_impl_onTime = some c_impl_onTime := by kernel_rfl
theorem f_impl_numbersTo : F n_impl_numbersTo = some c_impl_numbersTo := by kernel_rfl
theorem f_impl_TimelyAfter : F n_impl_TimelyAfter = some c_impl_TimelyAfter := by kernel_rfl
theorem f_spec_l6Timely : F n_spec_l6Timely = some c_spec_l6Timely := by kernel_rfl
theorem f_spec_TimelyAfter : F n_spec_TimelyAfter = some c_spec_TimelyAfter := by kernel_rfl
theorem f_impl_add : F n_impl_add = some c_impl_add := by kernel_rfl
theorem f_impl_valueOfEnds : F n_impl_valueOfEnds = some c_impl_valueOfEnds := by kernel_rfl
theorem f_impl_endsOf : F n_impl_endsOf = some c_impl_endsOf := by kernel_rfl
theorem f_impl_valueOf : F n_impl_valueOf = some c_impl_valueOf := by kernel_rfl
theorem f_impl_ascending_c1 : F n_impl_ascending_c1 = some c_impl_ascending_c1 := by kernel_rfl
theorem f_impl_ascending : F n_impl_ascending = some c_impl_ascending := by kernel_rfl
theorem f_impl_inDueOrder_c1 : F n_impl_inDueOrder_c1 = some c_impl_inDueOrder_c1 := by kernel_rfl
theorem f_impl_inDueOrder : F n_impl_inDueOrder = some c_impl_inDueOrder := by kernel_rfl
theorem f_impl_EarliestLatest : F n_impl_EarliestLatest = some c_impl_EarliestLatest := by kernel_rfl
theorem f_spec_EarliestLatest : F n_spec_EarliestLatest = some c_spec_EarliestLatest := by kernel_rfl
theorem f_impl_nextOrder : F n_impl_nextOrder = some c_impl_nextOrder := by kernel_rfl
theorem f_impl_eachOrder : F n_impl_eachOrder = some c_impl_eachOrder := by kernel_rfl
theorem f_impl_copyInts : F n_impl_copyInts = some c_impl_copyInts := by kernel_rfl
theorem f_impl_best_c1 : F n_impl_best_c1 = some c_impl_best_c1 := by kernel_rfl
theorem f_impl_best : F n_impl_best = some c_impl_best := by kernel_rfl
theorem f_impl_isObjective : F n_impl_isObjective = some c_impl_isObjective := by kernel_rfl
theorem f_impl_BestValue : F n_impl_BestValue = some c_impl_BestValue := by kernel_rfl
theorem f_spec_l2Objective : F n_spec_l2Objective = some c_spec_l2Objective := by kernel_rfl
theorem f_spec_l1Own : F n_spec_l1Own = some c_spec_l1Own := by kernel_rfl
theorem f_spec_l1Has : F n_spec_l1Has = some c_spec_l1Has := by kernel_rfl
theorem f_spec_l2Try : F n_spec_l2Try = some c_spec_l2Try := by kernel_rfl
theorem f_spec_l2All : F n_spec_l2All = some c_spec_l2All := by kernel_rfl
theorem f_spec_l2Best : F n_spec_l2Best = some c_spec_l2Best := by kernel_rfl
theorem f_spec_BestValue : F n_spec_BestValue = some c_spec_BestValue := by kernel_rfl
theorem f_laws_rBest : F n_laws_rBest = some c_laws_rBest := by kernel_rfl
theorem f_impl_DueOrder : F n_impl_DueOrder = some c_impl_DueOrder := by kernel_rfl
theorem f_impl_isNumber : F n_impl_isNumber = some c_impl_isNumber := by kernel_rfl
theorem f_impl_has : F n_impl_has = some c_impl_has := by kernel_rfl
theorem f_impl_areDifferent : F n_impl_areDifferent = some c_impl_areDifferent := by kernel_rfl
theorem f_impl_isOrder : F n_impl_isOrder = some c_impl_isOrder := by kernel_rfl
theorem f_impl_isScheduled : F n_impl_isScheduled = some c_impl_isScheduled := by kernel_rfl
theorem f_impl_isValued : F n_impl_isValued = some c_impl_isValued := by kernel_rfl
theorem f_impl_ValueOf : F n_impl_ValueOf = some c_impl_ValueOf := by kernel_rfl
theorem f_laws_FnLateness : F n_laws_FnLateness = some c_laws_FnLateness := by kernel_rfl
theorem s_laws_rBig : shOf F n_laws_rBig = false := by kernel_rfl
theorem s_spec_l1Cur_next : shOf F n_spec_l1Cur_next = true := by kernel_rfl
theorem s_spec_l1Cur_pick : shOf F n_spec_l1Cur_pick = true := by kernel_rfl
theorem s_spec_l1Cur_one : shOf F n_spec_l1Cur_one = true := by kernel_rfl
theorem s_spec_l1Cur_among : shOf F n_spec_l1Cur_among = true := by kernel_rfl
theorem s_spec_l1Cur_spoiltJob : shOf F n_spec_l1Cur_spoiltJob = true := by kernel_rfl
theorem s_spec_l1Cur_job : shOf F n_spec_l1Cur_job = true := by kernel_rfl
theorem s_spec_l1Cur_someJobs : shOf F n_spec_l1Cur_someJobs = true := by kernel_rfl
theorem s_spec_l1Cur_plainJobs : shOf F n_spec_l1Cur_plainJobs = true := by kernel_rfl
theorem s_spec_l1In : shOf F n_spec_l1In = false := by kernel_rfl
theorem s_spec_l2Job : shOf F n_spec_l2Job = false := by kernel_rfl
theorem s_spec_l2Good : shOf F n_spec_l2Good = false := by kernel_rfl
theorem s_spec_l4Free : shOf F n_spec_l4Free = false := by kernel_rfl
theorem s_spec_l6Good : shOf F n_spec_l6Good = false := by kernel_rfl
theorem s_spec_l4Set : shOf F n_spec_l4Set = false := by kernel_rfl
theorem s_spec_l6All : shOf F n_spec_l6All = false := by kernel_rfl
theorem s_spec_l2Greatest : shOf F n_spec_l2Greatest = false := by kernel_rfl
theorem s_spec_l1Most : shOf F n_spec_l1Most = false := by kernel_rfl
theorem s_spec_l2Cost : shOf F n_spec_l2Cost = false := by kernel_rfl
theorem s_spec_l2Of : shOf F n_spec_l2Of = false := by kernel_rfl
theorem s_spec_l2Starts : shOf F n_spec_l2Starts = false := by kernel_rfl
theorem s_spec_l2Ends : shOf F n_spec_l2Ends = false := by kernel_rfl
theorem s_spec_l2Value : shOf F n_spec_l2Value = false := by kernel_rfl
theorem s_spec_l6Sooner : shOf F n_spec_l6Sooner = false := by kernel_rfl
theorem s_spec_l6Due : shOf F n_spec_l6Due = false := by kernel_rfl
theorem s_spec_l6Latest : shOf F n_spec_l6Latest = false := by kernel_rfl
theorem s_spec_DrawTimelyAfter : shOf F n_spec_DrawTimelyAfter = false := by kernel_rfl
theorem s_impl_within : shOf F n_impl_within = false := by kernel_rfl
theorem s_impl_isDate : shOf F n_impl_isDate = false := by kernel_rfl
theorem s_impl_IsJobs : shOf F n_impl_IsJobs = false := by kernel_rfl
theorem s_impl_isPlain : shOf F n_impl_isPlain = false := by kernel_rfl
theorem s_impl_IsPlain : shOf F n_impl_IsPlain = false := by kernel_rfl
theorem s_impl_sortedBy : shOf F n_impl_sortedBy = true := by kernel_rfl
theorem s_impl_onTime_c1 : shOf F n_impl_onTime_c1 = true := by kernel_rfl
theorem s_impl_onTime : shOf F n_impl_onTime = false := by kernel_rfl
theorem s_impl_numbersTo : shOf F n_impl_numbersTo = false := by kernel_rfl
theorem s_impl_TimelyAfter : shOf F n_impl_TimelyAfter = false := by kernel_rfl
theorem s_spec_l6Timely : shOf F n_spec_l6Timely = false := by kernel_rfl
theorem s_spec_TimelyAfter : shOf F n_spec_TimelyAfter = false := by kernel_rfl
theorem s_impl_add : shOf F n_impl_add = false := by kernel_rfl
theorem s_impl_valueOfEnds : shOf F n_impl_valueOfEnds = false := by kernel_rfl
theorem s_impl_endsOf : shOf F n_impl_endsOf = false := by kernel_rfl
theorem s_impl_valueOf : shOf F n_impl_valueOf = false := by kernel_rfl
theorem s_impl_ascending_c1 : shOf F n_impl_ascending_c1 = false := by kernel_rfl
theorem s_impl_ascending : shOf F n_impl_ascending = false := by kernel_rfl
theorem s_impl_inDueOrder_c1 : shOf F n_impl_inDueOrder_c1 = true := by kernel_rfl
theorem s_impl_inDueOrder : shOf F n_impl_inDueOrder = false := by kernel_rfl
theorem s_impl_EarliestLatest : shOf F n_impl_EarliestLatest = false := by kernel_rfl
theorem s_spec_EarliestLatest : shOf F n_spec_EarliestLatest = false := by kernel_rfl
theorem s_impl_nextOrder : shOf F n_impl_nextOrder = true := by kernel_rfl
theorem s_impl_eachOrder : shOf F n_impl_eachOrder = true := by kernel_rfl
theorem s_impl_copyInts : shOf F n_impl_copyInts = false := by kernel_rfl
theorem s_impl_best_c1 : shOf F n_impl_best_c1 = true := by kernel_rfl
theorem s_impl_best : shOf F n_impl_best = false := by kernel_rfl
theorem s_impl_isObjective : shOf F n_impl_isObjective = false := by kernel_rfl
theorem s_impl_BestValue : shOf F n_impl_BestValue = false := by kernel_rfl
theorem s_spec_l2Objective : shOf F n_spec_l2Objective = false := by kernel_rfl
theorem s_spec_l1Own : shOf F n_spec_l1Own = false := by kernel_rfl
theorem s_spec_l1Has : shOf F n_spec_l1Has = false := by kernel_rfl
theorem s_spec_l2Try : shOf F n_spec_l2Try = false := by kernel_rfl
theorem s_spec_l2All : shOf F n_spec_l2All = false := by kernel_rfl
theorem s_spec_l2Best : shOf F n_spec_l2Best = false := by kernel_rfl
theorem s_spec_BestValue : shOf F n_spec_BestValue = false := by kernel_rfl
theorem s_laws_rBest : shOf F n_laws_rBest = false := by kernel_rfl
theorem s_impl_DueOrder : shOf F n_impl_DueOrder = false := by kernel_rfl
theorem s_impl_isNumber : shOf F n_impl_isNumber = false := by kernel_rfl
theorem s_impl_has : shOf F n_impl_has = false := by kernel_rfl
theorem s_impl_areDifferent : shOf F n_impl_areDifferent = false := by kernel_rfl
theorem s_impl_isOrder : shOf F n_impl_isOrder = false := by kernel_rfl
theorem s_impl_isScheduled : shOf F n_impl_isScheduled = false := by kernel_rfl
theorem s_impl_isValued : shOf F n_impl_isValued = false := by kernel_rfl
theorem s_impl_ValueOf : shOf F n_impl_ValueOf = false := by kernel_rfl
theorem s_laws_FnLateness : shOf F n_laws_FnLateness = false := by kernel_rfl
theorem funs : FunsOK Try.prog tab F := FunsAll.ok (FunsAll.cons Try.func31 ck31 (FunsAll.cons Try.func106 ck106 (FunsAll.cons Try.func54 ck54 (FunsAll.cons Try.func51 ck51 (FunsAll.cons Try.func75 ck75 (FunsAll.cons Try.func119 ck119 (FunsAll.cons Try.func137 ck137 (FunsAll.cons Try.func111 ck111 (FunsAll.cons Try.func91 ck91 (FunsAll.cons Try.func97 ck97 (FunsAll.cons Try.func113 ck113 (FunsAll.cons Try.func69 ck69 (FunsAll.cons Try.func126 ck126 (FunsAll.cons Try.func92 ck92 (FunsAll.cons Try.func130 ck130 (FunsAll.cons Try.func99 ck99 (FunsAll.cons Try.func144 ck144 (FunsAll.cons Try.func63 ck63 (FunsAll.cons Try.func145 ck145 (FunsAll.cons Try.func139 ck139 (FunsAll.cons Try.func146 ck146 (FunsAll.cons Try.func140 ck140 (FunsAll.cons Try.func127 ck127 (FunsAll.cons Try.func141 ck141 (FunsAll.cons Try.func128 ck128 (FunsAll.cons Try.func93 ck93 (FunsAll.cons Try.func32 ck32 (FunsAll.cons Try.func94 ck94 (FunsAll.cons Try.func112 ck112 (FunsAll.cons Try.func67 ck67 (FunsAll.cons Try.func68 ck68 (FunsAll.cons Try.func19 ck19 (FunsAll.cons Try.func109 ck109 (FunsAll.cons Try.func129 ck129 (FunsAll.cons Try.func95 ck95 (FunsAll.cons Try.func96 ck96 (FunsAll.cons Try.func33 ck33 (FunsAll.cons Try.func98 ck98 (FunsAll.cons Try.func34 ck34 (FunsAll.cons Try.func125 ck125 (FunsAll.cons Try.func87 ck87 (FunsAll.cons Try.func118 ck118 (FunsAll.cons Try.func73 ck73 (FunsAll.cons Try.func142 ck142 (FunsAll.cons Try.func131 ck131 (FunsAll.cons Try.func132 ck132 (FunsAll.cons Try.func100 ck100 (FunsAll.cons Try.func35 ck35 (FunsAll.cons Try.func36 ck36 (FunsAll.cons Try.func138 ck138 (FunsAll.cons Try.func115 ck115 (FunsAll.cons Try.func117 ck117 (FunsAll.cons Try.func116 ck116 (FunsAll.cons Try.func72 ck72 (FunsAll.cons Try.func86 ck86 (FunsAll.cons Try.func30 ck30 (FunsAll.cons Try.func133 ck133 (FunsAll.cons Try.func105 ck105 (FunsAll.cons Try.func136 ck136 (FunsAll.cons Try.func147 ck147 (FunsAll.cons Try.func143 ck143 (FunsAll.cons Try.func134 ck134 (FunsAll.cons Try.func101 ck101 (FunsAll.cons Try.func37 ck37 (FunsAll.cons Try.func38 ck38 (FunsAll.cons Try.func64 ck64 (FunsAll.cons Try.func124 ck124 (FunsAll.cons Try.func121 ck121 (FunsAll.cons Try.func107 ck107 (FunsAll.cons Try.func114 ck114 (FunsAll.cons Try.func71 ck71 (FunsAll.cons Try.func39 ck39 (FunsAll.cons Try.func5 ck5 FunsAll.nil)))))))))))))))))))))))))))))))))))))))))))))))))))))))))))))))))))))))))
theorem mixed : Try.prog.follows .mixedOrders = true := by kernel_rfl
end Gh
