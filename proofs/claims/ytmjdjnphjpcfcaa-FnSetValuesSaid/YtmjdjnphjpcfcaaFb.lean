/- The tables of types and functions, and that they hold. Written by program. -/
import Derived.Test.YtmjdjnphjpcfcaaChecked
import Derived.Test.YtmjdjnphjpcfcaaFa0
namespace Gh
open Go Go.Proofs
set_option maxRecDepth 100000

def tyL : List (Nat × TI) := [(3, ⟨.int .i64, 1, 8, [(.int .i64 0)], false⟩),
  (4, ⟨.bool, 1, 1, [(.bool false)], false⟩),
  (5, ⟨.int .u8, 1, 1, [(.int .u8 0)], false⟩),
  (22, ⟨.slice 5, 1, 24, [(.fs [])], false⟩),
  (24, ⟨.slice 53, 1, 24, [(.fs [])], false⟩),
  (27, ⟨.slice 3, 1, 24, [(.fs [])], false⟩),
  (53, ⟨.struct [(0, 1, 3), (1, 1, 3), (2, 1, 3), (3, 1, 3)], 4, 32, [(.int .i64 0), (.int .i64 0), (.int .i64 0), (.int .i64 0)], false⟩),
  (69, ⟨.other, 1, 8, [], false⟩),
  (70, ⟨.int .u64, 1, 8, [(.int .u64 0)], false⟩),
  (72, ⟨.struct [(0, 1, 22), (1, 1, 3), (2, 1, 70)], 3, 40, [(.fs []), (.int .i64 0), (.int .u64 0)], false⟩),
  (95, ⟨.other, 1, 8, [], false⟩),
  (128, ⟨.struct [(0, 1, 27), (1, 1, 3), (2, 1, 3)], 3, 40, [(.fs []), (.int .i64 0), (.int .i64 0)], false⟩)]
def tab : Tab := find tyL
theorem tyB : tabB Try.prog tyL = true := by kernel_rfl

def fnL : List (Nat × GFun) := [(n_laws_rBig, c_laws_rBig), (n_spec_l1Cur_next, c_spec_l1Cur_next), (n_spec_l1Cur_pick, c_spec_l1Cur_pick), (n_spec_l1Cur_one, c_spec_l1Cur_one), (n_spec_l1Cur_among, c_spec_l1Cur_among), (n_spec_l1Cur_spoiltJob, c_spec_l1Cur_spoiltJob), (n_spec_l1Cur_job, c_spec_l1Cur_job), (n_spec_l1Cur_someJobs, c_spec_l1Cur_someJobs), (n_spec_l1Cur_plainJobs, c_spec_l1Cur_plainJobs), (n_spec_l1Cur_objective, c_spec_l1Cur_objective), (n_spec_l1Cur_sums, c_spec_l1Cur_sums), (n_spec_DrawSetValues, c_spec_DrawSetValues), (n_impl_within, c_impl_within), (n_impl_isDate, c_impl_isDate), (n_impl_IsJobs, c_impl_IsJobs), (n_impl_isPlain, c_impl_isPlain), (n_impl_IsPlain, c_impl_IsPlain), (n_impl_isObjective, c_impl_isObjective), (n_impl_isSumObjective, c_impl_isSumObjective), (n_impl_listOf, c_impl_listOf), (n_impl_add, c_impl_add), (n_impl_timeOf, c_impl_timeOf), (n_impl_setValues, c_impl_setValues), (n_impl_SetValues, c_impl_SetValues), (n_spec_l1In, c_spec_l1In), (n_spec_l2Job, c_spec_l2Job), (n_spec_l2Good, c_spec_l2Good), (n_spec_l4Free, c_spec_l4Free), (n_spec_l6Good, c_spec_l6Good), (n_spec_l2Objective, c_spec_l2Objective), (n_spec_l2Greatest, c_spec_l2Greatest), (n_spec_l6Sum, c_spec_l6Sum), (n_spec_l1Most, c_spec_l1Most), (n_spec_l2Cost, c_spec_l2Cost), (n_spec_l6Times, c_spec_l6Times), (n_spec_l6Last, c_spec_l6Last), (n_spec_l6Values, c_spec_l6Values), (n_spec_SetValues, c_spec_SetValues), (n_laws_rInts, c_laws_rInts), (n_impl_SetOrder, c_impl_SetOrder), (n_spec_SetOrder, c_spec_SetOrder), (n_impl_totalOf, c_impl_totalOf), (n_impl_TotalTime, c_impl_TotalTime), (n_spec_l2Times, c_spec_l2Times), (n_spec_TotalTime, c_spec_TotalTime), (n_impl_numbersTo, c_impl_numbersTo), (n_impl_nextOrder, c_impl_nextOrder), (n_impl_eachOrder, c_impl_eachOrder), (n_impl_endsOf, c_impl_endsOf), (n_impl_valueOfEnds, c_impl_valueOfEnds), (n_impl_valueOf, c_impl_valueOf), (n_impl_copyInts, c_impl_copyInts), (n_impl_best_c1, c_impl_best_c1), (n_impl_best, c_impl_best), (n_impl_BestValue, c_impl_BestValue), (n_spec_l1Has, c_spec_l1Has), (n_spec_l1Own, c_spec_l1Own), (n_spec_l2Starts, c_spec_l2Starts), (n_spec_l2Ends, c_spec_l2Ends), (n_spec_l2Of, c_spec_l2Of), (n_spec_l2Value, c_spec_l2Value), (n_spec_l2Try, c_spec_l2Try), (n_spec_l2All, c_spec_l2All), (n_spec_l2Best, c_spec_l2Best), (n_spec_BestValue, c_spec_BestValue), (n_laws_rBest, c_laws_rBest), (n_impl_isNumber, c_impl_isNumber), (n_impl_has, c_impl_has), (n_impl_areDifferent, c_impl_areDifferent), (n_impl_isOrder, c_impl_isOrder), (n_impl_isScheduled, c_impl_isScheduled), (n_impl_isValued, c_impl_isValued), (n_impl_ValueOf, c_impl_ValueOf), (n_laws_FnSetValues, c_laws_FnSetValues)]
def F : Table := find fnL
theorem ck8 : chkFun tab Try.f8 c_laws_rBig = true := by kernel_rfl
theorem ck159 : chkFun tab Try.f159 c_spec_l1Cur_next = true := by kernel_rfl
theorem ck84 : chkFun tab Try.f84 c_spec_l1Cur_pick = true := by kernel_rfl
theorem ck151 : chkFun tab Try.f151 c_spec_l1Cur_one = true := by kernel_rfl
theorem ck153 : chkFun tab Try.f153 c_spec_l1Cur_among = true := by kernel_rfl
theorem ck183 : chkFun tab Try.f183 c_spec_l1Cur_spoiltJob = true := by kernel_rfl
theorem ck191 : chkFun tab Try.f191 c_spec_l1Cur_job = true := by kernel_rfl
theorem ck150 : chkFun tab Try.f150 c_spec_l1Cur_someJobs = true := by kernel_rfl
theorem ck67 : chkFun tab Try.f67 c_spec_l1Cur_plainJobs = true := by kernel_rfl
theorem ck152 : chkFun tab Try.f152 c_spec_l1Cur_objective = true := by kernel_rfl
theorem ck68 : chkFun tab Try.f68 c_spec_l1Cur_sums = true := by kernel_rfl
theorem ck9 : chkFun tab Try.f9 c_spec_DrawSetValues = true := by kernel_rfl
theorem ck160 : chkFun tab Try.f160 c_impl_within = true := by kernel_rfl
theorem ck176 : chkFun tab Try.f176 c_impl_isDate = true := by kernel_rfl
theorem ck120 : chkFun tab Try.f120 c_impl_IsJobs = true := by kernel_rfl
theorem ck154 : chkFun tab Try.f154 c_impl_isPlain = true := by kernel_rfl
theorem ck69 : chkFun tab Try.f69 c_impl_IsPlain = true := by kernel_rfl
theorem ck89 : chkFun tab Try.f89 c_impl_isObjective = true := by kernel_rfl
theorem ck70 : chkFun tab Try.f70 c_impl_isSumObjective = true := by kernel_rfl
theorem ck75 : chkFun tab Try.f75 c_impl_listOf = true := by kernel_rfl
theorem ck76 : chkFun tab Try.f76 c_impl_add = true := by kernel_rfl
theorem ck77 : chkFun tab Try.f77 c_impl_timeOf = true := by kernel_rfl
theorem ck71 : chkFun tab Try.f71 c_impl_setValues = true := by kernel_rfl
theorem ck10 : chkFun tab Try.f10 c_impl_SetValues = true := by kernel_rfl
theorem ck86 : chkFun tab Try.f86 c_spec_l1In = true := by kernel_rfl
theorem ck177 : chkFun tab Try.f177 c_spec_l2Job = true := by kernel_rfl
theorem ck122 : chkFun tab Try.f122 c_spec_l2Good = true := by kernel_rfl
theorem ck155 : chkFun tab Try.f155 c_spec_l4Free = true := by kernel_rfl
theorem ck72 : chkFun tab Try.f72 c_spec_l6Good = true := by kernel_rfl
theorem ck96 : chkFun tab Try.f96 c_spec_l2Objective = true := by kernel_rfl
theorem ck156 : chkFun tab Try.f156 c_spec_l2Greatest = true := by kernel_rfl
theorem ck73 : chkFun tab Try.f73 c_spec_l6Sum = true := by kernel_rfl
theorem ck87 : chkFun tab Try.f87 c_spec_l1Most = true := by kernel_rfl
theorem ck157 : chkFun tab Try.f157 c_spec_l2Cost = true := by kernel_rfl
theorem ck158 : chkFun tab Try.f158 c_spec_l6Times = true := by kernel_rfl
theorem ck78 : chkFun tab Try.f78 c_spec_l6Last = true := by kernel_rfl
theorem ck74 : chkFun tab Try.f74 c_spec_l6Values = true := by kernel_rfl
theorem ck11 : chkFun tab Try.f11 c_spec_SetValues = true := by kernel_rfl
theorem ck12 : chkFun tab Try.f12 c_laws_rInts = true := by kernel_rfl
theorem ck13 : chkFun tab Try.f13 c_impl_SetOrder = true := by kernel_rfl
theorem ck14 : chkFun tab Try.f14 c_spec_SetOrder = true := by kernel_rfl
theorem ck79 : chkFun tab Try.f79 c_impl_totalOf = true := by kernel_rfl
theorem ck15 : chkFun tab Try.f15 c_impl_TotalTime = true := by kernel_rfl
theorem ck80 : chkFun tab Try.f80 c_spec_l2Times = true := by kernel_rfl
theorem ck16 : chkFun tab Try.f16 c_spec_TotalTime = true := by kernel_rfl
theorem ck115 : chkFun tab Try.f115 c_impl_numbersTo = true := by kernel_rfl
theorem ck162 : chkFun tab Try.f162 c_impl_nextOrder = true := by kernel_rfl
theorem ck91 : chkFun tab Try.f91 c_impl_eachOrder = true := by kernel_rfl
theorem ck118 : chkFun tab Try.f118 c_impl_endsOf = true := by kernel_rfl
theorem ck130 : chkFun tab Try.f130 c_impl_valueOfEnds = true := by kernel_rfl
theorem ck83 : chkFun tab Try.f83 c_impl_valueOf = true := by kernel_rfl
theorem ck94 : chkFun tab Try.f94 c_impl_copyInts = true := by kernel_rfl
theorem ck182 : chkFun tab Try.f182 c_impl_best_c1 = true := by kernel_rfl
theorem ck127 : chkFun tab Try.f127 c_impl_best = true := by kernel_rfl
theorem ck65 : chkFun tab Try.f65 c_impl_BestValue = true := by kernel_rfl
theorem ck174 : chkFun tab Try.f174 c_spec_l1Has = true := by kernel_rfl
theorem ck181 : chkFun tab Try.f181 c_spec_l1Own = true := by kernel_rfl
theorem ck179 : chkFun tab Try.f179 c_spec_l2Starts = true := by kernel_rfl
theorem ck180 : chkFun tab Try.f180 c_spec_l2Ends = true := by kernel_rfl
theorem ck190 : chkFun tab Try.f190 c_spec_l2Of = true := by kernel_rfl
theorem ck193 : chkFun tab Try.f193 c_spec_l2Value = true := by kernel_rfl
theorem ck196 : chkFun tab Try.f196 c_spec_l2Try = true := by kernel_rfl
theorem ck185 : chkFun tab Try.f185 c_spec_l2All = true := by kernel_rfl
theorem ck135 : chkFun tab Try.f135 c_spec_l2Best = true := by kernel_rfl
theorem ck81 : chkFun tab Try.f81 c_spec_BestValue = true := by kernel_rfl
theorem ck17 : chkFun tab Try.f17 c_laws_rBest = true := by kernel_rfl
theorem ck85 : chkFun tab Try.f85 c_impl_isNumber = true := by kernel_rfl
theorem ck172 : chkFun tab Try.f172 c_impl_has = true := by kernel_rfl
theorem ck138 : chkFun tab Try.f138 c_impl_areDifferent = true := by kernel_rfl
theorem ck175 : chkFun tab Try.f175 c_impl_isOrder = true := by kernel_rfl
theorem ck117 : chkFun tab Try.f117 c_impl_isScheduled = true := by kernel_rfl
theorem ck82 : chkFun tab Try.f82 c_impl_isValued = true := by kernel_rfl
theorem ck18 : chkFun tab Try.f18 c_impl_ValueOf = true := by kernel_rfl
theorem ck3 : chkFun tab Try.f3 c_laws_FnSetValues = true := by kernel_rfl
theorem f_laws_rBig : F n_laws_rBig = some c_laws_rBig := by kernel_rfl
theorem f_spec_l1Cur_next : F n_spec_l1Cur_next = some c_spec_l1Cur_next := by kernel_rfl
theorem f_spec_l1Cur_pick : F n_spec_l1Cur_pick = some c_spec_l1Cur_pick := by kernel_rfl
theorem f_spec_l1Cur_one : F n_spec_l1Cur_one = some c_spec_l1Cur_one := by kernel_rfl
theorem f_spec_l1Cur_among : F n_spec_l1Cur_among = some c_spec_l1Cur_among := by kernel_rfl
theorem f_spec_l1Cur_spoiltJob : F n_spec_l1Cur_spoiltJob = some c_spec_l1Cur_spoiltJob := by kernel_rfl
theorem f_spec_l1Cur_job : F n_spec_l1Cur_job = some c_spec_l1Cur_job := by kernel_rfl
theorem f_spec_l1Cur_someJobs : F n_spec_l1Cur_someJobs = some c_spec_l1Cur_someJobs := by kernel_rfl
theorem f_spec_l1Cur_plainJobs : F n_spec_l1Cur_plainJobs = some c_spec_l1Cur_plainJobs := by kernel_rfl
theorem f_spec_l1Cur_objective : F n_spec_l1Cur_objective = some c_spec_l1Cur_objective := by kernel_rfl
theorem f_spec_l1Cur_sums : F n_spec_l1Cur_sums = some c_spec_l1Cur_sums := by kernel_rfl
theorem f_spec_DrawSetValues : F n_spec_DrawSetValues = some c_spec_DrawSetValues := by kernel_rfl
theorem f_impl_within : F n_impl_within = some c_impl_within := by kernel_rfl
theorem f_impl_isDate : F n_impl_isDate = some c_impl_isDate := by kernel_rfl
theorem f_impl_IsJobs : F n_impl_IsJobs = some c_impl_IsJobs := by kernel_rfl
theorem f_impl_isPlain : F n_impl_isPlain = some c_impl_isPlain := by kernel_rfl
theorem f_impl_IsPlain : F n_impl_IsPlain = some c_impl_IsPlain := by kernel_rfl
theorem f_impl_isObjective : F n_impl_isObjective = some c_impl_isObjective := by kernel_rfl
theorem f_impl_isSumObjective : F n_impl_isSumObjective = some c_impl_isSumObjective := by kernel_rfl
theorem f_impl_listOf : F n_impl_listOf = some c_impl_listOf := by kernel_rfl
theorem f_impl_add : F n_impl_add = some c_impl_add := by kernel_rfl
theorem f_impl_timeOf : F n_impl_timeOf = some c_impl_timeOf := by kernel_rfl
theorem f_impl_setValues : F n_impl_setValues = some c_impl_setValues := by kernel_rfl
theorem f_impl_SetValues : F n_impl_SetValues = some c_impl_SetValues := by kernel_rfl
theorem f_spec_l1In : F n_spec_l1In = some c_spec_l1In := by kernel_rfl
theorem f_spec_l2Job : F n_spec_l2Job = some c_spec_l2Job := by kernel_rfl
theorem f_spec_l2Good : F n_spec_l2Good = some c_spec_l2Good := by kernel_rfl
theorem f_spec_l4Free : F n_spec_l4Free = some c_spec_l4Free := by kernel_rfl
theorem f_spec_l6Good : F n_spec_l6Good = some c_spec_l6Good := by kernel_rfl
theorem f_spec_l2Objective : F n_spec_l2Objective = some c_spec_l2Objective := by kernel_rfl
theorem f_spec_l2Greatest : F n_spec_l2Greatest = some c_spec_l2Greatest := by kernel_rfl
theorem f_spec_l6Sum : F n_spec_l6Sum = some c_spec_l6Sum := by kernel_rfl
theorem f_spec_l1Most : F n_spec_l1Most = some c_spec_l1Most := by kernel_rfl
theorem f_spec_l2Cost : F n_spec_l2Cost = some c_spec_l2Cost := by kernel_rfl
theorem f_spec_l6Times : F n_spec_l6Times = some c_spec_l6Times := by kernel_rfl
theorem f_spec_l6Last : F n_spec_l6Last = some c_spec_l6Last := by kernel_rfl
theorem f_spec_l6Values : F n_spec_l6Values = some c_spec_l6Values := by kernel_rfl
theorem f_spec_SetValues : F n_spec_SetValues = some c_spec_SetValues := by kernel_rfl
theorem f_laws_rInts : F n_laws_rInts = some c_laws_rInts := by kernel_rfl
theorem f_impl_SetOrder : F n_impl_SetOrder = some c_impl_SetOrder := by kernel_rfl
theorem f_spec_SetOrder : F n_spec_SetOrder = some c_spec_SetOrder := by kernel_rfl
theorem f_impl_totalOf : F n_impl_totalOf = some c_impl_totalOf := by kernel_rfl
theorem f_impl_TotalTime : F n_impl_TotalTime = some c_impl_TotalTime := by kernel_rfl
theorem f_spec_l2Times : F n_spec_l2Times = some c_spec_l2Times := by kernel_rfl
theorem f_spec_TotalTime : F n_spec_TotalTime = some c_spec_TotalTime := by kernel_rfl
theorem f_impl_numbersTo : F n_impl_numbersTo = some c_impl_numbersTo := by kernel_rfl
theorem f_impl_nextOrder : F n_impl_nextOrder = some c_impl_nextOrder := by kernel_rfl
theorem f_impl_eachOrder : F n_impl_eachOrder = some c_impl_eachOrder := by kernel_rfl
theorem f_impl_endsOf : F n_impl_endsOf = some c_impl_endsOf := by kernel_rfl
theorem f_impl_valueOfEnds : F n_impl_valueOfEnds = some c_impl_valueOfEnds := by kernel_rfl
theorem f_impl_valueOf : F n_impl_valueOf = some c_impl_valueOf := by kernel_rfl
theorem f_impl_copyInts : F n_impl_copyInts = some c_impl_copyInts := by kernel_rfl
theorem f_impl_best_c1 : F n_impl_best_c1 = some c_impl_best_c1 := by kernel_rfl
theorem f_impl_best : F n_impl_best = some c_impl_best := by kernel_rfl
theorem f_impl_BestValue : F n_impl_BestValue = some c_impl_BestValue := by kernel_rfl
theorem f_spec_l1Has : F n_spec_l1Has = some c_spec_l1Has := by kernel_rfl
theorem f_spec_l1Own : F n_spec_l1Own = some c_spec_l1Own := by kernel_rfl
theorem f_spec_l2Starts : F n_spec_l2Starts = some c_spec_l2Starts := by kernel_rfl
theorem f_spec_l2Ends : F n_spec_l2Ends = some c_spec_l2Ends := by kernel_rfl
theorem f_spec_l2Of : F n_spec_l2Of = some c_spec_l2Of := by kernel_rfl
theorem f_spec_l2Value : F n_spec_l2Value = some c_spec_l2Value := by kernel_rfl
theorem f_spec_l2Try : F n_spec_l2Try = some c_spec_l2Try := by kernel_rfl
theorem f_spec_l2All : F n_spec_l2All = some c_spec_l2All := by kernel_rfl
theorem f_spec_l2Best : F n_spec_l2Best = some c_spec_l2Best := by kernel_rfl
theorem f_spec_BestValue : F n_spec_BestValue = some c_spec_BestValue := by kernel_rfl
theorem f_laws_rBest : F n_laws_rBest = some c_laws_rBest := by kernel_rfl
theorem f_impl_isNumber : F n_impl_isNumber = some c_impl_isNumber := by kernel_rfl
theorem f_impl_has : F n_impl_has = some c_impl_has := by kernel_rfl
theorem f_impl_areDifferent : F n_impl_areDifferent = some c_impl_areDifferent := by kernel_rfl
theorem f_impl_isOrder : F n_impl_isOrder = some c_impl_isOrder := by kernel_rfl
theorem f_impl_isScheduled : F n_impl_isScheduled = some c_impl_isScheduled := by kernel_rfl
theorem f_impl_isValued : F n_impl_isValued = some c_impl_isValued := by kernel_rfl
theorem f_impl_ValueOf : F n_impl_ValueOf = some c_impl_ValueOf := by kernel_rfl
theorem f_laws_FnSetValues : F n_laws_FnSetValues = some c_laws_FnSetValues := by kernel_rfl
theorem s_laws_rBig : shOf F n_laws_rBig = false := by kernel_rfl
theorem s_spec_l1Cur_next : shOf F n_spec_l1Cur_next = true := by kernel_rfl
theorem s_spec_l1Cur_pick : shOf F n_spec_l1Cur_pick = true := by kernel_rfl
theorem s_spec_l1Cur_one : shOf F n_spec_l1Cur_one = true := by kernel_rfl
theorem s_spec_l1Cur_among : shOf F n_spec_l1Cur_among = true := by kernel_rfl
theorem s_spec_l1Cur_spoiltJob : shOf F n_spec_l1Cur_spoiltJob = true := by kernel_rfl
theorem s_spec_l1Cur_job : shOf F n_spec_l1Cur_job = true := by kernel_rfl
theorem s_spec_l1Cur_someJobs : shOf F n_spec_l1Cur_someJobs = true := by kernel_rfl
theorem s_spec_l1Cur_plainJobs : shOf F n_spec_l1Cur_plainJobs = true := by kernel_rfl
theorem s_spec_l1Cur_objective : shOf F n_spec_l1Cur_objective = true := by kernel_rfl
theorem s_spec_l1Cur_sums : shOf F n_spec_l1Cur_sums = true := by kernel_rfl
theorem s_spec_DrawSetValues : shOf F n_spec_DrawSetValues = false := by kernel_rfl
theorem s_impl_within : shOf F n_impl_within = false := by kernel_rfl
theorem s_impl_isDate : shOf F n_impl_isDate = false := by kernel_rfl
theorem s_impl_IsJobs : shOf F n_impl_IsJobs = false := by kernel_rfl
theorem s_impl_isPlain : shOf F n_impl_isPlain = false := by kernel_rfl
theorem s_impl_IsPlain : shOf F n_impl_IsPlain = false := by kernel_rfl
theorem s_impl_isObjective : shOf F n_impl_isObjective = false := by kernel_rfl
theorem s_impl_isSumObjective : shOf F n_impl_isSumObjective = false := by kernel_rfl
theorem s_impl_listOf : shOf F n_impl_listOf = false := by kernel_rfl
theorem s_impl_add : shOf F n_impl_add = false := by kernel_rfl
theorem s_impl_timeOf : shOf F n_impl_timeOf = false := by kernel_rfl
theorem s_impl_setValues : shOf F n_impl_setValues = false := by kernel_rfl
theorem s_impl_SetValues : shOf F n_impl_SetValues = false := by kernel_rfl
theorem s_spec_l1In : shOf F n_spec_l1In = false := by kernel_rfl
theorem s_spec_l2Job : shOf F n_spec_l2Job = false := by kernel_rfl
theorem s_spec_l2Good : shOf F n_spec_l2Good = false := by kernel_rfl
theorem s_spec_l4Free : shOf F n_spec_l4Free = false := by kernel_rfl
theorem s_spec_l6Good : shOf F n_spec_l6Good = false := by kernel_rfl
theorem s_spec_l2Objective : shOf F n_spec_l2Objective = false := by kernel_rfl
theorem s_spec_l2Greatest : shOf F n_spec_l2Greatest = false := by kernel_rfl
theorem s_spec_l6Sum : shOf F n_spec_l6Sum = false := by kernel_rfl
theorem s_spec_l1Most : shOf F n_spec_l1Most = false := by kernel_rfl
theorem s_spec_l2Cost : shOf F n_spec_l2Cost = false := by kernel_rfl
theorem s_spec_l6Times : shOf F n_spec_l6Times = false := by kernel_rfl
theorem s_spec_l6Last : shOf F n_spec_l6Last = false := by kernel_rfl
theorem s_spec_l6Values : shOf F n_spec_l6Values = false := by kernel_rfl
theorem s_spec_SetValues : shOf F n_spec_SetValues = false := by kernel_rfl
theorem s_laws_rInts : shOf F n_laws_rInts = false := by kernel_rfl
theorem s_impl_SetOrder : shOf F n_impl_SetOrder = false := by kernel_rfl
theorem s_spec_SetOrder : shOf F n_spec_SetOrder = false := by kernel_rfl
theorem s_impl_totalOf : shOf F n_impl_totalOf = false := by kernel_rfl
theorem s_impl_TotalTime : shOf F n_impl_TotalTime = false := by kernel_rfl
theorem s_spec_l2Times : shOf F n_spec_l2Times = false := by kernel_rfl
theorem s_spec_TotalTime : shOf F n_spec_TotalTime = false := by kernel_rfl
theorem s_impl_numbersTo : shOf F n_impl_numbersTo = false := by kernel_rfl
theorem s_impl_nextOrder : shOf F n_impl_nextOrder = true := by kernel_rfl
theorem s_impl_eachOrder : shOf F n_impl_eachOrder = true := by kernel_rfl
theorem s_impl_endsOf : shOf F n_impl_endsOf = false := by kernel_rfl
theorem s_impl_valueOfEnds : shOf F n_impl_valueOfEnds = false := by kernel_rfl
theorem s_impl_valueOf : shOf F n_impl_valueOf = false := by kernel_rfl
theorem s_impl_copyInts : shOf F n_impl_copyInts = false := by kernel_rfl
theorem s_impl_best_c1 : shOf F n_impl_best_c1 = true := by kernel_rfl
theorem s_impl_best : shOf F n_impl_best = false := by kernel_rfl
theorem s_impl_BestValue : shOf F n_impl_BestValue = false := by kernel_rfl
theorem s_spec_l1Has : shOf F n_spec_l1Has = false := by kernel_rfl
theorem s_spec_l1Own : shOf F n_spec_l1Own = false := by kernel_rfl
theorem s_spec_l2Starts : shOf F n_spec_l2Starts = false := by kernel_rfl
theorem s_spec_l2Ends : shOf F n_spec_l2Ends = false := by kernel_rfl
theorem s_spec_l2Of : shOf F n_spec_l2Of = false := by kernel_rfl
theorem s_spec_l2Value : shOf F n_spec_l2Value = false := by kernel_rfl
theorem s_spec_l2Try : shOf F n_spec_l2Try = false := by kernel_rfl
theorem s_spec_l2All : shOf F n_spec_l2All = false := by kernel_rfl
theorem s_spec_l2Best : shOf F n_spec_l2Best = false := by kernel_rfl
theorem s_spec_BestValue : shOf F n_spec_BestValue = false := by kernel_rfl
theorem s_laws_rBest : shOf F n_laws_rBest = false := by kernel_rfl
theorem s_impl_isNumber : shOf F n_impl_isNumber = false := by kernel_rfl
theorem s_impl_has : shOf F n_impl_has = false := by kernel_rfl
theorem s_impl_areDifferent : shOf F n_impl_areDifferent = false := by kernel_rfl
theorem s_impl_isOrder : shOf F n_impl_isOrder = false := by kernel_rfl
theorem s_impl_isScheduled : shOf F n_impl_isScheduled = false := by kernel_rfl
theorem s_impl_isValued : shOf F n_impl_isValued = false := by kernel_rfl
theorem s_impl_ValueOf : shOf F n_impl_ValueOf = false := by kernel_rfl
theorem s_laws_FnSetValues : shOf F n_laws_FnSetValues = false := by kernel_rfl
theorem funs : FunsOK Try.prog tab F := FunsAll.ok (FunsAll.cons Try.func8 ck8 (FunsAll.cons Try.func159 ck159 (FunsAll.cons Try.func84 ck84 (FunsAll.cons Try.func151 ck151 (FunsAll.cons Try.func153 ck153 (FunsAll.cons Try.func183 ck183 (FunsAll.cons Try.func191 ck191 (FunsAll.cons Try.func150 ck150 (FunsAll.cons Try.func67 ck67 (FunsAll.cons Try.func152 ck152 (FunsAll.cons Try.func68 ck68 (FunsAll.cons Try.func9 ck9 (FunsAll.cons Try.func160 ck160 (FunsAll.cons Try.func176 ck176 (FunsAll.cons Try.func120 ck120 (FunsAll.cons Try.func154 ck154 (FunsAll.cons Try.func69 ck69 (FunsAll.cons Try.func89 ck89 (FunsAll.cons Try.func70 ck70 (FunsAll.cons Try.func75 ck75 (FunsAll.cons Try.func76 ck76 (FunsAll.cons Try.func77 ck77 (FunsAll.cons Try.func71 ck71 (FunsAll.cons Try.func10 ck10 (FunsAll.cons Try.func86 ck86 (FunsAll.cons Try.func177 ck177 (FunsAll.cons Try.func122 ck122 (FunsAll.cons Try.func155 ck155 (FunsAll.cons Try.func72 ck72 (FunsAll.cons Try.func96 ck96 (FunsAll.cons Try.func156 ck156 (FunsAll.cons Try.func73 ck73 (FunsAll.cons Try.func87 ck87 (FunsAll.cons Try.func157 ck157 (FunsAll.cons Try.func158 ck158 (FunsAll.cons Try.func78 ck78 (FunsAll.cons Try.func74 ck74 (FunsAll.cons Try.func11 ck11 (FunsAll.cons Try.func12 ck12 (FunsAll.cons Try.func13 ck13 (FunsAll.cons Try.func14 ck14 (FunsAll.cons Try.func79 ck79 (FunsAll.cons Try.func15 ck15 (FunsAll.cons Try.func80 ck80 (FunsAll.cons Try.func16 ck16 (FunsAll.cons Try.func115 ck115 (FunsAll.cons Try.func162 ck162 (FunsAll.cons Try.func91 ck91 (FunsAll.cons Try.func118 ck118 (FunsAll.cons Try.func130 ck130 (FunsAll.cons Try.func83 ck83 (FunsAll.cons Try.func94 ck94 (FunsAll.cons Try.func182 ck182 (FunsAll.cons Try.func127 ck127 (FunsAll.cons Try.func65 ck65 (FunsAll.cons Try.func174 ck174 (FunsAll.cons Try.func181 ck181 (FunsAll.cons Try.func179 ck179 (FunsAll.cons Try.func180 ck180 (FunsAll.cons Try.func190 ck190 (FunsAll.cons Try.func193 ck193 (FunsAll.cons Try.func196 ck196 (FunsAll.cons Try.func185 ck185 (FunsAll.cons Try.func135 ck135 (FunsAll.cons Try.func81 ck81 (FunsAll.cons Try.func17 ck17 (FunsAll.cons Try.func85 ck85 (FunsAll.cons Try.func172 ck172 (FunsAll.cons Try.func138 ck138 (FunsAll.cons Try.func175 ck175 (FunsAll.cons Try.func117 ck117 (FunsAll.cons Try.func82 ck82 (FunsAll.cons Try.func18 ck18 (FunsAll.cons Try.func3 ck3 FunsAll.nil))))))))))))))))))))))))))))))))))))))))))))))))))))))))))))))))))))))))))
theorem mixed : Try.prog.follows .mixedOrders = true := by kernel_rfl
end Gh
