/- The tables of types and functions, and that they hold. Written by program. -/
import Derived.Test.YtebflkckndibiaaChecked
import Derived.Test.YtebflkckndibiaaFa0
namespace Gh
open Go Go.Proofs
set_option maxRecDepth 100000

def tyL : List (Nat × TI) := [(3, ⟨.int .i64, 1, 8, [(.int .i64 0)], false⟩),
  (4, ⟨.bool, 1, 1, [(.bool false)], false⟩),
  (5, ⟨.int .u8, 1, 1, [(.int .u8 0)], false⟩),
  (22, ⟨.slice 5, 1, 24, [(.fs [])], false⟩),
  (24, ⟨.slice 73, 1, 24, [(.fs [])], false⟩),
  (25, ⟨.slice 3, 1, 24, [(.fs [])], false⟩),
  (54, ⟨.slice 98, 1, 24, [(.fs [])], false⟩),
  (59, ⟨.other, 1, 8, [], false⟩),
  (60, ⟨.int .u64, 1, 8, [(.int .u64 0)], false⟩),
  (62, ⟨.struct [(0, 1, 22), (1, 1, 3), (2, 1, 60)], 3, 40, [(.fs []), (.int .i64 0), (.int .u64 0)], false⟩),
  (73, ⟨.struct [(0, 1, 3), (1, 1, 3), (2, 1, 3), (3, 1, 3)], 4, 32, [(.int .i64 0), (.int .i64 0), (.int .i64 0), (.int .i64 0)], false⟩),
  (98, ⟨.array 2 3, 2, 16, [(.int .i64 0), (.int .i64 0)], true⟩),
  (106, ⟨.other, 1, 8, [], false⟩)]
def tab : Tab := find tyL
theorem tyB : tabB Try.prog tyL = true := by kernel_rfl

def fnL : List (Nat × GFun) := [(n_laws_vBig, c_laws_vBig), (n_impl_within, c_impl_within), (n_impl_isDate, c_impl_isDate), (n_impl_IsJobs, c_impl_IsJobs), (n_impl_isPlain, c_impl_isPlain), (n_impl_isRuled, c_impl_isRuled), (n_impl_isNumber, c_impl_isNumber), (n_impl_has, c_impl_has), (n_impl_areDifferent, c_impl_areDifferent), (n_impl_isOrder, c_impl_isOrder), (n_impl_isRuledAndOrdered, c_impl_isRuledAndOrdered), (n_impl_difference, c_impl_difference), (n_impl_IsRuledOrder, c_impl_IsRuledOrder), (n_laws_vCut, c_laws_vCut), (n_impl_RuleDifference, c_impl_RuleDifference), (n_impl_numbersTo, c_impl_numbersTo), (n_impl_nextOrder, c_impl_nextOrder), (n_impl_eachOrder, c_impl_eachOrder), (n_impl_add, c_impl_add), (n_impl_valueOfEnds, c_impl_valueOfEnds), (n_impl_endsOf, c_impl_endsOf), (n_impl_valueOf, c_impl_valueOf), (n_impl_copyInts, c_impl_copyInts), (n_impl_best_c1, c_impl_best_c1), (n_impl_best, c_impl_best), (n_impl_isObjective, c_impl_isObjective), (n_impl_BestValue, c_impl_BestValue), (n_impl_isScheduled, c_impl_isScheduled), (n_impl_isValued, c_impl_isValued), (n_impl_ValueOf, c_impl_ValueOf), (n_spec_l1Cur_next, c_spec_l1Cur_next), (n_spec_l1Cur_pick, c_spec_l1Cur_pick), (n_spec_l1Cur_one, c_spec_l1Cur_one), (n_spec_l1Cur_among, c_spec_l1Cur_among), (n_spec_l1Cur_order, c_spec_l1Cur_order), (n_spec_l1Cur_spoiltJob, c_spec_l1Cur_spoiltJob), (n_spec_l1Cur_job, c_spec_l1Cur_job), (n_spec_l1Cur_someJobs, c_spec_l1Cur_someJobs), (n_spec_l1Cur_jobs, c_spec_l1Cur_jobs), (n_spec_l1Cur_plain3, c_spec_l1Cur_plain3), (n_spec_DrawPairLoss, c_spec_DrawPairLoss), (n_impl_inversions, c_impl_inversions), (n_impl_PairLoss, c_impl_PairLoss), (n_spec_l1In, c_spec_l1In), (n_spec_l2Job, c_spec_l2Job), (n_spec_l2Good, c_spec_l2Good), (n_spec_l3Plain, c_spec_l3Plain), (n_spec_l3Ruled, c_spec_l3Ruled), (n_spec_l1Has, c_spec_l1Has), (n_spec_l2Order, c_spec_l2Order), (n_spec_l3Both, c_spec_l3Both), (n_spec_l3Gap, c_spec_l3Gap), (n_spec_l3Inversions, c_spec_l3Inversions), (n_spec_PairLoss, c_spec_PairLoss), (n_spec_l1Cur_ruled3, c_spec_l1Cur_ruled3), (n_spec_l1Own, c_spec_l1Own), (n_spec_l3Order, c_spec_l3Order), (n_spec_l2Swap, c_spec_l2Swap), (n_spec_DrawIsRuledOrder, c_spec_DrawIsRuledOrder), (n_spec_DrawInversionsOf, c_spec_DrawInversionsOf), (n_impl_InversionsOf, c_impl_InversionsOf), (n_spec_InversionsOf, c_spec_InversionsOf), (n_laws_vPairs, c_laws_vPairs), (n_impl_exchanged, c_impl_exchanged), (n_impl_gain, c_impl_gain), (n_impl_ExchangeGain, c_impl_ExchangeGain), (n_laws_FnPairLoss, c_laws_FnPairLoss)]
def F : Table := find fnL
theorem ck7 : chkFun tab Try.f7 c_laws_vBig = true := by kernel_rfl
theorem ck94 : chkFun tab Try.f94 c_impl_within = true := by kernel_rfl
theorem ck112 : chkFun tab Try.f112 c_impl_isDate = true := by kernel_rfl
theorem ck67 : chkFun tab Try.f67 c_impl_IsJobs = true := by kernel_rfl
theorem ck68 : chkFun tab Try.f68 c_impl_isPlain = true := by kernel_rfl
theorem ck59 : chkFun tab Try.f59 c_impl_isRuled = true := by kernel_rfl
theorem ck64 : chkFun tab Try.f64 c_impl_isNumber = true := by kernel_rfl
theorem ck124 : chkFun tab Try.f124 c_impl_has = true := by kernel_rfl
theorem ck121 : chkFun tab Try.f121 c_impl_areDifferent = true := by kernel_rfl
theorem ck107 : chkFun tab Try.f107 c_impl_isOrder = true := by kernel_rfl
theorem ck55 : chkFun tab Try.f55 c_impl_isRuledAndOrdered = true := by kernel_rfl
theorem ck56 : chkFun tab Try.f56 c_impl_difference = true := by kernel_rfl
theorem ck9 : chkFun tab Try.f9 c_impl_IsRuledOrder = true := by kernel_rfl
theorem ck14 : chkFun tab Try.f14 c_laws_vCut = true := by kernel_rfl
theorem ck16 : chkFun tab Try.f16 c_impl_RuleDifference = true := by kernel_rfl
theorem ck96 : chkFun tab Try.f96 c_impl_numbersTo = true := by kernel_rfl
theorem ck138 : chkFun tab Try.f138 c_impl_nextOrder = true := by kernel_rfl
theorem ck115 : chkFun tab Try.f115 c_impl_eachOrder = true := by kernel_rfl
theorem ck125 : chkFun tab Try.f125 c_impl_add = true := by kernel_rfl
theorem ck87 : chkFun tab Try.f87 c_impl_valueOfEnds = true := by kernel_rfl
theorem ck118 : chkFun tab Try.f118 c_impl_endsOf = true := by kernel_rfl
theorem ck73 : chkFun tab Try.f73 c_impl_valueOf = true := by kernel_rfl
theorem ck117 : chkFun tab Try.f117 c_impl_copyInts = true := by kernel_rfl
theorem ck116 : chkFun tab Try.f116 c_impl_best_c1 = true := by kernel_rfl
theorem ck72 : chkFun tab Try.f72 c_impl_best = true := by kernel_rfl
theorem ck86 : chkFun tab Try.f86 c_impl_isObjective = true := by kernel_rfl
theorem ck30 : chkFun tab Try.f30 c_impl_BestValue = true := by kernel_rfl
theorem ck114 : chkFun tab Try.f114 c_impl_isScheduled = true := by kernel_rfl
theorem ck71 : chkFun tab Try.f71 c_impl_isValued = true := by kernel_rfl
theorem ck39 : chkFun tab Try.f39 c_impl_ValueOf = true := by kernel_rfl
theorem ck106 : chkFun tab Try.f106 c_spec_l1Cur_next = true := by kernel_rfl
theorem ck54 : chkFun tab Try.f54 c_spec_l1Cur_pick = true := by kernel_rfl
theorem ck51 : chkFun tab Try.f51 c_spec_l1Cur_one = true := by kernel_rfl
theorem ck75 : chkFun tab Try.f75 c_spec_l1Cur_among = true := by kernel_rfl
theorem ck49 : chkFun tab Try.f49 c_spec_l1Cur_order = true := by kernel_rfl
theorem ck119 : chkFun tab Try.f119 c_spec_l1Cur_spoiltJob = true := by kernel_rfl
theorem ck137 : chkFun tab Try.f137 c_spec_l1Cur_job = true := by kernel_rfl
theorem ck111 : chkFun tab Try.f111 c_spec_l1Cur_someJobs = true := by kernel_rfl
theorem ck61 : chkFun tab Try.f61 c_spec_l1Cur_jobs = true := by kernel_rfl
theorem ck62 : chkFun tab Try.f62 c_spec_l1Cur_plain3 = true := by kernel_rfl
theorem ck40 : chkFun tab Try.f40 c_spec_DrawPairLoss = true := by kernel_rfl
theorem ck102 : chkFun tab Try.f102 c_impl_inversions = true := by kernel_rfl
theorem ck41 : chkFun tab Try.f41 c_impl_PairLoss = true := by kernel_rfl
theorem ck97 : chkFun tab Try.f97 c_spec_l1In = true := by kernel_rfl
theorem ck113 : chkFun tab Try.f113 c_spec_l2Job = true := by kernel_rfl
theorem ck69 : chkFun tab Try.f69 c_spec_l2Good = true := by kernel_rfl
theorem ck70 : chkFun tab Try.f70 c_spec_l3Plain = true := by kernel_rfl
theorem ck50 : chkFun tab Try.f50 c_spec_l3Ruled = true := by kernel_rfl
theorem ck136 : chkFun tab Try.f136 c_spec_l1Has = true := by kernel_rfl
theorem ck108 : chkFun tab Try.f108 c_spec_l2Order = true := by kernel_rfl
theorem ck57 : chkFun tab Try.f57 c_spec_l3Both = true := by kernel_rfl
theorem ck66 : chkFun tab Try.f66 c_spec_l3Gap = true := by kernel_rfl
theorem ck103 : chkFun tab Try.f103 c_spec_l3Inversions = true := by kernel_rfl
theorem ck42 : chkFun tab Try.f42 c_spec_PairLoss = true := by kernel_rfl
theorem ck48 : chkFun tab Try.f48 c_spec_l1Cur_ruled3 = true := by kernel_rfl
theorem ck105 : chkFun tab Try.f105 c_spec_l1Own = true := by kernel_rfl
theorem ck52 : chkFun tab Try.f52 c_spec_l3Order = true := by kernel_rfl
theorem ck53 : chkFun tab Try.f53 c_spec_l2Swap = true := by kernel_rfl
theorem ck8 : chkFun tab Try.f8 c_spec_DrawIsRuledOrder = true := by kernel_rfl
theorem ck43 : chkFun tab Try.f43 c_spec_DrawInversionsOf = true := by kernel_rfl
theorem ck44 : chkFun tab Try.f44 c_impl_InversionsOf = true := by kernel_rfl
theorem ck45 : chkFun tab Try.f45 c_spec_InversionsOf = true := by kernel_rfl
theorem ck46 : chkFun tab Try.f46 c_laws_vPairs = true := by kernel_rfl
theorem ck135 : chkFun tab Try.f135 c_impl_exchanged = true := by kernel_rfl
theorem ck104 : chkFun tab Try.f104 c_impl_gain = true := by kernel_rfl
theorem ck47 : chkFun tab Try.f47 c_impl_ExchangeGain = true := by kernel_rfl
theorem ck6 : chkFun tab Try.f6 c_laws_FnPairLoss = true := by kernel_rfl
theorem f_laws_vBig : F n_laws_vBig = some c_laws_vBig := by kernel_rfl
theorem f_impl_within : F n_impl_within = some c_impl_within := by kernel_rfl
theorem f_impl_isDate : F n_impl_isDate = some c_impl_isDate := by kernel_rfl
theorem f_impl_IsJobs : F n_impl_IsJobs = some c_impl_IsJobs := by kernel_rfl
theorem f_impl_isPlain : F n_impl_isPlain = some c_impl_isPlain := by kernel_rfl
theorem f_impl_isRuled : F n_impl_isRuled = some c_impl_isRuled := by kernel_rfl
theorem f_impl_isNumber : F n_impl_isNumber = some c_impl_isNumber := by kernel_rfl
theorem f_impl_has : F n_impl_has = some c_impl_has := by kernel_rfl
theorem f_impl_areDifferent : F n_impl_areDifferent = some c_impl_areDifferent := by kernel_rfl
theorem f_impl_isOrder : F n_impl_isOrder = some c_impl_isOrder := by kernel_rfl
theorem f_impl_isRuledAndOrdered : F n_impl_isRuledAndOrdered = some c_impl_isRuledAndOrdered := by kernel_rfl
theorem f_impl_difference : F n_impl_difference = some c_impl_difference := by kernel_rfl
theorem f_impl_IsRuledOrder : F n_impl_IsRuledOrder = some c_impl_IsRuledOrder := by kernel_rfl
theorem f_laws_vCut : F n_laws_vCut = some c_laws_vCut := by kernel_rfl
theorem f_impl_RuleDifference : F n_impl_RuleDifference = some c_impl_RuleDifference := by kernel_rfl
theorem f_impl_numbersTo : F n_impl_numbersTo = some c_impl_numbersTo := by kernel_rfl
theorem f_impl_nextOrder : F n_impl_nextOrder = some c_impl_nextOrder := by kernel_rfl
theorem f_impl_eachOrder : F n_impl_eachOrder = some c_impl_eachOrder := by kernel_rfl
theorem f_impl_add : F n_impl_add = some c_impl_add := by kernel_rfl
theorem f_impl_valueOfEnds : F n_impl_valueOfEnds = some c_impl_valueOfEnds := by kernel_rfl
theorem f_impl_endsOf : F n_impl_endsOf = some c_impl_endsOf := by kernel_rfl
theorem f_impl_valueOf : F n_impl_valueOf = some c_impl_valueOf := by kernel_rfl
theorem f_impl_copyInts : F n_impl_copyInts = some c_impl_copyInts := by kernel_rfl
theorem f_impl_best_c1 : F n_impl_best_c1 = some c_impl_best_c1 := by kernel_rfl
theorem f_impl_best : F n_impl_best = some c_impl_best := by kernel_rfl
theorem f_impl_isObjective : F n_impl_isObjective = some c_impl_isObjective := by kernel_rfl
theorem f_impl_BestValue : F n_impl_BestValue = some c_impl_BestValue := by kernel_rfl
theorem f_impl_isScheduled : F n_impl_isScheduled = some c_impl_isScheduled := by kernel_rfl
theorem f_impl_isValued : F n_impl_isValued = some c_impl_isValued := by kernel_rfl
theorem f_impl_ValueOf : F n_impl_ValueOf = some c_impl_ValueOf := by kernel_rfl
theorem f_spec_l1Cur_next : F n_spec_l1Cur_next = some c_spec_l1Cur_next := by kernel_rfl
theorem f_spec_l1Cur_pick : F n_spec_l1Cur_pick = some c_spec_l1Cur_pick := by kernel_rfl
theorem f_spec_l1Cur_one : F n_spec_l1Cur_one = some c_spec_l1Cur_one := by kernel_rfl
theorem f_spec_l1Cur_among : F n_spec_l1Cur_among = some c_spec_l1Cur_among := by kernel_rfl
theorem f_spec_l1Cur_order : F n_spec_l1Cur_order = some c_spec_l1Cur_order := by kernel_rfl
theorem f_spec_l1Cur_spoiltJob : F n_spec_l1Cur_spoiltJob = some c_spec_l1Cur_spoiltJob := by kernel_rfl
theorem f_spec_l1Cur_job : F n_spec_l1Cur_job = some c_spec_l1Cur_job := by kernel_rfl
theorem f_spec_l1Cur_someJobs : F n_spec_l1Cur_someJobs = some c_spec_l1Cur_someJobs := by kernel_rfl
theorem f_spec_l1Cur_jobs : F n_spec_l1Cur_jobs = some c_spec_l1Cur_jobs := by kernel_rfl
theorem f_spec_l1Cur_plain3 : F n_spec_l1Cur_plain3 = some c_spec_l1Cur_plain3 := by kernel_rfl
theorem f_spec_DrawPairLoss : F n_spec_DrawPairLoss = some c_spec_DrawPairLoss := by kernel_rfl
theorem f_impl_inversions : F n_impl_inversions = some c_impl_inversions := by kernel_rfl
theorem f_impl_PairLoss : F n_impl_PairLoss = some c_impl_PairLoss := by kernel_rfl
theorem f_spec_l1In : F n_spec_l1In = some c_spec_l1In := by kernel_rfl
theorem f_spec_l2Job : F n_spec_l2Job = some c_spec_l2Job := by kernel_rfl
theorem f_spec_l2Good : F n_spec_l2Good = some c_spec_l2Good := by kernel_rfl
theorem f_spec_l3Plain : F n_spec_l3Plain = some c_spec_l3Plain := by kernel_rfl
theorem f_spec_l3Ruled : F n_spec_l3Ruled = some c_spec_l3Ruled := by kernel_rfl
theorem f_spec_l1Has : F n_spec_l1Has = some c_spec_l1Has := by kernel_rfl
theorem f_spec_l2Order : F n_spec_l2Order = some c_spec_l2Order := by kernel_rfl
theorem f_spec_l3Both : F n_spec_l3Both = some c_spec_l3Both := by kernel_rfl
theorem f_spec_l3Gap : F n_spec_l3Gap = some c_spec_l3Gap := by kernel_rfl
theorem f_spec_l3Inversions : F n_spec_l3Inversions = some c_spec_l3Inversions := by kernel_rfl
theorem f_spec_PairLoss : F n_spec_PairLoss = some c_spec_PairLoss := by kernel_rfl
theorem f_spec_l1Cur_ruled3 : F n_spec_l1Cur_ruled3 = some c_spec_l1Cur_ruled3 := by kernel_rfl
theorem f_spec_l1Own : F n_spec_l1Own = some c_spec_l1Own := by kernel_rfl
theorem f_spec_l3Order : F n_spec_l3Order = some c_spec_l3Order := by kernel_rfl
theorem f_spec_l2Swap : F n_spec_l2Swap = some c_spec_l2Swap := by kernel_rfl
theorem f_spec_DrawIsRuledOrder : F n_spec_DrawIsRuledOrder = some c_spec_DrawIsRuledOrder := by kernel_rfl
theorem f_spec_DrawInversionsOf : F n_spec_DrawInversionsOf = some c_spec_DrawInversionsOf := by kernel_rfl
theorem f_impl_InversionsOf : F n_impl_InversionsOf = some c_impl_InversionsOf := by kernel_rfl
theorem f_spec_InversionsOf : F n_spec_InversionsOf = some c_spec_InversionsOf := by kernel_rfl
theorem f_laws_vPairs : F n_laws_vPairs = some c_laws_vPairs := by kernel_rfl
theorem f_impl_exchanged : F n_impl_exchanged = some c_impl_exchanged := by kernel_rfl
theorem f_impl_gain : F n_impl_gain = some c_impl_gain := by kernel_rfl
theorem f_impl_ExchangeGain : F n_impl_ExchangeGain = some c_impl_ExchangeGain := by kernel_rfl
theorem f_laws_FnPairLoss : F n_laws_FnPairLoss = some c_laws_FnPairLoss := by kernel_rfl
theorem s_laws_vBig : shOf F n_laws_vBig = false := by kernel_rfl
theorem s_impl_within : shOf F n_impl_within = false := by kernel_rfl
theorem s_impl_isDate : shOf F n_impl_isDate = false := by kernel_rfl
theorem s_impl_IsJobs : shOf F n_impl_IsJobs = false := by kernel_rfl
theorem s_impl_isPlain : shOf F n_impl_isPlain = false := by kernel_rfl
theorem s_impl_isRuled : shOf F n_impl_isRuled = false := by kernel_rfl
theorem s_impl_isNumber : shOf F n_impl_isNumber = false := by kernel_rfl
theorem s_impl_has : shOf F n_impl_has = false := by kernel_rfl
theorem s_impl_areDifferent : shOf F n_impl_areDifferent = false := by kernel_rfl
theorem s_impl_isOrder : shOf F n_impl_isOrder = false := by kernel_rfl
theorem s_impl_isRuledAndOrdered : shOf F n_impl_isRuledAndOrdered = false := by kernel_rfl
theorem s_impl_difference : shOf F n_impl_difference = false := by kernel_rfl
theorem s_impl_IsRuledOrder : shOf F n_impl_IsRuledOrder = false := by kernel_rfl
theorem s_laws_vCut : shOf F n_laws_vCut = false := by kernel_rfl
theorem s_impl_RuleDifference : shOf F n_impl_RuleDifference = false := by kernel_rfl
theorem s_impl_numbersTo : shOf F n_impl_numbersTo = false := by kernel_rfl
theorem s_impl_nextOrder : shOf F n_impl_nextOrder = true := by kernel_rfl
theorem s_impl_eachOrder : shOf F n_impl_eachOrder = true := by kernel_rfl
theorem s_impl_add : shOf F n_impl_add = false := by kernel_rfl
theorem s_impl_valueOfEnds : shOf F n_impl_valueOfEnds = false := by kernel_rfl
theorem s_impl_endsOf : shOf F n_impl_endsOf = false := by kernel_rfl
theorem s_impl_valueOf : shOf F n_impl_valueOf = false := by kernel_rfl
theorem s_impl_copyInts : shOf F n_impl_copyInts = false := by kernel_rfl
theorem s_impl_best_c1 : shOf F n_impl_best_c1 = true := by kernel_rfl
theorem s_impl_best : shOf F n_impl_best = false := by kernel_rfl
theorem s_impl_isObjective : shOf F n_impl_isObjective = false := by kernel_rfl
theorem s_impl_BestValue : shOf F n_impl_BestValue = false := by kernel_rfl
theorem s_impl_isScheduled : shOf F n_impl_isScheduled = false := by kernel_rfl
theorem s_impl_isValued : shOf F n_impl_isValued = false := by kernel_rfl
theorem s_impl_ValueOf : shOf F n_impl_ValueOf = false := by kernel_rfl
theorem s_spec_l1Cur_next : shOf F n_spec_l1Cur_next = true := by kernel_rfl
theorem s_spec_l1Cur_pick : shOf F n_spec_l1Cur_pick = true := by kernel_rfl
theorem s_spec_l1Cur_one : shOf F n_spec_l1Cur_one = true := by kernel_rfl
theorem s_spec_l1Cur_among : shOf F n_spec_l1Cur_among = true := by kernel_rfl
theorem s_spec_l1Cur_order : shOf F n_spec_l1Cur_order = true := by kernel_rfl
theorem s_spec_l1Cur_spoiltJob : shOf F n_spec_l1Cur_spoiltJob = true := by kernel_rfl
theorem s_spec_l1Cur_job : shOf F n_spec_l1Cur_job = true := by kernel_rfl
theorem s_spec_l1Cur_someJobs : shOf F n_spec_l1Cur_someJobs = true := by kernel_rfl
theorem s_spec_l1Cur_jobs : shOf F n_spec_l1Cur_jobs = true := by kernel_rfl
theorem s_spec_l1Cur_plain3 : shOf F n_spec_l1Cur_plain3 = true := by kernel_rfl
theorem s_spec_DrawPairLoss : shOf F n_spec_DrawPairLoss = false := by kernel_rfl
theorem s_impl_inversions : shOf F n_impl_inversions = false := by kernel_rfl
theorem s_impl_PairLoss : shOf F n_impl_PairLoss = false := by kernel_rfl
theorem s_spec_l1In : shOf F n_spec_l1In = false := by kernel_rfl
theorem s_spec_l2Job : shOf F n_spec_l2Job = false := by kernel_rfl
theorem s_spec_l2Good : shOf F n_spec_l2Good = false := by kernel_rfl
theorem s_spec_l3Plain : shOf F n_spec_l3Plain = false := by kernel_rfl
theorem s_spec_l3Ruled : shOf F n_spec_l3Ruled = false := by kernel_rfl
theorem s_spec_l1Has : shOf F n_spec_l1Has = false := by kernel_rfl
theorem s_spec_l2Order : shOf F n_spec_l2Order = false := by kernel_rfl
theorem s_spec_l3Both : shOf F n_spec_l3Both = false := by kernel_rfl
theorem s_spec_l3Gap : shOf F n_spec_l3Gap = false := by kernel_rfl
theorem s_spec_l3Inversions : shOf F n_spec_l3Inversions = false := by kernel_rfl
theorem s_spec_PairLoss : shOf F n_spec_PairLoss = false := by kernel_rfl
theorem s_spec_l1Cur_ruled3 : shOf F n_spec_l1Cur_ruled3 = true := by kernel_rfl
theorem s_spec_l1Own : shOf F n_spec_l1Own = false := by kernel_rfl
theorem s_spec_l3Order : shOf F n_spec_l3Order = false := by kernel_rfl
theorem s_spec_l2Swap : shOf F n_spec_l2Swap = false := by kernel_rfl
theorem s_spec_DrawIsRuledOrder : shOf F n_spec_DrawIsRuledOrder = false := by kernel_rfl
theorem s_spec_DrawInversionsOf : shOf F n_spec_DrawInversionsOf = false := by kernel_rfl
theorem s_impl_InversionsOf : shOf F n_impl_InversionsOf = false := by kernel_rfl
theorem s_spec_InversionsOf : shOf F n_spec_InversionsOf = false := by kernel_rfl
theorem s_laws_vPairs : shOf F n_laws_vPairs = false := by kernel_rfl
theorem s_impl_exchanged : shOf F n_impl_exchanged = false := by kernel_rfl
theorem s_impl_gain : shOf F n_impl_gain = false := by kernel_rfl
theorem s_impl_ExchangeGain : shOf F n_impl_ExchangeGain = false := by kernel_rfl
theorem s_laws_FnPairLoss : shOf F n_laws_FnPairLoss = false := by kernel_rfl
theorem funs : FunsOK Try.prog tab F := FunsAll.ok (FunsAll.cons Try.func7 ck7 (FunsAll.cons Try.func94 ck94 (FunsAll.cons Try.func112 ck112 (FunsAll.cons Try.func67 ck67 (FunsAll.cons Try.func68 ck68 (FunsAll.cons Try.func59 ck59 (FunsAll.cons Try.func64 ck64 (FunsAll.cons Try.func124 ck124 (FunsAll.cons Try.func121 ck121 (FunsAll.cons Try.func107 ck107 (FunsAll.cons Try.func55 ck55 (FunsAll.cons Try.func56 ck56 (FunsAll.cons Try.func9 ck9 (FunsAll.cons Try.func14 ck14 (FunsAll.cons Try.func16 ck16 (FunsAll.cons Try.func96 ck96 (FunsAll.cons Try.func138 ck138 (FunsAll.cons Try.func115 ck115 (FunsAll.cons Try.func125 ck125 (FunsAll.cons Try.func87 ck87 (FunsAll.cons Try.func118 ck118 (FunsAll.cons Try.func73 ck73 (FunsAll.cons Try.func117 ck117 (FunsAll.cons Try.func116 ck116 (FunsAll.cons Try.func72 ck72 (FunsAll.cons Try.func86 ck86 (FunsAll.cons Try.func30 ck30 (FunsAll.cons Try.func114 ck114 (FunsAll.cons Try.func71 ck71 (FunsAll.cons Try.func39 ck39 (FunsAll.cons Try.func106 ck106 (FunsAll.cons Try.func54 ck54 (FunsAll.cons Try.func51 ck51 (FunsAll.cons Try.func75 ck75 (FunsAll.cons Try.func49 ck49 (FunsAll.cons Try.func119 ck119 (FunsAll.cons Try.func137 ck137 (FunsAll.cons Try.func111 ck111 (FunsAll.cons Try.func61 ck61 (FunsAll.cons Try.func62 ck62 (FunsAll.cons Try.func40 ck40 (FunsAll.cons Try.func102 ck102 (FunsAll.cons Try.func41 ck41 (FunsAll.cons Try.func97 ck97 (FunsAll.cons Try.func113 ck113 (FunsAll.cons Try.func69 ck69 (FunsAll.cons Try.func70 ck70 (FunsAll.cons Try.func50 ck50 (FunsAll.cons Try.func136 ck136 (FunsAll.cons Try.func108 ck108 (FunsAll.cons Try.func57 ck57 (FunsAll.cons Try.func66 ck66 (FunsAll.cons Try.func103 ck103 (FunsAll.cons Try.func42 ck42 (FunsAll.cons Try.func48 ck48 (FunsAll.cons Try.func105 ck105 (FunsAll.cons Try.func52 ck52 (FunsAll.cons Try.func53 ck53 (FunsAll.cons Try.func8 ck8 (FunsAll.cons Try.func43 ck43 (FunsAll.cons Try.func44 ck44 (FunsAll.cons Try.func45 ck45 (FunsAll.cons Try.func46 ck46 (FunsAll.cons Try.func135 ck135 (FunsAll.cons Try.func104 ck104 (FunsAll.cons Try.func47 ck47 (FunsAll.cons Try.func6 ck6 FunsAll.nil)))))))))))))))))))))))))))))))))))))))))))))))))))))))))))))))))))
theorem mixed : Try.prog.follows .mixedOrders = true := by kernel_rfl
end Gh
