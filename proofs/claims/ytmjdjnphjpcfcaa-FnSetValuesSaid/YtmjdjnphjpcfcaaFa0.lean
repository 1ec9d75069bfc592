/- The ghost's code of the functions, part 0. Written by program. -/
import Derived.Test.YtmjdjnphjpcfcaaGs
namespace Gh
open Go
set_option maxRecDepth 100000

def n_laws_rBig : Nat := 8
def n_spec_l1Cur_next : Nat := 159
def n_spec_l1Cur_pick : Nat := 84
def n_spec_l1Cur_one : Nat := 151
def n_spec_l1Cur_among : Nat := 153
def n_spec_l1Cur_spoiltJob : Nat := 183
def n_spec_l1Cur_job : Nat := 191
def n_spec_l1Cur_someJobs : Nat := 150
def n_spec_l1Cur_plainJobs : Nat := 67
def n_spec_l1Cur_objective : Nat := 152
def n_spec_l1Cur_sums : Nat := 68
def n_spec_DrawSetValues : Nat := 9
def n_impl_within : Nat := 160
def n_impl_isDate : Nat := 176
def n_impl_IsJobs : Nat := 120
def n_impl_isPlain : Nat := 154
def n_impl_IsPlain : Nat := 69
def n_impl_isObjective : Nat := 89
def n_impl_isSumObjective : Nat := 70
def n_impl_listOf : Nat := 75
def n_impl_add : Nat := 76
def n_impl_timeOf : Nat := 77
def n_impl_setValues : Nat := 71
def n_impl_SetValues : Nat := 10
def n_spec_l1In : Nat := 86
def n_spec_l2Job : Nat := 177
def n_spec_l2Good : Nat := 122
def n_spec_l4Free : Nat := 155
def n_spec_l6Good : Nat := 72
def n_spec_l2Objective : Nat := 96
def n_spec_l2Greatest : Nat := 156
def n_spec_l6Sum : Nat := 73
def n_spec_l1Most : Nat := 87
def n_spec_l2Cost : Nat := 157
def n_spec_l6Times : Nat := 158
def n_spec_l6Last : Nat := 78
def n_spec_l6Values : Nat := 74
def n_spec_SetValues : Nat := 11
def n_laws_rInts : Nat := 12
def n_impl_SetOrder : Nat := 13
def n_spec_SetOrder : Nat := 14
def n_impl_totalOf : Nat := 79
def n_impl_TotalTime : Nat := 15
def n_spec_l2Times : Nat := 80
def n_spec_TotalTime : Nat := 16
def n_impl_numbersTo : Nat := 115
def n_impl_nextOrder : Nat := 162
def n_impl_eachOrder : Nat := 91
def n_impl_endsOf : Nat := 118
def n_impl_valueOfEnds : Nat := 130
def n_impl_valueOf : Nat := 83
def n_impl_copyInts : Nat := 94
def n_impl_best_c1 : Nat := 182
def n_impl_best : Nat := 127
def n_impl_BestValue : Nat := 65
def n_spec_l1Has : Nat := 174
def n_spec_l1Own : Nat := 181
def n_spec_l2Starts : Nat := 179
def n_spec_l2Ends : Nat := 180
def n_spec_l2Of : Nat := 190
def n_spec_l2Value : Nat := 193
def n_spec_l2Try : Nat := 196
def n_spec_l2All : Nat := 185
def n_spec_l2Best : Nat := 135
def n_spec_BestValue : Nat := 81
def n_laws_rBest : Nat := 17
def n_impl_isNumber : Nat := 85
def n_impl_has : Nat := 172
def n_impl_areDifferent : Nat := 138
def n_impl_isOrder : Nat := 175
def n_impl_isScheduled : Nat := 117
def n_impl_isValued : Nat := 82
def n_impl_ValueOf : Nat := 18
def n_laws_FnSetValues : Nat := 3

/-- laws.rBig -/
def c_laws_rBig : GFun := { ntmps := 6, results := [.tmp 2], shared := false, body :=
  (.seq (.region [⟨some 2, .mv (.c (.bool false)), none⟩] [] (some [0])) (.seq (.region [⟨some 3, .mv (.t 0), none⟩,
    ⟨some 4, .len (.t 3), none⟩,
    ⟨some 5, .bin .i .gtr (.t 4) (.c (.int .i64 65536)), none⟩,
    ⟨some 2, .mv (.t 5), none⟩] [] (some [2])) .ret)) }

/-- (*spec.l1Cur).next -/
def c_spec_l1Cur_next : GFun := { ntmps := 62, results := [.tmp 2], shared := true, body :=
  (.seq (.region [⟨some 2, .mv (.c (.int .i64 0)), none⟩] [] (some [0])) (.seq (.region [⟨some 3, .mv (.c (.int .i64 0)), none⟩] [] (some [0, 3])) (.seq (.seq (.region [⟨some 4, .mv (.t 0), none⟩,
    ⟨some 5, .nilck (.t 4), none⟩,
    ⟨some 6, .faddr 1 (.t 5), none⟩,
    ⟨some 7, .load 1 false (.t 6), none⟩,
    ⟨some 8, .mv (.t 0), none⟩,
    ⟨some 9, .nilck (.t 8), none⟩,
    ⟨some 10, .faddr 0 (.t 9), none⟩,
    ⟨some 11, .load 1 false (.t 10), none⟩,
    ⟨some 12, .len (.t 11), none⟩,
    ⟨some 13, .bin .i .lss (.t 7) (.t 12), none⟩] [] (some [0, 3, 13])) (.cond (.t 13) (.region [⟨some 14, .mv (.t 0), none⟩,
    ⟨some 15, .nilck (.t 14), none⟩,
    ⟨some 16, .faddr 0 (.t 15), none⟩,
    ⟨some 17, .load 1 false (.t 16), none⟩,
    ⟨some 18, .mv (.t 0), none⟩,
    ⟨some 19, .nilck (.t 18), none⟩,
    ⟨some 20, .faddr 1 (.t 19), none⟩,
    ⟨some 21, .load 1 false (.t 20), none⟩,
    ⟨some 22, .iaddr 1 (.t 17) (.t 21), none⟩,
    ⟨some 23, .load 1 false (.t 22), none⟩,
    ⟨some 24, .conv .i64 (.t 23), none⟩,
    ⟨some 3, .mv (.t 24), none⟩] [] (some [0, 3])) .skip)) (.seq (.region [⟨some 25, .mv (.t 0), none⟩,
    ⟨some 26, .nilck (.t 25), none⟩,
    ⟨some 27, .faddr 1 (.t 26), none⟩,
    ⟨some 28, .load 1 false (.t 27), none⟩,
    ⟨some 29, .bin .i .add (.t 28) (.c (.int .i64 1)), none⟩,
    ⟨some 30, .nilck (.t 25), none⟩,
    ⟨some 31, .faddr 1 (.t 30), none⟩,
    ⟨none, .store 1 (.t 31) (.t 29), none⟩] [] (some [0, 3])) (.seq (.region [⟨some 32, .mv (.t 0), none⟩,
    ⟨some 33, .mv (.t 0), none⟩,
    ⟨some 34, .nilck (.t 33), none⟩,
    ⟨some 35, .faddr 2 (.t 34), none⟩,
    ⟨some 36, .load 1 false (.t 35), none⟩,
    ⟨some 37, .bin .i .mul (.t 36) (.c (.int .u64 6364136223846793005)), none⟩,
    ⟨some 38, .mv (.t 3), none⟩,
    ⟨some 39, .conv .u64 (.t 38), none⟩,
    ⟨some 40, .bin .i .add (.t 37) (.t 39), none⟩,
    ⟨some 41, .bin .i .add (.t 40) (.c (.int .u64 462197)), none⟩,
    ⟨some 42, .nilck (.t 32), none⟩,
    ⟨some 43, .faddr 2 (.t 42), none⟩,
    ⟨none, .store 1 (.t 43) (.t 41), none⟩] [] (some [0, 3])) (.seq (.seq (.region [⟨some 44, .mv (.t 0), none⟩,
    ⟨some 45, .nilck (.t 44), none⟩,
    ⟨some 46, .faddr 1 (.t 45), none⟩,
    ⟨some 47, .load 1 false (.t 46), none⟩,
    ⟨some 48, .mv (.t 0), none⟩,
    ⟨some 49, .nilck (.t 48), none⟩,
    ⟨some 50, .faddr 0 (.t 49), none⟩,
    ⟨some 51, .load 1 false (.t 50), none⟩,
    ⟨some 52, .len (.t 51), none⟩,
    ⟨some 53, .bin .i .leq (.t 47) (.t 52), none⟩] [] (some [0, 3, 53])) (.cond (.t 53) (.seq (.region [⟨some 54, .mv (.t 3), none⟩,
    ⟨some 2, .mv (.t 54), none⟩] [] (some [2])) .ret) .skip)) (.seq (.region [⟨some 55, .mv (.t 0), none⟩,
    ⟨some 56, .nilck (.t 55), none⟩,
    ⟨some 57, .faddr 2 (.t 56), none⟩,
    ⟨some 58, .load 1 false (.t 57), none⟩,
    ⟨some 59, .bin .i .shr (.t 58) (.c (.int .u64 40)), none⟩,
    ⟨some 60, .bin .i .and (.t 59) (.c (.int .u64 255)), none⟩,
    ⟨some 61, .conv .i64 (.t 60), none⟩,
    ⟨some 2, .mv (.t 61), none⟩] [] (some [2])) .ret))))))) }

/-- (*spec.l1Cur).pick -/
def c_spec_l1Cur_pick : GFun := { ntmps := 20, results := [.tmp 4], shared := true, body :=
  (.seq (.region [⟨some 4, .mv (.c (.int .i64 0)), none⟩] [] (some [0, 1])) (.seq (.seq (.region [⟨some 6, .mv (.t 1), none⟩,
    ⟨some 7, .bin .i .leq (.t 6) (.c (.int .i64 1)), none⟩] [] (some [0, 1, 7])) (.cond (.t 7) (.seq (.region [⟨some 4, .mv (.c (.int .i64 0)), none⟩] [] (some [4])) .ret) .skip)) (.seq (.region [⟨some 8, .mv (.t 0), none⟩,
    ⟨some 9, .call false (.c (.fn n_spec_l1Cur_next [])) [(.t 8)], none⟩,
    ⟨some 5, .mv (.t 9), none⟩] [] (some [0, 1, 5])) (.seq (.seq (.region [⟨some 10, .mv (.t 1), none⟩,
    ⟨some 11, .bin .i .gtr (.t 10) (.c (.int .i64 200)), none⟩] [] (some [0, 1, 5, 11])) (.cond (.t 11) (.region [⟨some 12, .mv (.t 5), none⟩,
    ⟨some 13, .bin .i .mul (.t 12) (.c (.int .i64 256)), none⟩,
    ⟨some 14, .mv (.t 0), none⟩,
    ⟨some 15, .call false (.c (.fn n_spec_l1Cur_next [])) [(.t 14)], none⟩,
    ⟨some 16, .bin .i .add (.t 13) (.t 15), none⟩,
    ⟨some 5, .mv (.t 16), none⟩] [] (some [1, 5])) .skip)) (.seq (.region [⟨some 17, .mv (.t 5), none⟩,
    ⟨some 18, .mv (.t 1), none⟩,
    ⟨some 19, .bin .i .rem (.t 17) (.t 18), none⟩,
    ⟨some 4, .mv (.t 19), none⟩] [] (some [4])) .ret))))) }

/-- (*spec.l1Cur).one -/
def c_spec_l1Cur_one : GFun := { ntmps := 9, results := [.tmp 4], shared := true, body :=
  (.seq (.region [⟨some 4, .mv (.c (.bool false)), none⟩] [] (some [0, 1])) (.seq (.region [⟨some 5, .mv (.t 0), none⟩,
    ⟨some 6, .mv (.t 1), none⟩,
    ⟨some 7, .call false (.c (.fn n_spec_l1Cur_pick [])) [(.t 5), (.t 6)], none⟩,
    ⟨some 8, .bin .i .eql (.t 7) (.c (.int .i64 0)), none⟩,
    ⟨some 4, .mv (.t 8), none⟩] [] (some [4])) .ret)) }

/-- (*spec.l1Cur).among -/
def c_spec_l1Cur_among : GFun := { ntmps := 12, results := [.tmp 4], shared := true, body :=
  (.seq (.region [⟨some 4, .mv (.c (.int .i64 0)), none⟩] [] (some [0, 1])) (.seq (.region [⟨some 5, .mv (.t 1), none⟩,
    ⟨some 6, .mv (.t 0), none⟩,
    ⟨some 7, .mv (.t 1), none⟩,
    ⟨some 8, .len (.t 7), none⟩,
    ⟨some 9, .call false (.c (.fn n_spec_l1Cur_pick [])) [(.t 6), (.t 8)], none⟩,
    ⟨some 10, .iaddr 1 (.t 5) (.t 9), none⟩,
    ⟨some 11, .load 1 false (.t 10), none⟩,
    ⟨some 4, .mv (.t 11), none⟩] [] (some [4])) .ret)) }

/-- (*spec.l1Cur).spoiltJob -/
def c_spec_l1Cur_spoiltJob : GFun := { ntmps := 30, results := [.cell 4 4 true], shared := true, body :=
  (.seq (.region [⟨some 3, .box 4 (.t 1), none⟩,
    ⟨some 4, .alloc [(.int .i64 0), (.int .i64 0), (.int .i64 0), (.int .i64 0)], none⟩] [] (some [0, 3, 4])) (.seq (.seq (.region [⟨some 5, .mv (.t 0), none⟩,
    ⟨some 6, .call false (.c (.fn n_spec_l1Cur_pick [])) [(.t 5), (.c (.int .i64 4))], none⟩] [] (some [0, 3, 4, 6])) (.block 0 (.seq (.region [⟨some 12, .bin .i .eql (.t 6) (.c (.int .i64 0)), none⟩,
    ⟨some 11, .mv (.t 12), none⟩] [] (some [0, 3, 4, 6, 11])) (.cond (.t 11) (.region [⟨some 13, .mv (.t 0), none⟩,
    ⟨some 14, .bsl false 1 [(.int .i64 0)] 5 [(0, (.c (.int .i64 0))), (1, (.c (.int .i64 50))), (2, (.c (.int .i64 51))), (3, (.c (.int .i64 (-1)))), (4, (.c (.int .i64 4611686018427387904)))], none⟩,
    ⟨some 15, .call false (.c (.fn n_spec_l1Cur_among [])) [(.t 13), (.t 14)], none⟩,
    ⟨some 16, .faddr 0 (.t 3), none⟩,
    ⟨none, .store 1 (.t 16) (.t 15), none⟩] [] (some [3, 4])) (.seq (.region [⟨some 18, .bin .i .eql (.t 6) (.c (.int .i64 1)), none⟩,
    ⟨some 17, .mv (.t 18), none⟩] [] (some [0, 3, 4, 6, 17])) (.cond (.t 17) (.region [⟨some 19, .mv (.t 0), none⟩,
    ⟨some 20, .bsl false 1 [(.int .i64 0)] 3 [(0, (.c (.int .i64 (-1)))), (1, (.c (.int .i64 50))), (2, (.c (.int .i64 51)))], none⟩,
    ⟨some 21, .call false (.c (.fn n_spec_l1Cur_among [])) [(.t 19), (.t 20)], none⟩,
    ⟨some 22, .faddr 1 (.t 3), none⟩,
    ⟨none, .store 1 (.t 22) (.t 21), none⟩] [] (some [3, 4])) (.seq (.region [⟨some 24, .bin .i .eql (.t 6) (.c (.int .i64 2)), none⟩,
    ⟨some 23, .mv (.t 24), none⟩] [] (some [0, 3, 4, 23])) (.cond (.t 23) (.region [⟨some 25, .mv (.t 0), none⟩,
    ⟨some 26, .bsl false 1 [(.int .i64 0)] 3 [(0, (.c (.int .i64 (-1)))), (1, (.c (.int .i64 500))), (2, (.c (.int .i64 501)))], none⟩,
    ⟨some 27, .call false (.c (.fn n_spec_l1Cur_among [])) [(.t 25), (.t 26)], none⟩,
    ⟨some 28, .faddr 2 (.t 3), none⟩,
    ⟨none, .store 1 (.t 28) (.t 27), none⟩] [] (some [3, 4])) (.region [⟨some 7, .mv (.t 0), none⟩,
    ⟨some 8, .bsl false 1 [(.int .i64 0)] 4 [(0, (.c (.int .i64 (-1)))), (1, (.c (.int .i64 500))), (2, (.c (.int .i64 501))), (3, (.c (.int .i64 (-9223372036854775808))))], none⟩,
    ⟨some 9, .call false (.c (.fn n_spec_l1Cur_among [])) [(.t 7), (.t 8)], none⟩,
    ⟨some 10, .faddr 3 (.t 3), none⟩,
    ⟨none, .store 1 (.t 10) (.t 9), none⟩] [] (some [3, 4])))))))))) (.seq (.region [⟨some 29, .load 4 true (.t 3), none⟩,
    ⟨none, .store 4 (.t 4) (.t 29), none⟩] [] (some [4])) .ret))) }

/-- (*spec.l1Cur).job -/
def c_spec_l1Cur_job : GFun := { ntmps := 20, results := [.cell 4 4 true], shared := true, body :=
  (.seq (.region [⟨some 4, .alloc [(.int .i64 0), (.int .i64 0), (.int .i64 0), (.int .i64 0)], none⟩] [] (some [0, 1, 4])) (.seq (.region [⟨some 6, .mv (.t 0), none⟩,
    ⟨some 7, .bsl false 1 [(.int .i64 0)] 7 [(0, (.c (.int .i64 1))), (1, (.c (.int .i64 2))), (2, (.c (.int .i64 3))), (3, (.c (.int .i64 4))), (4, (.c (.int .i64 5))), (5, (.c (.int .i64 7))), (6, (.c (.int .i64 9)))], none⟩,
    ⟨some 8, .call false (.c (.fn n_spec_l1Cur_among [])) [(.t 6), (.t 7)], none⟩,
    ⟨some 9, .mv (.t 0), none⟩,
    ⟨some 10, .bsl false 1 [(.int .i64 0)] 7 [(0, (.c (.int .i64 0))), (1, (.c (.int .i64 1))), (2, (.c (.int .i64 1))), (3, (.c (.int .i64 2))), (4, (.c (.int .i64 3))), (5, (.c (.int .i64 5))), (6, (.c (.int .i64 8)))], none⟩,
    ⟨some 11, .call false (.c (.fn n_spec_l1Cur_among [])) [(.t 9), (.t 10)], none⟩,
    ⟨some 12, .mv (.t 0), none⟩,
    ⟨some 13, .call false (.c (.fn n_spec_l1Cur_pick [])) [(.t 12), (.c (.int .i64 24))], none⟩,
    ⟨some 14, .build [(.int .i64 0), (.int .i64 0), (.int .i64 0), (.int .i64 0)] [(0, 1, (.t 8)), (1, 1, (.t 11)), (3, 1, (.t 13))], none⟩,
    ⟨some 5, .alloc [(.int .i64 0), (.int .i64 0), (.int .i64 0), (.int .i64 0)], none⟩,
    ⟨none, .store 4 (.t 5) (.t 14), none⟩] [] (some [0, 1, 4, 5])) (.seq (.seq (.region [⟨some 15, .mv (.t 1), none⟩] [] (some [0, 4, 5, 15])) (.cond (.t 15) (.region [⟨some 16, .mv (.t 0), none⟩,
    ⟨some 17, .call false (.c (.fn n_spec_l1Cur_pick [])) [(.t 16), (.c (.int .i64 12))], none⟩,
    ⟨some 18, .faddr 2 (.t 5), none⟩,
    ⟨none, .store 1 (.t 18) (.t 17), none⟩] [] (some [4, 5])) .skip)) (.seq (.region [⟨some 19, .load 4 true (.t 5), none⟩,
    ⟨none, .store 4 (.t 4) (.t 19), none⟩] [] (some [4])) .ret)))) }

def c_spec_l1Cur_someJobs_l0 : GC :=
  (.seq (.seq (.region [⟨some 23, .mv (.t 8), none⟩,
    ⟨some 24, .bin .i .gtr (.t 23) (.c (.int .i64 0)), none⟩,
    ⟨some 25, .mv (.t 24), none⟩,
    ⟨some 26, .mv (.t 7), some (25, true)⟩,
    ⟨some 27, .len (.t 26), some (25, true)⟩,
    ⟨some 28, .mv (.t 2), some (25, true)⟩,
    ⟨some 29, .bin .i .lss (.t 27) (.t 28), some (25, true)⟩,
    ⟨some 30, .pick (.t 25) (.t 29) (.c (.bool false)), none⟩] [] (some [0, 1, 2, 7, 8, 30])) (.cond (.t 30) .skip (.exit 0))) (.seq (.block 1 (.region [⟨some 33, .mv (.t 7), none⟩,
    ⟨some 34, .mv (.t 0), none⟩,
    ⟨some 35, .mv (.t 1), none⟩,
    ⟨some 36, .call false (.c (.fn n_spec_l1Cur_job [])) [(.t 34), (.t 35)], none⟩,
    ⟨some 37, .bsl false 4 [(.int .i64 0), (.int .i64 0), (.int .i64 0), (.int .i64 0)] 1 [(0, (.t 36))], none⟩,
    ⟨some 38, .append false 4 32 (.t 33) (.t 37), none⟩,
    ⟨some 7, .mvo (.t 7) (.t 38), none⟩] [] (some [0, 1, 2, 7, 8]))) (.region [⟨some 31, .mv (.t 8), none⟩,
    ⟨some 32, .bin .i .sub (.t 31) (.c (.int .i64 1)), none⟩,
    ⟨some 8, .mv (.t 32), none⟩] [] (some [0, 1, 2, 7, 8]))))
def c_spec_l1Cur_someJobs_l1 : GC :=
  (.seq (.seq (.region [⟨some 61, .mv (.t 7), none⟩,
    ⟨some 62, .len (.t 61), none⟩,
    ⟨some 63, .bin .i .lss (.t 62) (.c (.int .i64 9)), none⟩] [] (some [0, 1, 7, 63])) (.cond (.t 63) .skip (.exit 2))) (.block 3 (.region [⟨some 64, .mv (.t 7), none⟩,
    ⟨some 65, .mv (.t 0), none⟩,
    ⟨some 66, .mv (.t 1), none⟩,
    ⟨some 67, .call false (.c (.fn n_spec_l1Cur_job [])) [(.t 65), (.t 66)], none⟩,
    ⟨some 68, .bsl false 4 [(.int .i64 0), (.int .i64 0), (.int .i64 0), (.int .i64 0)] 1 [(0, (.t 67))], none⟩,
    ⟨some 69, .append false 4 32 (.t 64) (.t 68), none⟩,
    ⟨some 7, .mvo (.t 7) (.t 69), none⟩] [] (some [0, 1, 7]))))
/-- (*spec.l1Cur).someJobs -/
def c_spec_l1Cur_someJobs : GFun := { ntmps := 71, results := [.tmp 6], shared := true, body :=
  (.seq (.region [⟨some 6, .mv (.c (.fs [])), none⟩] [] (some [0, 1, 2, 7])) (.seq (.region [⟨some 10, .bsl true 4 [(.int .i64 0), (.int .i64 0), (.int .i64 0), (.int .i64 0)] 0 [], none⟩,
    ⟨some 11, .mv (.t 0), none⟩,
    ⟨some 12, .bsl false 1 [(.int .i64 0)] 7 [(0, (.c (.int .i64 3))), (1, (.c (.int .i64 4))), (2, (.c (.int .i64 5))), (3, (.c (.int .i64 2))), (4, (.c (.int .i64 6))), (5, (.c (.int .i64 1))), (6, (.c (.int .i64 0)))], none⟩,
    ⟨some 13, .call false (.c (.fn n_spec_l1Cur_among [])) [(.t 11), (.t 12)], none⟩,
    ⟨some 7, .mvo (.t 7) (.t 10), none⟩,
    ⟨some 8, .mv (.t 13), none⟩] [] (some [0, 1, 2, 7, 8])) (.seq (.seq (.region [⟨some 14, .mv (.t 2), none⟩,
    ⟨some 15, .bin .i .gtr (.t 14) (.c (.int .i64 6)), none⟩,
    ⟨some 16, .mv (.t 15), none⟩,
    ⟨some 17, .mv (.t 0), some (16, true)⟩,
    ⟨some 18, .call false (.c (.fn n_spec_l1Cur_one [])) [(.t 17), (.c (.int .i64 6))], some (16, true)⟩,
    ⟨some 19, .pick (.t 16) (.t 18) (.c (.bool false)), none⟩] [] (some [0, 1, 2, 7, 8, 19])) (.cond (.t 19) (.region [⟨some 20, .mv (.t 0), none⟩,
    ⟨some 21, .call false (.c (.fn n_spec_l1Cur_pick [])) [(.t 20), (.c (.int .i64 2))], none⟩,
    ⟨some 22, .bin .i .add (.c (.int .i64 7)) (.t 21), none⟩,
    ⟨some 8, .mv (.t 22), none⟩] [] (some [0, 1, 2, 7, 8])) .skip)) (.seq (.block 0 (.loop false (some [0, 1, 2, 7, 8]) c_spec_l1Cur_someJobs_l0)) (.seq (.seq (.region [⟨some 39, .mv (.t 7), none⟩,
    ⟨some 40, .len (.t 39), none⟩,
    ⟨some 41, .bin .i .gtr (.t 40) (.c (.int .i64 0)), none⟩,
    ⟨some 42, .mv (.t 41), none⟩,
    ⟨some 43, .mv (.t 0), some (42, true)⟩,
    ⟨some 44, .call false (.c (.fn n_spec_l1Cur_one [])) [(.t 43), (.c (.int .i64 20))], some (42, true)⟩,
    ⟨some 45, .pick (.t 42) (.t 44) (.c (.bool false)), none⟩] [] (some [0, 1, 7, 45])) (.cond (.t 45) (.seq (.region [⟨some 46, .mv (.t 0), none⟩,
    ⟨some 47, .mv (.t 7), none⟩,
    ⟨some 48, .len (.t 47), none⟩,
    ⟨some 49, .call false (.c (.fn n_spec_l1Cur_pick [])) [(.t 46), (.t 48)], none⟩,
    ⟨some 9, .mv (.t 49), none⟩] [] (some [0, 1, 7, 9])) (.region [⟨some 50, .mv (.t 7), none⟩,
    ⟨some 51, .mv (.t 9), none⟩,
    ⟨some 52, .mv (.t 0), none⟩,
    ⟨some 53, .mv (.t 7), none⟩,
    ⟨some 54, .mv (.t 9), none⟩,
    ⟨some 55, .iaddr 4 (.t 53) (.t 54), none⟩,
    ⟨some 56, .load 4 true (.t 55), none⟩,
    ⟨some 57, .call false (.c (.fn n_spec_l1Cur_spoiltJob [])) [(.t 52), (.t 56)], none⟩,
    ⟨some 58, .iaddr 4 (.t 50) (.t 51), none⟩,
    ⟨none, .store 4 (.t 58) (.t 57), none⟩] [] (some [0, 1, 7]))) .skip)) (.seq (.seq (.region [⟨some 59, .mv (.t 0), none⟩,
    ⟨some 60, .call false (.c (.fn n_spec_l1Cur_one [])) [(.t 59), (.c (.int .i64 60))], none⟩] [] (some [0, 1, 7, 60])) (.cond (.t 60) (.block 2 (.loop false (some [0, 1, 7]) c_spec_l1Cur_someJobs_l1)) .skip)) (.seq (.region [⟨some 70, .mv (.t 7), none⟩,
    ⟨some 6, .mv (.t 70), none⟩] [] (some [6])) .ret))))))) }

/-- (*spec.l1Cur).plainJobs -/
def c_spec_l1Cur_plainJobs : GFun := { ntmps := 10, results := [.tmp 4], shared := true, body :=
  (.seq (.region [⟨some 4, .mv (.c (.fs [])), none⟩] [] (some [0, 1])) (.seq (.region [⟨some 5, .mv (.t 0), none⟩,
    ⟨some 6, .mv (.t 0), none⟩,
    ⟨some 7, .call false (.c (.fn n_spec_l1Cur_one [])) [(.t 6), (.c (.int .i64 16))], none⟩,
    ⟨some 8, .mv (.t 1), none⟩,
    ⟨some 9, .call false (.c (.fn n_spec_l1Cur_someJobs [])) [(.t 5), (.t 7), (.t 8)], none⟩,
    ⟨some 4, .mv (.t 9), none⟩] [] (some [4])) .ret)) }

/-- (*spec.l1Cur).objective -/
def c_spec_l1Cur_objective : GFun := { ntmps := 11, results := [.tmp 2], shared := true, body :=
  (.seq (.region [⟨some 2, .mv (.c (.int .i64 0)), none⟩] [] (some [0])) (.seq (.seq (.region [⟨some 3, .mv (.t 0), none⟩,
    ⟨some 4, .call false (.c (.fn n_spec_l1Cur_one [])) [(.t 3), (.c (.int .i64 24))], none⟩] [] (some [0, 4])) (.cond (.t 4) (.seq (.region [⟨some 5, .mv (.t 0), none⟩,
    ⟨some 6, .bsl false 1 [(.int .i64 0)] 3 [(0, (.c (.int .i64 0))), (1, (.c (.int .i64 9))), (2, (.c (.int .i64 (-1))))], none⟩,
    ⟨some 7, .call false (.c (.fn n_spec_l1Cur_among [])) [(.t 5), (.t 6)], none⟩,
    ⟨some 2, .mv (.t 7), none⟩] [] (some [2])) .ret) .skip)) (.seq (.region [⟨some 8, .mv (.t 0), none⟩,
    ⟨some 9, .call false (.c (.fn n_spec_l1Cur_pick [])) [(.t 8), (.c (.int .i64 8))], none⟩,
    ⟨some 10, .bin .i .add (.c (.int .i64 1)) (.t 9), none⟩,
    ⟨some 2, .mv (.t 10), none⟩] [] (some [2])) .ret))) }

/-- (*spec.l1Cur).sums -/
def c_spec_l1Cur_sums : GFun := { ntmps := 10, results := [.tmp 2], shared := true, body :=
  (.seq (.region [⟨some 2, .mv (.c (.int .i64 0)), none⟩] [] (some [0])) (.seq (.seq (.region [⟨some 3, .mv (.t 0), none⟩,
    ⟨some 4, .call false (.c (.fn n_spec_l1Cur_one [])) [(.t 3), (.c (.int .i64 8))], none⟩] [] (some [0, 4])) (.cond (.t 4) (.seq (.region [⟨some 5, .mv (.t 0), none⟩,
    ⟨some 6, .call false (.c (.fn n_spec_l1Cur_objective [])) [(.t 5)], none⟩,
    ⟨some 2, .mv (.t 6), none⟩] [] (some [2])) .ret) .skip)) (.seq (.region [⟨some 7, .mv (.t 0), none⟩,
    ⟨some 8, .bsl false 1 [(.int .i64 0)] 6 [(0, (.c (.int .i64 2))), (1, (.c (.int .i64 3))), (2, (.c (.int .i64 5))), (3, (.c (.int .i64 6))), (4, (.c (.int .i64 7))), (5, (.c (.int .i64 8)))], none⟩,
    ⟨some 9, .call false (.c (.fn n_spec_l1Cur_among [])) [(.t 7), (.t 8)], none⟩,
    ⟨some 2, .mv (.t 9), none⟩] [] (some [2])) .ret))) }

/-- spec.DrawSetValues -/
def c_spec_DrawSetValues : GFun := { ntmps := 14, results := [.tmp 2, .tmp 3], shared := false, body :=
  (.seq (.region [⟨some 2, .mv (.c (.fs [])), none⟩,
    ⟨some 3, .mv (.c (.int .i64 0)), none⟩] [] (some [0])) (.seq (.region [⟨some 6, .mv (.t 0), none⟩,
    ⟨some 7, .build [(.fs []), (.int .i64 0), (.int .u64 0)] [(0, 1, (.t 6))], none⟩,
    ⟨some 8, .box 3 (.t 7), none⟩,
    ⟨some 4, .mv (.t 8), none⟩] [] (some [4])) (.seq (.region [⟨some 9, .mv (.t 4), none⟩,
    ⟨some 10, .call false (.c (.fn n_spec_l1Cur_plainJobs [])) [(.t 9), (.c (.int .i64 6))], none⟩,
    ⟨some 5, .mv (.t 10), none⟩] [] (some [4, 5])) (.seq (.region [⟨some 11, .mv (.t 5), none⟩,
    ⟨some 12, .mv (.t 4), none⟩,
    ⟨some 13, .call false (.c (.fn n_spec_l1Cur_sums [])) [(.t 12)], none⟩,
    ⟨some 2, .mv (.t 11), none⟩,
    ⟨some 3, .mv (.t 13), none⟩] [] (some [2, 3])) .ret)))) }

/-- impl.within -/
def c_impl_within : GFun := { ntmps := 15, results := [.tmp 6], shared := false, body :=
  (.seq (.region [⟨some 6, .mv (.c (.bool false)), none⟩] [] (some [0, 1, 2])) (.seq (.region [⟨some 7, .mv (.t 1), none⟩,
    ⟨some 8, .mv (.t 0), none⟩,
    ⟨some 9, .bin .i .leq (.t 7) (.t 8), none⟩,
    ⟨some 10, .mv (.t 9), none⟩,
    ⟨some 11, .mv (.t 0), some (10, true)⟩,
    ⟨some 12, .mv (.t 2), some (10, true)⟩,
    ⟨some 13, .bin .i .leq (.t 11) (.t 12), some (10, true)⟩,
    ⟨some 14, .pick (.t 10) (.t 13) (.c (.bool false)), none⟩,
    ⟨some 6, .mv (.t 14), none⟩] [] (some [6])) .ret)) }

/-- impl.isDate -/
def c_impl_isDate : GFun := { ntmps := 5, results := [.tmp 2], shared := false, body :=
  (.seq (.region [⟨some 2, .mv (.c (.bool false)), none⟩] [] (some [0])) (.seq (.region [⟨some 3, .mv (.t 0), none⟩,
    ⟨some 4, .call false (.c (.fn n_impl_within [])) [(.t 3), (.c (.int .i64 0)), (.c (.int .i64 500))], none⟩,
    ⟨some 2, .mv (.t 4), none⟩] [] (some [2])) .ret)) }

def c_impl_IsJobs_l0 : GC :=
  (.seq (.region [⟨some 11, .bin .i .lss (.t 10) (.t 9), none⟩] [] (some [8, 9, 10, 11])) (.seq (.cond (.t 11) .skip (.exit 0)) (.seq (.block 1 (.seq (.region [⟨some 12, .iaddr 4 (.t 8) (.t 10), none⟩,
    ⟨some 13, .load 4 true (.t 12), none⟩,
    ⟨some 4, .alloc [(.int .i64 0), (.int .i64 0), (.int .i64 0), (.int .i64 0)], none⟩,
    ⟨none, .store 4 (.t 4) (.t 13), none⟩] [] (some [4, 8, 9, 10])) (.seq (.region [⟨some 14, .faddr 0 (.t 4), none⟩,
    ⟨some 15, .load 1 false (.t 14), none⟩,
    ⟨some 16, .call false (.c (.fn n_impl_within [])) [(.t 15), (.c (.int .i64 1)), (.c (.int .i64 50))], none⟩,
    ⟨some 17, .un .not (.t 16), none⟩,
    ⟨some 18, .mv (.t 17), none⟩,
    ⟨some 19, .faddr 1 (.t 4), some (18, false)⟩,
    ⟨some 20, .load 1 false (.t 19), some (18, false)⟩,
    ⟨some 21, .call false (.c (.fn n_impl_within [])) [(.t 20), (.c (.int .i64 0)), (.c (.int .i64 50))], some (18, false)⟩,
    ⟨some 22, .un .not (.t 21), some (18, false)⟩,
    ⟨some 23, .pick (.t 18) (.c (.bool true)) (.t 22), none⟩,
    ⟨some 24, .mv (.t 23), none⟩,
    ⟨some 25, .faddr 2 (.t 4), some (24, false)⟩,
    ⟨some 26, .load 1 false (.t 25), some (24, false)⟩,
    ⟨some 27, .call false (.c (.fn n_impl_isDate [])) [(.t 26)], some (24, false)⟩,
    ⟨some 28, .un .not (.t 27), some (24, false)⟩,
    ⟨some 29, .pick (.t 24) (.c (.bool true)) (.t 28), none⟩,
    ⟨some 30, .mv (.t 29), none⟩,
    ⟨some 31, .faddr 3 (.t 4), some (30, false)⟩,
    ⟨some 32, .load 1 false (.t 31), some (30, false)⟩,
    ⟨some 33, .call false (.c (.fn n_impl_isDate [])) [(.t 32)], some (30, false)⟩,
    ⟨some 34, .un .not (.t 33), some (30, false)⟩,
    ⟨some 35, .pick (.t 30) (.c (.bool true)) (.t 34), none⟩] [] (some [8, 9, 10, 35])) (.cond (.t 35) (.seq (.region [⟨some 2, .mv (.c (.bool false)), none⟩] [] (some [2])) .ret) .skip)))) (.region [⟨some 36, .bin .i .add (.t 10) (.c (.int .i64 1)), none⟩,
    ⟨some 10, .mv (.t 36), none⟩] [] (some [8, 9, 10])))))
/-- impl.IsJobs -/
def c_impl_IsJobs : GFun := { ntmps := 37, results := [.tmp 2], shared := false, body :=
  (.seq (.region [⟨some 2, .mv (.c (.bool false)), none⟩] [] (some [0])) (.seq (.seq (.region [⟨some 5, .mv (.t 0), none⟩,
    ⟨some 6, .len (.t 5), none⟩,
    ⟨some 7, .bin .i .gtr (.t 6) (.c (.int .i64 8)), none⟩] [] (some [0, 7])) (.cond (.t 7) (.seq (.region [⟨some 2, .mv (.c (.bool false)), none⟩] [] (some [2])) .ret) .skip)) (.seq (.seq (.region [⟨some 8, .mv (.t 0), none⟩,
    ⟨some 9, .len (.t 8), none⟩,
    ⟨some 10, .mv (.c (.int .i64 0)), none⟩] [] (some [8, 9, 10])) (.block 0 (.loop false (some [8, 9, 10]) c_impl_IsJobs_l0))) (.seq (.region [⟨some 2, .mv (.c (.bool true)), none⟩] [] (some [2])) .ret)))) }

def c_impl_isPlain_l0 : GC :=
  (.seq (.region [⟨some 8, .bin .i .lss (.t 7) (.t 6), none⟩] [] (some [5, 6, 7, 8])) (.seq (.cond (.t 8) .skip (.exit 0)) (.seq (.block 1 (.seq (.region [⟨some 9, .iaddr 4 (.t 5) (.t 7), none⟩,
    ⟨some 10, .load 4 true (.t 9), none⟩,
    ⟨some 4, .alloc [(.int .i64 0), (.int .i64 0), (.int .i64 0), (.int .i64 0)], none⟩,
    ⟨none, .store 4 (.t 4) (.t 10), none⟩] [] (some [4, 5, 6, 7])) (.seq (.region [⟨some 11, .faddr 2 (.t 4), none⟩,
    ⟨some 12, .load 1 false (.t 11), none⟩,
    ⟨some 13, .bin .i .neq (.t 12) (.c (.int .i64 0)), none⟩] [] (some [5, 6, 7, 13])) (.cond (.t 13) (.seq (.region [⟨some 2, .mv (.c (.bool false)), none⟩] [] (some [2])) .ret) .skip)))) (.region [⟨some 14, .bin .i .add (.t 7) (.c (.int .i64 1)), none⟩,
    ⟨some 7, .mv (.t 14), none⟩] [] (some [5, 6, 7])))))
/-- impl.isPlain -/
def c_impl_isPlain : GFun := { ntmps := 15, results := [.tmp 2], shared := false, body :=
  (.seq (.region [⟨some 2, .mv (.c (.bool false)), none⟩] [] (some [0])) (.seq (.seq (.region [⟨some 5, .mv (.t 0), none⟩,
    ⟨some 6, .len (.t 5), none⟩,
    ⟨some 7, .mv (.c (.int .i64 0)), none⟩] [] (some [5, 6, 7])) (.block 0 (.loop false (some [5, 6, 7]) c_impl_isPlain_l0))) (.seq (.region [⟨some 2, .mv (.c (.bool true)), none⟩] [] (some [2])) .ret))) }

/-- impl.IsPlain -/
def c_impl_IsPlain : GFun := { ntmps := 9, results := [.tmp 2], shared := false, body :=
  (.seq (.region [⟨some 2, .mv (.c (.bool false)), none⟩] [] (some [0])) (.seq (.region [⟨some 3, .mv (.t 0), none⟩,
    ⟨some 4, .call false (.c (.fn n_impl_IsJobs [])) [(.t 3)], none⟩,
    ⟨some 5, .mv (.t 4), none⟩,
    ⟨some 6, .mv (.t 0), some (5, true)⟩,
    ⟨some 7, .call false (.c (.fn n_impl_isPlain [])) [(.t 6)], some (5, true)⟩,
    ⟨some 8, .pick (.t 5) (.t 7) (.c (.bool false)), none⟩,
    ⟨some 2, .mv (.t 8), none⟩] [] (some [2])) .ret)) }

/-- impl.isObjective -/
def c_impl_isObjective : GFun := { ntmps := 5, results := [.tmp 2], shared := false, body :=
  (.seq (.region [⟨some 2, .mv (.c (.bool false)), none⟩] [] (some [0])) (.seq (.region [⟨some 3, .mv (.t 0), none⟩,
    ⟨some 4, .call false (.c (.fn n_impl_within [])) [(.t 3), (.c (.int .i64 1)), (.c (.int .i64 8))], none⟩,
    ⟨some 2, .mv (.t 4), none⟩] [] (some [2])) .ret)) }

/-- impl.isSumObjective -/
def c_impl_isSumObjective : GFun := { ntmps := 13, results := [.tmp 2], shared := false, body :=
  (.seq (.region [⟨some 2, .mv (.c (.bool false)), none⟩] [] (some [0])) (.seq (.region [⟨some 3, .mv (.t 0), none⟩,
    ⟨some 4, .call false (.c (.fn n_impl_isObjective [])) [(.t 3)], none⟩,
    ⟨some 5, .mv (.t 4), none⟩,
    ⟨some 6, .mv (.t 0), some (5, true)⟩,
    ⟨some 7, .bin .i .neq (.t 6) (.c (.int .i64 1)), some (5, true)⟩,
    ⟨some 8, .pick (.t 5) (.t 7) (.c (.bool false)), none⟩,
    ⟨some 9, .mv (.t 8), none⟩,
    ⟨some 10, .mv (.t 0), some (9, true)⟩,
    ⟨some 11, .bin .i .neq (.t 10) (.c (.int .i64 4)), some (9, true)⟩,
    ⟨some 12, .pick (.t 9) (.t 11) (.c (.bool false)), none⟩,
    ⟨some 2, .mv (.t 12), none⟩] [] (some [2])) .ret)) }

def c_impl_listOf_l0 : GC :=
  (.seq (.seq (.region [⟨some 5, .mv (.t 0), none⟩,
    ⟨some 6, .mv (.t 4), none⟩,
    ⟨some 7, .bin .i .shr (.t 5) (.t 6), none⟩,
    ⟨some 8, .bin .i .gtr (.t 7) (.c (.int .i64 0)), none⟩] [] (some [0, 3, 4, 8])) (.cond (.t 8) .skip (.exit 0))) (.seq (.block 1 (.seq (.region [⟨some 11, .mv (.t 0), none⟩,
    ⟨some 12, .mv (.t 4), none⟩,
    ⟨some 13, .bin .i .shr (.t 11) (.t 12), none⟩,
    ⟨some 14, .bin .i .and (.t 13) (.c (.int .i64 1)), none⟩,
    ⟨some 15, .bin .i .eql (.t 14) (.c (.int .i64 1)), none⟩] [] (some [0, 3, 4, 15])) (.cond (.t 15) (.region [⟨some 16, .mv (.t 3), none⟩,
    ⟨some 17, .mv (.t 4), none⟩,
    ⟨some 18, .bsl false 1 [(.int .i64 0)] 1 [(0, (.t 17))], none⟩,
    ⟨some 19, .append false 1 8 (.t 16) (.t 18), none⟩,
    ⟨some 3, .mvo (.t 3) (.t 19), none⟩] [] (some [0, 3, 4])) .skip))) (.region [⟨some 9, .mv (.t 4), none⟩,
    ⟨some 10, .bin .i .add (.t 9) (.c (.int .i64 1)), none⟩,
    ⟨some 4, .mv (.t 10), none⟩] [] (some [0, 3, 4]))))
/-- impl.listOf -/
def c_impl_listOf : GFun := { ntmps := 21, results := [.tmp 2], shared := false, body :=
  (.seq (.region [⟨some 2, .mv (.c (.fs [])), none⟩] [] (some [0])) (.seq (.region [⟨some 3, .nilo 1, none⟩] [] (some [0, 3])) (.seq (.seq (.region [⟨some 4, .mv (.c (.int .i64 0)), none⟩] [] (some [0, 3, 4])) (.block 0 (.loop false (some [0, 3, 4]) c_impl_listOf_l0))) (.seq (.region [⟨some 20, .mv (.t 3), none⟩,
    ⟨some 2, .mv (.t 20), none⟩] [] (some [2])) .ret)))) }

/-- impl.add -/
def c_impl_add : GFun := { ntmps := 70, results := [.tmp 10], shared := false, body :=
  (.seq (.region [⟨some 6, .box 4 (.t 1), none⟩,
    ⟨some 10, .mv (.c (.int .i64 0)), none⟩] [] (some [0, 2, 3, 4, 6])) (.seq (.region [⟨some 12, .mv (.t 2), none⟩,
    ⟨some 13, .faddr 3 (.t 6), none⟩,
    ⟨some 14, .load 1 false (.t 13), none⟩,
    ⟨some 15, .bin .i .sub (.t 12) (.t 14), none⟩,
    ⟨some 11, .mv (.t 15), none⟩] [] (some [0, 2, 3, 4, 6, 11])) (.seq (.seq (.region [⟨some 16, .mv (.t 3), none⟩] [] (some [0, 2, 3, 4, 6, 11, 16])) (.block 0 (.seq (.region [⟨some 18, .bin .i .eql (.t 16) (.c (.int .i64 1)), none⟩,
    ⟨some 17, .mv (.t 18), none⟩] [] (some [0, 2, 3, 4, 6, 11, 16, 17])) (.cond (.t 17) (.seq (.region [⟨some 19, .mv (.t 0), none⟩,
    ⟨some 20, .mv (.t 2), none⟩,
    ⟨some 21, .mx [(.t 19), (.t 20)], none⟩,
    ⟨some 10, .mv (.t 21), none⟩] [] (some [10])) .ret) (.seq (.region [⟨some 23, .bin .i .eql (.t 16) (.c (.int .i64 2)), none⟩,
    ⟨some 22, .mv (.t 23), none⟩] [] (some [0, 2, 3, 4, 6, 11, 16, 22])) (.cond (.t 22) (.seq (.region [⟨some 24, .mv (.t 0), none⟩,
    ⟨some 25, .mv (.t 2), none⟩,
    ⟨some 26, .bin .i .add (.t 24) (.t 25), none⟩,
    ⟨some 10, .mv (.t 26), none⟩] [] (some [10])) .ret) (.seq (.region [⟨some 28, .bin .i .eql (.t 16) (.c (.int .i64 3)), none⟩,
    ⟨some 27, .mv (.t 28), none⟩] [] (some [0, 2, 3, 4, 6, 11, 16, 27])) (.cond (.t 27) (.seq (.region [⟨some 29, .mv (.t 0), none⟩,
    ⟨some 30, .faddr 1 (.t 6), none⟩,
    ⟨some 31, .load 1 false (.t 30), none⟩,
    ⟨some 32, .mv (.t 2), none⟩,
    ⟨some 33, .bin .i .mul (.t 31) (.t 32), none⟩,
    ⟨some 34, .bin .i .add (.t 29) (.t 33), none⟩,
    ⟨some 10, .mv (.t 34), none⟩] [] (some [10])) .ret) (.seq (.region [⟨some 36, .bin .i .eql (.t 16) (.c (.int .i64 4)), none⟩,
    ⟨some 35, .mv (.t 36), none⟩] [] (some [0, 3, 4, 6, 11, 16, 35])) (.cond (.t 35) (.seq (.seq (.region [⟨some 37, .mv (.t 4), none⟩] [] (some [0, 11, 37])) (.cond (.t 37) (.seq (.region [⟨some 38, .mv (.t 11), none⟩,
    ⟨some 10, .mv (.t 38), none⟩] [] (some [10])) .ret) .skip)) (.seq (.region [⟨some 39, .mv (.t 0), none⟩,
    ⟨some 40, .mv (.t 11), none⟩,
    ⟨some 41, .mx [(.t 39), (.t 40)], none⟩,
    ⟨some 10, .mv (.t 41), none⟩] [] (some [10])) .ret)) (.seq (.region [⟨some 43, .bin .i .eql (.t 16) (.c (.int .i64 5)), none⟩,
    ⟨some 42, .mv (.t 43), none⟩] [] (some [0, 3, 6, 11, 16, 42])) (.cond (.t 42) (.seq (.region [⟨some 44, .mv (.t 0), none⟩,
    ⟨some 45, .mv (.t 11), none⟩,
    ⟨some 46, .mx [(.c (.int .i64 0)), (.t 45)], none⟩,
    ⟨some 47, .bin .i .add (.t 44) (.t 46), none⟩,
    ⟨some 10, .mv (.t 47), none⟩] [] (some [10])) .ret) (.seq (.region [⟨some 49, .bin .i .eql (.t 16) (.c (.int .i64 6)), none⟩,
    ⟨some 48, .mv (.t 49), none⟩] [] (some [0, 3, 6, 11, 48])) (.cond (.t 48) (.seq (.region [⟨some 50, .mv (.t 0), none⟩,
    ⟨some 51, .faddr 1 (.t 6), none⟩,
    ⟨some 52, .load 1 false (.t 51), none⟩,
    ⟨some 53, .mv (.t 11), none⟩,
    ⟨some 54, .mx [(.c (.int .i64 0)), (.t 53)], none⟩,
    ⟨some 55, .bin .i .mul (.t 52) (.t 54), none⟩,
    ⟨some 56, .bin .i .add (.t 50) (.t 55), none⟩,
    ⟨some 10, .mv (.t 56), none⟩] [] (some [10])) .ret) .skip)))))))))))))) (.seq (.block 1 (.seq (.region [⟨some 58, .mv (.t 11), none⟩,
    ⟨some 59, .bin .i .leq (.t 58) (.c (.int .i64 0)), none⟩,
    ⟨some 57, .mv (.t 59), none⟩] [] (some [0, 3, 6, 57])) (.cond (.t 57) (.seq (.region [⟨some 60, .mv (.t 0), none⟩,
    ⟨some 10, .mv (.t 60), none⟩] [] (some [10])) .ret) (.seq (.region [⟨some 62, .mv (.t 3), none⟩,
    ⟨some 63, .bin .i .eql (.t 62) (.c (.int .i64 7)), none⟩,
    ⟨some 61, .mv (.t 63), none⟩] [] (some [0, 6, 61])) (.cond (.t 61) (.seq (.region [⟨some 64, .mv (.t 0), none⟩,
    ⟨some 65, .bin .i .add (.t 64) (.c (.int .i64 1)), none⟩,
    ⟨some 10, .mv (.t 65), none⟩] [] (some [10])) .ret) .skip))))) (.seq (.region [⟨some 66, .mv (.t 0), none⟩,
    ⟨some 67, .faddr 1 (.t 6), none⟩,
    ⟨some 68, .load 1 false (.t 67), none⟩,
    ⟨some 69, .bin .i .add (.t 66) (.t 68), none⟩,
    ⟨some 10, .mv (.t 69), none⟩] [] (some [10])) .ret))))) }

def c_impl_timeOf_l0 : GC :=
  (.seq (.region [⟨some 12, .bin .i .lss (.t 11) (.t 10), none⟩] [] (some [0, 5, 9, 10, 11, 12])) (.seq (.cond (.t 12) .skip (.exit 0)) (.seq (.block 1 (.seq (.region [⟨some 13, .iaddr 1 (.t 9) (.t 11), none⟩,
    ⟨some 14, .load 1 false (.t 13), none⟩,
    ⟨some 7, .mv (.t 14), none⟩] [] (some [0, 5, 7, 9, 10, 11])) (.region [⟨some 15, .mv (.t 5), none⟩,
    ⟨some 16, .mv (.t 0), none⟩,
    ⟨some 17, .mv (.t 7), none⟩,
    ⟨some 18, .iaddr 4 (.t 16) (.t 17), none⟩,
    ⟨some 19, .faddr 0 (.t 18), none⟩,
    ⟨some 20, .load 1 false (.t 19), none⟩,
    ⟨some 21, .bin .i .add (.t 15) (.t 20), none⟩,
    ⟨some 5, .mv (.t 21), none⟩] [] (some [0, 5, 9, 10, 11])))) (.region [⟨some 22, .bin .i .add (.t 11) (.c (.int .i64 1)), none⟩,
    ⟨some 11, .mv (.t 22), none⟩] [] (some [0, 5, 9, 10, 11])))))
/-- impl.timeOf -/
def c_impl_timeOf : GFun := { ntmps := 24, results := [.tmp 4], shared := false, body :=
  (.seq (.region [⟨some 4, .mv (.c (.int .i64 0)), none⟩] [] (some [0, 1])) (.seq (.region [⟨some 5, .mv (.c (.int .i64 0)), none⟩] [] (some [0, 1, 5])) (.seq (.seq (.region [⟨some 8, .mv (.t 1), none⟩,
    ⟨some 9, .call false (.c (.fn n_impl_listOf [])) [(.t 8)], none⟩,
    ⟨some 10, .len (.t 9), none⟩,
    ⟨some 11, .mv (.c (.int .i64 0)), none⟩] [] (some [0, 5, 9, 10, 11])) (.block 0 (.loop false (some [0, 5, 9, 10, 11]) c_impl_timeOf_l0))) (.seq (.region [⟨some 23, .mv (.t 5), none⟩,
    ⟨some 4, .mv (.t 23), none⟩] [] (some [4])) .ret)))) }

def c_impl_setValues_l1 : GC :=
  (.seq (.region [⟨some 35, .bin .i .lss (.t 34) (.t 33), none⟩] [] (some [0, 1, 2, 7, 8, 9, 32, 33, 34, 35])) (.seq (.cond (.t 35) .skip (.exit 2)) (.seq (.block 3 (.seq (.region [⟨some 36, .iaddr 1 (.t 32) (.t 34), none⟩,
    ⟨some 37, .load 1 false (.t 36), none⟩,
    ⟨some 11, .mv (.t 37), none⟩] [] (some [0, 1, 2, 7, 8, 9, 11, 32, 33, 34])) (.seq (.region [⟨some 38, .mv (.t 7), none⟩,
    ⟨some 39, .mv (.t 8), none⟩,
    ⟨some 40, .mv (.t 11), none⟩,
    ⟨some 41, .bin .i .shl (.c (.int .i64 1)) (.t 40), none⟩,
    ⟨some 42, .bin .i .andNot (.t 39) (.t 41), none⟩,
    ⟨some 43, .iaddr 1 (.t 38) (.t 42), none⟩,
    ⟨some 44, .load 1 false (.t 43), none⟩,
    ⟨some 45, .mv (.t 0), none⟩,
    ⟨some 46, .mv (.t 11), none⟩,
    ⟨some 47, .iaddr 4 (.t 45) (.t 46), none⟩,
    ⟨some 48, .load 4 true (.t 47), none⟩,
    ⟨some 49, .mv (.t 9), none⟩,
    ⟨some 50, .mv (.t 1), none⟩,
    ⟨some 51, .call false (.c (.fn n_impl_add [])) [(.t 44), (.t 48), (.t 49), (.t 50), (.c (.bool false))], none⟩,
    ⟨some 12, .mv (.t 51), none⟩] [] (some [0, 1, 2, 7, 8, 9, 12, 32, 33, 34])) (.seq (.region [⟨some 52, .mv (.t 7), none⟩,
    ⟨some 53, .mv (.t 8), none⟩,
    ⟨some 54, .iaddr 1 (.t 52) (.t 53), none⟩,
    ⟨some 55, .load 1 false (.t 54), none⟩,
    ⟨some 56, .bin .i .lss (.t 55) (.c (.int .i64 0)), none⟩,
    ⟨some 57, .mv (.t 56), none⟩,
    ⟨some 58, .mv (.t 12), some (57, false)⟩,
    ⟨some 59, .mv (.t 7), some (57, false)⟩,
    ⟨some 60, .mv (.t 8), some (57, false)⟩,
    ⟨some 61, .iaddr 1 (.t 59) (.t 60), some (57, false)⟩,
    ⟨some 62, .load 1 false (.t 61), some (57, false)⟩,
    ⟨some 63, .bin .i .lss (.t 58) (.t 62), some (57, false)⟩,
    ⟨some 64, .pick (.t 57) (.c (.bool true)) (.t 63), none⟩] [] (some [0, 1, 2, 7, 8, 9, 12, 32, 33, 34, 64])) (.cond (.t 64) (.region [⟨some 65, .mv (.t 7), none⟩,
    ⟨some 66, .mv (.t 8), none⟩,
    ⟨some 67, .mv (.t 12), none⟩,
    ⟨some 68, .iaddr 1 (.t 65) (.t 66), none⟩,
    ⟨none, .store 1 (.t 68) (.t 67), none⟩] [] (some [0, 1, 2, 7, 8, 9, 32, 33, 34])) .skip))))) (.region [⟨some 69, .bin .i .add (.t 34) (.c (.int .i64 1)), none⟩,
    ⟨some 34, .mv (.t 69), none⟩] [] (some [0, 1, 2, 7, 8, 9, 32, 33, 34])))))
def c_impl_setValues_l0 : GC :=
  (.seq (.seq (.region [⟨some 17, .mv (.t 8), none⟩,
    ⟨some 18, .mv (.t 7), none⟩,
    ⟨some 19, .len (.t 18), none⟩,
    ⟨some 20, .bin .i .lss (.t 17) (.t 19), none⟩] [] (some [0, 1, 2, 7, 8, 20])) (.cond (.t 20) .skip (.exit 0))) (.seq (.block 1 (.seq (.region [⟨some 23, .mv (.t 2), none⟩,
    ⟨some 24, .mv (.t 0), none⟩,
    ⟨some 25, .mv (.t 8), none⟩,
    ⟨some 26, .call false (.c (.fn n_impl_timeOf [])) [(.t 24), (.t 25)], none⟩,
    ⟨some 27, .bin .i .add (.t 23) (.t 26), none⟩,
    ⟨some 9, .mv (.t 27), none⟩] [] (some [0, 1, 2, 7, 8, 9])) (.seq (.region [⟨some 28, .mv (.t 7), none⟩,
    ⟨some 29, .mv (.t 8), none⟩,
    ⟨some 30, .iaddr 1 (.t 28) (.t 29), none⟩,
    ⟨none, .store 1 (.t 30) (.c (.int .i64 (-1))), none⟩] [] (some [0, 1, 2, 7, 8, 9])) (.seq (.region [⟨some 31, .mv (.t 8), none⟩,
    ⟨some 32, .call false (.c (.fn n_impl_listOf [])) [(.t 31)], none⟩,
    ⟨some 33, .len (.t 32), none⟩,
    ⟨some 34, .mv (.c (.int .i64 0)), none⟩] [] (some [0, 1, 2, 7, 8, 9, 32, 33, 34])) (.block 2 (.loop false (some [0, 1, 2, 7, 8, 9, 32, 33, 34]) c_impl_setValues_l1)))))) (.region [⟨some 21, .mv (.t 8), none⟩,
    ⟨some 22, .bin .i .add (.t 21) (.c (.int .i64 1)), none⟩,
    ⟨some 8, .mv (.t 22), none⟩] [] (some [0, 1, 2, 7, 8]))))
/-- impl.setValues -/
def c_impl_setValues : GFun := { ntmps := 71, results := [.tmp 6], shared := false, body :=
  (.seq (.region [⟨some 6, .mv (.c (.fs [])), none⟩] [] (some [0, 1, 2, 7])) (.seq (.region [⟨some 13, .mv (.t 0), none⟩,
    ⟨some 14, .len (.t 13), none⟩,
    ⟨some 15, .bin .i .shl (.c (.int .i64 1)) (.t 14), none⟩,
    ⟨some 16, .mksl 1 [(.int .i64 0)] 8 (.t 15) (.t 15), none⟩,
    ⟨some 7, .mvo (.t 7) (.t 16), none⟩] [] (some [0, 1, 2, 7])) (.seq (.seq (.region [⟨some 8, .mv (.c (.int .i64 1)), none⟩] [] (some [0, 1, 2, 7, 8])) (.block 0 (.loop false (some [0, 1, 2, 7, 8]) c_impl_setValues_l0))) (.seq (.region [⟨some 70, .mv (.t 7), none⟩,
    ⟨some 6, .mv (.t 70), none⟩] [] (some [6])) .ret)))) }

/-- impl.SetValues -/
def c_impl_SetValues : GFun := { ntmps := 17, results := [.tmp 4, .tmp 5], shared := false, body :=
  (.seq (.region [⟨some 4, .mv (.c (.fs [])), none⟩,
    ⟨some 5, .mv (.c (.bool false)), none⟩] [] (some [0, 1])) (.seq (.seq (.region [⟨some 6, .mv (.t 0), none⟩,
    ⟨some 7, .call false (.c (.fn n_impl_IsPlain [])) [(.t 6)], none⟩,
    ⟨some 8, .un .not (.t 7), none⟩,
    ⟨some 9, .mv (.t 8), none⟩,
    ⟨some 10, .mv (.t 1), some (9, false)⟩,
    ⟨some 11, .call false (.c (.fn n_impl_isSumObjective [])) [(.t 10)], some (9, false)⟩,
    ⟨some 12, .un .not (.t 11), some (9, false)⟩,
    ⟨some 13, .pick (.t 9) (.c (.bool true)) (.t 12), none⟩] [] (some [0, 1, 13])) (.cond (.t 13) (.seq (.region [⟨some 4, .mv (.c (.fs [])), none⟩,
    ⟨some 5, .mv (.c (.bool false)), none⟩] [] (some [4, 5])) .ret) .skip)) (.seq (.region [⟨some 14, .mv (.t 0), none⟩,
    ⟨some 15, .mv (.t 1), none⟩,
    ⟨some 16, .call false (.c (.fn n_impl_setValues [])) [(.t 14), (.t 15), (.c (.int .i64 0))], none⟩,
    ⟨some 4, .mv (.t 16), none⟩,
    ⟨some 5, .mv (.c (.bool true)), none⟩] [] (some [4, 5])) .ret))) }

/-- spec.l1In -/
def c_spec_l1In : GFun := { ntmps := 15, results := [.tmp 6], shared := false, body :=
  (.seq (.region [⟨some 6, .mv (.c (.bool false)), none⟩] [] (some [0, 1, 2])) (.seq (.region [⟨some 7, .mv (.t 0), none⟩,
    ⟨some 8, .mv (.t 1), none⟩,
    ⟨some 9, .bin .i .geq (.t 7) (.t 8), none⟩,
    ⟨some 10, .mv (.t 9), none⟩,
    ⟨some 11, .mv (.t 0), some (10, true)⟩,
    ⟨some 12, .mv (.t 2), some (10, true)⟩,
    ⟨some 13, .bin .i .leq (.t 11) (.t 12), some (10, true)⟩,
    ⟨some 14, .pick (.t 10) (.t 13) (.c (.bool false)), none⟩,
    ⟨some 6, .mv (.t 14), none⟩] [] (some [6])) .ret)) }

/-- spec.l2Job -/
def c_spec_l2Job : GFun := { ntmps := 21, results := [.tmp 2], shared := false, body :=
  (.seq (.region [⟨some 1, .box 4 (.t 0), none⟩,
    ⟨some 2, .mv (.c (.bool false)), none⟩] [] (some [1])) (.seq (.region [⟨some 3, .faddr 0 (.t 1), none⟩,
    ⟨some 4, .load 1 false (.t 3), none⟩,
    ⟨some 5, .call false (.c (.fn n_spec_l1In [])) [(.t 4), (.c (.int .i64 1)), (.c (.int .i64 50))], none⟩,
    ⟨some 6, .mv (.t 5), none⟩,
    ⟨some 7, .faddr 1 (.t 1), some (6, true)⟩,
    ⟨some 8, .load 1 false (.t 7), some (6, true)⟩,
    ⟨some 9, .call false (.c (.fn n_spec_l1In [])) [(.t 8), (.c (.int .i64 0)), (.c (.int .i64 50))], some (6, true)⟩,
    ⟨some 10, .pick (.t 6) (.t 9) (.c (.bool false)), none⟩,
    ⟨some 11, .mv (.t 10), none⟩,
    ⟨some 12, .faddr 2 (.t 1), some (11, true)⟩,
    ⟨some 13, .load 1 false (.t 12), some (11, true)⟩,
    ⟨some 14, .call false (.c (.fn n_spec_l1In [])) [(.t 13), (.c (.int .i64 0)), (.c (.int .i64 500))], some (11, true)⟩,
    ⟨some 15, .pick (.t 11) (.t 14) (.c (.bool false)), none⟩,
    ⟨some 16, .mv (.t 15), none⟩,
    ⟨some 17, .faddr 3 (.t 1), some (16, true)⟩,
    ⟨some 18, .load 1 false (.t 17), some (16, true)⟩,
    ⟨some 19, .call false (.c (.fn n_spec_l1In [])) [(.t 18), (.c (.int .i64 0)), (.c (.int .i64 500))], some (16, true)⟩,
    ⟨some 20, .pick (.t 16) (.t 19) (.c (.bool false)), none⟩,
    ⟨some 2, .mv (.t 20), none⟩] [] (some [2])) .ret)) }

def c_spec_l2Good_l0 : GC :=
  (.seq (.seq (.region [⟨some 4, .mv (.t 3), none⟩,
    ⟨some 5, .mv (.t 0), none⟩,
    ⟨some 6, .len (.t 5), none⟩,
    ⟨some 7, .bin .i .lss (.t 4) (.t 6), none⟩] [] (some [0, 3, 7])) (.cond (.t 7) .skip (.exit 0))) (.seq (.block 1 (.seq (.region [⟨some 10, .mv (.t 0), none⟩,
    ⟨some 11, .mv (.t 3), none⟩,
    ⟨some 12, .iaddr 4 (.t 10) (.t 11), none⟩,
    ⟨some 13, .load 4 true (.t 12), none⟩,
    ⟨some 14, .call false (.c (.fn n_spec_l2Job [])) [(.t 13)], none⟩,
    ⟨some 15, .un .not (.t 14), none⟩] [] (some [0, 3, 15])) (.cond (.t 15) (.seq (.region [⟨some 2, .mv (.c (.bool false)), none⟩] [] (some [2])) .ret) .skip))) (.region [⟨some 8, .mv (.t 3), none⟩,
    ⟨some 9, .bin .i .add (.t 8) (.c (.int .i64 1)), none⟩,
    ⟨some 3, .mv (.t 9), none⟩] [] (some [0, 3]))))
/-- spec.l2Good -/
def c_spec_l2Good : GFun := { ntmps := 19, results := [.tmp 2], shared := false, body :=
  (.seq (.region [⟨some 2, .mv (.c (.bool false)), none⟩] [] (some [0])) (.seq (.seq (.region [⟨some 3, .mv (.c (.int .i64 0)), none⟩] [] (some [0, 3])) (.block 0 (.loop false (some [0, 3]) c_spec_l2Good_l0))) (.seq (.region [⟨some 16, .mv (.t 0), none⟩,
    ⟨some 17, .len (.t 16), none⟩,
    ⟨some 18, .bin .i .leq (.t 17) (.c (.int .i64 8)), none⟩,
    ⟨some 2, .mv (.t 18), none⟩] [] (some [2])) .ret))) }

def c_spec_l4Free_l0 : GC :=
  (.seq (.seq (.region [⟨some 4, .mv (.t 3), none⟩,
    ⟨some 5, .mv (.t 0), none⟩,
    ⟨some 6, .len (.t 5), none⟩,
    ⟨some 7, .bin .i .lss (.t 4) (.t 6), none⟩] [] (some [0, 3, 7])) (.cond (.t 7) .skip (.exit 0))) (.seq (.block 1 (.seq (.region [⟨some 10, .mv (.t 0), none⟩,
    ⟨some 11, .mv (.t 3), none⟩,
    ⟨some 12, .iaddr 4 (.t 10) (.t 11), none⟩,
    ⟨some 13, .faddr 2 (.t 12), none⟩,
    ⟨some 14, .load 1 false (.t 13), none⟩,
    ⟨some 15, .bin .i .gtr (.t 14) (.c (.int .i64 0)), none⟩] [] (some [0, 3, 15])) (.cond (.t 15) (.seq (.region [⟨some 2, .mv (.c (.bool false)), none⟩] [] (some [2])) .ret) .skip))) (.region [⟨some 8, .mv (.t 3), none⟩,
    ⟨some 9, .bin .i .add (.t 8) (.c (.int .i64 1)), none⟩,
    ⟨some 3, .mv (.t 9), none⟩] [] (some [0, 3]))))
/-- spec.l4Free -/
def c_spec_l4Free : GFun := { ntmps := 16, results := [.tmp 2], shared := false, body :=
  (.seq (.region [⟨some 2, .mv (.c (.bool false)), none⟩] [] (some [0])) (.seq (.seq (.region [⟨some 3, .mv (.c (.int .i64 0)), none⟩] [] (some [0, 3])) (.block 0 (.loop false (some [0, 3]) c_spec_l4Free_l0))) (.seq (.region [⟨some 2, .mv (.c (.bool true)), none⟩] [] (some [2])) .ret))) }

/-- spec.l6Good -/
def c_spec_l6Good : GFun := { ntmps := 9, results := [.tmp 2], shared := false, body :=
  (.seq (.region [⟨some 2, .mv (.c (.bool false)), none⟩] [] (some [0])) (.seq (.region [⟨some 3, .mv (.t 0), none⟩,
    ⟨some 4, .call false (.c (.fn n_spec_l2Good [])) [(.t 3)], none⟩,
    ⟨some 5, .mv (.t 4), none⟩,
    ⟨some 6, .mv (.t 0), some (5, true)⟩,
    ⟨some 7, .call false (.c (.fn n_spec_l4Free [])) [(.t 6)], some (5, true)⟩,
    ⟨some 8, .pick (.t 5) (.t 7) (.c (.bool false)), none⟩,
    ⟨some 2, .mv (.t 8), none⟩] [] (some [2])) .ret)) }

/-- spec.l2Objective -/
def c_spec_l2Objective : GFun := { ntmps := 5, results := [.tmp 2], shared := false, body :=
  (.seq (.region [⟨some 2, .mv (.c (.bool false)), none⟩] [] (some [0])) (.seq (.region [⟨some 3, .mv (.t 0), none⟩,
    ⟨some 4, .call false (.c (.fn n_spec_l1In [])) [(.t 3), (.c (.int .i64 1)), (.c (.int .i64 8))], none⟩,
    ⟨some 2, .mv (.t 4), none⟩] [] (some [2])) .ret)) }

/-- spec.l2Greatest -/
def c_spec_l2Greatest : GFun := { ntmps := 9, results := [.tmp 2], shared := false, body :=
  (.seq (.region [⟨some 2, .mv (.c (.bool false)), none⟩] [] (some [0])) (.seq (.region [⟨some 3, .mv (.t 0), none⟩,
    ⟨some 4, .bin .i .eql (.t 3) (.c (.int .i64 1)), none⟩,
    ⟨some 5, .mv (.t 4), none⟩,
    ⟨some 6, .mv (.t 0), some (5, false)⟩,
    ⟨some 7, .bin .i .eql (.t 6) (.c (.int .i64 4)), some (5, false)⟩,
    ⟨some 8, .pick (.t 5) (.c (.bool true)) (.t 7), none⟩,
    ⟨some 2, .mv (.t 8), none⟩] [] (some [2])) .ret)) }

/-- spec.l6Sum -/
def c_spec_l6Sum : GFun := { ntmps := 10, results := [.tmp 2], shared := false, body :=
  (.seq (.region [⟨some 2, .mv (.c (.bool false)), none⟩] [] (some [0])) (.seq (.region [⟨some 3, .mv (.t 0), none⟩,
    ⟨some 4, .call false (.c (.fn n_spec_l2Objective [])) [(.t 3)], none⟩,
    ⟨some 5, .mv (.t 4), none⟩,
    ⟨some 6, .mv (.t 0), some (5, true)⟩,
    ⟨some 7, .call false (.c (.fn n_spec_l2Greatest [])) [(.t 6)], some (5, true)⟩,
    ⟨some 8, .un .not (.t 7), some (5, true)⟩,
    ⟨some 9, .pick (.t 5) (.t 8) (.c (.bool false)), none⟩,
    ⟨some 2, .mv (.t 9), none⟩] [] (some [2])) .ret)) }

/-- spec.l1Most -/
def c_spec_l1Most : GFun := { ntmps := 10, results := [.tmp 4], shared := false, body :=
  (.seq (.region [⟨some 4, .mv (.c (.int .i64 0)), none⟩] [] (some [0, 1])) (.seq (.seq (.region [⟨some 5, .mv (.t 0), none⟩,
    ⟨some 6, .mv (.t 1), none⟩,
    ⟨some 7, .bin .i .gtr (.t 5) (.t 6), none⟩] [] (some [0, 1, 7])) (.cond (.t 7) (.seq (.region [⟨some 8, .mv (.t 0), none⟩,
    ⟨some 4, .mv (.t 8), none⟩] [] (some [4])) .ret) .skip)) (.seq (.region [⟨some 9, .mv (.t 1), none⟩,
    ⟨some 4, .mv (.t 9), none⟩] [] (some [4])) .ret))) }

/-- spec.l2Cost -/
def c_spec_l2Cost : GFun := { ntmps := 38, results := [.tmp 6], shared := false, body :=
  (.seq (.region [⟨some 3, .box 4 (.t 0), none⟩,
    ⟨some 6, .mv (.c (.int .i64 0)), none⟩] [] (some [1, 2, 3])) (.seq (.region [⟨some 8, .mv (.t 1), none⟩,
    ⟨some 9, .faddr 3 (.t 3), none⟩,
    ⟨some 10, .load 1 false (.t 9), none⟩,
    ⟨some 11, .bin .i .sub (.t 8) (.t 10), none⟩,
    ⟨some 12, .call false (.c (.fn n_spec_l1Most [])) [(.t 11), (.c (.int .i64 0))], none⟩,
    ⟨some 7, .mv (.t 12), none⟩] [] (some [1, 2, 3, 7])) (.seq (.seq (.region [⟨some 13, .mv (.t 2), none⟩] [] (some [1, 2, 3, 7, 13])) (.block 0 (.seq (.region [⟨some 15, .bin .i .eql (.t 13) (.c (.int .i64 2)), none⟩,
    ⟨some 14, .mv (.t 15), none⟩] [] (some [1, 2, 3, 7, 13, 14])) (.cond (.t 14) (.seq (.region [⟨some 16, .mv (.t 1), none⟩,
    ⟨some 6, .mv (.t 16), none⟩] [] (some [6])) .ret) (.seq (.region [⟨some 18, .bin .i .eql (.t 13) (.c (.int .i64 3)), none⟩,
    ⟨some 17, .mv (.t 18), none⟩] [] (some [1, 2, 3, 7, 13, 17])) (.cond (.t 17) (.seq (.region [⟨some 19, .faddr 1 (.t 3), none⟩,
    ⟨some 20, .load 1 false (.t 19), none⟩,
    ⟨some 21, .mv (.t 1), none⟩,
    ⟨some 22, .bin .i .mul (.t 20) (.t 21), none⟩,
    ⟨some 6, .mv (.t 22), none⟩] [] (some [6])) .ret) (.seq (.region [⟨some 24, .bin .i .eql (.t 13) (.c (.int .i64 5)), none⟩,
    ⟨some 23, .mv (.t 24), none⟩] [] (some [2, 3, 7, 13, 23])) (.cond (.t 23) (.seq (.region [⟨some 25, .mv (.t 7), none⟩,
    ⟨some 6, .mv (.t 25), none⟩] [] (some [6])) .ret) (.seq (.region [⟨some 27, .bin .i .eql (.t 13) (.c (.int .i64 6)), none⟩,
    ⟨some 26, .mv (.t 27), none⟩] [] (some [2, 3, 7, 26])) (.cond (.t 26) (.seq (.region [⟨some 28, .faddr 1 (.t 3), none⟩,
    ⟨some 29, .load 1 false (.t 28), none⟩,
    ⟨some 30, .mv (.t 7), none⟩,
    ⟨some 31, .bin .i .mul (.t 29) (.t 30), none⟩,
    ⟨some 6, .mv (.t 31), none⟩] [] (some [6])) .ret) .skip)))))))))) (.seq (.seq (.region [⟨some 32, .mv (.t 7), none⟩,
    ⟨some 33, .bin .i .eql (.t 32) (.c (.int .i64 0)), none⟩] [] (some [2, 3, 33])) (.cond (.t 33) (.seq (.region [⟨some 6, .mv (.c (.int .i64 0)), none⟩] [] (some [6])) .ret) .skip)) (.seq (.seq (.region [⟨some 34, .mv (.t 2), none⟩,
    ⟨some 35, .bin .i .eql (.t 34) (.c (.int .i64 7)), none⟩] [] (some [3, 35])) (.cond (.t 35) (.seq (.region [⟨some 6, .mv (.c (.int .i64 1)), none⟩] [] (some [6])) .ret) .skip)) (.seq (.region [⟨some 36, .faddr 1 (.t 3), none⟩,
    ⟨some 37, .load 1 false (.t 36), none⟩,
    ⟨some 6, .mv (.t 37), none⟩] [] (some [6])) .ret)))))) }

def c_spec_l6Times_l0 : GC :=
  (.seq (.seq (.region [⟨some 7, .mv (.t 6), none⟩,
    ⟨some 8, .mv (.t 0), none⟩,
    ⟨some 9, .len (.t 8), none⟩,
    ⟨some 10, .bin .i .lss (.t 7) (.t 9), none⟩] [] (some [0, 1, 5, 6, 10])) (.cond (.t 10) .skip (.exit 0))) (.seq (.block 1 (.seq (.region [⟨some 13, .mv (.t 1), none⟩,
    ⟨some 14, .mv (.t 6), none⟩,
    ⟨some 15, .bin .i .shr (.t 13) (.t 14), none⟩,
    ⟨some 16, .bin .i .and (.t 15) (.c (.int .i64 1)), none⟩,
    ⟨some 17, .bin .i .eql (.t 16) (.c (.int .i64 1)), none⟩] [] (some [0, 1, 5, 6, 17])) (.cond (.t 17) (.region [⟨some 18, .mv (.t 5), none⟩,
    ⟨some 19, .mv (.t 0), none⟩,
    ⟨some 20, .mv (.t 6), none⟩,
    ⟨some 21, .iaddr 4 (.t 19) (.t 20), none⟩,
    ⟨some 22, .faddr 0 (.t 21), none⟩,
    ⟨some 23, .load 1 false (.t 22), none⟩,
    ⟨some 24, .bin .i .add (.t 18) (.t 23), none⟩,
    ⟨some 5, .mv (.t 24), none⟩] [] (some [0, 1, 5, 6])) .skip))) (.region [⟨some 11, .mv (.t 6), none⟩,
    ⟨some 12, .bin .i .add (.t 11) (.c (.int .i64 1)), none⟩,
    ⟨some 6, .mv (.t 12), none⟩] [] (some [0, 1, 5, 6]))))
/-- spec.l6Times -/
def c_spec_l6Times : GFun := { ntmps := 26, results := [.tmp 4], shared := false, body :=
  (.seq (.region [⟨some 4, .mv (.c (.int .i64 0)), none⟩] [] (some [0, 1])) (.seq (.region [⟨some 5, .mv (.c (.int .i64 0)), none⟩] [] (some [0, 1, 5])) (.seq (.seq (.region [⟨some 6, .mv (.c (.int .i64 0)), none⟩] [] (some [0, 1, 5, 6])) (.block 0 (.loop false (some [0, 1, 5, 6]) c_spec_l6Times_l0))) (.seq (.region [⟨some 25, .mv (.t 5), none⟩,
    ⟨some 4, .mv (.t 25), none⟩] [] (some [4])) .ret)))) }

/-- spec.l6Last -/
def c_spec_l6Last : GFun := { ntmps := 28, results := [.tmp 10], shared := false, body :=
  (.seq (.region [⟨some 10, .mv (.c (.int .i64 0)), none⟩] [] (some [0, 1, 2, 3, 4])) (.seq (.region [⟨some 11, .mv (.t 2), none⟩,
    ⟨some 12, .mv (.t 3), none⟩,
    ⟨some 13, .mv (.t 4), none⟩,
    ⟨some 14, .bin .i .shl (.c (.int .i64 1)) (.t 13), none⟩,
    ⟨some 15, .bin .i .sub (.t 12) (.t 14), none⟩,
    ⟨some 16, .iaddr 1 (.t 11) (.t 15), none⟩,
    ⟨some 17, .load 1 false (.t 16), none⟩,
    ⟨some 18, .mv (.t 0), none⟩,
    ⟨some 19, .mv (.t 4), none⟩,
    ⟨some 20, .iaddr 4 (.t 18) (.t 19), none⟩,
    ⟨some 21, .load 4 true (.t 20), none⟩,
    ⟨some 22, .mv (.t 0), none⟩,
    ⟨some 23, .mv (.t 3), none⟩,
    ⟨some 24, .call false (.c (.fn n_spec_l6Times [])) [(.t 22), (.t 23)], none⟩,
    ⟨some 25, .mv (.t 1), none⟩,
    ⟨some 26, .call false (.c (.fn n_spec_l2Cost [])) [(.t 21), (.t 24), (.t 25)], none⟩,
    ⟨some 27, .bin .i .add (.t 17) (.t 26), none⟩,
    ⟨some 10, .mv (.t 27), none⟩] [(6, 13), (6, 15), (10, 13)] (some [10])) .ret)) }

def c_spec_l6Values_l1 : GC :=
  (.seq (.seq (.region [⟨some 18, .mv (.t 8), none⟩,
    ⟨some 19, .mv (.t 0), none⟩,
    ⟨some 20, .len (.t 19), none⟩,
    ⟨some 21, .bin .i .lss (.t 18) (.t 20), none⟩] [] (some [0, 1, 5, 6, 7, 8, 21])) (.cond (.t 21) .skip (.exit 2))) (.seq (.block 3 (.seq (.seq (.region [⟨some 24, .mv (.t 6), none⟩,
    ⟨some 25, .mv (.t 8), none⟩,
    ⟨some 26, .bin .i .shr (.t 24) (.t 25), none⟩,
    ⟨some 27, .bin .i .and (.t 26) (.c (.int .i64 1)), none⟩,
    ⟨some 28, .bin .i .eql (.t 27) (.c (.int .i64 0)), none⟩] [] (some [0, 1, 5, 6, 7, 8, 28])) (.cond (.t 28) (.exit 3) .skip)) (.seq (.region [⟨some 29, .mv (.t 0), none⟩,
    ⟨some 30, .mv (.t 1), none⟩,
    ⟨some 31, .mv (.t 5), none⟩,
    ⟨some 32, .mv (.t 6), none⟩,
    ⟨some 33, .mv (.t 8), none⟩,
    ⟨some 34, .call false (.c (.fn n_spec_l6Last [])) [(.t 29), (.t 30), (.t 31), (.t 32), (.t 33)], none⟩,
    ⟨some 9, .mv (.t 34), none⟩] [] (some [0, 1, 5, 6, 7, 8, 9])) (.seq (.region [⟨some 35, .mv (.t 7), none⟩,
    ⟨some 36, .bin .i .lss (.t 35) (.c (.int .i64 0)), none⟩,
    ⟨some 37, .mv (.t 36), none⟩,
    ⟨some 38, .mv (.t 9), some (37, false)⟩,
    ⟨some 39, .mv (.t 7), some (37, false)⟩,
    ⟨some 40, .bin .i .lss (.t 38) (.t 39), some (37, false)⟩,
    ⟨some 41, .pick (.t 37) (.c (.bool true)) (.t 40), none⟩] [] (some [0, 1, 5, 6, 7, 8, 9, 41])) (.cond (.t 41) (.region [⟨some 42, .mv (.t 9), none⟩,
    ⟨some 7, .mv (.t 42), none⟩] [] (some [0, 1, 5, 6, 7, 8])) .skip))))) (.region [⟨some 22, .mv (.t 8), none⟩,
    ⟨some 23, .bin .i .add (.t 22) (.c (.int .i64 1)), none⟩,
    ⟨some 8, .mv (.t 23), none⟩] [] (some [0, 1, 5, 6, 7, 8]))))
def c_spec_l6Values_l0 : GC :=
  (.seq (.seq (.region [⟨some 11, .mv (.t 6), none⟩,
    ⟨some 12, .mv (.t 0), none⟩,
    ⟨some 13, .len (.t 12), none⟩,
    ⟨some 14, .bin .i .shl (.c (.int .i64 1)) (.t 13), none⟩,
    ⟨some 15, .bin .i .lss (.t 11) (.t 14), none⟩] [] (some [0, 1, 5, 6, 15])) (.cond (.t 15) .skip (.exit 0))) (.seq (.block 1 (.seq (.region [⟨some 7, .mv (.c (.int .i64 (-1))), none⟩] [] (some [0, 1, 5, 6, 7])) (.seq (.seq (.region [⟨some 8, .mv (.c (.int .i64 0)), none⟩] [] (some [0, 1, 5, 6, 7, 8])) (.block 2 (.loop false (some [0, 1, 5, 6, 7, 8]) c_spec_l6Values_l1))) (.region [⟨some 43, .mv (.t 5), none⟩,
    ⟨some 44, .mv (.t 7), none⟩,
    ⟨some 45, .bsl false 1 [(.int .i64 0)] 1 [(0, (.t 44))], none⟩,
    ⟨some 46, .append false 1 8 (.t 43) (.t 45), none⟩,
    ⟨some 5, .mvo (.t 5) (.t 46), none⟩] [] (some [0, 1, 5, 6]))))) (.region [⟨some 16, .mv (.t 6), none⟩,
    ⟨some 17, .bin .i .add (.t 16) (.c (.int .i64 1)), none⟩,
    ⟨some 6, .mv (.t 17), none⟩] [] (some [0, 1, 5, 6]))))
/-- spec.l6Values -/
def c_spec_l6Values : GFun := { ntmps := 48, results := [.tmp 4], shared := false, body :=
  (.seq (.region [⟨some 4, .mv (.c (.fs [])), none⟩] [] (some [0, 1, 5])) (.seq (.region [⟨some 10, .bsl true 1 [(.int .i64 0)] 1 [(0, (.c (.int .i64 0)))], none⟩,
    ⟨some 5, .mvo (.t 5) (.t 10), none⟩] [] (some [0, 1, 5])) (.seq (.seq (.region [⟨some 6, .mv (.c (.int .i64 1)), none⟩] [] (some [0, 1, 5, 6])) (.block 0 (.loop false (some [0, 1, 5, 6]) c_spec_l6Values_l0))) (.seq (.region [⟨some 47, .mv (.t 5), none⟩,
    ⟨some 4, .mv (.t 47), none⟩] [] (some [4])) .ret)))) }

/-- spec.SetValues -/
def c_spec_SetValues : GFun := { ntmps := 18, results := [.tmp 4, .tmp 5], shared := false, body :=
  (.seq (.region [⟨some 4, .mv (.c (.fs [])), none⟩,
    ⟨some 5, .mv (.c (.bool false)), none⟩] [] (some [0, 1])) (.seq (.seq (.region [⟨some 6, .mv (.t 0), none⟩,
    ⟨some 7, .call false (.c (.fn n_spec_l6Good [])) [(.t 6)], none⟩,
    ⟨some 8, .un .not (.t 7), none⟩,
    ⟨some 9, .mv (.t 8), none⟩,
    ⟨some 10, .mv (.t 1), some (9, false)⟩,
    ⟨some 11, .call false (.c (.fn n_spec_l6Sum [])) [(.t 10)], some (9, false)⟩,
    ⟨some 12, .un .not (.t 11), some (9, false)⟩,
    ⟨some 13, .pick (.t 9) (.c (.bool true)) (.t 12), none⟩] [] (some [0, 1, 13])) (.cond (.t 13) (.seq (.region [⟨some 14, .bsl false 1 [(.int .i64 0)] 0 [], none⟩,
    ⟨some 4, .mv (.t 14), none⟩,
    ⟨some 5, .mv (.c (.bool false)), none⟩] [] (some [4, 5])) .ret) .skip)) (.seq (.region [⟨some 15, .mv (.t 0), none⟩,
    ⟨some 16, .mv (.t 1), none⟩,
    ⟨some 17, .call false (.c (.fn n_spec_l6Values [])) [(.t 15), (.t 16)], none⟩,
    ⟨some 4, .mv (.t 17), none⟩,
    ⟨some 5, .mv (.c (.bool true)), none⟩] [] (some [4, 5])) .ret))) }

def c_laws_rInts_l0 : GC :=
  (.seq (.seq (.region [⟨some 11, .mv (.t 5), none⟩,
    ⟨some 12, .mv (.t 0), none⟩,
    ⟨some 13, .len (.t 12), none⟩,
    ⟨some 14, .bin .i .lss (.t 11) (.t 13), none⟩] [] (some [0, 1, 5, 14])) (.cond (.t 14) .skip (.exit 0))) (.seq (.block 1 (.seq (.region [⟨some 17, .mv (.t 0), none⟩,
    ⟨some 18, .mv (.t 5), none⟩,
    ⟨some 19, .iaddr 1 (.t 17) (.t 18), none⟩,
    ⟨some 20, .load 1 false (.t 19), none⟩,
    ⟨some 21, .mv (.t 1), none⟩,
    ⟨some 22, .mv (.t 5), none⟩,
    ⟨some 23, .iaddr 1 (.t 21) (.t 22), none⟩,
    ⟨some 24, .load 1 false (.t 23), none⟩,
    ⟨some 25, .bin .i .neq (.t 20) (.t 24), none⟩] [] (some [0, 1, 5, 25])) (.cond (.t 25) (.seq (.region [⟨some 4, .mv (.c (.bool false)), none⟩] [] (some [4])) .ret) .skip))) (.region [⟨some 15, .mv (.t 5), none⟩,
    ⟨some 16, .bin .i .add (.t 15) (.c (.int .i64 1)), none⟩,
    ⟨some 5, .mv (.t 16), none⟩] [] (some [0, 1, 5]))))
/-- laws.rInts -/
def c_laws_rInts : GFun := { ntmps := 26, results := [.tmp 4], shared := false, body :=
  (.seq (.region [⟨some 4, .mv (.c (.bool false)), none⟩] [] (some [0, 1])) (.seq (.seq (.region [⟨some 6, .mv (.t 0), none⟩,
    ⟨some 7, .len (.t 6), none⟩,
    ⟨some 8, .mv (.t 1), none⟩,
    ⟨some 9, .len (.t 8), none⟩,
    ⟨some 10, .bin .i .neq (.t 7) (.t 9), none⟩] [] (some [0, 1, 10])) (.cond (.t 10) (.seq (.region [⟨some 4, .mv (.c (.bool false)), none⟩] [] (some [4])) .ret) .skip)) (.seq (.seq (.region [⟨some 5, .mv (.c (.int .i64 0)), none⟩] [] (some [0, 1, 5])) (.block 0 (.loop false (some [0, 1, 5]) c_laws_rInts_l0))) (.seq (.region [⟨some 4, .mv (.c (.bool true)), none⟩] [] (some [4])) .ret)))) }

def c_impl_SetOrder_l1 : GC :=
  (.seq (.region [⟨some 41, .bin .i .lss (.t 40) (.t 39), none⟩] [] (some [0, 1, 6, 7, 8, 9, 38, 39, 40, 41])) (.seq (.cond (.t 41) .skip (.exit 2)) (.seq (.block 3 (.seq (.region [⟨some 42, .iaddr 1 (.t 38) (.t 40), none⟩,
    ⟨some 43, .load 1 false (.t 42), none⟩,
    ⟨some 11, .mv (.t 43), none⟩] [] (some [0, 1, 6, 7, 8, 9, 11, 38, 39, 40])) (.seq (.region [⟨some 44, .mv (.t 6), none⟩,
    ⟨some 45, .mv (.t 8), none⟩,
    ⟨some 46, .mv (.t 11), none⟩,
    ⟨some 47, .bin .i .shl (.c (.int .i64 1)) (.t 46), none⟩,
    ⟨some 48, .bin .i .andNot (.t 45) (.t 47), none⟩,
    ⟨some 49, .iaddr 1 (.t 44) (.t 48), none⟩,
    ⟨some 50, .load 1 false (.t 49), none⟩,
    ⟨some 51, .mv (.t 0), none⟩,
    ⟨some 52, .mv (.t 11), none⟩,
    ⟨some 53, .iaddr 4 (.t 51) (.t 52), none⟩,
    ⟨some 54, .load 4 true (.t 53), none⟩,
    ⟨some 55, .mv (.t 0), none⟩,
    ⟨some 56, .mv (.t 8), none⟩,
    ⟨some 57, .call false (.c (.fn n_impl_timeOf [])) [(.t 55), (.t 56)], none⟩,
    ⟨some 58, .mv (.t 1), none⟩,
    ⟨some 59, .call false (.c (.fn n_impl_add [])) [(.t 50), (.t 54), (.t 57), (.t 58), (.c (.bool false))], none⟩,
    ⟨some 60, .mv (.t 6), none⟩,
    ⟨some 61, .mv (.t 8), none⟩,
    ⟨some 62, .iaddr 1 (.t 60) (.t 61), none⟩,
    ⟨some 63, .load 1 false (.t 62), none⟩,
    ⟨some 64, .bin .i .eql (.t 59) (.t 63), none⟩] [(6, 13), (10, 13), (13, 19), (15, 19)] (some [0, 1, 6, 7, 8, 9, 11, 38, 39, 40, 64])) (.cond (.t 64) (.seq (.region [⟨some 65, .mv (.t 7), none⟩,
    ⟨some 66, .mv (.t 9), none⟩,
    ⟨some 67, .mv (.t 11), none⟩,
    ⟨some 68, .iaddr 1 (.t 65) (.t 66), none⟩,
    ⟨none, .store 1 (.t 68) (.t 67), none⟩] [] (some [0, 1, 6, 7, 8, 9, 11])) (.seq (.region [⟨some 69, .mv (.t 8), none⟩,
    ⟨some 70, .mv (.t 11), none⟩,
    ⟨some 71, .bin .i .shl (.c (.int .i64 1)) (.t 70), none⟩,
    ⟨some 72, .bin .i .andNot (.t 69) (.t 71), none⟩,
    ⟨some 8, .mv (.t 72), none⟩] [] (some [0, 1, 6, 7, 8, 9])) (.exit 2))) .skip)))) (.region [⟨some 73, .bin .i .add (.t 40) (.c (.int .i64 1)), none⟩,
    ⟨some 40, .mv (.t 73), none⟩] [] (some [0, 1, 6, 7, 8, 9, 38, 39, 40])))))
def c_impl_SetOrder_l0 : GC :=
  (.seq (.seq (.region [⟨some 33, .mv (.t 9), none⟩,
    ⟨some 34, .bin .i .geq (.t 33) (.c (.int .i64 0)), none⟩] [] (some [0, 1, 6, 7, 8, 9, 34])) (.cond (.t 34) .skip (.exit 0))) (.seq (.block 1 (.seq (.region [⟨some 37, .mv (.t 8), none⟩,
    ⟨some 38, .call false (.c (.fn n_impl_listOf [])) [(.t 37)], none⟩,
    ⟨some 39, .len (.t 38), none⟩,
    ⟨some 40, .mv (.c (.int .i64 0)), none⟩] [] (some [0, 1, 6, 7, 8, 9, 38, 39, 40])) (.block 2 (.loop false (some [0, 1, 6, 7, 8, 9, 38, 39, 40]) c_impl_SetOrder_l1)))) (.region [⟨some 35, .mv (.t 9), none⟩,
    ⟨some 36, .bin .i .sub (.t 35) (.c (.int .i64 1)), none⟩,
    ⟨some 9, .mv (.t 36), none⟩] [] (some [0, 1, 6, 7, 8, 9]))))
/-- impl.SetOrder -/
def c_impl_SetOrder : GFun := { ntmps := 75, results := [.tmp 4, .tmp 5], shared := false, body :=
  (.seq (.region [⟨some 4, .mv (.c (.fs [])), none⟩,
    ⟨some 5, .mv (.c (.bool false)), none⟩] [] (some [0, 1, 7])) (.seq (.seq (.region [⟨some 12, .mv (.t 0), none⟩,
    ⟨some 13, .call false (.c (.fn n_impl_IsPlain [])) [(.t 12)], none⟩,
    ⟨some 14, .un .not (.t 13), none⟩,
    ⟨some 15, .mv (.t 14), none⟩,
    ⟨some 16, .mv (.t 1), some (15, false)⟩,
    ⟨some 17, .call false (.c (.fn n_impl_isSumObjective [])) [(.t 16)], some (15, false)⟩,
    ⟨some 18, .un .not (.t 17), some (15, false)⟩,
    ⟨some 19, .pick (.t 15) (.c (.bool true)) (.t 18), none⟩] [] (some [0, 1, 7, 19])) (.cond (.t 19) (.seq (.region [⟨some 4, .mv (.c (.fs [])), none⟩,
    ⟨some 5, .mv (.c (.bool false)), none⟩] [] (some [4, 5])) .ret) .skip)) (.seq (.region [⟨some 20, .mv (.t 0), none⟩,
    ⟨some 21, .mv (.t 1), none⟩,
    ⟨some 22, .call false (.c (.fn n_impl_setValues [])) [(.t 20), (.t 21), (.c (.int .i64 0))], none⟩,
    ⟨some 6, .mv (.t 22), none⟩] [] (some [0, 1, 6, 7])) (.seq (.region [⟨some 23, .mv (.t 0), none⟩,
    ⟨some 24, .len (.t 23), none⟩,
    ⟨some 25, .mksl 1 [(.int .i64 0)] 8 (.t 24) (.t 24), none⟩,
    ⟨some 7, .mvo (.t 7) (.t 25), none⟩] [] (some [0, 1, 6, 7])) (.seq (.region [⟨some 26, .mv (.t 0), none⟩,
    ⟨some 27, .len (.t 26), none⟩,
    ⟨some 28, .bin .i .shl (.c (.int .i64 1)) (.t 27), none⟩,
    ⟨some 29, .bin .i .sub (.t 28) (.c (.int .i64 1)), none⟩,
    ⟨some 8, .mv (.t 29), none⟩] [] (some [0, 1, 6, 7, 8])) (.seq (.seq (.region [⟨some 30, .mv (.t 0), none⟩,
    ⟨some 31, .len (.t 30), none⟩,
    ⟨some 32, .bin .i .sub (.t 31) (.c (.int .i64 1)), none⟩,
    ⟨some 9, .mv (.t 32), none⟩] [] (some [0, 1, 6, 7, 8, 9])) (.block 0 (.loop false (some [0, 1, 6, 7, 8, 9]) c_impl_SetOrder_l0))) (.seq (.region [⟨some 74, .mv (.t 7), none⟩,
    ⟨some 4, .mv (.t 74), none⟩,
    ⟨some 5, .mv (.c (.bool true)), none⟩] [] (some [4, 5])) .ret))))))) }

def c_spec_SetOrder_l1 : GC :=
  (.seq (.seq (.region [⟨some 29, .mv (.t 8), none⟩,
    ⟨some 30, .mv (.t 9), none⟩,
    ⟨some 31, .bin .i .shr (.t 29) (.t 30), none⟩,
    ⟨some 32, .bin .i .and (.t 31) (.c (.int .i64 1)), none⟩,
    ⟨some 33, .bin .i .eql (.t 32) (.c (.int .i64 0)), none⟩,
    ⟨some 34, .mv (.t 33), none⟩,
    ⟨some 35, .mv (.t 0), some (34, false)⟩,
    ⟨some 36, .mv (.t 1), some (34, false)⟩,
    ⟨some 37, .mv (.t 7), some (34, false)⟩,
    ⟨some 38, .mv (.t 8), some (34, false)⟩,
    ⟨some 39, .mv (.t 9), some (34, false)⟩,
    ⟨some 40, .call false (.c (.fn n_spec_l6Last [])) [(.t 35), (.t 36), (.t 37), (.t 38), (.t 39)], some (34, false)⟩,
    ⟨some 41, .mv (.t 7), some (34, false)⟩,
    ⟨some 42, .mv (.t 8), some (34, false)⟩,
    ⟨some 43, .iaddr 1 (.t 41) (.t 42), some (34, false)⟩,
    ⟨some 44, .load 1 false (.t 43), some (34, false)⟩,
    ⟨some 45, .bin .i .neq (.t 40) (.t 44), some (34, false)⟩,
    ⟨some 46, .pick (.t 34) (.c (.bool true)) (.t 45), none⟩] [(11, 15)] (some [0, 1, 6, 7, 8, 9, 46])) (.cond (.t 46) .skip (.exit 2))) (.block 3 (.region [⟨some 47, .mv (.t 9), none⟩,
    ⟨some 48, .bin .i .add (.t 47) (.c (.int .i64 1)), none⟩,
    ⟨some 9, .mv (.t 48), none⟩] [] (some [0, 1, 6, 7, 8, 9]))))
def c_spec_SetOrder_l0 : GC :=
  (.seq (.seq (.region [⟨some 27, .mv (.t 8), none⟩,
    ⟨some 28, .bin .i .gtr (.t 27) (.c (.int .i64 0)), none⟩] [] (some [0, 1, 6, 7, 8, 28])) (.cond (.t 28) .skip (.exit 0))) (.block 1 (.seq (.region [⟨some 9, .mv (.c (.int .i64 0)), none⟩] [] (some [0, 1, 6, 7, 8, 9])) (.seq (.block 2 (.loop false (some [0, 1, 6, 7, 8, 9]) c_spec_SetOrder_l1)) (.seq (.region [⟨some 49, .mv (.t 9), none⟩,
    ⟨some 50, .bsl true 1 [(.int .i64 0)] 1 [(0, (.t 49))], none⟩,
    ⟨some 51, .mv (.t 6), none⟩,
    ⟨some 52, .append true 1 8 (.t 50) (.t 51), none⟩,
    ⟨some 6, .frz (.t 52), none⟩] [] (some [0, 1, 6, 7, 8, 9])) (.region [⟨some 53, .mv (.t 8), none⟩,
    ⟨some 54, .mv (.t 9), none⟩,
    ⟨some 55, .bin .i .shl (.c (.int .i64 1)) (.t 54), none⟩,
    ⟨some 56, .bin .i .sub (.t 53) (.t 55), none⟩,
    ⟨some 8, .mv (.t 56), none⟩] [] (some [0, 1, 6, 7, 8])))))))
/-- spec.SetOrder -/
def c_spec_SetOrder : GFun := { ntmps := 58, results := [.tmp 4, .tmp 5], shared := false, body :=
  (.seq (.region [⟨some 4, .mv (.c (.fs [])), none⟩,
    ⟨some 5, .mv (.c (.bool false)), none⟩] [] (some [0, 1])) (.seq (.region [⟨some 10, .bsl false 1 [(.int .i64 0)] 0 [], none⟩,
    ⟨some 6, .mv (.t 10), none⟩] [] (some [0, 1, 6])) (.seq (.seq (.region [⟨some 11, .mv (.t 0), none⟩,
    ⟨some 12, .call false (.c (.fn n_spec_l6Good [])) [(.t 11)], none⟩,
    ⟨some 13, .un .not (.t 12), none⟩,
    ⟨some 14, .mv (.t 13), none⟩,
    ⟨some 15, .mv (.t 1), some (14, false)⟩,
    ⟨some 16, .call false (.c (.fn n_spec_l6Sum [])) [(.t 15)], some (14, false)⟩,
    ⟨some 17, .un .not (.t 16), some (14, false)⟩,
    ⟨some 18, .pick (.t 14) (.c (.bool true)) (.t 17), none⟩] [] (some [0, 1, 6, 18])) (.cond (.t 18) (.seq (.region [⟨some 19, .mv (.t 6), none⟩,
    ⟨some 4, .mv (.t 19), none⟩,
    ⟨some 5, .mv (.c (.bool false)), none⟩] [] (some [4, 5])) .ret) .skip)) (.seq (.region [⟨some 20, .mv (.t 0), none⟩,
    ⟨some 21, .mv (.t 1), none⟩,
    ⟨some 22, .call false (.c (.fn n_spec_l6Values [])) [(.t 20), (.t 21)], none⟩,
    ⟨some 7, .mv (.t 22), none⟩] [] (some [0, 1, 6, 7])) (.seq (.seq (.region [⟨some 23, .mv (.t 0), none⟩,
    ⟨some 24, .len (.t 23), none⟩,
    ⟨some 25, .bin .i .shl (.c (.int .i64 1)) (.t 24), none⟩,
    ⟨some 26, .bin .i .sub (.t 25) (.c (.int .i64 1)), none⟩,
    ⟨some 8, .mv (.t 26), none⟩] [] (some [0, 1, 6, 7, 8])) (.block 0 (.loop false (some [0, 1, 6, 7, 8]) c_spec_SetOrder_l0))) (.seq (.region [⟨some 57, .mv (.t 6), none⟩,
    ⟨some 4, .mv (.t 57), none⟩,
    ⟨some 5, .mv (.c (.bool true)), none⟩] [] (some [4, 5])) .ret)))))) }

def c_impl_totalOf_l0 : GC :=
  (.seq (.region [⟨some 9, .bin .i .lss (.t 8) (.t 7), none⟩] [] (some [3, 6, 7, 8, 9])) (.seq (.cond (.t 9) .skip (.exit 0)) (.seq (.block 1 (.seq (.region [⟨some 10, .iaddr 4 (.t 6) (.t 8), none⟩,
    ⟨some 11, .load 4 true (.t 10), none⟩,
    ⟨some 5, .alloc [(.int .i64 0), (.int .i64 0), (.int .i64 0), (.int .i64 0)], none⟩,
    ⟨none, .store 4 (.t 5) (.t 11), none⟩] [] (some [3, 5, 6, 7, 8])) (.region [⟨some 12, .mv (.t 3), none⟩,
    ⟨some 13, .faddr 0 (.t 5), none⟩,
    ⟨some 14, .load 1 false (.t 13), none⟩,
    ⟨some 15, .bin .i .add (.t 12) (.t 14), none⟩,
    ⟨some 3, .mv (.t 15), none⟩] [] (some [3, 6, 7, 8])))) (.region [⟨some 16, .bin .i .add (.t 8) (.c (.int .i64 1)), none⟩,
    ⟨some 8, .mv (.t 16), none⟩] [] (some [3, 6, 7, 8])))))
/-- impl.totalOf -/
def c_impl_totalOf : GFun := { ntmps := 18, results := [.tmp 2], shared := false, body :=
  (.seq (.region [⟨some 2, .mv (.c (.int .i64 0)), none⟩] [] (some [0])) (.seq (.region [⟨some 3, .mv (.c (.int .i64 0)), none⟩] [] (some [0, 3])) (.seq (.seq (.region [⟨some 6, .mv (.t 0), none⟩,
    ⟨some 7, .len (.t 6), none⟩,
    ⟨some 8, .mv (.c (.int .i64 0)), none⟩] [] (some [3, 6, 7, 8])) (.block 0 (.loop false (some [3, 6, 7, 8]) c_impl_totalOf_l0))) (.seq (.region [⟨some 17, .mv (.t 3), none⟩,
    ⟨some 2, .mv (.t 17), none⟩] [] (some [2])) .ret)))) }

/-- impl.TotalTime -/
def c_impl_TotalTime : GFun := { ntmps := 9, results := [.tmp 2, .tmp 3], shared := false, body :=
  (.seq (.region [⟨some 2, .mv (.c (.int .i64 0)), none⟩,
    ⟨some 3, .mv (.c (.bool false)), none⟩] [] (some [0])) (.seq (.seq (.region [⟨some 4, .mv (.t 0), none⟩,
    ⟨some 5, .call false (.c (.fn n_impl_IsPlain [])) [(.t 4)], none⟩,
    ⟨some 6, .un .not (.t 5), none⟩] [] (some [0, 6])) (.cond (.t 6) (.seq (.region [⟨some 2, .mv (.c (.int .i64 0)), none⟩,
    ⟨some 3, .mv (.c (.bool false)), none⟩] [] (some [2, 3])) .ret) .skip)) (.seq (.region [⟨some 7, .mv (.t 0), none⟩,
    ⟨some 8, .call false (.c (.fn n_impl_totalOf [])) [(.t 7)], none⟩,
    ⟨some 2, .mv (.t 8), none⟩,
    ⟨some 3, .mv (.c (.bool true)), none⟩] [] (some [2, 3])) .ret))) }

def c_spec_l2Times_l0 : GC :=
  (.seq (.seq (.region [⟨some 5, .mv (.t 4), none⟩,
    ⟨some 6, .mv (.t 0), none⟩,
    ⟨some 7, .len (.t 6), none⟩,
    ⟨some 8, .bin .i .lss (.t 5) (.t 7), none⟩] [] (some [0, 3, 4, 8])) (.cond (.t 8) .skip (.exit 0))) (.seq (.block 1 (.region [⟨some 11, .mv (.t 3), none⟩,
    ⟨some 12, .mv (.t 0), none⟩,
    ⟨some 13, .mv (.t 4), none⟩,
    ⟨some 14, .iaddr 4 (.t 12) (.t 13), none⟩,
    ⟨some 15, .faddr 0 (.t 14), none⟩,
    ⟨some 16, .load 1 false (.t 15), none⟩,
    ⟨some 17, .bin .i .add (.t 11) (.t 16), none⟩,
    ⟨some 3, .mv (.t 17), none⟩] [] (some [0, 3, 4]))) (.region [⟨some 9, .mv (.t 4), none⟩,
    ⟨some 10, .bin .i .add (.t 9) (.c (.int .i64 1)), none⟩,
    ⟨some 4, .mv (.t 10), none⟩] [] (some [0, 3, 4]))))
/-- spec.l2Times -/
def c_spec_l2Times : GFun := { ntmps := 19, results := [.tmp 2], shared := false, body :=
  (.seq (.region [⟨some 2, .mv (.c (.int .i64 0)), none⟩] [] (some [0])) (.seq (.region [⟨some 3, .mv (.c (.int .i64 0)), none⟩] [] (some [0, 3])) (.seq (.seq (.region [⟨some 4, .mv (.c (.int .i64 0)), none⟩] [] (some [0, 3, 4])) (.block 0 (.loop false (some [0, 3, 4]) c_spec_l2Times_l0))) (.seq (.region [⟨some 18, .mv (.t 3), none⟩,
    ⟨some 2, .mv (.t 18), none⟩] [] (some [2])) .ret)))) }

/-- spec.TotalTime -/
def c_spec_TotalTime : GFun := { ntmps := 9, results := [.tmp 2, .tmp 3], shared := false, body :=
  (.seq (.region [⟨some 2, .mv (.c (.int .i64 0)), none⟩,
    ⟨some 3, .mv (.c (.bool false)), none⟩] [] (some [0])) (.seq (.seq (.region [⟨some 4, .mv (.t 0), none⟩,
    ⟨some 5, .call false (.c (.fn n_spec_l6Good [])) [(.t 4)], none⟩,
    ⟨some 6, .un .not (.t 5), none⟩] [] (some [0, 6])) (.cond (.t 6) (.seq (.region [⟨some 2, .mv (.c (.int .i64 0)), none⟩,
    ⟨some 3, .mv (.c (.bool false)), none⟩] [] (some [2, 3])) .ret) .skip)) (.seq (.region [⟨some 7, .mv (.t 0), none⟩,
    ⟨some 8, .call false (.c (.fn n_spec_l2Times [])) [(.t 7)], none⟩,
    ⟨some 2, .mv (.t 8), none⟩,
    ⟨some 3, .mv (.c (.bool true)), none⟩] [] (some [2, 3])) .ret))) }

def c_impl_numbersTo_l0 : GC :=
  (.seq (.seq (.region [⟨some 5, .mv (.t 4), none⟩,
    ⟨some 6, .mv (.t 0), none⟩,
    ⟨some 7, .bin .i .lss (.t 5) (.t 6), none⟩] [] (some [0, 3, 4, 7])) (.cond (.t 7) .skip (.exit 0))) (.seq (.block 1 (.region [⟨some 10, .mv (.t 3), none⟩,
    ⟨some 11, .mv (.t 4), none⟩,
    ⟨some 12, .bsl false 1 [(.int .i64 0)] 1 [(0, (.t 11))], none⟩,
    ⟨some 13, .append false 1 8 (.t 10) (.t 12), none⟩,
    ⟨some 3, .mvo (.t 3) (.t 13), none⟩] [] (some [0, 3, 4]))) (.region [⟨some 8, .mv (.t 4), none⟩,
    ⟨some 9, .bin .i .add (.t 8) (.c (.int .i64 1)), none⟩,
    ⟨some 4, .mv (.t 9), none⟩] [] (some [0, 3, 4]))))
/-- impl.numbersTo -/
def c_impl_numbersTo : GFun := { ntmps := 15, results := [.tmp 2], shared := false, body :=
  (.seq (.region [⟨some 2, .nilo 1, none⟩] [] (some [0])) (.seq (.region [⟨some 3, .nilo 1, none⟩] [] (some [0, 3])) (.seq (.seq (.region [⟨some 4, .mv (.c (.int .i64 0)), none⟩] [] (some [0, 3, 4])) (.block 0 (.loop false (some [0, 3, 4]) c_impl_numbersTo_l0))) (.seq (.region [⟨some 14, .mv (.t 3), none⟩,
    ⟨some 2, .mv (.t 14), none⟩] [] (some [2])) .ret)))) }

def c_impl_nextOrder_l0 : GC :=
  (.seq (.seq (.region [⟨some 10, .mv (.t 3), none⟩,
    ⟨some 11, .bin .i .geq (.t 10) (.c (.int .i64 0)), none⟩,
    ⟨some 12, .mv (.t 11), none⟩,
    ⟨some 13, .mv (.t 0), some (12, true)⟩,
    ⟨some 14, .mv (.t 3), some (12, true)⟩,
    ⟨some 15, .iaddr 1 (.t 13) (.t 14), some (12, true)⟩,
    ⟨some 16, .load 1 false (.t 15), some (12, true)⟩,
    ⟨some 17, .mv (.t 0), some (12, true)⟩,
    ⟨some 18, .mv (.t 3), some (12, true)⟩,
    ⟨some 19, .bin .i .add (.t 18) (.c (.int .i64 1)), some (12, true)⟩,
    ⟨some 20, .iaddr 1 (.t 17) (.t 19), some (12, true)⟩,
    ⟨some 21, .load 1 false (.t 20), some (12, true)⟩,
    ⟨some 22, .bin .i .gtr (.t 16) (.t 21), some (12, true)⟩,
    ⟨some 23, .pick (.t 12) (.t 22) (.c (.bool false)), none⟩] [] (some [0, 3, 23])) (.cond (.t 23) .skip (.exit 0))) (.block 1 (.region [⟨some 24, .mv (.t 3), none⟩,
    ⟨some 25, .bin .i .sub (.t 24) (.c (.int .i64 1)), none⟩,
    ⟨some 3, .mv (.t 25), none⟩] [] (some [0, 3]))))
def c_impl_nextOrder_l1 : GC :=
  (.seq (.seq (.region [⟨some 31, .mv (.t 0), none⟩,
    ⟨some 32, .mv (.t 4), none⟩,
    ⟨some 33, .iaddr 1 (.t 31) (.t 32), none⟩,
    ⟨some 34, .load 1 false (.t 33), none⟩,
    ⟨some 35, .mv (.t 0), none⟩,
    ⟨some 36, .mv (.t 3), none⟩,
    ⟨some 37, .iaddr 1 (.t 35) (.t 36), none⟩,
    ⟨some 38, .load 1 false (.t 37), none⟩,
    ⟨some 39, .bin .i .lss (.t 34) (.t 38), none⟩] [] (some [0, 3, 4, 39])) (.cond (.t 39) .skip (.exit 2))) (.block 3 (.region [⟨some 40, .mv (.t 4), none⟩,
    ⟨some 41, .bin .i .sub (.t 40) (.c (.int .i64 1)), none⟩,
    ⟨some 4, .mv (.t 41), none⟩] [] (some [0, 3, 4]))))
def c_impl_nextOrder_l2 : GC :=
  (.seq (.seq (.region [⟨some 61, .mv (.t 5), none⟩,
    ⟨some 62, .mv (.t 6), none⟩,
    ⟨some 63, .bin .i .lss (.t 61) (.t 62), none⟩] [] (some [0, 5, 6, 63])) (.cond (.t 63) .skip (.exit 4))) (.seq (.block 5 (.region [⟨some 68, .mv (.t 0), none⟩,
    ⟨some 69, .mv (.t 5), none⟩,
    ⟨some 70, .mv (.t 0), none⟩,
    ⟨some 71, .mv (.t 6), none⟩,
    ⟨some 72, .mv (.t 0), none⟩,
    ⟨some 73, .mv (.t 6), none⟩,
    ⟨some 74, .iaddr 1 (.t 72) (.t 73), none⟩,
    ⟨some 75, .load 1 false (.t 74), none⟩,
    ⟨some 76, .mv (.t 0), none⟩,
    ⟨some 77, .mv (.t 5), none⟩,
    ⟨some 78, .iaddr 1 (.t 76) (.t 77), none⟩,
    ⟨some 79, .load 1 false (.t 78), none⟩,
    ⟨some 80, .iaddr 1 (.t 68) (.t 69), none⟩,
    ⟨none, .store 1 (.t 80) (.t 75), none⟩,
    ⟨some 81, .iaddr 1 (.t 70) (.t 71), none⟩,
    ⟨none, .store 1 (.t 81) (.t 79), none⟩] [] (some [0, 5, 6]))) (.region [⟨some 64, .mv (.t 5), none⟩,
    ⟨some 65, .bin .i .add (.t 64) (.c (.int .i64 1)), none⟩,
    ⟨some 66, .mv (.t 6), none⟩,
    ⟨some 67, .bin .i .sub (.t 66) (.c (.int .i64 1)), none⟩,
    ⟨some 5, .mv (.t 65), none⟩,
    ⟨some 6, .mv (.t 67), none⟩] [] (some [0, 5, 6]))))
/-- impl.nextOrder -/
def c_impl_nextOrder : GFun := { ntmps := 82, results := [.tmp 2], shared := true, body :=
  (.seq (.region [⟨some 2, .mv (.c (.bool false)), none⟩] [] (some [0])) (.seq (.region [⟨some 7, .mv (.t 0), none⟩,
    ⟨some 8, .len (.t 7), none⟩,
    ⟨some 9, .bin .i .sub (.t 8) (.c (.int .i64 2)), none⟩,
    ⟨some 3, .mv (.t 9), none⟩] [] (some [0, 3])) (.seq (.block 0 (.loop false (some [0, 3]) c_impl_nextOrder_l0)) (.seq (.seq (.region [⟨some 26, .mv (.t 3), none⟩,
    ⟨some 27, .bin .i .lss (.t 26) (.c (.int .i64 0)), none⟩] [] (some [0, 3, 27])) (.cond (.t 27) (.seq (.region [⟨some 2, .mv (.c (.bool false)), none⟩] [] (some [2])) .ret) .skip)) (.seq (.region [⟨some 28, .mv (.t 0), none⟩,
    ⟨some 29, .len (.t 28), none⟩,
    ⟨some 30, .bin .i .sub (.t 29) (.c (.int .i64 1)), none⟩,
    ⟨some 4, .mv (.t 30), none⟩] [] (some [0, 3, 4])) (.seq (.block 2 (.loop false (some [0, 3, 4]) c_impl_nextOrder_l1)) (.seq (.region [⟨some 42, .mv (.t 0), none⟩,
    ⟨some 43, .mv (.t 3), none⟩,
    ⟨some 44, .mv (.t 0), none⟩,
    ⟨some 45, .mv (.t 4), none⟩,
    ⟨some 46, .mv (.t 0), none⟩,
    ⟨some 47, .mv (.t 4), none⟩,
    ⟨some 48, .iaddr 1 (.t 46) (.t 47), none⟩,
    ⟨some 49, .load 1 false (.t 48), none⟩,
    ⟨some 50, .mv (.t 0), none⟩,
    ⟨some 51, .mv (.t 3), none⟩,
    ⟨some 52, .iaddr 1 (.t 50) (.t 51), none⟩,
    ⟨some 53, .load 1 false (.t 52), none⟩,
    ⟨some 54, .iaddr 1 (.t 42) (.t 43), none⟩,
    ⟨none, .store 1 (.t 54) (.t 49), none⟩,
    ⟨some 55, .iaddr 1 (.t 44) (.t 45), none⟩,
    ⟨none, .store 1 (.t 55) (.t 53), none⟩] [] (some [0, 3])) (.seq (.seq (.region [⟨some 56, .mv (.t 3), none⟩,
    ⟨some 57, .bin .i .add (.t 56) (.c (.int .i64 1)), none⟩,
    ⟨some 58, .mv (.t 0), none⟩,
    ⟨some 59, .len (.t 58), none⟩,
    ⟨some 60, .bin .i .sub (.t 59) (.c (.int .i64 1)), none⟩,
    ⟨some 5, .mv (.t 57), none⟩,
    ⟨some 6, .mv (.t 60), none⟩] [] (some [0, 5, 6])) (.block 4 (.loop false (some [0, 5, 6]) c_impl_nextOrder_l2))) (.seq (.region [⟨some 2, .mv (.c (.bool true)), none⟩] [] (some [2])) .ret))))))))) }

def c_impl_eachOrder_l0 : GC :=
  (.block 1 (.seq (.region [⟨some 7, .mv (.t 1), none⟩,
    ⟨some 8, .mv (.t 4), none⟩,
    ⟨some 9, .call false (.t 7) [(.t 8)], none⟩] [] (some [1, 4])) (.seq (.region [⟨some 10, .mv (.t 4), none⟩,
    ⟨some 11, .call false (.c (.fn n_impl_nextOrder [])) [(.t 10)], none⟩,
    ⟨some 12, .un .not (.t 11), none⟩] [] (some [1, 4, 12])) (.cond (.t 12) .ret .skip))))
/-- impl.eachOrder -/
def c_impl_eachOrder : GFun := { ntmps := 13, results := [], shared := true, body :=
  (.seq (.region [⟨some 5, .mv (.t 0), none⟩,
    ⟨some 6, .call true (.c (.fn n_impl_numbersTo [])) [(.t 5)], none⟩,
    ⟨some 4, .mvo (.t 4) (.t 6), none⟩] [] (some [1, 4])) (.block 0 (.loop false (some [1, 4]) c_impl_eachOrder_l0))) }

def c_impl_endsOf_l0 : GC :=
  (.seq (.region [⟨some 15, .bin .i .lss (.t 14) (.t 13), none⟩] [] (some [0, 5, 6, 12, 13, 14, 15])) (.seq (.cond (.t 15) .skip (.exit 0)) (.seq (.block 1 (.seq (.region [⟨some 16, .iaddr 1 (.t 12) (.t 14), none⟩,
    ⟨some 17, .load 1 false (.t 16), none⟩,
    ⟨some 8, .mv (.t 17), none⟩] [] (some [0, 5, 6, 8, 12, 13, 14])) (.seq (.region [⟨some 18, .mv (.t 6), none⟩,
    ⟨some 19, .mv (.t 0), none⟩,
    ⟨some 20, .mv (.t 8), none⟩,
    ⟨some 21, .iaddr 4 (.t 19) (.t 20), none⟩,
    ⟨some 22, .faddr 2 (.t 21), none⟩,
    ⟨some 23, .load 1 false (.t 22), none⟩,
    ⟨some 24, .mx [(.t 18), (.t 23)], none⟩,
    ⟨some 25, .mv (.t 0), none⟩,
    ⟨some 26, .mv (.t 8), none⟩,
    ⟨some 27, .iaddr 4 (.t 25) (.t 26), none⟩,
    ⟨some 28, .faddr 0 (.t 27), none⟩,
    ⟨some 29, .load 1 false (.t 28), none⟩,
    ⟨some 30, .bin .i .add (.t 24) (.t 29), none⟩,
    ⟨some 6, .mv (.t 30), none⟩] [] (some [0, 5, 6, 8, 12, 13, 14])) (.region [⟨some 31, .mv (.t 5), none⟩,
    ⟨some 32, .mv (.t 8), none⟩,
    ⟨some 33, .mv (.t 6), none⟩,
    ⟨some 34, .iaddr 1 (.t 31) (.t 32), none⟩,
    ⟨none, .store 1 (.t 34) (.t 33), none⟩] [] (some [0, 5, 6, 12, 13, 14]))))) (.region [⟨some 35, .bin .i .add (.t 14) (.c (.int .i64 1)), none⟩,
    ⟨some 14, .mv (.t 35), none⟩] [] (some [0, 5, 6, 12, 13, 14])))))
/-- impl.endsOf -/
def c_impl_endsOf : GFun := { ntmps := 37, results := [.tmp 4], shared := false, body :=
  (.seq (.region [⟨some 4, .mv (.c (.fs [])), none⟩] [] (some [0, 1, 5])) (.seq (.region [⟨some 9, .mv (.t 0), none⟩,
    ⟨some 10, .len (.t 9), none⟩,
    ⟨some 11, .mksl 1 [(.int .i64 0)] 8 (.t 10) (.t 10), none⟩,
    ⟨some 5, .mvo (.t 5) (.t 11), none⟩] [] (some [0, 1, 5])) (.seq (.region [⟨some 6, .mv (.c (.int .i64 0)), none⟩] [] (some [0, 1, 5, 6])) (.seq (.seq (.region [⟨some 12, .mv (.t 1), none⟩,
    ⟨some 13, .len (.t 12), none⟩,
    ⟨some 14, .mv (.c (.int .i64 0)), none⟩] [] (some [0, 5, 6, 12, 13, 14])) (.block 0 (.loop false (some [0, 5, 6, 12, 13, 14]) c_impl_endsOf_l0))) (.seq (.region [⟨some 36, .mv (.t 5), none⟩,
    ⟨some 4, .mv (.t 36), none⟩] [] (some [4])) .ret))))) }

def c_impl_valueOfEnds_l0 : GC :=
  (.seq (.region [⟨some 13, .bin .i .lss (.t 12) (.t 11), none⟩] [] (some [1, 2, 7, 10, 11, 12, 13])) (.seq (.cond (.t 13) .skip (.exit 0)) (.seq (.block 1 (.seq (.region [⟨some 14, .mv (.t 12), none⟩,
    ⟨some 15, .iaddr 4 (.t 10) (.t 12), none⟩,
    ⟨some 16, .load 4 true (.t 15), none⟩,
    ⟨some 9, .alloc [(.int .i64 0), (.int .i64 0), (.int .i64 0), (.int .i64 0)], none⟩,
    ⟨some 8, .mv (.t 14), none⟩,
    ⟨none, .store 4 (.t 9) (.t 16), none⟩] [] (some [1, 2, 7, 8, 9, 10, 11, 12])) (.region [⟨some 17, .mv (.t 7), none⟩,
    ⟨some 18, .load 4 true (.t 9), none⟩,
    ⟨some 19, .mv (.t 1), none⟩,
    ⟨some 20, .mv (.t 8), none⟩,
    ⟨some 21, .iaddr 1 (.t 19) (.t 20), none⟩,
    ⟨some 22, .load 1 false (.t 21), none⟩,
    ⟨some 23, .mv (.t 2), none⟩,
    ⟨some 24, .mv (.t 8), none⟩,
    ⟨some 25, .bin .i .eql (.t 24) (.c (.int .i64 0)), none⟩,
    ⟨some 26, .call false (.c (.fn n_impl_add [])) [(.t 17), (.t 18), (.t 22), (.t 23), (.t 25)], none⟩,
    ⟨some 7, .mv (.t 26), none⟩] [] (some [1, 2, 7, 10, 11, 12])))) (.region [⟨some 27, .bin .i .add (.t 12) (.c (.int .i64 1)), none⟩,
    ⟨some 12, .mv (.t 27), none⟩] [] (some [1, 2, 7, 10, 11, 12])))))
/-- impl.valueOfEnds -/
def c_impl_valueOfEnds : GFun := { ntmps := 29, results := [.tmp 6], shared := false, body :=
  (.seq (.region [⟨some 6, .mv (.c (.int .i64 0)), none⟩] [] (some [0, 1, 2])) (.seq (.region [⟨some 7, .mv (.c (.int .i64 0)), none⟩] [] (some [0, 1, 2, 7])) (.seq (.seq (.region [⟨some 10, .mv (.t 0), none⟩,
    ⟨some 11, .len (.t 10), none⟩,
    ⟨some 12, .mv (.c (.int .i64 0)), none⟩] [] (some [1, 2, 7, 10, 11, 12])) (.block 0 (.loop false (some [1, 2, 7, 10, 11, 12]) c_impl_valueOfEnds_l0))) (.seq (.region [⟨some 28, .mv (.t 7), none⟩,
    ⟨some 6, .mv (.t 28), none⟩] [] (some [6])) .ret)))) }

/-- impl.valueOf -/
def c_impl_valueOf : GFun := { ntmps := 13, results := [.tmp 6], shared := false, body :=
  (.seq (.region [⟨some 6, .mv (.c (.int .i64 0)), none⟩] [] (some [0, 1, 2])) (.seq (.region [⟨some 7, .mv (.t 0), none⟩,
    ⟨some 8, .mv (.t 0), none⟩,
    ⟨some 9, .mv (.t 1), none⟩,
    ⟨some 10, .call false (.c (.fn n_impl_endsOf [])) [(.t 8), (.t 9)], none⟩,
    ⟨some 11, .mv (.t 2), none⟩,
    ⟨some 12, .call false (.c (.fn n_impl_valueOfEnds [])) [(.t 7), (.t 10), (.t 11)], none⟩,
    ⟨some 6, .mv (.t 12), none⟩] [] (some [6])) .ret)) }

/-- impl.copyInts -/
def c_impl_copyInts : GFun := { ntmps := 6, results := [.tmp 2], shared := false, body :=
  (.seq (.region [⟨some 2, .mv (.c (.fs [])), none⟩] [] (some [0])) (.seq (.region [⟨some 3, .bsl true 1 [(.int .i64 0)] 0 [], none⟩,
    ⟨some 4, .mv (.t 0), none⟩,
    ⟨some 5, .append false 1 8 (.t 3) (.t 4), none⟩,
    ⟨some 2, .mv (.t 5), none⟩] [] (some [2])) .ret)) }

/-- impl.best$1 -/
def c_impl_best_c1 : GFun := { ntmps := 29, results := [], shared := true, body :=
  (.seq (.region [⟨some 8, .load 1 false (.t 1), none⟩,
    ⟨some 9, .mv (.t 0), none⟩,
    ⟨some 10, .load 1 false (.t 2), none⟩,
    ⟨some 11, .call false (.c (.fn n_impl_valueOf [])) [(.t 8), (.t 9), (.t 10)], none⟩,
    ⟨some 7, .mv (.t 11), none⟩] [] (some [0, 3, 4, 5, 7])) (.block 0 (.seq (.region [⟨some 13, .load 1 false (.t 3), none⟩,
    ⟨some 14, .bin .i .eql (.t 13) (.c (.int .i64 0)), none⟩,
    ⟨some 15, .mv (.t 14), none⟩,
    ⟨some 16, .mv (.t 7), some (15, false)⟩,
    ⟨some 17, .load 1 false (.t 4), some (15, false)⟩,
    ⟨some 18, .bin .i .lss (.t 16) (.t 17), some (15, false)⟩,
    ⟨some 19, .pick (.t 15) (.c (.bool true)) (.t 18), none⟩,
    ⟨some 12, .mv (.t 19), none⟩] [] (some [0, 3, 4, 5, 7, 12])) (.cond (.t 12) (.region [⟨some 20, .mv (.t 0), none⟩,
    ⟨some 21, .call false (.c (.fn n_impl_copyInts [])) [(.t 20)], none⟩,
    ⟨some 22, .mv (.t 7), none⟩,
    ⟨none, .store 1 (.t 5) (.t 21), none⟩,
    ⟨none, .store 1 (.t 4) (.t 22), none⟩,
    ⟨none, .store 1 (.t 3) (.c (.int .i64 1)), none⟩] [] (some [])) (.seq (.region [⟨some 24, .mv (.t 7), none⟩,
    ⟨some 25, .load 1 false (.t 4), none⟩,
    ⟨some 26, .bin .i .eql (.t 24) (.t 25), none⟩,
    ⟨some 23, .mv (.t 26), none⟩] [] (some [3, 23])) (.cond (.t 23) (.region [⟨some 27, .load 1 false (.t 3), none⟩,
    ⟨some 28, .bin .i .add (.t 27) (.c (.int .i64 1)), none⟩,
    ⟨none, .store 1 (.t 3) (.t 28), none⟩] [] (some [])) .skip)))))) }

/-- impl.best -/
def c_impl_best : GFun := { ntmps := 17, results := [.tmp 4, .tmp 5, .tmp 6], shared := false, body :=
  (.seq (.region [⟨some 2, .box 1 (.t 0), none⟩,
    ⟨some 3, .box 1 (.t 1), none⟩,
    ⟨some 4, .mv (.c (.fs [])), none⟩,
    ⟨some 5, .mv (.c (.int .i64 0)), none⟩,
    ⟨some 6, .mv (.c (.int .i64 0)), none⟩] [] (some [2, 3])) (.seq (.region [⟨some 7, .alloc [(.fs [])], none⟩] [] (some [2, 3, 7])) (.seq (.region [⟨some 8, .alloc [(.int .i64 0)], none⟩,
    ⟨some 9, .alloc [(.int .i64 0)], none⟩,
    ⟨none, .store 1 (.t 8) (.c (.int .i64 0)), none⟩,
    ⟨none, .store 1 (.t 9) (.c (.int .i64 0)), none⟩] [] (some [2, 3, 7, 8, 9])) (.seq (.region [⟨some 10, .load 1 false (.t 2), none⟩,
    ⟨some 11, .len (.t 10), none⟩,
    ⟨some 12, .mkfn n_impl_best_c1 [(.t 2), (.t 3), (.t 9), (.t 8), (.t 7)], none⟩,
    ⟨some 13, .call false (.c (.fn n_impl_eachOrder [])) [(.t 11), (.t 12)], none⟩] [] (some [7, 8, 9])) (.seq (.region [⟨some 14, .load 1 false (.t 7), none⟩,
    ⟨some 15, .load 1 false (.t 8), none⟩,
    ⟨some 16, .load 1 false (.t 9), none⟩,
    ⟨some 4, .mv (.t 14), none⟩,
    ⟨some 5, .mv (.t 15), none⟩,
    ⟨some 6, .mv (.t 16), none⟩] [] (some [4, 5, 6])) .ret))))) }

/-- impl.BestValue -/
def c_impl_BestValue : GFun := { ntmps := 25, results := [.tmp 4, .tmp 5], shared := false, body :=
  (.seq (.region [⟨some 4, .mv (.c (.int .i64 0)), none⟩,
    ⟨some 5, .mv (.c (.bool false)), none⟩] [] (some [0, 1])) (.seq (.seq (.region [⟨some 9, .mv (.t 0), none⟩,
    ⟨some 10, .call false (.c (.fn n_impl_IsJobs [])) [(.t 9)], none⟩,
    ⟨some 11, .un .not (.t 10), none⟩,
    ⟨some 12, .mv (.t 11), none⟩,
    ⟨some 13, .mv (.t 1), some (12, false)⟩,
    ⟨some 14, .call false (.c (.fn n_impl_isObjective [])) [(.t 13)], some (12, false)⟩,
    ⟨some 15, .un .not (.t 14), some (12, false)⟩,
    ⟨some 16, .pick (.t 12) (.c (.bool true)) (.t 15), none⟩] [] (some [0, 1, 16])) (.cond (.t 16) (.seq (.region [⟨some 4, .mv (.c (.int .i64 0)), none⟩,
    ⟨some 5, .mv (.c (.bool false)), none⟩] [] (some [4, 5])) .ret) .skip)) (.seq (.region [⟨some 18, .mv (.t 0), none⟩,
    ⟨some 19, .mv (.t 1), none⟩,
    ⟨some 20, .call false (.c (.fn n_impl_best [])) [(.t 18), (.t 19)], none⟩,
    ⟨some 17, .mv (.t 20), none⟩,
    ⟨some 21, .ext 0 (.t 17), none⟩,
    ⟨some 22, .ext 1 (.t 17), none⟩,
    ⟨some 23, .ext 2 (.t 17), none⟩,
    ⟨some 6, .mv (.t 21), none⟩,
    ⟨some 7, .mv (.t 22), none⟩,
    ⟨some 8, .mv (.t 23), none⟩] [] (some [7])) (.seq (.region [⟨some 24, .mv (.t 7), none⟩,
    ⟨some 4, .mv (.t 24), none⟩,
    ⟨some 5, .mv (.c (.bool true)), none⟩] [] (some [4, 5])) .ret)))) }

def c_spec_l1Has_l0 : GC :=
  (.seq (.seq (.region [⟨some 6, .mv (.t 5), none⟩,
    ⟨some 7, .mv (.t 0), none⟩,
    ⟨some 8, .len (.t 7), none⟩,
    ⟨some 9, .bin .i .lss (.t 6) (.t 8), none⟩] [] (some [0, 1, 5, 9])) (.cond (.t 9) .skip (.exit 0))) (.seq (.block 1 (.seq (.region [⟨some 12, .mv (.t 0), none⟩,
    ⟨some 13, .mv (.t 5), none⟩,
    ⟨some 14, .iaddr 1 (.t 12) (.t 13), none⟩,
    ⟨some 15, .load 1 false (.t 14), none⟩,
    ⟨some 16, .mv (.t 1), none⟩,
    ⟨some 17, .bin .i .eql (.t 15) (.t 16), none⟩] [] (some [0, 1, 5, 17])) (.cond (.t 17) (.seq (.region [⟨some 4, .mv (.c (.bool true)), none⟩] [] (some [4])) .ret) .skip))) (.region [⟨some 10, .mv (.t 5), none⟩,
    ⟨some 11, .bin .i .add (.t 10) (.c (.int .i64 1)), none⟩,
    ⟨some 5, .mv (.t 11), none⟩] [] (some [0, 1, 5]))))
/-- spec.l1Has -/
def c_spec_l1Has : GFun := { ntmps := 18, results := [.tmp 4], shared := false, body :=
  (.seq (.region [⟨some 4, .mv (.c (.bool false)), none⟩] [] (some [0, 1])) (.seq (.seq (.region [⟨some 5, .mv (.c (.int .i64 0)), none⟩] [] (some [0, 1, 5])) (.block 0 (.loop false (some [0, 1, 5]) c_spec_l1Has_l0))) (.seq (.region [⟨some 4, .mv (.c (.bool false)), none⟩] [] (some [4])) .ret))) }

/-- spec.l1Own -/
def c_spec_l1Own : GFun := { ntmps := 6, results := [.tmp 2], shared := false, body :=
  (.seq (.region [⟨some 2, .nilo 1, none⟩] [] (some [0])) (.seq (.region [⟨some 3, .bsl true 1 [(.int .i64 0)] 0 [], none⟩,
    ⟨some 4, .mv (.t 0), none⟩,
    ⟨some 5, .append false 1 8 (.t 3) (.t 4), none⟩,
    ⟨some 2, .mv (.t 5), none⟩] [] (some [2])) .ret)) }

def c_spec_l2Starts_l0 : GC :=
  (.seq (.seq (.region [⟨some 11, .mv (.t 7), none⟩,
    ⟨some 12, .mv (.t 1), none⟩,
    ⟨some 13, .len (.t 12), none⟩,
    ⟨some 14, .bin .i .lss (.t 11) (.t 13), none⟩] [] (some [0, 1, 5, 6, 7, 14])) (.cond (.t 14) .skip (.exit 0))) (.seq (.block 1 (.seq (.region [⟨some 17, .mv (.t 5), none⟩,
    ⟨some 18, .mv (.t 1), none⟩,
    ⟨some 19, .mv (.t 7), none⟩,
    ⟨some 20, .iaddr 1 (.t 18) (.t 19), none⟩,
    ⟨some 21, .load 1 false (.t 20), none⟩,
    ⟨some 22, .mv (.t 6), none⟩,
    ⟨some 23, .mv (.t 0), none⟩,
    ⟨some 24, .mv (.t 1), none⟩,
    ⟨some 25, .mv (.t 7), none⟩,
    ⟨some 26, .iaddr 1 (.t 24) (.t 25), none⟩,
    ⟨some 27, .load 1 false (.t 26), none⟩,
    ⟨some 28, .iaddr 4 (.t 23) (.t 27), none⟩,
    ⟨some 29, .faddr 2 (.t 28), none⟩,
    ⟨some 30, .load 1 false (.t 29), none⟩,
    ⟨some 31, .call false (.c (.fn n_spec_l1Most [])) [(.t 22), (.t 30)], none⟩,
    ⟨some 32, .iaddr 1 (.t 17) (.t 21), none⟩,
    ⟨none, .store 1 (.t 32) (.t 31), none⟩] [(4, 14)] (some [0, 1, 5, 7])) (.region [⟨some 33, .mv (.t 5), none⟩,
    ⟨some 34, .mv (.t 1), none⟩,
    ⟨some 35, .mv (.t 7), none⟩,
    ⟨some 36, .iaddr 1 (.t 34) (.t 35), none⟩,
    ⟨some 37, .load 1 false (.t 36), none⟩,
    ⟨some 38, .iaddr 1 (.t 33) (.t 37), none⟩,
    ⟨some 39, .load 1 false (.t 38), none⟩,
    ⟨some 40, .mv (.t 0), none⟩,
    ⟨some 41, .mv (.t 1), none⟩,
    ⟨some 42, .mv (.t 7), none⟩,
    ⟨some 43, .iaddr 1 (.t 41) (.t 42), none⟩,
    ⟨some 44, .load 1 false (.t 43), none⟩,
    ⟨some 45, .iaddr 4 (.t 40) (.t 44), none⟩,
    ⟨some 46, .faddr 0 (.t 45), none⟩,
    ⟨some 47, .load 1 false (.t 46), none⟩,
    ⟨some 48, .bin .i .add (.t 39) (.t 47), none⟩,
    ⟨some 6, .mv (.t 48), none⟩] [] (some [0, 1, 5, 6, 7])))) (.region [⟨some 15, .mv (.t 7), none⟩,
    ⟨some 16, .bin .i .add (.t 15) (.c (.int .i64 1)), none⟩,
    ⟨some 7, .mv (.t 16), none⟩] [] (some [0, 1, 5, 6, 7]))))
/-- spec.l2Starts -/
def c_spec_l2Starts : GFun := { ntmps := 50, results := [.tmp 4], shared := false, body :=
  (.seq (.region [⟨some 4, .nilo 1, none⟩] [] (some [0, 1, 5])) (.seq (.region [⟨some 8, .mv (.t 0), none⟩,
    ⟨some 9, .len (.t 8), none⟩,
    ⟨some 10, .mksl 1 [(.int .i64 0)] 8 (.t 9) (.t 9), none⟩,
    ⟨some 5, .mvo (.t 5) (.t 10), none⟩,
    ⟨some 6, .mv (.c (.int .i64 0)), none⟩] [] (some [0, 1, 5, 6])) (.seq (.seq (.region [⟨some 7, .mv (.c (.int .i64 0)), none⟩] [] (some [0, 1, 5, 6, 7])) (.block 0 (.loop false (some [0, 1, 5, 6, 7]) c_spec_l2Starts_l0))) (.seq (.region [⟨some 49, .mv (.t 5), none⟩,
    ⟨some 4, .mv (.t 49), none⟩] [] (some [4])) .ret)))) }

def c_spec_l2Ends_l0 : GC :=
  (.seq (.seq (.region [⟨some 10, .mv (.t 6), none⟩,
    ⟨some 11, .mv (.t 0), none⟩,
    ⟨some 12, .len (.t 11), none⟩,
    ⟨some 13, .bin .i .lss (.t 10) (.t 12), none⟩] [] (some [0, 5, 6, 13])) (.cond (.t 13) .skip (.exit 0))) (.seq (.block 1 (.region [⟨some 16, .mv (.t 5), none⟩,
    ⟨some 17, .mv (.t 6), none⟩,
    ⟨some 18, .mv (.t 5), none⟩,
    ⟨some 19, .mv (.t 6), none⟩,
    ⟨some 20, .iaddr 1 (.t 18) (.t 19), none⟩,
    ⟨some 21, .load 1 false (.t 20), none⟩,
    ⟨some 22, .mv (.t 0), none⟩,
    ⟨some 23, .mv (.t 6), none⟩,
    ⟨some 24, .iaddr 4 (.t 22) (.t 23), none⟩,
    ⟨some 25, .faddr 0 (.t 24), none⟩,
    ⟨some 26, .load 1 false (.t 25), none⟩,
    ⟨some 27, .bin .i .add (.t 21) (.t 26), none⟩,
    ⟨some 28, .iaddr 1 (.t 16) (.t 17), none⟩,
    ⟨none, .store 1 (.t 28) (.t 27), none⟩] [] (some [0, 5, 6]))) (.region [⟨some 14, .mv (.t 6), none⟩,
    ⟨some 15, .bin .i .add (.t 14) (.c (.int .i64 1)), none⟩,
    ⟨some 6, .mv (.t 15), none⟩] [] (some [0, 5, 6]))))
/-- spec.l2Ends -/
def c_spec_l2Ends : GFun := { ntmps := 30, results := [.tmp 4], shared := false, body :=
  (.seq (.region [⟨some 4, .mv (.c (.fs [])), none⟩] [] (some [0, 1, 5])) (.seq (.region [⟨some 7, .mv (.t 0), none⟩,
    ⟨some 8, .mv (.t 1), none⟩,
    ⟨some 9, .call true (.c (.fn n_spec_l2Starts [])) [(.t 7), (.t 8)], none⟩,
    ⟨some 5, .mvo (.t 5) (.t 9), none⟩] [] (some [0, 5])) (.seq (.seq (.region [⟨some 6, .mv (.c (.int .i64 0)), none⟩] [] (some [0, 5, 6])) (.block 0 (.loop false (some [0, 5, 6]) c_spec_l2Ends_l0))) (.seq (.region [⟨some 29, .mv (.t 5), none⟩,
    ⟨some 4, .mv (.t 29), none⟩] [] (some [4])) .ret)))) }

def c_spec_l2Of_l0 : GC :=
  (.seq (.seq (.region [⟨some 10, .mv (.t 8), none⟩,
    ⟨some 11, .mv (.t 0), none⟩,
    ⟨some 12, .len (.t 11), none⟩,
    ⟨some 13, .bin .i .lss (.t 10) (.t 12), none⟩] [] (some [0, 1, 2, 7, 8, 13])) (.cond (.t 13) .skip (.exit 0))) (.seq (.block 1 (.seq (.seq (.region [⟨some 16, .mv (.t 2), none⟩,
    ⟨some 17, .call false (.c (.fn n_spec_l2Greatest [])) [(.t 16)], none⟩,
    ⟨some 18, .un .not (.t 17), none⟩] [] (some [0, 1, 2, 7, 8, 18])) (.cond (.t 18) (.seq (.region [⟨some 19, .mv (.t 7), none⟩,
    ⟨some 20, .mv (.t 0), none⟩,
    ⟨some 21, .mv (.t 8), none⟩,
    ⟨some 22, .iaddr 4 (.t 20) (.t 21), none⟩,
    ⟨some 23, .load 4 true (.t 22), none⟩,
    ⟨some 24, .mv (.t 1), none⟩,
    ⟨some 25, .mv (.t 8), none⟩,
    ⟨some 26, .iaddr 1 (.t 24) (.t 25), none⟩,
    ⟨some 27, .load 1 false (.t 26), none⟩,
    ⟨some 28, .mv (.t 2), none⟩,
    ⟨some 29, .call false (.c (.fn n_spec_l2Cost [])) [(.t 23), (.t 27), (.t 28)], none⟩,
    ⟨some 30, .bin .i .add (.t 19) (.t 29), none⟩,
    ⟨some 7, .mv (.t 30), none⟩] [] (some [0, 1, 2, 7, 8])) (.exit 1)) .skip)) (.seq (.region [⟨some 31, .mv (.t 1), none⟩,
    ⟨some 32, .mv (.t 8), none⟩,
    ⟨some 33, .iaddr 1 (.t 31) (.t 32), none⟩,
    ⟨some 34, .load 1 false (.t 33), none⟩,
    ⟨some 9, .mv (.t 34), none⟩] [] (some [0, 1, 2, 7, 8, 9])) (.seq (.seq (.region [⟨some 35, .mv (.t 2), none⟩,
    ⟨some 36, .bin .i .eql (.t 35) (.c (.int .i64 4)), none⟩] [] (some [0, 1, 2, 7, 8, 9, 36])) (.cond (.t 36) (.region [⟨some 37, .mv (.t 9), none⟩,
    ⟨some 38, .mv (.t 0), none⟩,
    ⟨some 39, .mv (.t 8), none⟩,
    ⟨some 40, .iaddr 4 (.t 38) (.t 39), none⟩,
    ⟨some 41, .faddr 3 (.t 40), none⟩,
    ⟨some 42, .load 1 false (.t 41), none⟩,
    ⟨some 43, .bin .i .sub (.t 37) (.t 42), none⟩,
    ⟨some 9, .mv (.t 43), none⟩] [] (some [0, 1, 2, 7, 8, 9])) .skip)) (.seq (.region [⟨some 44, .mv (.t 8), none⟩,
    ⟨some 45, .bin .i .eql (.t 44) (.c (.int .i64 0)), none⟩,
    ⟨some 46, .mv (.t 45), none⟩,
    ⟨some 47, .mv (.t 9), some (46, false)⟩,
    ⟨some 48, .mv (.t 7), some (46, false)⟩,
    ⟨some 49, .bin .i .gtr (.t 47) (.t 48), some (46, false)⟩,
    ⟨some 50, .pick (.t 46) (.c (.bool true)) (.t 49), none⟩] [] (some [0, 1, 2, 7, 8, 9, 50])) (.cond (.t 50) (.region [⟨some 51, .mv (.t 9), none⟩,
    ⟨some 7, .mv (.t 51), none⟩] [] (some [0, 1, 2, 7, 8])) .skip)))))) (.region [⟨some 14, .mv (.t 8), none⟩,
    ⟨some 15, .bin .i .add (.t 14) (.c (.int .i64 1)), none⟩,
    ⟨some 8, .mv (.t 15), none⟩] [] (some [0, 1, 2, 7, 8]))))
/-- spec.l2Of -/
def c_spec_l2Of : GFun := { ntmps := 53, results := [.tmp 6], shared := false, body :=
  (.seq (.region [⟨some 6, .mv (.c (.int .i64 0)), none⟩] [] (some [0, 1, 2])) (.seq (.region [⟨some 7, .mv (.c (.int .i64 0)), none⟩] [] (some [0, 1, 2, 7])) (.seq (.seq (.region [⟨some 8, .mv (.c (.int .i64 0)), none⟩] [] (some [0, 1, 2, 7, 8])) (.block 0 (.loop false (some [0, 1, 2, 7, 8]) c_spec_l2Of_l0))) (.seq (.region [⟨some 52, .mv (.t 7), none⟩,
    ⟨some 6, .mv (.t 52), none⟩] [] (some [6])) .ret)))) }

/-- spec.l2Value -/
def c_spec_l2Value : GFun := { ntmps := 13, results := [.tmp 6], shared := false, body :=
  (.seq (.region [⟨some 6, .mv (.c (.int .i64 0)), none⟩] [] (some [0, 1, 2])) (.seq (.region [⟨some 7, .mv (.t 0), none⟩,
    ⟨some 8, .mv (.t 0), none⟩,
    ⟨some 9, .mv (.t 1), none⟩,
    ⟨some 10, .call false (.c (.fn n_spec_l2Ends [])) [(.t 8), (.t 9)], none⟩,
    ⟨some 11, .mv (.t 2), none⟩,
    ⟨some 12, .call false (.c (.fn n_spec_l2Of [])) [(.t 7), (.t 10), (.t 11)], none⟩,
    ⟨some 6, .mv (.t 12), none⟩] [] (some [6])) .ret)) }

def c_spec_l2Try_l0 : GC :=
  (.seq (.seq (.region [⟨some 42, .mv (.t 10), none⟩,
    ⟨some 43, .mv (.t 0), none⟩,
    ⟨some 44, .len (.t 43), none⟩,
    ⟨some 45, .bin .i .lss (.t 42) (.t 44), none⟩] [] (some [0, 1, 2, 7, 8, 10, 45])) (.cond (.t 45) .skip (.exit 0))) (.seq (.block 1 (.seq (.region [⟨some 48, .mv (.t 1), none⟩,
    ⟨some 49, .mv (.t 10), none⟩,
    ⟨some 50, .call false (.c (.fn n_spec_l1Has [])) [(.t 48), (.t 49)], none⟩,
    ⟨some 51, .un .not (.t 50), none⟩] [] (some [0, 1, 2, 7, 8, 10, 51])) (.cond (.t 51) (.region [⟨some 52, .mv (.t 0), none⟩,
    ⟨some 53, .mv (.t 1), none⟩,
    ⟨some 54, .call true (.c (.fn n_spec_l1Own [])) [(.t 53)], none⟩,
    ⟨some 55, .mv (.t 10), none⟩,
    ⟨some 56, .bsl false 1 [(.int .i64 0)] 1 [(0, (.t 55))], none⟩,
    ⟨some 57, .append true 1 8 (.t 54) (.t 56), none⟩,
    ⟨some 58, .mv (.t 2), none⟩,
    ⟨some 59, .load 3 true (.t 7), none⟩,
    ⟨some 60, .call false (.c (.fn n_spec_l2Try [])) [(.t 52), (.t 57), (.t 58), (.t 59)], none⟩,
    ⟨none, .store 3 (.t 7) (.t 60), none⟩] [(2, 7), (5, 7)] (some [0, 1, 2, 7, 8, 10])) .skip))) (.region [⟨some 46, .mv (.t 10), none⟩,
    ⟨some 47, .bin .i .add (.t 46) (.c (.int .i64 1)), none⟩,
    ⟨some 10, .mv (.t 47), none⟩] [] (some [0, 1, 2, 7, 8, 10]))))
/-- spec.l2Try -/
def c_spec_l2Try : GFun := { ntmps := 62, results := [.cell 8 3 true], shared := false, body :=
  (.seq (.region [⟨some 7, .box 3 (.t 3), none⟩,
    ⟨some 8, .alloc [(.fs []), (.int .i64 0), (.int .i64 0)], none⟩] [] (some [0, 1, 2, 7, 8])) (.seq (.seq (.region [⟨some 11, .mv (.t 1), none⟩,
    ⟨some 12, .len (.t 11), none⟩,
    ⟨some 13, .mv (.t 0), none⟩,
    ⟨some 14, .len (.t 13), none⟩,
    ⟨some 15, .bin .i .eql (.t 12) (.t 14), none⟩] [] (some [0, 1, 2, 7, 8, 15])) (.cond (.t 15) (.seq (.region [⟨some 16, .mv (.t 0), none⟩,
    ⟨some 17, .mv (.t 1), none⟩,
    ⟨some 18, .mv (.t 2), none⟩,
    ⟨some 19, .call false (.c (.fn n_spec_l2Value [])) [(.t 16), (.t 17), (.t 18)], none⟩,
    ⟨some 9, .mv (.t 19), none⟩] [] (some [1, 7, 8, 9])) (.seq (.seq (.region [⟨some 20, .faddr 2 (.t 7), none⟩,
    ⟨some 21, .load 1 false (.t 20), none⟩,
    ⟨some 22, .bin .i .eql (.t 21) (.c (.int .i64 0)), none⟩,
    ⟨some 23, .mv (.t 22), none⟩,
    ⟨some 24, .mv (.t 9), some (23, false)⟩,
    ⟨some 25, .faddr 1 (.t 7), some (23, false)⟩,
    ⟨some 26, .load 1 false (.t 25), some (23, false)⟩,
    ⟨some 27, .bin .i .lss (.t 24) (.t 26), some (23, false)⟩,
    ⟨some 28, .pick (.t 23) (.c (.bool true)) (.t 27), none⟩] [] (some [1, 7, 8, 9, 28])) (.cond (.t 28) (.seq (.region [⟨some 29, .mv (.t 1), none⟩,
    ⟨some 30, .call false (.c (.fn n_spec_l1Own [])) [(.t 29)], none⟩,
    ⟨some 31, .mv (.t 9), none⟩,
    ⟨some 32, .build [(.fs []), (.int .i64 0), (.int .i64 0)] [(0, 1, (.t 30)), (1, 1, (.t 31)), (2, 1, (.c (.int .i64 1)))], none⟩,
    ⟨none, .store 3 (.t 8) (.t 32), none⟩] [] (some [8])) .ret) .skip)) (.seq (.seq (.region [⟨some 33, .mv (.t 9), none⟩,
    ⟨some 34, .faddr 1 (.t 7), none⟩,
    ⟨some 35, .load 1 false (.t 34), none⟩,
    ⟨some 36, .bin .i .eql (.t 33) (.t 35), none⟩] [] (some [7, 8, 36])) (.cond (.t 36) (.region [⟨some 37, .faddr 2 (.t 7), none⟩,
    ⟨some 38, .load 1 false (.t 37), none⟩,
    ⟨some 39, .bin .i .add (.t 38) (.c (.int .i64 1)), none⟩,
    ⟨some 40, .faddr 2 (.t 7), none⟩,
    ⟨none, .store 1 (.t 40) (.t 39), none⟩] [] (some [7, 8])) .skip)) (.seq (.region [⟨some 41, .load 3 true (.t 7), none⟩,
    ⟨none, .store 3 (.t 8) (.t 41), none⟩] [] (some [8])) .ret)))) .skip)) (.seq (.seq (.region [⟨some 10, .mv (.c (.int .i64 0)), none⟩] [] (some [0, 1, 2, 7, 8, 10])) (.block 0 (.loop false (some [0, 1, 2, 7, 8, 10]) c_spec_l2Try_l0))) (.seq (.region [⟨some 61, .load 3 true (.t 7), none⟩,
    ⟨none, .store 3 (.t 8) (.t 61), none⟩] [] (some [8])) .ret)))) }

/-- spec.l2All -/
def c_spec_l2All : GFun := { ntmps := 10, results := [.cell 4 3 true], shared := false, body :=
  (.seq (.region [⟨some 4, .alloc [(.fs []), (.int .i64 0), (.int .i64 0)], none⟩] [] (some [0, 1, 4])) (.seq (.region [⟨some 5, .mv (.t 0), none⟩,
    ⟨some 6, .bsl false 1 [(.int .i64 0)] 0 [], none⟩,
    ⟨some 7, .mv (.t 1), none⟩,
    ⟨some 8, .build [(.fs []), (.int .i64 0), (.int .i64 0)] [], none⟩,
    ⟨some 9, .call false (.c (.fn n_spec_l2Try [])) [(.t 5), (.t 6), (.t 7), (.t 8)], none⟩,
    ⟨none, .store 3 (.t 4) (.t 9), none⟩] [] (some [4])) .ret)) }

/-- spec.l2Best -/
def c_spec_l2Best : GFun := { ntmps := 14, results := [.tmp 4, .tmp 5], shared := false, body :=
  (.seq (.region [⟨some 4, .mv (.c (.fs [])), none⟩,
    ⟨some 5, .mv (.c (.int .i64 0)), none⟩] [] (some [0, 1])) (.seq (.region [⟨some 7, .mv (.t 0), none⟩,
    ⟨some 8, .mv (.t 1), none⟩,
    ⟨some 9, .call false (.c (.fn n_spec_l2All [])) [(.t 7), (.t 8)], none⟩,
    ⟨some 6, .alloc [(.fs []), (.int .i64 0), (.int .i64 0)], none⟩,
    ⟨none, .store 3 (.t 6) (.t 9), none⟩] [] (some [6])) (.seq (.region [⟨some 10, .faddr 0 (.t 6), none⟩,
    ⟨some 11, .load 1 false (.t 10), none⟩,
    ⟨some 12, .faddr 1 (.t 6), none⟩,
    ⟨some 13, .load 1 false (.t 12), none⟩,
    ⟨some 4, .mv (.t 11), none⟩,
    ⟨some 5, .mv (.t 13), none⟩] [] (some [4, 5])) .ret))) }

/-- spec.BestValue -/
def c_spec_BestValue : GFun := { ntmps := 23, results := [.tmp 4, .tmp 5], shared := false, body :=
  (.seq (.region [⟨some 4, .mv (.c (.int .i64 0)), none⟩,
    ⟨some 5, .mv (.c (.bool false)), none⟩] [] (some [0, 1])) (.seq (.seq (.region [⟨some 8, .mv (.t 0), none⟩,
    ⟨some 9, .call false (.c (.fn n_spec_l2Good [])) [(.t 8)], none⟩,
    ⟨some 10, .un .not (.t 9), none⟩,
    ⟨some 11, .mv (.t 10), none⟩,
    ⟨some 12, .mv (.t 1), some (11, false)⟩,
    ⟨some 13, .call false (.c (.fn n_spec_l2Objective [])) [(.t 12)], some (11, false)⟩,
    ⟨some 14, .un .not (.t 13), some (11, false)⟩,
    ⟨some 15, .pick (.t 11) (.c (.bool true)) (.t 14), none⟩] [] (some [0, 1, 15])) (.cond (.t 15) (.seq (.region [⟨some 4, .mv (.c (.int .i64 0)), none⟩,
    ⟨some 5, .mv (.c (.bool false)), none⟩] [] (some [4, 5])) .ret) .skip)) (.seq (.region [⟨some 17, .mv (.t 0), none⟩,
    ⟨some 18, .mv (.t 1), none⟩,
    ⟨some 19, .call false (.c (.fn n_spec_l2Best [])) [(.t 17), (.t 18)], none⟩,
    ⟨some 16, .mv (.t 19), none⟩,
    ⟨some 20, .ext 0 (.t 16), none⟩,
    ⟨some 21, .ext 1 (.t 16), none⟩,
    ⟨some 6, .mv (.t 20), none⟩,
    ⟨some 7, .mv (.t 21), none⟩] [] (some [7])) (.seq (.region [⟨some 22, .mv (.t 7), none⟩,
    ⟨some 4, .mv (.t 22), none⟩,
    ⟨some 5, .mv (.c (.bool true)), none⟩] [] (some [4, 5])) .ret)))) }

/-- laws.rBest -/
def c_laws_rBest : GFun := { ntmps := 31, results := [.tmp 4, .tmp 5], shared := false, body :=
  (.seq (.region [⟨some 4, .mv (.c (.int .i64 0)), none⟩,
    ⟨some 5, .mv (.c (.bool false)), none⟩] [] (some [0, 1])) (.seq (.region [⟨some 11, .mv (.t 0), none⟩,
    ⟨some 12, .mv (.t 1), none⟩,
    ⟨some 13, .call false (.c (.fn n_impl_BestValue [])) [(.t 11), (.t 12)], none⟩,
    ⟨some 10, .mv (.t 13), none⟩,
    ⟨some 14, .ext 0 (.t 10), none⟩,
    ⟨some 15, .ext 1 (.t 10), none⟩,
    ⟨some 6, .mv (.t 14), none⟩,
    ⟨some 7, .mv (.t 15), none⟩] [] (some [0, 1, 6, 7])) (.seq (.region [⟨some 17, .mv (.t 0), none⟩,
    ⟨some 18, .mv (.t 1), none⟩,
    ⟨some 19, .call false (.c (.fn n_spec_BestValue [])) [(.t 17), (.t 18)], none⟩,
    ⟨some 16, .mv (.t 19), none⟩,
    ⟨some 20, .ext 0 (.t 16), none⟩,
    ⟨some 21, .ext 1 (.t 16), none⟩,
    ⟨some 8, .mv (.t 20), none⟩,
    ⟨some 9, .mv (.t 21), none⟩] [] (some [6, 7, 8, 9])) (.seq (.region [⟨some 22, .mv (.t 6), none⟩,
    ⟨some 23, .mv (.t 7), none⟩,
    ⟨some 24, .mv (.t 9), none⟩,
    ⟨some 25, .bin .b .eql (.t 23) (.t 24), none⟩,
    ⟨some 26, .mv (.t 25), none⟩,
    ⟨some 27, .mv (.t 6), some (26, true)⟩,
    ⟨some 28, .mv (.t 8), some (26, true)⟩,
    ⟨some 29, .bin .i .eql (.t 27) (.t 28), some (26, true)⟩,
    ⟨some 30, .pick (.t 26) (.t 29) (.c (.bool false)), none⟩,
    ⟨some 4, .mv (.t 22), none⟩,
    ⟨some 5, .mv (.t 30), none⟩] [] (some [4, 5])) .ret)))) }

/-- impl.isNumber -/
def c_impl_isNumber : GFun := { ntmps := 9, results := [.tmp 4], shared := false, body :=
  (.seq (.region [⟨some 4, .mv (.c (.bool false)), none⟩] [] (some [0, 1])) (.seq (.region [⟨some 5, .mv (.t 0), none⟩,
    ⟨some 6, .mv (.t 1), none⟩,
    ⟨some 7, .bin .i .sub (.t 6) (.c (.int .i64 1)), none⟩,
    ⟨some 8, .call false (.c (.fn n_impl_within [])) [(.t 5), (.c (.int .i64 0)), (.t 7)], none⟩,
    ⟨some 4, .mv (.t 8), none⟩] [] (some [4])) .ret)) }

def c_impl_has_l0 : GC :=
  (.seq (.region [⟨some 10, .bin .i .lss (.t 9) (.t 8), none⟩] [] (some [1, 7, 8, 9, 10])) (.seq (.cond (.t 10) .skip (.exit 0)) (.seq (.block 1 (.seq (.region [⟨some 11, .iaddr 1 (.t 7) (.t 9), none⟩,
    ⟨some 12, .load 1 false (.t 11), none⟩,
    ⟨some 6, .mv (.t 12), none⟩] [] (some [1, 6, 7, 8, 9])) (.seq (.region [⟨some 13, .mv (.t 6), none⟩,
    ⟨some 14, .mv (.t 1), none⟩,
    ⟨some 15, .bin .i .eql (.t 13) (.t 14), none⟩] [] (some [1, 7, 8, 9, 15])) (.cond (.t 15) (.seq (.region [⟨some 4, .mv (.c (.bool true)), none⟩] [] (some [4])) .ret) .skip)))) (.region [⟨some 16, .bin .i .add (.t 9) (.c (.int .i64 1)), none⟩,
    ⟨some 9, .mv (.t 16), none⟩] [] (some [1, 7, 8, 9])))))
/-- impl.has -/
def c_impl_has : GFun := { ntmps := 17, results := [.tmp 4], shared := false, body :=
  (.seq (.region [⟨some 4, .mv (.c (.bool false)), none⟩] [] (some [0, 1])) (.seq (.seq (.region [⟨some 7, .mv (.t 0), none⟩,
    ⟨some 8, .len (.t 7), none⟩,
    ⟨some 9, .mv (.c (.int .i64 0)), none⟩] [] (some [1, 7, 8, 9])) (.block 0 (.loop false (some [1, 7, 8, 9]) c_impl_has_l0))) (.seq (.region [⟨some 4, .mv (.c (.bool false)), none⟩] [] (some [4])) .ret))) }

def c_impl_areDifferent_l0 : GC :=
  (.seq (.region [⟨some 10, .bin .i .lss (.t 9) (.t 8), none⟩] [] (some [0, 1, 7, 8, 9, 10])) (.seq (.cond (.t 10) .skip (.exit 0)) (.seq (.block 1 (.seq (.region [⟨some 11, .mv (.t 9), none⟩,
    ⟨some 12, .iaddr 1 (.t 7) (.t 9), none⟩,
    ⟨some 13, .load 1 false (.t 12), none⟩,
    ⟨some 5, .mv (.t 11), none⟩,
    ⟨some 6, .mv (.t 13), none⟩] [] (some [0, 1, 5, 6, 7, 8, 9])) (.seq (.region [⟨some 14, .mv (.t 6), none⟩,
    ⟨some 15, .mv (.t 0), none⟩,
    ⟨some 16, .call false (.c (.fn n_impl_isNumber [])) [(.t 14), (.t 15)], none⟩,
    ⟨some 17, .un .not (.t 16), none⟩,
    ⟨some 18, .mv (.t 17), none⟩,
    ⟨some 19, .mv (.t 1), some (18, false)⟩,
    ⟨some 20, .mv (.t 5), some (18, false)⟩,
    ⟨some 21, .slice 1 (.t 19) none (some (.t 20)), some (18, false)⟩,
    ⟨some 22, .mv (.t 6), some (18, false)⟩,
    ⟨some 23, .call false (.c (.fn n_impl_has [])) [(.t 21), (.t 22)], some (18, false)⟩,
    ⟨some 24, .pick (.t 18) (.c (.bool true)) (.t 23), none⟩] [] (some [0, 1, 7, 8, 9, 24])) (.cond (.t 24) (.seq (.region [⟨some 4, .mv (.c (.bool false)), none⟩] [] (some [4])) .ret) .skip)))) (.region [⟨some 25, .bin .i .add (.t 9) (.c (.int .i64 1)), none⟩,
    ⟨some 9, .mv (.t 25), none⟩] [] (some [0, 1, 7, 8, 9])))))
/-- impl.areDifferent -/
def c_impl_areDifferent : GFun := { ntmps := 26, results := [.tmp 4], shared := false, body :=
  (.seq (.region [⟨some 4, .mv (.c (.bool false)), none⟩] [] (some [0, 1])) (.seq (.seq (.region [⟨some 7, .mv (.t 1), none⟩,
    ⟨some 8, .len (.t 7), none⟩,
    ⟨some 9, .mv (.c (.int .i64 0)), none⟩] [] (some [0, 1, 7, 8, 9])) (.block 0 (.loop false (some [0, 1, 7, 8, 9]) c_impl_areDifferent_l0))) (.seq (.region [⟨some 4, .mv (.c (.bool true)), none⟩] [] (some [4])) .ret))) }

/-- impl.isOrder -/
def c_impl_isOrder : GFun := { ntmps := 14, results := [.tmp 4], shared := false, body :=
  (.seq (.region [⟨some 4, .mv (.c (.bool false)), none⟩] [] (some [0, 1])) (.seq (.region [⟨some 5, .mv (.t 1), none⟩,
    ⟨some 6, .len (.t 5), none⟩,
    ⟨some 7, .mv (.t 0), none⟩,
    ⟨some 8, .bin .i .eql (.t 6) (.t 7), none⟩,
    ⟨some 9, .mv (.t 8), none⟩,
    ⟨some 10, .mv (.t 0), some (9, true)⟩,
    ⟨some 11, .mv (.t 1), some (9, true)⟩,
    ⟨some 12, .call false (.c (.fn n_impl_areDifferent [])) [(.t 10), (.t 11)], some (9, true)⟩,
    ⟨some 13, .pick (.t 9) (.t 12) (.c (.bool false)), none⟩,
    ⟨some 4, .mv (.t 13), none⟩] [] (some [4])) .ret)) }

/-- impl.isScheduled -/
def c_impl_isScheduled : GFun := { ntmps := 13, results := [.tmp 4], shared := false, body :=
  (.seq (.region [⟨some 4, .mv (.c (.bool false)), none⟩] [] (some [0, 1])) (.seq (.region [⟨some 5, .mv (.t 0), none⟩,
    ⟨some 6, .call false (.c (.fn n_impl_IsJobs [])) [(.t 5)], none⟩,
    ⟨some 7, .mv (.t 6), none⟩,
    ⟨some 8, .mv (.t 0), some (7, true)⟩,
    ⟨some 9, .len (.t 8), some (7, true)⟩,
    ⟨some 10, .mv (.t 1), some (7, true)⟩,
    ⟨some 11, .call false (.c (.fn n_impl_isOrder [])) [(.t 9), (.t 10)], some (7, true)⟩,
    ⟨some 12, .pick (.t 7) (.t 11) (.c (.bool false)), none⟩,
    ⟨some 4, .mv (.t 12), none⟩] [] (some [4])) .ret)) }

/-- impl.isValued -/
def c_impl_isValued : GFun := { ntmps := 14, results := [.tmp 6], shared := false, body :=
  (.seq (.region [⟨some 6, .mv (.c (.bool false)), none⟩] [] (some [0, 1, 2])) (.seq (.region [⟨some 7, .mv (.t 0), none⟩,
    ⟨some 8, .mv (.t 1), none⟩,
    ⟨some 9, .call false (.c (.fn n_impl_isScheduled [])) [(.t 7), (.t 8)], none⟩,
    ⟨some 10, .mv (.t 9), none⟩,
    ⟨some 11, .mv (.t 2), some (10, true)⟩,
    ⟨some 12, .call false (.c (.fn n_impl_isObjective [])) [(.t 11)], some (10, true)⟩,
    ⟨some 13, .pick (.t 10) (.t 12) (.c (.bool false)), none⟩,
    ⟨some 6, .mv (.t 13), none⟩] [] (some [6])) .ret)) }

/-- impl.ValueOf -/
def c_impl_ValueOf : GFun := { ntmps := 17, results := [.tmp 6, .tmp 7], shared := false, body :=
  (.seq (.region [⟨some 6, .mv (.c (.int .i64 0)), none⟩,
    ⟨some 7, .mv (.c (.bool false)), none⟩] [] (some [0, 1, 2])) (.seq (.seq (.region [⟨some 8, .mv (.t 0), none⟩,
    ⟨some 9, .mv (.t 1), none⟩,
    ⟨some 10, .mv (.t 2), none⟩,
    ⟨some 11, .call false (.c (.fn n_impl_isValued [])) [(.t 8), (.t 9), (.t 10)], none⟩,
    ⟨some 12, .un .not (.t 11), none⟩] [] (some [0, 1, 2, 12])) (.cond (.t 12) (.seq (.region [⟨some 6, .mv (.c (.int .i64 0)), none⟩,
    ⟨some 7, .mv (.c (.bool false)), none⟩] [] (some [6, 7])) .ret) .skip)) (.seq (.region [⟨some 13, .mv (.t 0), none⟩,
    ⟨some 14, .mv (.t 1), none⟩,
    ⟨some 15, .mv (.t 2), none⟩,
    ⟨some 16, .call false (.c (.fn n_impl_valueOf [])) [(.t 13), (.t 14), (.t 15)], none⟩,
    ⟨some 6, .mv (.t 16), none⟩,
    ⟨some 7, .mv (.c (.bool true)), none⟩] [] (some [6, 7])) .ret))) }

def c_laws_FnSetValues_l1 : GC :=
  (.seq (.seq (.region [⟨some 162, .mv (.t 24), none⟩,
    ⟨some 163, .mv (.t 3), none⟩,
    ⟨some 164, .len (.t 163), none⟩,
    ⟨some 165, .bin .i .lss (.t 162) (.t 164), none⟩] [] (some [3, 5, 23, 24, 165])) (.cond (.t 165) .skip (.exit 2))) (.seq (.block 3 (.seq (.region [⟨some 168, .mv (.t 23), none⟩,
    ⟨some 169, .mv (.t 24), none⟩,
    ⟨some 170, .bin .i .shr (.t 168) (.t 169), none⟩,
    ⟨some 171, .bin .i .and (.t 170) (.c (.int .i64 1)), none⟩,
    ⟨some 172, .bin .i .eql (.t 171) (.c (.int .i64 1)), none⟩,
    ⟨some 173, .mv (.t 172), none⟩,
    ⟨some 174, .mv (.t 5), some (173, true)⟩,
    ⟨some 175, .mv (.t 23), some (173, true)⟩,
    ⟨some 176, .mv (.t 24), some (173, true)⟩,
    ⟨some 177, .bin .i .shl (.c (.int .i64 1)) (.t 176), some (173, true)⟩,
    ⟨some 178, .bin .i .sub (.t 175) (.t 177), some (173, true)⟩,
    ⟨some 179, .iaddr 1 (.t 174) (.t 178), some (173, true)⟩,
    ⟨some 180, .load 1 false (.t 179), some (173, true)⟩,
    ⟨some 181, .mv (.t 5), some (173, true)⟩,
    ⟨some 182, .mv (.t 23), some (173, true)⟩,
    ⟨some 183, .iaddr 1 (.t 181) (.t 182), some (173, true)⟩,
    ⟨some 184, .load 1 false (.t 183), some (173, true)⟩,
    ⟨some 185, .bin .i .gtr (.t 180) (.t 184), some (173, true)⟩,
    ⟨some 186, .pick (.t 173) (.t 185) (.c (.bool false)), none⟩] [] (some [3, 5, 23, 24, 186])) (.cond (.t 186) (.seq (.region [⟨some 2, .mv (.c (.bool false)), none⟩] [] (some [2])) .ret) .skip))) (.region [⟨some 166, .mv (.t 24), none⟩,
    ⟨some 167, .bin .i .add (.t 166) (.c (.int .i64 1)), none⟩,
    ⟨some 24, .mv (.t 167), none⟩] [] (some [3, 5, 23, 24]))))
def c_laws_FnSetValues_l0 : GC :=
  (.seq (.seq (.region [⟨some 156, .mv (.t 23), none⟩,
    ⟨some 157, .mv (.t 5), none⟩,
    ⟨some 158, .len (.t 157), none⟩,
    ⟨some 159, .bin .i .lss (.t 156) (.t 158), none⟩] [] (some [3, 5, 23, 159])) (.cond (.t 159) .skip (.exit 0))) (.seq (.block 1 (.seq (.region [⟨some 24, .mv (.c (.int .i64 0)), none⟩] [] (some [3, 5, 23, 24])) (.block 2 (.loop false (some [3, 5, 23, 24]) c_laws_FnSetValues_l1)))) (.region [⟨some 160, .mv (.t 23), none⟩,
    ⟨some 161, .bin .i .add (.t 160) (.c (.int .i64 1)), none⟩,
    ⟨some 23, .mv (.t 161), none⟩] [] (some [3, 5, 23]))))
/-- laws.FnSetValues -/
def c_laws_FnSetValues : GFun := { ntmps := 187, results := [.tmp 2], shared := false, body :=
  (.seq (.region [⟨some 2, .mv (.c (.bool false)), none⟩] [] (some [0])) (.seq (.seq (.region [⟨some 25, .mv (.t 0), none⟩,
    ⟨some 26, .call false (.c (.fn n_laws_rBig [])) [(.t 25)], none⟩] [] (some [0, 26])) (.cond (.t 26) (.seq (.region [⟨some 2, .mv (.c (.bool true)), none⟩] [] (some [2])) .ret) .skip)) (.seq (.region [⟨some 28, .mv (.t 0), none⟩,
    ⟨some 29, .call false (.c (.fn n_spec_DrawSetValues [])) [(.t 28)], none⟩,
    ⟨some 27, .mv (.t 29), none⟩,
    ⟨some 30, .ext 0 (.t 27), none⟩,
    ⟨some 31, .ext 1 (.t 27), none⟩,
    ⟨some 3, .mv (.t 30), none⟩,
    ⟨some 4, .mv (.t 31), none⟩] [] (some [3, 4])) (.seq (.region [⟨some 33, .mv (.t 3), none⟩,
    ⟨some 34, .mv (.t 4), none⟩,
    ⟨some 35, .call false (.c (.fn n_impl_SetValues [])) [(.t 33), (.t 34)], none⟩,
    ⟨some 32, .mv (.t 35), none⟩,
    ⟨some 36, .ext 0 (.t 32), none⟩,
    ⟨some 37, .ext 1 (.t 32), none⟩,
    ⟨some 5, .mv (.t 36), none⟩,
    ⟨some 6, .mv (.t 37), none⟩] [] (some [3, 4, 5, 6])) (.seq (.seq (.region [⟨some 39, .mv (.t 3), none⟩,
    ⟨some 40, .mv (.t 4), none⟩,
    ⟨some 41, .call false (.c (.fn n_spec_SetValues [])) [(.t 39), (.t 40)], none⟩,
    ⟨some 38, .mv (.t 41), none⟩,
    ⟨some 42, .ext 0 (.t 38), none⟩,
    ⟨some 43, .ext 1 (.t 38), none⟩,
    ⟨some 7, .mv (.t 42), none⟩,
    ⟨some 8, .mv (.t 43), none⟩] [] (some [3, 4, 5, 6, 7, 8])) (.seq (.region [⟨some 44, .mv (.t 6), none⟩,
    ⟨some 45, .mv (.t 8), none⟩,
    ⟨some 46, .bin .b .neq (.t 44) (.t 45), none⟩,
    ⟨some 47, .mv (.t 46), none⟩,
    ⟨some 48, .mv (.t 5), some (47, false)⟩,
    ⟨some 49, .mv (.t 7), some (47, false)⟩,
    ⟨some 50, .call false (.c (.fn n_laws_rInts [])) [(.t 48), (.t 49)], some (47, false)⟩,
    ⟨some 51, .un .not (.t 50), some (47, false)⟩,
    ⟨some 52, .pick (.t 47) (.c (.bool true)) (.t 51), none⟩] [] (some [3, 4, 5, 6, 52])) (.cond (.t 52) (.seq (.region [⟨some 2, .mv (.c (.bool false)), none⟩] [] (some [2])) .ret) .skip))) (.seq (.region [⟨some 54, .mv (.t 3), none⟩,
    ⟨some 55, .mv (.t 4), none⟩,
    ⟨some 56, .call false (.c (.fn n_impl_SetOrder [])) [(.t 54), (.t 55)], none⟩,
    ⟨some 53, .mv (.t 56), none⟩,
    ⟨some 57, .ext 0 (.t 53), none⟩,
    ⟨some 58, .ext 1 (.t 53), none⟩,
    ⟨some 9, .mv (.t 57), none⟩,
    ⟨some 10, .mv (.t 58), none⟩] [] (some [3, 4, 5, 6, 9, 10])) (.seq (.seq (.region [⟨some 60, .mv (.t 3), none⟩,
    ⟨some 61, .mv (.t 4), none⟩,
    ⟨some 62, .call false (.c (.fn n_spec_SetOrder [])) [(.t 60), (.t 61)], none⟩,
    ⟨some 59, .mv (.t 62), none⟩,
    ⟨some 63, .ext 0 (.t 59), none⟩,
    ⟨some 64, .ext 1 (.t 59), none⟩,
    ⟨some 11, .mv (.t 63), none⟩,
    ⟨some 12, .mv (.t 64), none⟩] [] (some [3, 4, 5, 6, 9, 10, 11, 12])) (.seq (.region [⟨some 65, .mv (.t 10), none⟩,
    ⟨some 66, .mv (.t 12), none⟩,
    ⟨some 67, .bin .b .neq (.t 65) (.t 66), none⟩,
    ⟨some 68, .mv (.t 67), none⟩,
    ⟨some 69, .mv (.t 10), some (68, false)⟩,
    ⟨some 70, .mv (.t 6), some (68, false)⟩,
    ⟨some 71, .bin .b .neq (.t 69) (.t 70), some (68, false)⟩,
    ⟨some 72, .pick (.t 68) (.c (.bool true)) (.t 71), none⟩,
    ⟨some 73, .mv (.t 72), none⟩,
    ⟨some 74, .mv (.t 9), some (73, false)⟩,
    ⟨some 75, .mv (.t 11), some (73, false)⟩,
    ⟨some 76, .call false (.c (.fn n_laws_rInts [])) [(.t 74), (.t 75)], some (73, false)⟩,
    ⟨some 77, .un .not (.t 76), some (73, false)⟩,
    ⟨some 78, .pick (.t 73) (.c (.bool true)) (.t 77), none⟩] [] (some [3, 4, 5, 6, 9, 78])) (.cond (.t 78) (.seq (.region [⟨some 2, .mv (.c (.bool false)), none⟩] [] (some [2])) .ret) .skip))) (.seq (.region [⟨some 80, .mv (.t 3), none⟩,
    ⟨some 81, .call false (.c (.fn n_impl_TotalTime [])) [(.t 80)], none⟩,
    ⟨some 79, .mv (.t 81), none⟩,
    ⟨some 82, .ext 0 (.t 79), none⟩,
    ⟨some 83, .ext 1 (.t 79), none⟩,
    ⟨some 13, .mv (.t 82), none⟩,
    ⟨some 14, .mv (.t 83), none⟩] [] (some [3, 4, 5, 6, 9, 13, 14])) (.seq (.seq (.region [⟨some 85, .mv (.t 3), none⟩,
    ⟨some 86, .call false (.c (.fn n_spec_TotalTime [])) [(.t 85)], none⟩,
    ⟨some 84, .mv (.t 86), none⟩,
    ⟨some 87, .ext 0 (.t 84), none⟩,
    ⟨some 88, .ext 1 (.t 84), none⟩,
    ⟨some 15, .mv (.t 87), none⟩,
    ⟨some 16, .mv (.t 88), none⟩] [] (some [3, 4, 5, 6, 9, 13, 14, 15, 16])) (.seq (.region [⟨some 89, .mv (.t 13), none⟩,
    ⟨some 90, .mv (.t 15), none⟩,
    ⟨some 91, .bin .i .neq (.t 89) (.t 90), none⟩,
    ⟨some 92, .mv (.t 91), none⟩,
    ⟨some 93, .mv (.t 14), some (92, false)⟩,
    ⟨some 94, .mv (.t 16), some (92, false)⟩,
    ⟨some 95, .bin .b .neq (.t 93) (.t 94), some (92, false)⟩,
    ⟨some 96, .pick (.t 92) (.c (.bool true)) (.t 95), none⟩] [] (some [3, 4, 5, 6, 9, 13, 96])) (.cond (.t 96) (.seq (.region [⟨some 2, .mv (.c (.bool false)), none⟩] [] (some [2])) .ret) .skip))) (.seq (.seq (.region [⟨some 97, .mv (.t 6), none⟩,
    ⟨some 98, .un .not (.t 97), none⟩] [] (some [3, 4, 5, 9, 13, 98])) (.cond (.t 98) (.seq (.region [⟨some 2, .mv (.c (.bool true)), none⟩] [] (some [2])) .ret) .skip)) (.seq (.region [⟨some 100, .mv (.t 3), none⟩,
    ⟨some 101, .mv (.t 4), none⟩,
    ⟨some 102, .call false (.c (.fn n_laws_rBest [])) [(.t 100), (.t 101)], none⟩,
    ⟨some 99, .mv (.t 102), none⟩,
    ⟨some 103, .ext 0 (.t 99), none⟩,
    ⟨some 104, .ext 1 (.t 99), none⟩,
    ⟨some 17, .mv (.t 103), none⟩,
    ⟨some 18, .mv (.t 104), none⟩] [] (some [3, 4, 5, 9, 13, 17, 18])) (.seq (.region [⟨some 106, .mv (.t 3), none⟩,
    ⟨some 107, .mv (.t 9), none⟩,
    ⟨some 108, .mv (.t 4), none⟩,
    ⟨some 109, .call false (.c (.fn n_impl_ValueOf [])) [(.t 106), (.t 107), (.t 108)], none⟩,
    ⟨some 105, .mv (.t 109), none⟩,
    ⟨some 110, .ext 0 (.t 105), none⟩,
    ⟨some 111, .ext 1 (.t 105), none⟩,
    ⟨some 19, .mv (.t 110), none⟩,
    ⟨some 20, .mv (.t 111), none⟩] [] (some [3, 5, 9, 13, 17, 18, 19, 20])) (.seq (.region [⟨some 113, .mv (.t 3), none⟩,
    ⟨some 114, .mv (.t 9), none⟩,
    ⟨some 115, .call false (.c (.fn n_impl_ValueOf [])) [(.t 113), (.t 114), (.c (.int .i64 1))], none⟩,
    ⟨some 112, .mv (.t 115), none⟩,
    ⟨some 116, .ext 0 (.t 112), none⟩,
    ⟨some 117, .ext 1 (.t 112), none⟩,
    ⟨some 21, .mv (.t 116), none⟩,
    ⟨some 22, .mv (.t 117), none⟩] [] (some [3, 5, 13, 17, 18, 19, 20, 21, 22])) (.seq (.seq (.region [⟨some 118, .mv (.t 18), none⟩,
    ⟨some 119, .un .not (.t 118), none⟩,
    ⟨some 120, .mv (.t 119), none⟩,
    ⟨some 121, .mv (.t 20), some (120, false)⟩,
    ⟨some 122, .un .not (.t 121), some (120, false)⟩,
    ⟨some 123, .pick (.t 120) (.c (.bool true)) (.t 122), none⟩,
    ⟨some 124, .mv (.t 123), none⟩,
    ⟨some 125, .mv (.t 22), some (124, false)⟩,
    ⟨some 126, .un .not (.t 125), some (124, false)⟩,
    ⟨some 127, .pick (.t 124) (.c (.bool true)) (.t 126), none⟩,
    ⟨some 128, .mv (.t 127), none⟩,
    ⟨some 129, .mv (.t 5), some (128, false)⟩,
    ⟨some 130, .len (.t 129), some (128, false)⟩,
    ⟨some 131, .mv (.t 3), some (128, false)⟩,
    ⟨some 132, .len (.t 131), some (128, false)⟩,
    ⟨some 133, .bin .i .shl (.c (.int .i64 1)) (.t 132), some (128, false)⟩,
    ⟨some 134, .bin .i .neq (.t 130) (.t 133), some (128, false)⟩,
    ⟨some 135, .pick (.t 128) (.c (.bool true)) (.t 134), none⟩,
    ⟨some 136, .mv (.t 135), none⟩,
    ⟨some 137, .mv (.t 5), some (136, false)⟩,
    ⟨some 138, .mv (.t 5), some (136, false)⟩,
    ⟨some 139, .len (.t 138), some (136, false)⟩,
    ⟨some 140, .bin .i .sub (.t 139) (.c (.int .i64 1)), some (136, false)⟩,
    ⟨some 141, .iaddr 1 (.t 137) (.t 140), some (136, false)⟩,
    ⟨some 142, .load 1 false (.t 141), some (136, false)⟩,
    ⟨some 143, .mv (.t 17), some (136, false)⟩,
    ⟨some 144, .bin .i .neq (.t 142) (.t 143), some (136, false)⟩,
    ⟨some 145, .pick (.t 136) (.c (.bool true)) (.t 144), none⟩,
    ⟨some 146, .mv (.t 145), none⟩,
    ⟨some 147, .mv (.t 19), some (146, false)⟩,
    ⟨some 148, .mv (.t 17), some (146, false)⟩,
    ⟨some 149, .bin .i .neq (.t 147) (.t 148), some (146, false)⟩,
    ⟨some 150, .pick (.t 146) (.c (.bool true)) (.t 149), none⟩,
    ⟨some 151, .mv (.t 150), none⟩,
    ⟨some 152, .mv (.t 21), some (151, false)⟩,
    ⟨some 153, .mv (.t 13), some (151, false)⟩,
    ⟨some 154, .bin .i .neq (.t 152) (.t 153), some (151, false)⟩,
    ⟨some 155, .pick (.t 151) (.c (.bool true)) (.t 154), none⟩] [] (some [3, 5, 155])) (.cond (.t 155) (.seq (.region [⟨some 2, .mv (.c (.bool false)), none⟩] [] (some [2])) .ret) .skip)) (.seq (.seq (.region [⟨some 23, .mv (.c (.int .i64 0)), none⟩] [] (some [3, 5, 23])) (.block 0 (.loop false (some [3, 5, 23]) c_laws_FnSetValues_l0))) (.seq (.region [⟨some 2, .mv (.c (.bool true)), none⟩] [] (some [2])) .ret)))))))))))))))) }

end Gh
