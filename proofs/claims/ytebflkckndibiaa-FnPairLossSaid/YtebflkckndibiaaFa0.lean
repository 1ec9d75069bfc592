/- The ghost's code of the functions, part 0. Written by program. -/
import Derived.Test.YtebflkckndibiaaGs
namespace Gh
open Go
set_option maxRecDepth 100000

def n_laws_vBig : Nat := 7
def n_impl_within : Nat := 94
def n_impl_isDate : Nat := 112
def n_impl_IsJobs : Nat := 67
def n_impl_isPlain : Nat := 68
def n_impl_isRuled : Nat := 59
def n_impl_isNumber : Nat := 64
def n_impl_has : Nat := 124
def n_impl_areDifferent : Nat := 121
def n_impl_isOrder : Nat := 107
def n_impl_isRuledAndOrdered : Nat := 55
def n_impl_difference : Nat := 56
def n_impl_IsRuledOrder : Nat := 9
def n_laws_vCut : Nat := 14
def n_impl_RuleDifference : Nat := 16
def n_impl_numbersTo : Nat := 96
def n_impl_nextOrder : Nat := 138
def n_impl_eachOrder : Nat := 115
def n_impl_add : Nat := 125
def n_impl_valueOfEnds : Nat := 87
def n_impl_endsOf : Nat := 118
def n_impl_valueOf : Nat := 73
def n_impl_copyInts : Nat := 117
def n_impl_best_c1 : Nat := 116
def n_impl_best : Nat := 72
def n_impl_isObjective : Nat := 86
def n_impl_BestValue : Nat := 30
def n_impl_isScheduled : Nat := 114
def n_impl_isValued : Nat := 71
def n_impl_ValueOf : Nat := 39
def n_spec_l1Cur_next : Nat := 106
def n_spec_l1Cur_pick : Nat := 54
def n_spec_l1Cur_one : Nat := 51
def n_spec_l1Cur_among : Nat := 75
def n_spec_l1Cur_order : Nat := 49
def n_spec_l1Cur_spoiltJob : Nat := 119
def n_spec_l1Cur_job : Nat := 137
def n_spec_l1Cur_someJobs : Nat := 111
def n_spec_l1Cur_jobs : Nat := 61
def n_spec_l1Cur_plain3 : Nat := 62
def n_spec_DrawPairLoss : Nat := 40
def n_impl_inversions : Nat := 102
def n_impl_PairLoss : Nat := 41
def n_spec_l1In : Nat := 97
def n_spec_l2Job : Nat := 113
def n_spec_l2Good : Nat := 69
def n_spec_l3Plain : Nat := 70
def n_spec_l3Ruled : Nat := 50
def n_spec_l1Has : Nat := 136
def n_spec_l2Order : Nat := 108
def n_spec_l3Both : Nat := 57
def n_spec_l3Gap : Nat := 66
def n_spec_l3Inversions : Nat := 103
def n_spec_PairLoss : Nat := 42
def n_spec_l1Cur_ruled3 : Nat := 48
def n_spec_l1Own : Nat := 105
def n_spec_l3Order : Nat := 52
def n_spec_l2Swap : Nat := 53
def n_spec_DrawIsRuledOrder : Nat := 8
def n_spec_DrawInversionsOf : Nat := 43
def n_impl_InversionsOf : Nat := 44
def n_spec_InversionsOf : Nat := 45
def n_laws_vPairs : Nat := 46
def n_impl_exchanged : Nat := 135
def n_impl_gain : Nat := 104
def n_impl_ExchangeGain : Nat := 47
def n_laws_FnPairLoss : Nat := 6

/-- laws.vBig -/
def c_laws_vBig : GFun := { ntmps := 6, results := [.tmp 2], shared := false, body :=
  (.seq (.region [⟨some 2, .mv (.c (.bool false)), none⟩] [] (some [0])) (.seq (.region [⟨some 3, .mv (.t 0), none⟩,
    ⟨some 4, .len (.t 3), none⟩,
    ⟨some 5, .bin .i .gtr (.t 4) (.c (.int .i64 65536)), none⟩,
    ⟨some 2, .mv (.t 5), none⟩] [] (some [2])) .ret)) }

/-- impl.within -/
def c_impl_within : GFun := { ntmps := 15, results := [.tmp 6], shared := false, body :=
  (.seq (.region [⟨some 6, .mv (.c (.bool false)), none⟩] [] (some [0, 1, 2])) (.seq (.region [⟨some 7, .mv (.t 1), none⟩,
    ⟨some 8, .mv (.t 0), none⟩,
    ⟨some 9, .bin .i .leq (.t 7) (.t 8), none⟩,
    ⟨some 10, .mv (.t 9), none⟩,
    ⟨some 11, .mv (.t 0), some (10, true)⟩,
    ⟨some 12, .mv (.t 2), some (10, true)⟩,
    ⟨some 13, .bin .i .leq (.t 11) (.t 12), some (10, true)⟩,
    ⟨some 14, .pick (.t 10) (.t 13) (.c (.bool false)), none⟩,
    ⟨some 6, .mv (.t 14), none⟩] [] (some [6])) .ret)) }

/-- impl.isDate -/
def c_impl_isDate : GFun := { ntmps := 5, results := [.tmp 2], shared := false, body :=
  (.seq (.region [⟨some 2, .mv (.c (.bool false)), none⟩] [] (some [0])) (.seq (.region [⟨some 3, .mv (.t 0), none⟩,
    ⟨some 4, .call false (.c (.fn n_impl_within [])) [(.t 3), (.c (.int .i64 0)), (.c (.int .i64 500))], none⟩,
    ⟨some 2, .mv (.t 4), none⟩] [] (some [2])) .ret)) }

def c_impl_IsJobs_l0 : GC :=
  (.seq (.region [⟨some 11, .bin .i .lss (.t 10) (.t 9), none⟩] [] (some [8, 9, 10, 11])) (.seq (.cond (.t 11) .skip (.exit 0)) (.seq (.block 1 (.seq (.region [⟨some 12, .iaddr 4 (.t 8) (.t 10), none⟩,
    ⟨some 13, .load 4 true (.t 12), none⟩,
    ⟨some 4, .alloc [(.int .i64 0), (.int .i64 0), (.int .i64 0), (.int .i64 0)], none⟩,
    ⟨none, .store 4 (.t 4) (.t 13), none⟩] [] (some [4, 8, 9, 10])) (.seq (.region [⟨some 14, .faddr 0 (.t 4), none⟩,
    ⟨some 15, .load 1 false (.t 14), none⟩,
    ⟨some 16, .call false (.c (.fn n_impl_within [])) [(.t 15), (.c (.int .i64 1)), (.c (.int .i64 50))], none⟩,
    ⟨some 17, .un .not (.t 16), none⟩,
    ⟨some 18, .mv (.t 17), none⟩,
    ⟨some 19, .faddr 1 (.t 4), some (18, false)⟩,
    ⟨some 20, .load 1 false (.t 19), some (18, false)⟩,
    ⟨some 21, .call false (.c (.fn n_impl_within [])) [(.t 20), (.c (.int .i64 0)), (.c (.int .i64 50))], some (18, false)⟩,
    ⟨some 22, .un .not (.t 21), some (18, false)⟩,
    ⟨some 23, .pick (.t 18) (.c (.bool true)) (.t 22), none⟩,
    ⟨some 24, .mv (.t 23), none⟩,
    ⟨some 25, .faddr 2 (.t 4), some (24, false)⟩,
    ⟨some 26, .load 1 false (.t 25), some (24, false)⟩,
    ⟨some 27, .call false (.c (.fn n_impl_isDate [])) [(.t 26)], some (24, false)⟩,
    ⟨some 28, .un .not (.t 27), some (24, false)⟩,
    ⟨some 29, .pick (.t 24) (.c (.bool true)) (.t 28), none⟩,
    ⟨some 30, .mv (.t 29), none⟩,
    ⟨some 31, .faddr 3 (.t 4), some (30, false)⟩,
    ⟨some 32, .load 1 false (.t 31), some (30, false)⟩,
    ⟨some 33, .call false (.c (.fn n_impl_isDate [])) [(.t 32)], some (30, false)⟩,
    ⟨some 34, .un .not (.t 33), some (30, false)⟩,
    ⟨some 35, .pick (.t 30) (.c (.bool true)) (.t 34), none⟩] [] (some [8, 9, 10, 35])) (.cond (.t 35) (.seq (.region [⟨some 2, .mv (.c (.bool false)), none⟩] [] (some [2])) .ret) .skip)))) (.region [⟨some 36, .bin .i .add (.t 10) (.c (.int .i64 1)), none⟩,
    ⟨some 10, .mv (.t 36), none⟩] [] (some [8, 9, 10])))))
/-- impl.IsJobs -/
def c_impl_IsJobs : GFun := { ntmps := 37, results := [.tmp 2], shared := false, body :=
  (.seq (.region [⟨some 2, .mv (.c (.bool false)), none⟩] [] (some [0])) (.seq (.seq (.region [⟨some 5, .mv (.t 0), none⟩,
    ⟨some 6, .len (.t 5), none⟩,
    ⟨some 7, .bin .i .gtr (.t 6) (.c (.int .i64 8)), none⟩] [] (some [0, 7])) (.cond (.t 7) (.seq (.region [⟨some 2, .mv (.c (.bool false)), none⟩] [] (some [2])) .ret) .skip)) (.seq (.seq (.region [⟨some 8, .mv (.t 0), none⟩,
    ⟨some 9, .len (.t 8), none⟩,
    ⟨some 10, .mv (.c (.int .i64 0)), none⟩] [] (some [8, 9, 10])) (.block 0 (.loop false (some [8, 9, 10]) c_impl_IsJobs_l0))) (.seq (.region [⟨some 2, .mv (.c (.bool true)), none⟩] [] (some [2])) .ret)))) }

def c_impl_isPlain_l0 : GC :=
  (.seq (.region [⟨some 8, .bin .i .lss (.t 7) (.t 6), none⟩] [] (some [5, 6, 7, 8])) (.seq (.cond (.t 8) .skip (.exit 0)) (.seq (.block 1 (.seq (.region [⟨some 9, .iaddr 4 (.t 5) (.t 7), none⟩,
    ⟨some 10, .load 4 true (.t 9), none⟩,
    ⟨some 4, .alloc [(.int .i64 0), (.int .i64 0), (.int .i64 0), (.int .i64 0)], none⟩,
    ⟨none, .store 4 (.t 4) (.t 10), none⟩] [] (some [4, 5, 6, 7])) (.seq (.region [⟨some 11, .faddr 2 (.t 4), none⟩,
    ⟨some 12, .load 1 false (.t 11), none⟩,
    ⟨some 13, .bin .i .neq (.t 12) (.c (.int .i64 0)), none⟩] [] (some [5, 6, 7, 13])) (.cond (.t 13) (.seq (.region [⟨some 2, .mv (.c (.bool false)), none⟩] [] (some [2])) .ret) .skip)))) (.region [⟨some 14, .bin .i .add (.t 7) (.c (.int .i64 1)), none⟩,
    ⟨some 7, .mv (.t 14), none⟩] [] (some [5, 6, 7])))))
/-- impl.isPlain -/
def c_impl_isPlain : GFun := { ntmps := 15, results := [.tmp 2], shared := false, body :=
  (.seq (.region [⟨some 2, .mv (.c (.bool false)), none⟩] [] (some [0])) (.seq (.seq (.region [⟨some 5, .mv (.t 0), none⟩,
    ⟨some 6, .len (.t 5), none⟩,
    ⟨some 7, .mv (.c (.int .i64 0)), none⟩] [] (some [5, 6, 7])) (.block 0 (.loop false (some [5, 6, 7]) c_impl_isPlain_l0))) (.seq (.region [⟨some 2, .mv (.c (.bool true)), none⟩] [] (some [2])) .ret))) }

/-- impl.isRuled -/
def c_impl_isRuled : GFun := { ntmps := 19, results := [.tmp 4], shared := false, body :=
  (.seq (.region [⟨some 4, .mv (.c (.bool false)), none⟩] [] (some [0, 1])) (.seq (.region [⟨some 5, .mv (.t 0), none⟩,
    ⟨some 6, .call false (.c (.fn n_impl_IsJobs [])) [(.t 5)], none⟩,
    ⟨some 7, .mv (.t 6), none⟩,
    ⟨some 8, .mv (.t 1), some (7, true)⟩,
    ⟨some 9, .bin .i .eql (.t 8) (.c (.int .i64 1)), some (7, true)⟩,
    ⟨some 10, .mv (.t 9), some (7, true)⟩,
    ⟨some 11, .mv (.t 1), some (10, false)⟩,
    ⟨some 12, .call false (.c (.fn n_impl_within [])) [(.t 11), (.c (.int .i64 2)), (.c (.int .i64 4))], some (10, false)⟩,
    ⟨some 13, .mv (.t 12), some (10, false)⟩,
    ⟨some 14, .mv (.t 0), some (13, true)⟩,
    ⟨some 15, .call false (.c (.fn n_impl_isPlain [])) [(.t 14)], some (13, true)⟩,
    ⟨some 16, .pick (.t 13) (.t 15) (.c (.bool false)), some (10, false)⟩,
    ⟨some 17, .pick (.t 10) (.c (.bool true)) (.t 16), some (7, true)⟩,
    ⟨some 18, .pick (.t 7) (.t 17) (.c (.bool false)), none⟩,
    ⟨some 4, .mv (.t 18), none⟩] [] (some [4])) .ret)) }

/-- impl.isNumber -/
def c_impl_isNumber : GFun := { ntmps := 9, results := [.tmp 4], shared := false, body :=
  (.seq (.region [⟨some 4, .mv (.c (.bool false)), none⟩] [] (some [0, 1])) (.seq (.region [⟨some 5, .mv (.t 0), none⟩,
    ⟨some 6, .mv (.t 1), none⟩,
    ⟨some 7, .bin .i .sub (.t 6) (.c (.int .i64 1)), none⟩,
    ⟨some 8, .call false (.c (.fn n_impl_within [])) [(.t 5), (.c (.int .i64 0)), (.t 7)], none⟩,
    ⟨some 4, .mv (.t 8), none⟩] [] (some [4])) .ret)) }

def c_impl_has_l0 : GC :=
  (.seq (.region [⟨some 10, .bin .i .lss (.t 9) (.t 8), none⟩] [] (some [1, 7, 8, 9, 10])) (.seq (.cond (.t 10) .skip (.exit 0)) (.seq (.block 1 (.seq (.region [⟨some 11, .iaddr 1 (.t 7) (.t 9), none⟩,
    ⟨some 12, .load 1 false (.t 11), none⟩,
    ⟨some 6, .mv (.t 12), none⟩] [] (some [1, 6, 7, 8, 9])) (.seq (.region [⟨some 13, .mv (.t 6), none⟩,
    ⟨some 14, .mv (.t 1), none⟩,
    ⟨some 15, .bin .i .eql (.t 13) (.t 14), none⟩] [] (some [1, 7, 8, 9, 15])) (.cond (.t 15) (.seq (.region [⟨some 4, .mv (.c (.bool true)), none⟩] [] (some [4])) .ret) .skip)))) (.region [⟨some 16, .bin .i .add (.t 9) (.c (.int .i64 1)), none⟩,
    ⟨some 9, .mv (.t 16), none⟩] [] (some [1, 7, 8, 9])))))
/-- impl.has -/
def c_impl_has : GFun := { ntmps := 17, results := [.tmp 4], shared := false, body :=
  (.seq (.region [⟨some 4, .mv (.c (.bool false)), none⟩] [] (some [0, 1])) (.seq (.seq (.region [⟨some 7, .mv (.t 0), none⟩,
    ⟨some 8, .len (.t 7), none⟩,
    ⟨some 9, .mv (.c (.int .i64 0)), none⟩] [] (some [1, 7, 8, 9])) (.block 0 (.loop false (some [1, 7, 8, 9]) c_impl_has_l0))) (.seq (.region [⟨some 4, .mv (.c (.bool false)), none⟩] [] (some [4])) .ret))) }

def c_impl_areDifferent_l0 : GC :=
  (.seq (.region [⟨some 10, .bin .i .lss (.t 9) (.t 8), none⟩] [] (some [0, 1, 7, 8, 9, 10])) (.seq (.cond (.t 10) .skip (.exit 0)) (.seq (.block 1 (.seq (.region [⟨some 11, .mv (.t 9), none⟩,
    ⟨some 12, .iaddr 1 (.t 7) (.t 9), none⟩,
    ⟨some 13, .load 1 false (.t 12), none⟩,
    ⟨some 5, .mv (.t 11), none⟩,
    ⟨some 6, .mv (.t 13), none⟩] [] (some [0, 1, 5, 6, 7, 8, 9])) (.seq (.region [⟨some 14, .mv (.t 6), none⟩,
    ⟨some 15, .mv (.t 0), none⟩,
    ⟨some 16, .call false (.c (.fn n_impl_isNumber [])) [(.t 14), (.t 15)], none⟩,
    ⟨some 17, .un .not (.t 16), none⟩,
    ⟨some 18, .mv (.t 17), none⟩,
    ⟨some 19, .mv (.t 1), some (18, false)⟩,
    ⟨some 20, .mv (.t 5), some (18, false)⟩,
    ⟨some 21, .slice 1 (.t 19) none (some (.t 20)), some (18, false)⟩,
    ⟨some 22, .mv (.t 6), some (18, false)⟩,
    ⟨some 23, .call false (.c (.fn n_impl_has [])) [(.t 21), (.t 22)], some (18, false)⟩,
    ⟨some 24, .pick (.t 18) (.c (.bool true)) (.t 23), none⟩] [] (some [0, 1, 7, 8, 9, 24])) (.cond (.t 24) (.seq (.region [⟨some 4, .mv (.c (.bool false)), none⟩] [] (some [4])) .ret) .skip)))) (.region [⟨some 25, .bin .i .add (.t 9) (.c (.int .i64 1)), none⟩,
    ⟨some 9, .mv (.t 25), none⟩] [] (some [0, 1, 7, 8, 9])))))
/-- impl.areDifferent -/
def c_impl_areDifferent : GFun := { ntmps := 26, results := [.tmp 4], shared := false, body :=
  (.seq (.region [⟨some 4, .mv (.c (.bool false)), none⟩] [] (some [0, 1])) (.seq (.seq (.region [⟨some 7, .mv (.t 1), none⟩,
    ⟨some 8, .len (.t 7), none⟩,
    ⟨some 9, .mv (.c (.int .i64 0)), none⟩] [] (some [0, 1, 7, 8, 9])) (.block 0 (.loop false (some [0, 1, 7, 8, 9]) c_impl_areDifferent_l0))) (.seq (.region [⟨some 4, .mv (.c (.bool true)), none⟩] [] (some [4])) .ret))) }

/-- impl.isOrder -/
def c_impl_isOrder : GFun := { ntmps := 14, results := [.tmp 4], shared := false, body :=
  (.seq (.region [⟨some 4, .mv (.c (.bool false)), none⟩] [] (some [0, 1])) (.seq (.region [⟨some 5, .mv (.t 1), none⟩,
    ⟨some 6, .len (.t 5), none⟩,
    ⟨some 7, .mv (.t 0), none⟩,
    ⟨some 8, .bin .i .eql (.t 6) (.t 7), none⟩,
    ⟨some 9, .mv (.t 8), none⟩,
    ⟨some 10, .mv (.t 0), some (9, true)⟩,
    ⟨some 11, .mv (.t 1), some (9, true)⟩,
    ⟨some 12, .call false (.c (.fn n_impl_areDifferent [])) [(.t 10), (.t 11)], some (9, true)⟩,
    ⟨some 13, .pick (.t 9) (.t 12) (.c (.bool false)), none⟩,
    ⟨some 4, .mv (.t 13), none⟩] [] (some [4])) .ret)) }

/-- impl.isRuledAndOrdered -/
def c_impl_isRuledAndOrdered : GFun := { ntmps := 16, results := [.tmp 6], shared := false, body :=
  (.seq (.region [⟨some 6, .mv (.c (.bool false)), none⟩] [] (some [0, 1, 2])) (.seq (.region [⟨some 7, .mv (.t 0), none⟩,
    ⟨some 8, .mv (.t 2), none⟩,
    ⟨some 9, .call false (.c (.fn n_impl_isRuled [])) [(.t 7), (.t 8)], none⟩,
    ⟨some 10, .mv (.t 9), none⟩,
    ⟨some 11, .mv (.t 0), some (10, true)⟩,
    ⟨some 12, .len (.t 11), some (10, true)⟩,
    ⟨some 13, .mv (.t 1), some (10, true)⟩,
    ⟨some 14, .call false (.c (.fn n_impl_isOrder [])) [(.t 12), (.t 13)], some (10, true)⟩,
    ⟨some 15, .pick (.t 10) (.t 14) (.c (.bool false)), none⟩,
    ⟨some 6, .mv (.t 15), none⟩] [] (some [6])) .ret)) }

/-- impl.difference -/
def c_impl_difference : GFun := { ntmps := 40, results := [.tmp 6], shared := false, body :=
  (.seq (.region [⟨some 3, .box 4 (.t 0), none⟩,
    ⟨some 4, .box 4 (.t 1), none⟩,
    ⟨some 6, .mv (.c (.int .i64 0)), none⟩] [] (some [2, 3, 4])) (.seq (.seq (.region [⟨some 7, .mv (.t 2), none⟩] [] (some [3, 4, 7])) (.block 0 (.seq (.region [⟨some 9, .bin .i .eql (.t 7) (.c (.int .i64 1)), none⟩,
    ⟨some 8, .mv (.t 9), none⟩] [] (some [3, 4, 7, 8])) (.cond (.t 8) (.seq (.region [⟨some 10, .faddr 2 (.t 3), none⟩,
    ⟨some 11, .load 1 false (.t 10), none⟩,
    ⟨some 12, .faddr 2 (.t 4), none⟩,
    ⟨some 13, .load 1 false (.t 12), none⟩,
    ⟨some 14, .bin .i .sub (.t 11) (.t 13), none⟩,
    ⟨some 6, .mv (.t 14), none⟩] [] (some [6])) .ret) (.seq (.region [⟨some 16, .bin .i .eql (.t 7) (.c (.int .i64 2)), none⟩,
    ⟨some 15, .mv (.t 16), none⟩] [] (some [3, 4, 7, 15])) (.cond (.t 15) (.seq (.region [⟨some 17, .faddr 0 (.t 3), none⟩,
    ⟨some 18, .load 1 false (.t 17), none⟩,
    ⟨some 19, .faddr 0 (.t 4), none⟩,
    ⟨some 20, .load 1 false (.t 19), none⟩,
    ⟨some 21, .bin .i .sub (.t 18) (.t 20), none⟩,
    ⟨some 6, .mv (.t 21), none⟩] [] (some [6])) .ret) (.seq (.region [⟨some 23, .bin .i .eql (.t 7) (.c (.int .i64 3)), none⟩,
    ⟨some 22, .mv (.t 23), none⟩] [] (some [3, 4, 22])) (.cond (.t 22) (.seq (.region [⟨some 24, .faddr 0 (.t 3), none⟩,
    ⟨some 25, .load 1 false (.t 24), none⟩,
    ⟨some 26, .faddr 1 (.t 4), none⟩,
    ⟨some 27, .load 1 false (.t 26), none⟩,
    ⟨some 28, .bin .i .mul (.t 25) (.t 27), none⟩,
    ⟨some 29, .faddr 0 (.t 4), none⟩,
    ⟨some 30, .load 1 false (.t 29), none⟩,
    ⟨some 31, .faddr 1 (.t 3), none⟩,
    ⟨some 32, .load 1 false (.t 31), none⟩,
    ⟨some 33, .bin .i .mul (.t 30) (.t 32), none⟩,
    ⟨some 34, .bin .i .sub (.t 28) (.t 33), none⟩,
    ⟨some 6, .mv (.t 34), none⟩] [] (some [6])) .ret) .skip)))))))) (.seq (.region [⟨some 35, .faddr 3 (.t 3), none⟩,
    ⟨some 36, .load 1 false (.t 35), none⟩,
    ⟨some 37, .faddr 3 (.t 4), none⟩,
    ⟨some 38, .load 1 false (.t 37), none⟩,
    ⟨some 39, .bin .i .sub (.t 36) (.t 38), none⟩,
    ⟨some 6, .mv (.t 39), none⟩] [] (some [6])) .ret))) }

def c_impl_IsRuledOrder_l0 : GC :=
  (.seq (.seq (.region [⟨some 14, .mv (.t 8), none⟩,
    ⟨some 15, .mv (.t 1), none⟩,
    ⟨some 16, .len (.t 15), none⟩,
    ⟨some 17, .bin .i .lss (.t 14) (.t 16), none⟩] [] (some [0, 1, 2, 8, 17])) (.cond (.t 17) .skip (.exit 0))) (.seq (.block 1 (.seq (.region [⟨some 20, .mv (.t 0), none⟩,
    ⟨some 21, .mv (.t 1), none⟩,
    ⟨some 22, .mv (.t 8), none⟩,
    ⟨some 23, .iaddr 1 (.t 21) (.t 22), none⟩,
    ⟨some 24, .load 1 false (.t 23), none⟩,
    ⟨some 25, .iaddr 4 (.t 20) (.t 24), none⟩,
    ⟨some 26, .load 4 true (.t 25), none⟩,
    ⟨some 27, .mv (.t 0), none⟩,
    ⟨some 28, .mv (.t 1), none⟩,
    ⟨some 29, .mv (.t 8), none⟩,
    ⟨some 30, .bin .i .sub (.t 29) (.c (.int .i64 1)), none⟩,
    ⟨some 31, .iaddr 1 (.t 28) (.t 30), none⟩,
    ⟨some 32, .load 1 false (.t 31), none⟩,
    ⟨some 33, .iaddr 4 (.t 27) (.t 32), none⟩,
    ⟨some 34, .load 4 true (.t 33), none⟩,
    ⟨some 35, .mv (.t 2), none⟩,
    ⟨some 36, .call false (.c (.fn n_impl_difference [])) [(.t 26), (.t 34), (.t 35)], none⟩,
    ⟨some 37, .bin .i .lss (.t 36) (.c (.int .i64 0)), none⟩] [] (some [0, 1, 2, 8, 37])) (.cond (.t 37) (.seq (.region [⟨some 6, .mv (.c (.bool false)), none⟩,
    ⟨some 7, .mv (.c (.bool true)), none⟩] [] (some [6, 7])) .ret) .skip))) (.region [⟨some 18, .mv (.t 8), none⟩,
    ⟨some 19, .bin .i .add (.t 18) (.c (.int .i64 1)), none⟩,
    ⟨some 8, .mv (.t 19), none⟩] [] (some [0, 1, 2, 8]))))
/-- impl.IsRuledOrder -/
def c_impl_IsRuledOrder : GFun := { ntmps := 38, results := [.tmp 6, .tmp 7], shared := false, body :=
  (.seq (.region [⟨some 6, .mv (.c (.bool false)), none⟩,
    ⟨some 7, .mv (.c (.bool false)), none⟩] [] (some [0, 1, 2])) (.seq (.seq (.region [⟨some 9, .mv (.t 0), none⟩,
    ⟨some 10, .mv (.t 1), none⟩,
    ⟨some 11, .mv (.t 2), none⟩,
    ⟨some 12, .call false (.c (.fn n_impl_isRuledAndOrdered [])) [(.t 9), (.t 10), (.t 11)], none⟩,
    ⟨some 13, .un .not (.t 12), none⟩] [] (some [0, 1, 2, 13])) (.cond (.t 13) (.seq (.region [⟨some 6, .mv (.c (.bool false)), none⟩,
    ⟨some 7, .mv (.c (.bool false)), none⟩] [] (some [6, 7])) .ret) .skip)) (.seq (.seq (.region [⟨some 8, .mv (.c (.int .i64 1)), none⟩] [] (some [0, 1, 2, 8])) (.block 0 (.loop false (some [0, 1, 2, 8]) c_impl_IsRuledOrder_l0))) (.seq (.region [⟨some 6, .mv (.c (.bool true)), none⟩,
    ⟨some 7, .mv (.c (.bool true)), none⟩] [] (some [6, 7])) .ret)))) }

/-- laws.vCut -/
def c_laws_vCut : GFun := { ntmps := 20, results := [.tmp 4], shared := false, body :=
  (.seq (.region [⟨some 4, .mv (.c (.fs [])), none⟩] [] (some [0, 1])) (.seq (.seq (.region [⟨some 5, .mv (.t 1), none⟩,
    ⟨some 6, .mv (.t 0), none⟩,
    ⟨some 7, .len (.t 6), none⟩,
    ⟨some 8, .bin .i .gtr (.t 5) (.t 7), none⟩] [] (some [0, 1, 8])) (.cond (.t 8) (.region [⟨some 9, .mv (.t 0), none⟩,
    ⟨some 10, .len (.t 9), none⟩,
    ⟨some 1, .mv (.t 10), none⟩] [] (some [0, 1])) .skip)) (.seq (.region [⟨some 11, .bsl true 1 [(.int .u8 0)] 0 [], none⟩,
    ⟨some 12, .mv (.t 0), none⟩,
    ⟨some 13, .mv (.t 1), none⟩,
    ⟨some 14, .slice 1 (.t 12) (some (.t 13)) none, none⟩,
    ⟨some 15, .append false 1 1 (.t 11) (.t 14), none⟩,
    ⟨some 16, .mv (.t 1), none⟩,
    ⟨some 17, .conv .u8 (.t 16), none⟩,
    ⟨some 18, .bsl false 1 [(.int .u8 0)] 1 [(0, (.t 17))], none⟩,
    ⟨some 19, .append false 1 1 (.t 15) (.t 18), none⟩,
    ⟨some 4, .mv (.t 19), none⟩] [] (some [4])) .ret))) }

/-- impl.RuleDifference -/
def c_impl_RuleDifference : GFun := { ntmps := 38, results := [.tmp 8, .tmp 9], shared := false, body :=
  (.seq (.region [⟨some 8, .mv (.c (.int .i64 0)), none⟩,
    ⟨some 9, .mv (.c (.bool false)), none⟩] [] (some [0, 1, 2, 3])) (.seq (.seq (.region [⟨some 10, .mv (.t 0), none⟩,
    ⟨some 11, .mv (.t 1), none⟩,
    ⟨some 12, .call false (.c (.fn n_impl_isRuled [])) [(.t 10), (.t 11)], none⟩,
    ⟨some 13, .un .not (.t 12), none⟩,
    ⟨some 14, .mv (.t 13), none⟩,
    ⟨some 15, .mv (.t 2), some (14, false)⟩,
    ⟨some 16, .mv (.t 0), some (14, false)⟩,
    ⟨some 17, .len (.t 16), some (14, false)⟩,
    ⟨some 18, .call false (.c (.fn n_impl_isNumber [])) [(.t 15), (.t 17)], some (14, false)⟩,
    ⟨some 19, .un .not (.t 18), some (14, false)⟩,
    ⟨some 20, .pick (.t 14) (.c (.bool true)) (.t 19), none⟩,
    ⟨some 21, .mv (.t 20), none⟩,
    ⟨some 22, .mv (.t 3), some (21, false)⟩,
    ⟨some 23, .mv (.t 0), some (21, false)⟩,
    ⟨some 24, .len (.t 23), some (21, false)⟩,
    ⟨some 25, .call false (.c (.fn n_impl_isNumber [])) [(.t 22), (.t 24)], some (21, false)⟩,
    ⟨some 26, .un .not (.t 25), some (21, false)⟩,
    ⟨some 27, .pick (.t 21) (.c (.bool true)) (.t 26), none⟩] [] (some [0, 1, 2, 3, 27])) (.cond (.t 27) (.seq (.region [⟨some 8, .mv (.c (.int .i64 0)), none⟩,
    ⟨some 9, .mv (.c (.bool false)), none⟩] [] (some [8, 9])) .ret) .skip)) (.seq (.region [⟨some 28, .mv (.t 0), none⟩,
    ⟨some 29, .mv (.t 2), none⟩,
    ⟨some 30, .iaddr 4 (.t 28) (.t 29), none⟩,
    ⟨some 31, .load 4 true (.t 30), none⟩,
    ⟨some 32, .mv (.t 0), none⟩,
    ⟨some 33, .mv (.t 3), none⟩,
    ⟨some 34, .iaddr 4 (.t 32) (.t 33), none⟩,
    ⟨some 35, .load 4 true (.t 34), none⟩,
    ⟨some 36, .mv (.t 1), none⟩,
    ⟨some 37, .call false (.c (.fn n_impl_difference [])) [(.t 31), (.t 35), (.t 36)], none⟩,
    ⟨some 8, .mv (.t 37), none⟩,
    ⟨some 9, .mv (.c (.bool true)), none⟩] [] (some [8, 9])) .ret))) }

def c_impl_numbersTo_l0 : GC :=
  (.seq (.seq (.region [⟨some 5, .mv (.t 4), none⟩,
    ⟨some 6, .mv (.t 0), none⟩,
    ⟨some 7, .bin .i .lss (.t 5) (.t 6), none⟩] [] (some [0, 3, 4, 7])) (.cond (.t 7) .skip (.exit 0))) (.seq (.block 1 (.region [⟨some 10, .mv (.t 3), none⟩,
    ⟨some 11, .mv (.t 4), none⟩,
    ⟨some 12, .bsl false 1 [(.int .i64 0)] 1 [(0, (.t 11))], none⟩,
    ⟨some 13, .append false 1 8 (.t 10) (.t 12), none⟩,
    ⟨some 3, .mvo (.t 3) (.t 13), none⟩] [] (some [0, 3, 4]))) (.region [⟨some 8, .mv (.t 4), none⟩,
    ⟨some 9, .bin .i .add (.t 8) (.c (.int .i64 1)), none⟩,
    ⟨some 4, .mv (.t 9), none⟩] [] (some [0, 3, 4]))))
/-- impl.numbersTo -/
def c_impl_numbersTo : GFun := { ntmps := 15, results := [.tmp 2], shared := false, body :=
  (.seq (.region [⟨some 2, .nilo 1, none⟩] [] (some [0])) (.seq (.region [⟨some 3, .nilo 1, none⟩] [] (some [0, 3])) (.seq (.seq (.region [⟨some 4, .mv (.c (.int .i64 0)), none⟩] [] (some [0, 3, 4])) (.block 0 (.loop false (some [0, 3, 4]) c_impl_numbersTo_l0))) (.seq (.region [⟨some 14, .mv (.t 3), none⟩,
    ⟨some 2, .mv (.t 14), none⟩] [] (some [2])) .ret)))) }

def c_impl_nextOrder_l0 : GC :=
  (.seq (.seq (.region [⟨some 10, .mv (.t 3), none⟩,
    ⟨some 11, .bin .i .geq (.t 10) (.c (.int .i64 0)), none⟩,
    ⟨some 12, .mv (.t 11), none⟩,
    ⟨some 13, .mv (.t 0), some (12, true)⟩,
    ⟨some 14, .mv (.t 3), some (12, true)⟩,
    ⟨some 15, .iaddr 1 (.t 13) (.t 14), some (12, true)⟩,
    ⟨some 16, .load 1 false (.t 15), some (12, true)⟩,
    ⟨some 17, .mv (.t 0), some (12, true)⟩,
    ⟨some 18, .mv (.t 3), some (12, true)⟩,
    ⟨some 19, .bin .i .add (.t 18) (.c (.int .i64 1)), some (12, true)⟩,
    ⟨some 20, .iaddr 1 (.t 17) (.t 19), some (12, true)⟩,
    ⟨some 21, .load 1 false (.t 20), some (12, true)⟩,
    ⟨some 22, .bin .i .gtr (.t 16) (.t 21), some (12, true)⟩,
    ⟨some 23, .pick (.t 12) (.t 22) (.c (.bool false)), none⟩] [] (some [0, 3, 23])) (.cond (.t 23) .skip (.exit 0))) (.block 1 (.region [⟨some 24, .mv (.t 3), none⟩,
    ⟨some 25, .bin .i .sub (.t 24) (.c (.int .i64 1)), none⟩,
    ⟨some 3, .mv (.t 25), none⟩] [] (some [0, 3]))))
def c_impl_nextOrder_l1 : GC :=
  (.seq (.seq (.region [⟨some 31, .mv (.t 0), none⟩,
    ⟨some 32, .mv (.t 4), none⟩,
    ⟨some 33, .iaddr 1 (.t 31) (.t 32), none⟩,
    ⟨some 34, .load 1 false (.t 33), none⟩,
    ⟨some 35, .mv (.t 0), none⟩,
    ⟨some 36, .mv (.t 3), none⟩,
    ⟨some 37, .iaddr 1 (.t 35) (.t 36), none⟩,
    ⟨some 38, .load 1 false (.t 37), none⟩,
    ⟨some 39, .bin .i .lss (.t 34) (.t 38), none⟩] [] (some [0, 3, 4, 39])) (.cond (.t 39) .skip (.exit 2))) (.block 3 (.region [⟨some 40, .mv (.t 4), none⟩,
    ⟨some 41, .bin .i .sub (.t 40) (.c (.int .i64 1)), none⟩,
    ⟨some 4, .mv (.t 41), none⟩] [] (some [0, 3, 4]))))
def c_impl_nextOrder_l2 : GC :=
  (.seq (.seq (.region [⟨some 61, .mv (.t 5), none⟩,
    ⟨some 62, .mv (.t 6), none⟩,
    ⟨some 63, .bin .i .lss (.t 61) (.t 62), none⟩] [] (some [0, 5, 6, 63])) (.cond (.t 63) .skip (.exit 4))) (.seq (.block 5 (.region [⟨some 68, .mv (.t 0), none⟩,
    ⟨some 69, .mv (.t 5), none⟩,
    ⟨some 70, .mv (.t 0), none⟩,
    ⟨some 71, .mv (.t 6), none⟩,
    ⟨some 72, .mv (.t 0), none⟩,
    ⟨some 73, .mv (.t 6), none⟩,
    ⟨some 74, .iaddr 1 (.t 72) (.t 73), none⟩,
    ⟨some 75, .load 1 false (.t 74), none⟩,
    ⟨some 76, .mv (.t 0), none⟩,
    ⟨some 77, .mv (.t 5), none⟩,
    ⟨some 78, .iaddr 1 (.t 76) (.t 77), none⟩,
    ⟨some 79, .load 1 false (.t 78), none⟩,
    ⟨some 80, .iaddr 1 (.t 68) (.t 69), none⟩,
    ⟨none, .store 1 (.t 80) (.t 75), none⟩,
    ⟨some 81, .iaddr 1 (.t 70) (.t 71), none⟩,
    ⟨none, .store 1 (.t 81) (.t 79), none⟩] [] (some [0, 5, 6]))) (.region [⟨some 64, .mv (.t 5), none⟩,
    ⟨some 65, .bin .i .add (.t 64) (.c (.int .i64 1)), none⟩,
    ⟨some 66, .mv (.t 6), none⟩,
    ⟨some 67, .bin .i .sub (.t 66) (.c (.int .i64 1)), none⟩,
    ⟨some 5, .mv (.t 65), none⟩,
    ⟨some 6, .mv (.t 67), none⟩] [] (some [0, 5, 6]))))
/-- impl.nextOrder -/
def c_impl_nextOrder : GFun := { ntmps := 82, results := [.tmp 2], shared := true, body :=
  (.seq (.region [⟨some 2, .mv (.c (.bool false)), none⟩] [] (some [0])) (.seq (.region [⟨some 7, .mv (.t 0), none⟩,
    ⟨some 8, .len (.t 7), none⟩,
    ⟨some 9, .bin .i .sub (.t 8) (.c (.int .i64 2)), none⟩,
    ⟨some 3, .mv (.t 9), none⟩] [] (some [0, 3])) (.seq (.block 0 (.loop false (some [0, 3]) c_impl_nextOrder_l0)) (.seq (.seq (.region [⟨some 26, .mv (.t 3), none⟩,
    ⟨some 27, .bin .i .lss (.t 26) (.c (.int .i64 0)), none⟩] [] (some [0, 3, 27])) (.cond (.t 27) (.seq (.region [⟨some 2, .mv (.c (.bool false)), none⟩] [] (some [2])) .ret) .skip)) (.seq (.region [⟨some 28, .mv (.t 0), none⟩,
    ⟨some 29, .len (.t 28), none⟩,
    ⟨some 30, .bin .i .sub (.t 29) (.c (.int .i64 1)), none⟩,
    ⟨some 4, .mv (.t 30), none⟩] [] (some [0, 3, 4])) (.seq (.block 2 (.loop false (some [0, 3, 4]) c_impl_nextOrder_l1)) (.seq (.region [⟨some 42, .mv (.t 0), none⟩,
    ⟨some 43, .mv (.t 3), none⟩,
    ⟨some 44, .mv (.t 0), none⟩,
    ⟨some 45, .mv (.t 4), none⟩,
    ⟨some 46, .mv (.t 0), none⟩,
    ⟨some 47, .mv (.t 4), none⟩,
    ⟨some 48, .iaddr 1 (.t 46) (.t 47), none⟩,
    ⟨some 49, .load 1 false (.t 48), none⟩,
    ⟨some 50, .mv (.t 0), none⟩,
    ⟨some 51, .mv (.t 3), none⟩,
    ⟨some 52, .iaddr 1 (.t 50) (.t 51), none⟩,
    ⟨some 53, .load 1 false (.t 52), none⟩,
    ⟨some 54, .iaddr 1 (.t 42) (.t 43), none⟩,
    ⟨none, .store 1 (.t 54) (.t 49), none⟩,
    ⟨some 55, .iaddr 1 (.t 44) (.t 45), none⟩,
    ⟨none, .store 1 (.t 55) (.t 53), none⟩] [] (some [0, 3])) (.seq (.seq (.region [⟨some 56, .mv (.t 3), none⟩,
    ⟨some 57, .bin .i .add (.t 56) (.c (.int .i64 1)), none⟩,
    ⟨some 58, .mv (.t 0), none⟩,
    ⟨some 59, .len (.t 58), none⟩,
    ⟨some 60, .bin .i .sub (.t 59) (.c (.int .i64 1)), none⟩,
    ⟨some 5, .mv (.t 57), none⟩,
    ⟨some 6, .mv (.t 60), none⟩] [] (some [0, 5, 6])) (.block 4 (.loop false (some [0, 5, 6]) c_impl_nextOrder_l2))) (.seq (.region [⟨some 2, .mv (.c (.bool true)), none⟩] [] (some [2])) .ret))))))))) }

def c_impl_eachOrder_l0 : GC :=
  (.block 1 (.seq (.region [⟨some 7, .mv (.t 1), none⟩,
    ⟨some 8, .mv (.t 4), none⟩,
    ⟨some 9, .call false (.t 7) [(.t 8)], none⟩] [] (some [1, 4])) (.seq (.region [⟨some 10, .mv (.t 4), none⟩,
    ⟨some 11, .call false (.c (.fn n_impl_nextOrder [])) [(.t 10)], none⟩,
    ⟨some 12, .un .not (.t 11), none⟩] [] (some [1, 4, 12])) (.cond (.t 12) .ret .skip))))
/-- impl.eachOrder -/
def c_impl_eachOrder : GFun := { ntmps := 13, results := [], shared := true, body :=
  (.seq (.region [⟨some 5, .mv (.t 0), none⟩,
    ⟨some 6, .call true (.c (.fn n_impl_numbersTo [])) [(.t 5)], none⟩,
    ⟨some 4, .mvo (.t 4) (.t 6), none⟩] [] (some [1, 4])) (.block 0 (.loop false (some [1, 4]) c_impl_eachOrder_l0))) }

/-- impl.add -/
def c_impl_add : GFun := { ntmps := 70, results := [.tmp 10], shared := false, body :=
  (.seq (.region [⟨some 6, .box 4 (.t 1), none⟩,
    ⟨some 10, .mv (.c (.int .i64 0)), none⟩] [] (some [0, 2, 3, 4, 6])) (.seq (.region [⟨some 12, .mv (.t 2), none⟩,
    ⟨some 13, .faddr 3 (.t 6), none⟩,
    ⟨some 14, .load 1 false (.t 13), none⟩,
    ⟨some 15, .bin .i .sub (.t 12) (.t 14), none⟩,
    ⟨some 11, .mv (.t 15), none⟩] [] (some [0, 2, 3, 4, 6, 11])) (.seq (.seq (.region [⟨some 16, .mv (.t 3), none⟩] [] (some [0, 2, 3, 4, 6, 11, 16])) (.block 0 (.seq (.region [⟨some 18, .bin .i .eql (.t 16) (.c (.int .i64 1)), none⟩,
    ⟨some 17, .mv (.t 18), none⟩] [] (some [0, 2, 3, 4, 6, 11, 16, 17])) (.cond (.t 17) (.seq (.region [⟨some 19, .mv (.t 0), none⟩,
    ⟨some 20, .mv (.t 2), none⟩,
    ⟨some 21, .mx [(.t 19), (.t 20)], none⟩,
    ⟨some 10, .mv (.t 21), none⟩] [] (some [10])) .ret) (.seq (.region [⟨some 23, .bin .i .eql (.t 16) (.c (.int .i64 2)), none⟩,
    ⟨some 22, .mv (.t 23), none⟩] [] (some [0, 2, 3, 4, 6, 11, 16, 22])) (.cond (.t 22) (.seq (.region [⟨some 24, .mv (.t 0), none⟩,
    ⟨some 25, .mv (.t 2), none⟩,
    ⟨some 26, .bin .i .add (.t 24) (.t 25), none⟩,
    ⟨some 10, .mv (.t 26), none⟩] [] (some [10])) .ret) (.seq (.region [⟨some 28, .bin .i .eql (.t 16) (.c (.int .i64 3)), none⟩,
    ⟨some 27, .mv (.t 28), none⟩] [] (some [0, 2, 3, 4, 6, 11, 16, 27])) (.cond (.t 27) (.seq (.region [⟨some 29, .mv (.t 0), none⟩,
    ⟨some 30, .faddr 1 (.t 6), none⟩,
    ⟨some 31, .load 1 false (.t 30), none⟩,
    ⟨some 32, .mv (.t 2), none⟩,
    ⟨some 33, .bin .i .mul (.t 31) (.t 32), none⟩,
    ⟨some 34, .bin .i .add (.t 29) (.t 33), none⟩,
    ⟨some 10, .mv (.t 34), none⟩] [] (some [10])) .ret) (.seq (.region [⟨some 36, .bin .i .eql (.t 16) (.c (.int .i64 4)), none⟩,
    ⟨some 35, .mv (.t 36), none⟩] [] (some [0, 3, 4, 6, 11, 16, 35])) (.cond (.t 35) (.seq (.seq (.region [⟨some 37, .mv (.t 4), none⟩] [] (some [0, 11, 37])) (.cond (.t 37) (.seq (.region [⟨some 38, .mv (.t 11), none⟩,
    ⟨some 10, .mv (.t 38), none⟩] [] (some [10])) .ret) .skip)) (.seq (.region [⟨some 39, .mv (.t 0), none⟩,
    ⟨some 40, .mv (.t 11), none⟩,
    ⟨some 41, .mx [(.t 39), (.t 40)], none⟩,
    ⟨some 10, .mv (.t 41), none⟩] [] (some [10])) .ret)) (.seq (.region [⟨some 43, .bin .i .eql (.t 16) (.c (.int .i64 5)), none⟩,
    ⟨some 42, .mv (.t 43), none⟩] [] (some [0, 3, 6, 11, 16, 42])) (.cond (.t 42) (.seq (.region [⟨some 44, .mv (.t 0), none⟩,
    ⟨some 45, .mv (.t 11), none⟩,
    ⟨some 46, .mx [(.c (.int .i64 0)), (.t 45)], none⟩,
    ⟨some 47, .bin .i .add (.t 44) (.t 46), none⟩,
    ⟨some 10, .mv (.t 47), none⟩] [] (some [10])) .ret) (.seq (.region [⟨some 49, .bin .i .eql (.t 16) (.c (.int .i64 6)), none⟩,
    ⟨some 48, .mv (.t 49), none⟩] [] (some [0, 3, 6, 11, 48])) (.cond (.t 48) (.seq (.region [⟨some 50, .mv (.t 0), none⟩,
    ⟨some 51, .faddr 1 (.t 6), none⟩,
    ⟨some 52, .load 1 false (.t 51), none⟩,
    ⟨some 53, .mv (.t 11), none⟩,
    ⟨some 54, .mx [(.c (.int .i64 0)), (.t 53)], none⟩,
    ⟨some 55, .bin .i .mul (.t 52) (.t 54), none⟩,
    ⟨some 56, .bin .i .add (.t 50) (.t 55), none⟩,
    ⟨some 10, .mv (.t 56), none⟩] [] (some [10])) .ret) .skip)))))))))))))) (.seq (.block 1 (.seq (.region [⟨some 58, .mv (.t 11), none⟩,
    ⟨some 59, .bin .i .leq (.t 58) (.c (.int .i64 0)), none⟩,
    ⟨some 57, .mv (.t 59), none⟩] [] (some [0, 3, 6, 57])) (.cond (.t 57) (.seq (.region [⟨some 60, .mv (.t 0), none⟩,
    ⟨some 10, .mv (.t 60), none⟩] [] (some [10])) .ret) (.seq (.region [⟨some 62, .mv (.t 3), none⟩,
    ⟨some 63, .bin .i .eql (.t 62) (.c (.int .i64 7)), none⟩,
    ⟨some 61, .mv (.t 63), none⟩] [] (some [0, 6, 61])) (.cond (.t 61) (.seq (.region [⟨some 64, .mv (.t 0), none⟩,
    ⟨some 65, .bin .i .add (.t 64) (.c (.int .i64 1)), none⟩,
    ⟨some 10, .mv (.t 65), none⟩] [] (some [10])) .ret) .skip))))) (.seq (.region [⟨some 66, .mv (.t 0), none⟩,
    ⟨some 67, .faddr 1 (.t 6), none⟩,
    ⟨some 68, .load 1 false (.t 67), none⟩,
    ⟨some 69, .bin .i .add (.t 66) (.t 68), none⟩,
    ⟨some 10, .mv (.t 69), none⟩] [] (some [10])) .ret))))) }

def c_impl_valueOfEnds_l0 : GC :=
  (.seq (.region [⟨some 13, .bin .i .lss (.t 12) (.t 11), none⟩] [] (some [1, 2, 7, 10, 11, 12, 13])) (.seq (.cond (.t 13) .skip (.exit 0)) (.seq (.block 1 (.seq (.region [⟨some 14, .mv (.t 12), none⟩,
    ⟨some 15, .iaddr 4 (.t 10) (.t 12), none⟩,
    ⟨some 16, .load 4 true (.t 15), none⟩,
    ⟨some 9, .alloc [(.int .i64 0), (.int .i64 0), (.int .i64 0), (.int .i64 0)], none⟩,
    ⟨some 8, .mv (.t 14), none⟩,
    ⟨none, .store 4 (.t 9) (.t 16), none⟩] [] (some [1, 2, 7, 8, 9, 10, 11, 12])) (.region [⟨some 17, .mv (.t 7), none⟩,
    ⟨some 18, .load 4 true (.t 9), none⟩,
    ⟨some 19, .mv (.t 1), none⟩,
    ⟨some 20, .mv (.t 8), none⟩,
    ⟨some 21, .iaddr 1 (.t 19) (.t 20), none⟩,
    ⟨some 22, .load 1 false (.t 21), none⟩,
    ⟨some 23, .mv (.t 2), none⟩,
    ⟨some 24, .mv (.t 8), none⟩,
    ⟨some 25, .bin .i .eql (.t 24) (.c (.int .i64 0)), none⟩,
    ⟨some 26, .call false (.c (.fn n_impl_add [])) [(.t 17), (.t 18), (.t 22), (.t 23), (.t 25)], none⟩,
    ⟨some 7, .mv (.t 26), none⟩] [] (some [1, 2, 7, 10, 11, 12])))) (.region [⟨some 27, .bin .i .add (.t 12) (.c (.int .i64 1)), none⟩,
    ⟨some 12, .mv (.t 27), none⟩] [] (some [1, 2, 7, 10, 11, 12])))))
/-- impl.valueOfEnds -/
def c_impl_valueOfEnds : GFun := { ntmps := 29, results := [.tmp 6], shared := false, body :=
  (.seq (.region [⟨some 6, .mv (.c (.int .i64 0)), none⟩] [] (some [0, 1, 2])) (.seq (.region [⟨some 7, .mv (.c (.int .i64 0)), none⟩] [] (some [0, 1, 2, 7])) (.seq (.seq (.region [⟨some 10, .mv (.t 0), none⟩,
    ⟨some 11, .len (.t 10), none⟩,
    ⟨some 12, .mv (.c (.int .i64 0)), none⟩] [] (some [1, 2, 7, 10, 11, 12])) (.block 0 (.loop false (some [1, 2, 7, 10, 11, 12]) c_impl_valueOfEnds_l0))) (.seq (.region [⟨some 28, .mv (.t 7), none⟩,
    ⟨some 6, .mv (.t 28), none⟩] [] (some [6])) .ret)))) }

def c_impl_endsOf_l0 : GC :=
  (.seq (.region [⟨some 15, .bin .i .lss (.t 14) (.t 13), none⟩] [] (some [0, 5, 6, 12, 13, 14, 15])) (.seq (.cond (.t 15) .skip (.exit 0)) (.seq (.block 1 (.seq (.region [⟨some 16, .iaddr 1 (.t 12) (.t 14), none⟩,
    ⟨some 17, .load 1 false (.t 16), none⟩,
    ⟨some 8, .mv (.t 17), none⟩] [] (some [0, 5, 6, 8, 12, 13, 14])) (.seq (.region [⟨some 18, .mv (.t 6), none⟩,
    ⟨some 19, .mv (.t 0), none⟩,
    ⟨some 20, .mv (.t 8), none⟩,
    ⟨some 21, .iaddr 4 (.t 19) (.t 20), none⟩,
    ⟨some 22, .faddr 2 (.t 21), none⟩,
    ⟨some 23, .load 1 false (.t 22), none⟩,
    ⟨some 24, .mx [(.t 18), (.t 23)], none⟩,
    ⟨some 25, .mv (.t 0), none⟩,
    ⟨some 26, .mv (.t 8), none⟩,
    ⟨some 27, .iaddr 4 (.t 25) (.t 26), none⟩,
    ⟨some 28, .faddr 0 (.t 27), none⟩,
    ⟨some 29, .load 1 false (.t 28), none⟩,
    ⟨some 30, .bin .i .add (.t 24) (.t 29), none⟩,
    ⟨some 6, .mv (.t 30), none⟩] [] (some [0, 5, 6, 8, 12, 13, 14])) (.region [⟨some 31, .mv (.t 5), none⟩,
    ⟨some 32, .mv (.t 8), none⟩,
    ⟨some 33, .mv (.t 6), none⟩,
    ⟨some 34, .iaddr 1 (.t 31) (.t 32), none⟩,
    ⟨none, .store 1 (.t 34) (.t 33), none⟩] [] (some [0, 5, 6, 12, 13, 14]))))) (.region [⟨some 35, .bin .i .add (.t 14) (.c (.int .i64 1)), none⟩,
    ⟨some 14, .mv (.t 35), none⟩] [] (some [0, 5, 6, 12, 13, 14])))))
/-- impl.endsOf -/
def c_impl_endsOf : GFun := { ntmps := 37, results := [.tmp 4], shared := false, body :=
  (.seq (.region [⟨some 4, .mv (.c (.fs [])), none⟩] [] (some [0, 1, 5])) (.seq (.region [⟨some 9, .mv (.t 0), none⟩,
    ⟨some 10, .len (.t 9), none⟩,
    ⟨some 11, .mksl 1 [(.int .i64 0)] 8 (.t 10) (.t 10), none⟩,
    ⟨some 5, .mvo (.t 5) (.t 11), none⟩] [] (some [0, 1, 5])) (.seq (.region [⟨some 6, .mv (.c (.int .i64 0)), none⟩] [] (some [0, 1, 5, 6])) (.seq (.seq (.region [⟨some 12, .mv (.t 1), none⟩,
    ⟨some 13, .len (.t 12), none⟩,
    ⟨some 14, .mv (.c (.int .i64 0)), none⟩] [] (some [0, 5, 6, 12, 13, 14])) (.block 0 (.loop false (some [0, 5, 6, 12, 13, 14]) c_impl_endsOf_l0))) (.seq (.region [⟨some 36, .mv (.t 5), none⟩,
    ⟨some 4, .mv (.t 36), none⟩] [] (some [4])) .ret))))) }

/-- impl.valueOf -/
def c_impl_valueOf : GFun := { ntmps := 13, results := [.tmp 6], shared := false, body :=
  (.seq (.region [⟨some 6, .mv (.c (.int .i64 0)), none⟩] [] (some [0, 1, 2])) (.seq (.region [⟨some 7, .mv (.t 0), none⟩,
    ⟨some 8, .mv (.t 0), none⟩,
    ⟨some 9, .mv (.t 1), none⟩,
    ⟨some 10, .call false (.c (.fn n_impl_endsOf [])) [(.t 8), (.t 9)], none⟩,
    ⟨some 11, .mv (.t 2), none⟩,
    ⟨some 12, .call false (.c (.fn n_impl_valueOfEnds [])) [(.t 7), (.t 10), (.t 11)], none⟩,
    ⟨some 6, .mv (.t 12), none⟩] [] (some [6])) .ret)) }

/-- impl.copyInts -/
def c_impl_copyInts : GFun := { ntmps := 6, results := [.tmp 2], shared := false, body :=
  (.seq (.region [⟨some 2, .nilo 1, none⟩] [] (some [0])) (.seq (.region [⟨some 3, .bsl true 1 [(.int .i64 0)] 0 [], none⟩,
    ⟨some 4, .mv (.t 0), none⟩,
    ⟨some 5, .append false 1 8 (.t 3) (.t 4), none⟩,
    ⟨some 2, .mv (.t 5), none⟩] [] (some [2])) .ret)) }

/-- impl.best$1 -/
def c_impl_best_c1 : GFun := { ntmps := 29, results := [], shared := true, body :=
  (.seq (.region [⟨some 8, .load 1 false (.t 1), none⟩,
    ⟨some 9, .mv (.t 0), none⟩,
    ⟨some 10, .load 1 false (.t 2), none⟩,
    ⟨some 11, .call false (.c (.fn n_impl_valueOf [])) [(.t 8), (.t 9), (.t 10)], none⟩,
    ⟨some 7, .mv (.t 11), none⟩] [] (some [0, 3, 4, 5, 7])) (.block 0 (.seq (.region [⟨some 13, .load 1 false (.t 3), none⟩,
    ⟨some 14, .bin .i .eql (.t 13) (.c (.int .i64 0)), none⟩,
    ⟨some 15, .mv (.t 14), none⟩,
    ⟨some 16, .mv (.t 7), some (15, false)⟩,
    ⟨some 17, .load 1 false (.t 4), some (15, false)⟩,
    ⟨some 18, .bin .i .lss (.t 16) (.t 17), some (15, false)⟩,
    ⟨some 19, .pick (.t 15) (.c (.bool true)) (.t 18), none⟩,
    ⟨some 12, .mv (.t 19), none⟩] [] (some [0, 3, 4, 5, 7, 12])) (.cond (.t 12) (.region [⟨some 20, .mv (.t 0), none⟩,
    ⟨some 21, .call false (.c (.fn n_impl_copyInts [])) [(.t 20)], none⟩,
    ⟨some 22, .mv (.t 7), none⟩,
    ⟨none, .store 1 (.t 5) (.t 21), none⟩,
    ⟨none, .store 1 (.t 4) (.t 22), none⟩,
    ⟨none, .store 1 (.t 3) (.c (.int .i64 1)), none⟩] [] (some [])) (.seq (.region [⟨some 24, .mv (.t 7), none⟩,
    ⟨some 25, .load 1 false (.t 4), none⟩,
    ⟨some 26, .bin .i .eql (.t 24) (.t 25), none⟩,
    ⟨some 23, .mv (.t 26), none⟩] [] (some [3, 23])) (.cond (.t 23) (.region [⟨some 27, .load 1 false (.t 3), none⟩,
    ⟨some 28, .bin .i .add (.t 27) (.c (.int .i64 1)), none⟩,
    ⟨none, .store 1 (.t 3) (.t 28), none⟩] [] (some [])) .skip)))))) }

/-- impl.best -/
def c_impl_best : GFun := { ntmps := 17, results := [.tmp 4, .tmp 5, .tmp 6], shared := false, body :=
  (.seq (.region [⟨some 2, .box 1 (.t 0), none⟩,
    ⟨some 3, .box 1 (.t 1), none⟩,
    ⟨some 4, .mv (.c (.fs [])), none⟩,
    ⟨some 5, .mv (.c (.int .i64 0)), none⟩,
    ⟨some 6, .mv (.c (.int .i64 0)), none⟩] [] (some [2, 3])) (.seq (.region [⟨some 7, .alloc [(.fs [])], none⟩] [] (some [2, 3, 7])) (.seq (.region [⟨some 8, .alloc [(.int .i64 0)], none⟩,
    ⟨some 9, .alloc [(.int .i64 0)], none⟩,
    ⟨none, .store 1 (.t 8) (.c (.int .i64 0)), none⟩,
    ⟨none, .store 1 (.t 9) (.c (.int .i64 0)), none⟩] [] (some [2, 3, 7, 8, 9])) (.seq (.region [⟨some 10, .load 1 false (.t 2), none⟩,
    ⟨some 11, .len (.t 10), none⟩,
    ⟨some 12, .mkfn n_impl_best_c1 [(.t 2), (.t 3), (.t 9), (.t 8), (.t 7)], none⟩,
    ⟨some 13, .call false (.c (.fn n_impl_eachOrder [])) [(.t 11), (.t 12)], none⟩] [] (some [7, 8, 9])) (.seq (.region [⟨some 14, .load 1 false (.t 7), none⟩,
    ⟨some 15, .load 1 false (.t 8), none⟩,
    ⟨some 16, .load 1 false (.t 9), none⟩,
    ⟨some 4, .mv (.t 14), none⟩,
    ⟨some 5, .mv (.t 15), none⟩,
    ⟨some 6, .mv (.t 16), none⟩] [] (some [4, 5, 6])) .ret))))) }

/-- impl.isObjective -/
def c_impl_isObjective : GFun := { ntmps := 5, results := [.tmp 2], shared := false, body :=
  (.seq (.region [⟨some 2, .mv (.c (.bool false)), none⟩] [] (some [0])) (.seq (.region [⟨some 3, .mv (.t 0), none⟩,
    ⟨some 4, .call false (.c (.fn n_impl_within [])) [(.t 3), (.c (.int .i64 1)), (.c (.int .i64 8))], none⟩,
    ⟨some 2, .mv (.t 4), none⟩] [] (some [2])) .ret)) }

/-- impl.BestValue -/
def c_impl_BestValue : GFun := { ntmps := 25, results := [.tmp 4, .tmp 5], shared := false, body :=
  (.seq (.region [⟨some 4, .mv (.c (.int .i64 0)), none⟩,
    ⟨some 5, .mv (.c (.bool false)), none⟩] [] (some [0, 1])) (.seq (.seq (.region [⟨some 9, .mv (.t 0), none⟩,
    ⟨some 10, .call false (.c (.fn n_impl_IsJobs [])) [(.t 9)], none⟩,
    ⟨some 11, .un .not (.t 10), none⟩,
    ⟨some 12, .mv (.t 11), none⟩,
    ⟨some 13, .mv (.t 1), some (12, false)⟩,
    ⟨some 14, .call false (.c (.fn n_impl_isObjective [])) [(.t 13)], some (12, false)⟩,
    ⟨some 15, .un .not (.t 14), some (12, false)⟩,
    ⟨some 16, .pick (.t 12) (.c (.bool true)) (.t 15), none⟩] [] (some [0, 1, 16])) (.cond (.t 16) (.seq (.region [⟨some 4, .mv (.c (.int .i64 0)), none⟩,
    ⟨some 5, .mv (.c (.bool false)), none⟩] [] (some [4, 5])) .ret) .skip)) (.seq (.region [⟨some 18, .mv (.t 0), none⟩,
    ⟨some 19, .mv (.t 1), none⟩,
    ⟨some 20, .call false (.c (.fn n_impl_best [])) [(.t 18), (.t 19)], none⟩,
    ⟨some 17, .mv (.t 20), none⟩,
    ⟨some 21, .ext 0 (.t 17), none⟩,
    ⟨some 22, .ext 1 (.t 17), none⟩,
    ⟨some 23, .ext 2 (.t 17), none⟩,
    ⟨some 6, .mv (.t 21), none⟩,
    ⟨some 7, .mv (.t 22), none⟩,
    ⟨some 8, .mv (.t 23), none⟩] [] (some [7])) (.seq (.region [⟨some 24, .mv (.t 7), none⟩,
    ⟨some 4, .mv (.t 24), none⟩,
    ⟨some 5, .mv (.c (.bool true)), none⟩] [] (some [4, 5])) .ret)))) }

/-- impl.isScheduled -/
def c_impl_isScheduled : GFun := { ntmps := 13, results := [.tmp 4], shared := false, body :=
  (.seq (.region [⟨some 4, .mv (.c (.bool false)), none⟩] [] (some [0, 1])) (.seq (.region [⟨some 5, .mv (.t 0), none⟩,
    ⟨some 6, .call false (.c (.fn n_impl_IsJobs [])) [(.t 5)], none⟩,
    ⟨some 7, .mv (.t 6), none⟩,
    ⟨some 8, .mv (.t 0), some (7, true)⟩,
    ⟨some 9, .len (.t 8), some (7, true)⟩,
    ⟨some 10, .mv (.t 1), some (7, true)⟩,
    ⟨some 11, .call false (.c (.fn n_impl_isOrder [])) [(.t 9), (.t 10)], some (7, true)⟩,
    ⟨some 12, .pick (.t 7) (.t 11) (.c (.bool false)), none⟩,
    ⟨some 4, .mv (.t 12), none⟩] [] (some [4])) .ret)) }

/-- impl.isValued -/
def c_impl_isValued : GFun := { ntmps := 14, results := [.tmp 6], shared := false, body :=
  (.seq (.region [⟨some 6, .mv (.c (.bool false)), none⟩] [] (some [0, 1, 2])) (.seq (.region [⟨some 7, .mv (.t 0), none⟩,
    ⟨some 8, .mv (.t 1), none⟩,
    ⟨some 9, .call false (.c (.fn n_impl_isScheduled [])) [(.t 7), (.t 8)], none⟩,
    ⟨some 10, .mv (.t 9), none⟩,
    ⟨some 11, .mv (.t 2), some (10, true)⟩,
    ⟨some 12, .call false (.c (.fn n_impl_isObjective [])) [(.t 11)], some (10, true)⟩,
    ⟨some 13, .pick (.t 10) (.t 12) (.c (.bool false)), none⟩,
    ⟨some 6, .mv (.t 13), none⟩] [] (some [6])) .ret)) }

/-- impl.ValueOf -/
def c_impl_ValueOf : GFun := { ntmps := 17, results := [.tmp 6, .tmp 7], shared := false, body :=
  (.seq (.region [⟨some 6, .mv (.c (.int .i64 0)), none⟩,
    ⟨some 7, .mv (.c (.bool false)), none⟩] [] (some [0, 1, 2])) (.seq (.seq (.region [⟨some 8, .mv (.t 0), none⟩,
    ⟨some 9, .mv (.t 1), none⟩,
    ⟨some 10, .mv (.t 2), none⟩,
    ⟨some 11, .call false (.c (.fn n_impl_isValued [])) [(.t 8), (.t 9), (.t 10)], none⟩,
    ⟨some 12, .un .not (.t 11), none⟩] [] (some [0, 1, 2, 12])) (.cond (.t 12) (.seq (.region [⟨some 6, .mv (.c (.int .i64 0)), none⟩,
    ⟨some 7, .mv (.c (.bool false)), none⟩] [] (some [6, 7])) .ret) .skip)) (.seq (.region [⟨some 13, .mv (.t 0), none⟩,
    ⟨some 14, .mv (.t 1), none⟩,
    ⟨some 15, .mv (.t 2), none⟩,
    ⟨some 16, .call false (.c (.fn n_impl_valueOf [])) [(.t 13), (.t 14), (.t 15)], none⟩,
    ⟨some 6, .mv (.t 16), none⟩,
    ⟨some 7, .mv (.c (.bool true)), none⟩] [] (some [6, 7])) .ret))) }

/-- (*spec.l1Cur).next -/
def c_spec_l1Cur_next : GFun := { ntmps := 62, results := [.tmp 2], shared := true, body :=
  (.seq (.region [⟨some 2, .mv (.c (.int .i64 0)), none⟩] [] (some [0])) (.seq (.region [⟨some 3, .mv (.c (.int .i64 0)), none⟩] [] (some [0, 3])) (.seq (.seq (.region [⟨some 4, .mv (.t 0), none⟩,
    ⟨some 5, .nilck (.t 4), none⟩,
    ⟨some 6, .faddr 1 (.t 5), none⟩,
    ⟨some 7, .load 1 false (.t 6), none⟩,
    ⟨some 8, .mv (.t 0), none⟩,
    ⟨some 9, .nilck (.t 8), none⟩,
    ⟨some 10, .faddr 0 (.t 9), none⟩,
    ⟨some 11, .load 1 false (.t 10), none⟩,
    ⟨some 12, .len (.t 11), none⟩,
    ⟨some 13, .bin .i .lss (.t 7) (.t 12), none⟩] [] (some [0, 3, 13])) (.cond (.t 13) (.region [⟨some 14, .mv (.t 0), none⟩,
    ⟨some 15, .nilck (.t 14), none⟩,
    ⟨some 16, .faddr 0 (.t 15), none⟩,
    ⟨some 17, .load 1 false (.t 16), none⟩,
    ⟨some 18, .mv (.t 0), none⟩,
    ⟨some 19, .nilck (.t 18), none⟩,
    ⟨some 20, .faddr 1 (.t 19), none⟩,
    ⟨some 21, .load 1 false (.t 20), none⟩,
    ⟨some 22, .iaddr 1 (.t 17) (.t 21), none⟩,
    ⟨some 23, .load 1 false (.t 22), none⟩,
    ⟨some 24, .conv .i64 (.t 23), none⟩,
    ⟨some 3, .mv (.t 24), none⟩] [] (some [0, 3])) .skip)) (.seq (.region [⟨some 25, .mv (.t 0), none⟩,
    ⟨some 26, .nilck (.t 25), none⟩,
    ⟨some 27, .faddr 1 (.t 26), none⟩,
    ⟨some 28, .load 1 false (.t 27), none⟩,
    ⟨some 29, .bin .i .add (.t 28) (.c (.int .i64 1)), none⟩,
    ⟨some 30, .nilck (.t 25), none⟩,
    ⟨some 31, .faddr 1 (.t 30), none⟩,
    ⟨none, .store 1 (.t 31) (.t 29), none⟩] [] (some [0, 3])) (.seq (.region [⟨some 32, .mv (.t 0), none⟩,
    ⟨some 33, .mv (.t 0), none⟩,
    ⟨some 34, .nilck (.t 33), none⟩,
    ⟨some 35, .faddr 2 (.t 34), none⟩,
    ⟨some 36, .load 1 false (.t 35), none⟩,
    ⟨some 37, .bin .i .mul (.t 36) (.c (.int .u64 6364136223846793005)), none⟩,
    ⟨some 38, .mv (.t 3), none⟩,
    ⟨some 39, .conv .u64 (.t 38), none⟩,
    ⟨some 40, .bin .i .add (.t 37) (.t 39), none⟩,
    ⟨some 41, .bin .i .add (.t 40) (.c (.int .u64 462197)), none⟩,
    ⟨some 42, .nilck (.t 32), none⟩,
    ⟨some 43, .faddr 2 (.t 42), none⟩,
    ⟨none, .store 1 (.t 43) (.t 41), none⟩] [] (some [0, 3])) (.seq (.seq (.region [⟨some 44, .mv (.t 0), none⟩,
    ⟨some 45, .nilck (.t 44), none⟩,
    ⟨some 46, .faddr 1 (.t 45), none⟩,
    ⟨some 47, .load 1 false (.t 46), none⟩,
    ⟨some 48, .mv (.t 0), none⟩,
    ⟨some 49, .nilck (.t 48), none⟩,
    ⟨some 50, .faddr 0 (.t 49), none⟩,
    ⟨some 51, .load 1 false (.t 50), none⟩,
    ⟨some 52, .len (.t 51), none⟩,
    ⟨some 53, .bin .i .leq (.t 47) (.t 52), none⟩] [] (some [0, 3, 53])) (.cond (.t 53) (.seq (.region [⟨some 54, .mv (.t 3), none⟩,
    ⟨some 2, .mv (.t 54), none⟩] [] (some [2])) .ret) .skip)) (.seq (.region [⟨some 55, .mv (.t 0), none⟩,
    ⟨some 56, .nilck (.t 55), none⟩,
    ⟨some 57, .faddr 2 (.t 56), none⟩,
    ⟨some 58, .load 1 false (.t 57), none⟩,
    ⟨some 59, .bin .i .shr (.t 58) (.c (.int .u64 40)), none⟩,
    ⟨some 60, .bin .i .and (.t 59) (.c (.int .u64 255)), none⟩,
    ⟨some 61, .conv .i64 (.t 60), none⟩,
    ⟨some 2, .mv (.t 61), none⟩] [] (some [2])) .ret))))))) }

/-- (*spec.l1Cur).pick -/
def c_spec_l1Cur_pick : GFun := { ntmps := 20, results := [.tmp 4], shared := true, body :=
  (.seq (.region [⟨some 4, .mv (.c (.int .i64 0)), none⟩] [] (some [0, 1])) (.seq (.seq (.region [⟨some 6, .mv (.t 1), none⟩,
    ⟨some 7, .bin .i .leq (.t 6) (.c (.int .i64 1)), none⟩] [] (some [0, 1, 7])) (.cond (.t 7) (.seq (.region [⟨some 4, .mv (.c (.int .i64 0)), none⟩] [] (some [4])) .ret) .skip)) (.seq (.region [⟨some 8, .mv (.t 0), none⟩,
    ⟨some 9, .call false (.c (.fn n_spec_l1Cur_next [])) [(.t 8)], none⟩,
    ⟨some 5, .mv (.t 9), none⟩] [] (some [0, 1, 5])) (.seq (.seq (.region [⟨some 10, .mv (.t 1), none⟩,
    ⟨some 11, .bin .i .gtr (.t 10) (.c (.int .i64 200)), none⟩] [] (some [0, 1, 5, 11])) (.cond (.t 11) (.region [⟨some 12, .mv (.t 5), none⟩,
    ⟨some 13, .bin .i .mul (.t 12) (.c (.int .i64 256)), none⟩,
    ⟨some 14, .mv (.t 0), none⟩,
    ⟨some 15, .call false (.c (.fn n_spec_l1Cur_next [])) [(.t 14)], none⟩,
    ⟨some 16, .bin .i .add (.t 13) (.t 15), none⟩,
    ⟨some 5, .mv (.t 16), none⟩] [] (some [1, 5])) .skip)) (.seq (.region [⟨some 17, .mv (.t 5), none⟩,
    ⟨some 18, .mv (.t 1), none⟩,
    ⟨some 19, .bin .i .rem (.t 17) (.t 18), none⟩,
    ⟨some 4, .mv (.t 19), none⟩] [] (some [4])) .ret))))) }

/-- (*spec.l1Cur).one -/
def c_spec_l1Cur_one : GFun := { ntmps := 9, results := [.tmp 4], shared := true, body :=
  (.seq (.region [⟨some 4, .mv (.c (.bool false)), none⟩] [] (some [0, 1])) (.seq (.region [⟨some 5, .mv (.t 0), none⟩,
    ⟨some 6, .mv (.t 1), none⟩,
    ⟨some 7, .call false (.c (.fn n_spec_l1Cur_pick [])) [(.t 5), (.t 6)], none⟩,
    ⟨some 8, .bin .i .eql (.t 7) (.c (.int .i64 0)), none⟩,
    ⟨some 4, .mv (.t 8), none⟩] [] (some [4])) .ret)) }

/-- (*spec.l1Cur).among -/
def c_spec_l1Cur_among : GFun := { ntmps := 12, results := [.tmp 4], shared := true, body :=
  (.seq (.region [⟨some 4, .mv (.c (.int .i64 0)), none⟩] [] (some [0, 1])) (.seq (.region [⟨some 5, .mv (.t 1), none⟩,
    ⟨some 6, .mv (.t 0), none⟩,
    ⟨some 7, .mv (.t 1), none⟩,
    ⟨some 8, .len (.t 7), none⟩,
    ⟨some 9, .call false (.c (.fn n_spec_l1Cur_pick [])) [(.t 6), (.t 8)], none⟩,
    ⟨some 10, .iaddr 1 (.t 5) (.t 9), none⟩,
    ⟨some 11, .load 1 false (.t 10), none⟩,
    ⟨some 4, .mv (.t 11), none⟩] [] (some [4])) .ret)) }

def c_spec_l1Cur_order_l0 : GC :=
  (.seq (.seq (.region [⟨some 9, .mv (.t 6), none⟩,
    ⟨some 10, .mv (.t 1), none⟩,
    ⟨some 11, .bin .i .lss (.t 9) (.t 10), none⟩] [] (some [0, 1, 5, 6, 11])) (.cond (.t 11) .skip (.exit 0))) (.seq (.block 1 (.seq (.region [⟨some 14, .mv (.t 0), none⟩,
    ⟨some 15, .mv (.t 5), none⟩,
    ⟨some 16, .len (.t 15), none⟩,
    ⟨some 17, .bin .i .add (.t 16) (.c (.int .i64 1)), none⟩,
    ⟨some 18, .call false (.c (.fn n_spec_l1Cur_pick [])) [(.t 14), (.t 17)], none⟩,
    ⟨some 7, .mv (.t 18), none⟩] [] (some [0, 1, 5, 6, 7])) (.region [⟨some 19, .bsl true 1 [(.int .i64 0)] 0 [], none⟩,
    ⟨some 20, .mv (.t 5), none⟩,
    ⟨some 21, .mv (.t 7), none⟩,
    ⟨some 22, .slice 1 (.t 20) none (some (.t 21)), none⟩,
    ⟨some 23, .append false 1 8 (.t 19) (.t 22), none⟩,
    ⟨some 24, .mv (.t 6), none⟩,
    ⟨some 25, .bsl false 1 [(.int .i64 0)] 1 [(0, (.t 24))], none⟩,
    ⟨some 26, .append false 1 8 (.t 23) (.t 25), none⟩,
    ⟨some 27, .mv (.t 5), none⟩,
    ⟨some 28, .mv (.t 7), none⟩,
    ⟨some 29, .slice 1 (.t 27) (some (.t 28)) none, none⟩,
    ⟨some 30, .append false 1 8 (.t 26) (.t 29), none⟩,
    ⟨some 5, .mvo (.t 5) (.t 30), none⟩] [] (some [0, 1, 5, 6])))) (.region [⟨some 12, .mv (.t 6), none⟩,
    ⟨some 13, .bin .i .add (.t 12) (.c (.int .i64 1)), none⟩,
    ⟨some 6, .mv (.t 13), none⟩] [] (some [0, 1, 5, 6]))))
/-- (*spec.l1Cur).order -/
def c_spec_l1Cur_order : GFun := { ntmps := 41, results := [.tmp 4], shared := true, body :=
  (.seq (.region [⟨some 4, .mv (.c (.fs [])), none⟩] [] (some [0, 1, 5])) (.seq (.region [⟨some 8, .bsl true 1 [(.int .i64 0)] 0 [], none⟩,
    ⟨some 5, .mvo (.t 5) (.t 8), none⟩] [] (some [0, 1, 5])) (.seq (.seq (.region [⟨some 6, .mv (.c (.int .i64 0)), none⟩] [] (some [0, 1, 5, 6])) (.block 0 (.loop false (some [0, 1, 5, 6]) c_spec_l1Cur_order_l0))) (.seq (.seq (.region [⟨some 31, .mv (.t 0), none⟩,
    ⟨some 32, .call false (.c (.fn n_spec_l1Cur_one [])) [(.t 31), (.c (.int .i64 30))], none⟩] [] (some [0, 1, 5, 32])) (.cond (.t 32) (.region [⟨some 33, .mv (.t 5), none⟩,
    ⟨some 34, .mv (.t 0), none⟩,
    ⟨some 35, .mv (.t 1), none⟩,
    ⟨some 36, .bsl false 1 [(.int .i64 0)] 3 [(0, (.c (.int .i64 0))), (1, (.t 35)), (2, (.c (.int .i64 (-1))))], none⟩,
    ⟨some 37, .call false (.c (.fn n_spec_l1Cur_among [])) [(.t 34), (.t 36)], none⟩,
    ⟨some 38, .bsl false 1 [(.int .i64 0)] 1 [(0, (.t 37))], none⟩,
    ⟨some 39, .append false 1 8 (.t 33) (.t 38), none⟩,
    ⟨some 5, .mvo (.t 5) (.t 39), none⟩] [] (some [5])) .skip)) (.seq (.region [⟨some 40, .mv (.t 5), none⟩,
    ⟨some 4, .mv (.t 40), none⟩] [] (some [4])) .ret))))) }

/-- (*spec.l1Cur).spoiltJob -/
def c_spec_l1Cur_spoiltJob : GFun := { ntmps := 30, results := [.cell 4 4 true], shared := true, body :=
  (.seq (.region [⟨some 3, .box 4 (.t 1), none⟩,
    ⟨some 4, .alloc [(.int .i64 0), (.int .i64 0), (.int .i64 0), (.int .i64 0)], none⟩] [] (some [0, 3, 4])) (.seq (.seq (.region [⟨some 5, .mv (.t 0), none⟩,
    ⟨some 6, .call false (.c (.fn n_spec_l1Cur_pick [])) [(.t 5), (.c (.int .i64 4))], none⟩] [] (some [0, 3, 4, 6])) (.block 0 (.seq (.region [⟨some 12, .bin .i .eql (.t 6) (.c (.int .i64 0)), none⟩,
    ⟨some 11, .mv (.t 12), none⟩] [] (some [0, 3, 4, 6, 11])) (.cond (.t 11) (.region [⟨some 13, .mv (.t 0), none⟩,
    ⟨some 14, .bsl false 1 [(.int .i64 0)] 5 [(0, (.c (.int .i64 0))), (1, (.c (.int .i64 50))), (2, (.c (.int .i64 51))), (3, (.c (.int .i64 (-1)))), (4, (.c (.int .i64 4611686018427387904)))], none⟩,
    ⟨some 15, .call false (.c (.fn n_spec_l1Cur_among [])) [(.t 13), (.t 14)], none⟩,
    ⟨some 16, .faddr 0 (.t 3), none⟩,
    ⟨none, .store 1 (.t 16) (.t 15), none⟩] [] (some [3, 4])) (.seq (.region [⟨some 18, .bin .i .eql (.t 6) (.c (.int .i64 1)), none⟩,
    ⟨some 17, .mv (.t 18), none⟩] [] (some [0, 3, 4, 6, 17])) (.cond (.t 17) (.region [⟨some 19, .mv (.t 0), none⟩,
    ⟨some 20, .bsl false 1 [(.int .i64 0)] 3 [(0, (.c (.int .i64 (-1)))), (1, (.c (.int .i64 50))), (2, (.c (.int .i64 51)))], none⟩,
    ⟨some 21, .call false (.c (.fn n_spec_l1Cur_among [])) [(.t 19), (.t 20)], none⟩,
    ⟨some 22, .faddr 1 (.t 3), none⟩,
    ⟨none, .store 1 (.t 22) (.t 21), none⟩] [] (some [3, 4])) (.seq (.region [⟨some 24, .bin .i .eql (.t 6) (.c (.int .i64 2)), none⟩,
    ⟨some 23, .mv (.t 24), none⟩] [] (some [0, 3, 4, 23])) (.cond (.t 23) (.region [⟨some 25, .mv (.t 0), none⟩,
    ⟨some 26, .bsl false 1 [(.int .i64 0)] 3 [(0, (.c (.int .i64 (-1)))), (1, (.c (.int .i64 500))), (2, (.c (.int .i64 501)))], none⟩,
    ⟨some 27, .call false (.c (.fn n_spec_l1Cur_among [])) [(.t 25), (.t 26)], none⟩,
    ⟨some 28, .faddr 2 (.t 3), none⟩,
    ⟨none, .store 1 (.t 28) (.t 27), none⟩] [] (some [3, 4])) (.region [⟨some 7, .mv (.t 0), none⟩,
    ⟨some 8, .bsl false 1 [(.int .i64 0)] 4 [(0, (.c (.int .i64 (-1)))), (1, (.c (.int .i64 500))), (2, (.c (.int .i64 501))), (3, (.c (.int .i64 (-9223372036854775808))))], none⟩,
    ⟨some 9, .call false (.c (.fn n_spec_l1Cur_among [])) [(.t 7), (.t 8)], none⟩,
    ⟨some 10, .faddr 3 (.t 3), none⟩,
    ⟨none, .store 1 (.t 10) (.t 9), none⟩] [] (some [3, 4])))))))))) (.seq (.region [⟨some 29, .load 4 true (.t 3), none⟩,
    ⟨none, .store 4 (.t 4) (.t 29), none⟩] [] (some [4])) .ret))) }

/-- (*spec.l1Cur).job -/
def c_spec_l1Cur_job : GFun := { ntmps := 20, results := [.cell 4 4 true], shared := true, body :=
  (.seq (.region [⟨some 4, .alloc [(.int .i64 0), (.int .i64 0), (.int .i64 0), (.int .i64 0)], none⟩] [] (some [0, 1, 4])) (.seq (.region [⟨some 6, .mv (.t 0), none⟩,
    ⟨some 7, .bsl false 1 [(.int .i64 0)] 7 [(0, (.c (.int .i64 1))), (1, (.c (.int .i64 2))), (2, (.c (.int .i64 3))), (3, (.c (.int .i64 4))), (4, (.c (.int .i64 5))), (5, (.c (.int .i64 7))), (6, (.c (.int .i64 9)))], none⟩,
    ⟨some 8, .call false (.c (.fn n_spec_l1Cur_among [])) [(.t 6), (.t 7)], none⟩,
    ⟨some 9, .mv (.t 0), none⟩,
    ⟨some 10, .bsl false 1 [(.int .i64 0)] 7 [(0, (.c (.int .i64 0))), (1, (.c (.int .i64 1))), (2, (.c (.int .i64 1))), (3, (.c (.int .i64 2))), (4, (.c (.int .i64 3))), (5, (.c (.int .i64 5))), (6, (.c (.int .i64 8)))], none⟩,
    ⟨some 11, .call false (.c (.fn n_spec_l1Cur_among [])) [(.t 9), (.t 10)], none⟩,
    ⟨some 12, .mv (.t 0), none⟩,
    ⟨some 13, .call false (.c (.fn n_spec_l1Cur_pick [])) [(.t 12), (.c (.int .i64 24))], none⟩,
    ⟨some 14, .build [(.int .i64 0), (.int .i64 0), (.int .i64 0), (.int .i64 0)] [(0, 1, (.t 8)), (1, 1, (.t 11)), (3, 1, (.t 13))], none⟩,
    ⟨some 5, .alloc [(.int .i64 0), (.int .i64 0), (.int .i64 0), (.int .i64 0)], none⟩,
    ⟨none, .store 4 (.t 5) (.t 14), none⟩] [] (some [0, 1, 4, 5])) (.seq (.seq (.region [⟨some 15, .mv (.t 1), none⟩] [] (some [0, 4, 5, 15])) (.cond (.t 15) (.region [⟨some 16, .mv (.t 0), none⟩,
    ⟨some 17, .call false (.c (.fn n_spec_l1Cur_pick [])) [(.t 16), (.c (.int .i64 12))], none⟩,
    ⟨some 18, .faddr 2 (.t 5), none⟩,
    ⟨none, .store 1 (.t 18) (.t 17), none⟩] [] (some [4, 5])) .skip)) (.seq (.region [⟨some 19, .load 4 true (.t 5), none⟩,
    ⟨none, .store 4 (.t 4) (.t 19), none⟩] [] (some [4])) .ret)))) }

def c_spec_l1Cur_someJobs_l0 : GC :=
  (.seq (.seq (.region [⟨some 23, .mv (.t 8), none⟩,
    ⟨some 24, .bin .i .gtr (.t 23) (.c (.int .i64 0)), none⟩,
    ⟨some 25, .mv (.t 24), none⟩,
    ⟨some 26, .mv (.t 7), some (25, true)⟩,
    ⟨some 27, .len (.t 26), some (25, true)⟩,
    ⟨some 28, .mv (.t 2), some (25, true)⟩,
    ⟨some 29, .bin .i .lss (.t 27) (.t 28), some (25, true)⟩,
    ⟨some 30, .pick (.t 25) (.t 29) (.c (.bool false)), none⟩] [] (some [0, 1, 2, 7, 8, 30])) (.cond (.t 30) .skip (.exit 0))) (.seq (.block 1 (.region [⟨some 33, .mv (.t 7), none⟩,
    ⟨some 34, .mv (.t 0), none⟩,
    ⟨some 35, .mv (.t 1), none⟩,
    ⟨some 36, .call false (.c (.fn n_spec_l1Cur_job [])) [(.t 34), (.t 35)], none⟩,
    ⟨some 37, .bsl false 4 [(.int .i64 0), (.int .i64 0), (.int .i64 0), (.int .i64 0)] 1 [(0, (.t 36))], none⟩,
    ⟨some 38, .append false 4 32 (.t 33) (.t 37), none⟩,
    ⟨some 7, .mvo (.t 7) (.t 38), none⟩] [] (some [0, 1, 2, 7, 8]))) (.region [⟨some 31, .mv (.t 8), none⟩,
    ⟨some 32, .bin .i .sub (.t 31) (.c (.int .i64 1)), none⟩,
    ⟨some 8, .mv (.t 32), none⟩] [] (some [0, 1, 2, 7, 8]))))
def c_spec_l1Cur_someJobs_l1 : GC :=
  (.seq (.seq (.region [⟨some 61, .mv (.t 7), none⟩,
    ⟨some 62, .len (.t 61), none⟩,
    ⟨some 63, .bin .i .lss (.t 62) (.c (.int .i64 9)), none⟩] [] (some [0, 1, 7, 63])) (.cond (.t 63) .skip (.exit 2))) (.block 3 (.region [⟨some 64, .mv (.t 7), none⟩,
    ⟨some 65, .mv (.t 0), none⟩,
    ⟨some 66, .mv (.t 1), none⟩,
    ⟨some 67, .call false (.c (.fn n_spec_l1Cur_job [])) [(.t 65), (.t 66)], none⟩,
    ⟨some 68, .bsl false 4 [(.int .i64 0), (.int .i64 0), (.int .i64 0), (.int .i64 0)] 1 [(0, (.t 67))], none⟩,
    ⟨some 69, .append false 4 32 (.t 64) (.t 68), none⟩,
    ⟨some 7, .mvo (.t 7) (.t 69), none⟩] [] (some [0, 1, 7]))))
/-- (*spec.l1Cur).someJobs -/
def c_spec_l1Cur_someJobs : GFun := { ntmps := 71, results := [.tmp 6], shared := true, body :=
  (.seq (.region [⟨some 6, .nilo 4, none⟩] [] (some [0, 1, 2, 7])) (.seq (.region [⟨some 10, .bsl true 4 [(.int .i64 0), (.int .i64 0), (.int .i64 0), (.int .i64 0)] 0 [], none⟩,
    ⟨some 11, .mv (.t 0), none⟩,
    ⟨some 12, .bsl false 1 [(.int .i64 0)] 7 [(0, (.c (.int .i64 3))), (1, (.c (.int .i64 4))), (2, (.c (.int .i64 5))), (3, (.c (.int .i64 2))), (4, (.c (.int .i64 6))), (5, (.c (.int .i64 1))), (6, (.c (.int .i64 0)))], none⟩,
    ⟨some 13, .call false (.c (.fn n_spec_l1Cur_among [])) [(.t 11), (.t 12)], none⟩,
    ⟨some 7, .mvo (.t 7) (.t 10), none⟩,
    ⟨some 8, .mv (.t 13), none⟩] [] (some [0, 1, 2, 7, 8])) (.seq (.seq (.region [⟨some 14, .mv (.t 2), none⟩,
    ⟨some 15, .bin .i .gtr (.t 14) (.c (.int .i64 6)), none⟩,
    ⟨some 16, .mv (.t 15), none⟩,
    ⟨some 17, .mv (.t 0), some (16, true)⟩,
    ⟨some 18, .call false (.c (.fn n_spec_l1Cur_one [])) [(.t 17), (.c (.int .i64 6))], some (16, true)⟩,
    ⟨some 19, .pick (.t 16) (.t 18) (.c (.bool false)), none⟩] [] (some [0, 1, 2, 7, 8, 19])) (.cond (.t 19) (.region [⟨some 20, .mv (.t 0), none⟩,
    ⟨some 21, .call false (.c (.fn n_spec_l1Cur_pick [])) [(.t 20), (.c (.int .i64 2))], none⟩,
    ⟨some 22, .bin .i .add (.c (.int .i64 7)) (.t 21), none⟩,
    ⟨some 8, .mv (.t 22), none⟩] [] (some [0, 1, 2, 7, 8])) .skip)) (.seq (.block 0 (.loop false (some [0, 1, 2, 7, 8]) c_spec_l1Cur_someJobs_l0)) (.seq (.seq (.region [⟨some 39, .mv (.t 7), none⟩,
    ⟨some 40, .len (.t 39), none⟩,
    ⟨some 41, .bin .i .gtr (.t 40) (.c (.int .i64 0)), none⟩,
    ⟨some 42, .mv (.t 41), none⟩,
    ⟨some 43, .mv (.t 0), some (42, true)⟩,
    ⟨some 44, .call false (.c (.fn n_spec_l1Cur_one [])) [(.t 43), (.c (.int .i64 20))], some (42, true)⟩,
    ⟨some 45, .pick (.t 42) (.t 44) (.c (.bool false)), none⟩] [] (some [0, 1, 7, 45])) (.cond (.t 45) (.seq (.region [⟨some 46, .mv (.t 0), none⟩,
    ⟨some 47, .mv (.t 7), none⟩,
    ⟨some 48, .len (.t 47), none⟩,
    ⟨some 49, .call false (.c (.fn n_spec_l1Cur_pick [])) [(.t 46), (.t 48)], none⟩,
    ⟨some 9, .mv (.t 49), none⟩] [] (some [0, 1, 7, 9])) (.region [⟨some 50, .mv (.t 7), none⟩,
    ⟨some 51, .mv (.t 9), none⟩,
    ⟨some 52, .mv (.t 0), none⟩,
    ⟨some 53, .mv (.t 7), none⟩,
    ⟨some 54, .mv (.t 9), none⟩,
    ⟨some 55, .iaddr 4 (.t 53) (.t 54), none⟩,
    ⟨some 56, .load 4 true (.t 55), none⟩,
    ⟨some 57, .call false (.c (.fn n_spec_l1Cur_spoiltJob [])) [(.t 52), (.t 56)], none⟩,
    ⟨some 58, .iaddr 4 (.t 50) (.t 51), none⟩,
    ⟨none, .store 4 (.t 58) (.t 57), none⟩] [] (some [0, 1, 7]))) .skip)) (.seq (.seq (.region [⟨some 59, .mv (.t 0), none⟩,
    ⟨some 60, .call false (.c (.fn n_spec_l1Cur_one [])) [(.t 59), (.c (.int .i64 60))], none⟩] [] (some [0, 1, 7, 60])) (.cond (.t 60) (.block 2 (.loop false (some [0, 1, 7]) c_spec_l1Cur_someJobs_l1)) .skip)) (.seq (.region [⟨some 70, .mv (.t 7), none⟩,
    ⟨some 6, .mv (.t 70), none⟩] [] (some [6])) .ret))))))) }

/-- (*spec.l1Cur).jobs -/
def c_spec_l1Cur_jobs : GFun := { ntmps := 7, results := [.tmp 2], shared := true, body :=
  (.seq (.region [⟨some 2, .nilo 4, none⟩] [] (some [0])) (.seq (.region [⟨some 3, .mv (.t 0), none⟩,
    ⟨some 4, .mv (.t 0), none⟩,
    ⟨some 5, .call false (.c (.fn n_spec_l1Cur_one [])) [(.t 4), (.c (.int .i64 2))], none⟩,
    ⟨some 6, .call true (.c (.fn n_spec_l1Cur_someJobs [])) [(.t 3), (.t 5), (.c (.int .i64 6))], none⟩,
    ⟨some 2, .mv (.t 6), none⟩] [] (some [2])) .ret)) }

def c_spec_l1Cur_plain3_l0 : GC :=
  (.seq (.seq (.region [⟨some 10, .mv (.t 4), none⟩,
    ⟨some 11, .mv (.t 3), none⟩,
    ⟨some 12, .len (.t 11), none⟩,
    ⟨some 13, .bin .i .lss (.t 10) (.t 12), none⟩] [] (some [0, 3, 4, 13])) (.cond (.t 13) .skip (.exit 0))) (.seq (.block 1 (.seq (.region [⟨some 16, .mv (.t 3), none⟩,
    ⟨some 17, .mv (.t 4), none⟩,
    ⟨some 18, .iaddr 4 (.t 16) (.t 17), none⟩,
    ⟨some 19, .faddr 2 (.t 18), none⟩,
    ⟨none, .store 1 (.t 19) (.c (.int .i64 0)), none⟩] [] (some [0, 3, 4])) (.seq (.region [⟨some 20, .mv (.t 4), none⟩,
    ⟨some 21, .bin .i .gtr (.t 20) (.c (.int .i64 0)), none⟩,
    ⟨some 22, .mv (.t 21), none⟩,
    ⟨some 23, .mv (.t 0), some (22, true)⟩,
    ⟨some 24, .call false (.c (.fn n_spec_l1Cur_one [])) [(.t 23), (.c (.int .i64 3))], some (22, true)⟩,
    ⟨some 25, .pick (.t 22) (.t 24) (.c (.bool false)), none⟩] [] (some [0, 3, 4, 25])) (.cond (.t 25) (.seq (.region [⟨some 26, .mv (.t 3), none⟩,
    ⟨some 27, .mv (.t 4), none⟩,
    ⟨some 28, .mv (.t 3), none⟩,
    ⟨some 29, .mv (.t 4), none⟩,
    ⟨some 30, .bin .i .sub (.t 29) (.c (.int .i64 1)), none⟩,
    ⟨some 31, .iaddr 4 (.t 28) (.t 30), none⟩,
    ⟨some 32, .faddr 0 (.t 31), none⟩,
    ⟨some 33, .load 1 false (.t 32), none⟩,
    ⟨some 34, .iaddr 4 (.t 26) (.t 27), none⟩,
    ⟨some 35, .faddr 0 (.t 34), none⟩,
    ⟨none, .store 1 (.t 35) (.t 33), none⟩] [] (some [0, 3, 4])) (.region [⟨some 36, .mv (.t 3), none⟩,
    ⟨some 37, .mv (.t 4), none⟩,
    ⟨some 38, .mv (.t 3), none⟩,
    ⟨some 39, .mv (.t 4), none⟩,
    ⟨some 40, .bin .i .sub (.t 39) (.c (.int .i64 1)), none⟩,
    ⟨some 41, .iaddr 4 (.t 38) (.t 40), none⟩,
    ⟨some 42, .faddr 1 (.t 41), none⟩,
    ⟨some 43, .load 1 false (.t 42), none⟩,
    ⟨some 44, .iaddr 4 (.t 36) (.t 37), none⟩,
    ⟨some 45, .faddr 1 (.t 44), none⟩,
    ⟨none, .store 1 (.t 45) (.t 43), none⟩] [] (some [0, 3, 4]))) .skip)))) (.region [⟨some 14, .mv (.t 4), none⟩,
    ⟨some 15, .bin .i .add (.t 14) (.c (.int .i64 1)), none⟩,
    ⟨some 4, .mv (.t 15), none⟩] [] (some [0, 3, 4]))))
/-- (*spec.l1Cur).plain3 -/
def c_spec_l1Cur_plain3 : GFun := { ntmps := 47, results := [.tmp 2], shared := true, body :=
  (.seq (.region [⟨some 2, .mv (.c (.fs [])), none⟩] [] (some [0, 3])) (.seq (.region [⟨some 5, .mv (.t 0), none⟩,
    ⟨some 6, .call true (.c (.fn n_spec_l1Cur_jobs [])) [(.t 5)], none⟩,
    ⟨some 3, .mvo (.t 3) (.t 6), none⟩] [] (some [0, 3])) (.seq (.seq (.region [⟨some 7, .mv (.t 0), none⟩,
    ⟨some 8, .call false (.c (.fn n_spec_l1Cur_one [])) [(.t 7), (.c (.int .i64 24))], none⟩] [] (some [0, 3, 8])) (.cond (.t 8) (.seq (.region [⟨some 9, .mv (.t 3), none⟩,
    ⟨some 2, .mv (.t 9), none⟩] [] (some [2])) .ret) .skip)) (.seq (.seq (.region [⟨some 4, .mv (.c (.int .i64 0)), none⟩] [] (some [0, 3, 4])) (.block 0 (.loop false (some [0, 3, 4]) c_spec_l1Cur_plain3_l0))) (.seq (.region [⟨some 46, .mv (.t 3), none⟩,
    ⟨some 2, .mv (.t 46), none⟩] [] (some [2])) .ret))))) }

/-- spec.DrawPairLoss -/
def c_spec_DrawPairLoss : GFun := { ntmps := 16, results := [.tmp 2, .tmp 3], shared := false, body :=
  (.seq (.region [⟨some 2, .mv (.c (.fs [])), none⟩,
    ⟨some 3, .mv (.c (.fs [])), none⟩] [] (some [0])) (.seq (.region [⟨some 6, .mv (.t 0), none⟩,
    ⟨some 7, .build [(.fs []), (.int .i64 0), (.int .u64 0)] [(0, 1, (.t 6))], none⟩,
    ⟨some 8, .box 3 (.t 7), none⟩,
    ⟨some 4, .mv (.t 8), none⟩] [] (some [4])) (.seq (.region [⟨some 9, .mv (.t 4), none⟩,
    ⟨some 10, .call false (.c (.fn n_spec_l1Cur_plain3 [])) [(.t 9)], none⟩,
    ⟨some 5, .mv (.t 10), none⟩] [] (some [4, 5])) (.seq (.region [⟨some 11, .mv (.t 5), none⟩,
    ⟨some 12, .mv (.t 4), none⟩,
    ⟨some 13, .mv (.t 5), none⟩,
    ⟨some 14, .len (.t 13), none⟩,
    ⟨some 15, .call false (.c (.fn n_spec_l1Cur_order [])) [(.t 12), (.t 14)], none⟩,
    ⟨some 2, .mv (.t 11), none⟩,
    ⟨some 3, .mv (.t 15), none⟩] [] (some [2, 3])) .ret)))) }

def c_impl_inversions_l1 : GC :=
  (.seq (.region [⟨some 25, .bin .i .lss (.t 24) (.t 23), none⟩] [] (some [0, 1, 2, 7, 9, 12, 13, 14, 22, 23, 24, 25])) (.seq (.cond (.t 25) .skip (.exit 2)) (.seq (.block 3 (.seq (.region [⟨some 26, .iaddr 1 (.t 22) (.t 24), none⟩,
    ⟨some 27, .load 1 false (.t 26), none⟩,
    ⟨some 11, .mv (.t 27), none⟩] [] (some [0, 1, 2, 7, 9, 11, 12, 13, 14, 22, 23, 24])) (.seq (.region [⟨some 28, .mv (.t 0), none⟩,
    ⟨some 29, .mv (.t 11), none⟩,
    ⟨some 30, .iaddr 4 (.t 28) (.t 29), none⟩,
    ⟨some 31, .load 4 true (.t 30), none⟩,
    ⟨some 32, .mv (.t 0), none⟩,
    ⟨some 33, .mv (.t 9), none⟩,
    ⟨some 34, .iaddr 4 (.t 32) (.t 33), none⟩,
    ⟨some 35, .load 4 true (.t 34), none⟩,
    ⟨some 36, .mv (.t 2), none⟩,
    ⟨some 37, .call false (.c (.fn n_impl_difference [])) [(.t 31), (.t 35), (.t 36)], none⟩,
    ⟨some 38, .bin .i .lss (.t 37) (.c (.int .i64 0)), none⟩] [] (some [0, 1, 2, 7, 9, 11, 12, 13, 14, 22, 23, 24, 38])) (.cond (.t 38) (.region [⟨some 39, .mv (.t 7), none⟩,
    ⟨some 40, .mv (.t 9), none⟩,
    ⟨some 41, .mv (.t 11), none⟩,
    ⟨some 42, .build [(.int .i64 0), (.int .i64 0)] [(0, 1, (.t 40)), (1, 1, (.t 41))], none⟩,
    ⟨some 43, .bsl false 2 [(.int .i64 0), (.int .i64 0)] 1 [(0, (.t 42))], none⟩,
    ⟨some 44, .append false 2 16 (.t 39) (.t 43), none⟩,
    ⟨some 7, .mvo (.t 7) (.t 44), none⟩] [] (some [0, 1, 2, 7, 9, 12, 13, 14, 22, 23, 24])) .skip)))) (.region [⟨some 45, .bin .i .add (.t 24) (.c (.int .i64 1)), none⟩,
    ⟨some 24, .mv (.t 45), none⟩] [] (some [0, 1, 2, 7, 9, 12, 13, 14, 22, 23, 24])))))
def c_impl_inversions_l0 : GC :=
  (.seq (.region [⟨some 15, .bin .i .lss (.t 14) (.t 13), none⟩] [] (some [0, 1, 2, 7, 12, 13, 14, 15])) (.seq (.cond (.t 15) .skip (.exit 0)) (.seq (.block 1 (.seq (.region [⟨some 16, .mv (.t 14), none⟩,
    ⟨some 17, .iaddr 1 (.t 12) (.t 14), none⟩,
    ⟨some 18, .load 1 false (.t 17), none⟩,
    ⟨some 8, .mv (.t 16), none⟩,
    ⟨some 9, .mv (.t 18), none⟩] [] (some [0, 1, 2, 7, 8, 9, 12, 13, 14])) (.seq (.region [⟨some 19, .mv (.t 1), none⟩,
    ⟨some 20, .mv (.t 8), none⟩,
    ⟨some 21, .bin .i .add (.t 20) (.c (.int .i64 1)), none⟩,
    ⟨some 22, .slice 1 (.t 19) (some (.t 21)) none, none⟩,
    ⟨some 23, .len (.t 22), none⟩,
    ⟨some 24, .mv (.c (.int .i64 0)), none⟩] [] (some [0, 1, 2, 7, 9, 12, 13, 14, 22, 23, 24])) (.block 2 (.loop false (some [0, 1, 2, 7, 9, 12, 13, 14, 22, 23, 24]) c_impl_inversions_l1))))) (.region [⟨some 46, .bin .i .add (.t 14) (.c (.int .i64 1)), none⟩,
    ⟨some 14, .mv (.t 46), none⟩] [] (some [0, 1, 2, 7, 12, 13, 14])))))
/-- impl.inversions -/
def c_impl_inversions : GFun := { ntmps := 48, results := [.tmp 6], shared := false, body :=
  (.seq (.region [⟨some 6, .mv (.c (.fs [])), none⟩] [] (some [0, 1, 2])) (.seq (.region [⟨some 7, .nilo 2, none⟩] [] (some [0, 1, 2, 7])) (.seq (.seq (.region [⟨some 12, .mv (.t 1), none⟩,
    ⟨some 13, .len (.t 12), none⟩,
    ⟨some 14, .mv (.c (.int .i64 0)), none⟩] [] (some [0, 1, 2, 7, 12, 13, 14])) (.block 0 (.loop false (some [0, 1, 2, 7, 12, 13, 14]) c_impl_inversions_l0))) (.seq (.region [⟨some 47, .mv (.t 7), none⟩,
    ⟨some 6, .mv (.t 47), none⟩] [] (some [6])) .ret)))) }

def c_impl_PairLoss_l0 : GC :=
  (.seq (.region [⟨some 18, .bin .i .lss (.t 17) (.t 16), none⟩] [] (some [0, 6, 15, 16, 17, 18])) (.seq (.cond (.t 18) .skip (.exit 0)) (.seq (.block 1 (.seq (.region [⟨some 19, .iaddr 2 (.t 15) (.t 17), none⟩,
    ⟨some 20, .load 2 true (.t 19), none⟩,
    ⟨some 8, .alloc [(.int .i64 0), (.int .i64 0)], none⟩,
    ⟨none, .store 2 (.t 8) (.t 20), none⟩] [] (some [0, 6, 8, 15, 16, 17])) (.region [⟨some 21, .mv (.t 6), none⟩,
    ⟨some 22, .mv (.t 0), none⟩,
    ⟨some 23, .iaddrA 2 1 (.t 8) (.c (.int .i64 0)), none⟩,
    ⟨some 24, .load 1 false (.t 23), none⟩,
    ⟨some 25, .iaddr 4 (.t 22) (.t 24), none⟩,
    ⟨some 26, .load 4 true (.t 25), none⟩,
    ⟨some 27, .mv (.t 0), none⟩,
    ⟨some 28, .iaddrA 2 1 (.t 8) (.c (.int .i64 1)), none⟩,
    ⟨some 29, .load 1 false (.t 28), none⟩,
    ⟨some 30, .iaddr 4 (.t 27) (.t 29), none⟩,
    ⟨some 31, .load 4 true (.t 30), none⟩,
    ⟨some 32, .call false (.c (.fn n_impl_difference [])) [(.t 26), (.t 31), (.c (.int .i64 3))], none⟩,
    ⟨some 33, .bin .i .add (.t 21) (.t 32), none⟩,
    ⟨some 6, .mv (.t 33), none⟩] [] (some [0, 6, 15, 16, 17])))) (.region [⟨some 34, .bin .i .add (.t 17) (.c (.int .i64 1)), none⟩,
    ⟨some 17, .mv (.t 34), none⟩] [] (some [0, 6, 15, 16, 17])))))
/-- impl.PairLoss -/
def c_impl_PairLoss : GFun := { ntmps := 36, results := [.tmp 4, .tmp 5], shared := false, body :=
  (.seq (.region [⟨some 4, .mv (.c (.int .i64 0)), none⟩,
    ⟨some 5, .mv (.c (.bool false)), none⟩] [] (some [0, 1])) (.seq (.seq (.region [⟨some 9, .mv (.t 0), none⟩,
    ⟨some 10, .mv (.t 1), none⟩,
    ⟨some 11, .call false (.c (.fn n_impl_isRuledAndOrdered [])) [(.t 9), (.t 10), (.c (.int .i64 3))], none⟩,
    ⟨some 12, .un .not (.t 11), none⟩] [] (some [0, 1, 12])) (.cond (.t 12) (.seq (.region [⟨some 4, .mv (.c (.int .i64 0)), none⟩,
    ⟨some 5, .mv (.c (.bool false)), none⟩] [] (some [4, 5])) .ret) .skip)) (.seq (.region [⟨some 6, .mv (.c (.int .i64 0)), none⟩] [] (some [0, 1, 6])) (.seq (.seq (.region [⟨some 13, .mv (.t 0), none⟩,
    ⟨some 14, .mv (.t 1), none⟩,
    ⟨some 15, .call false (.c (.fn n_impl_inversions [])) [(.t 13), (.t 14), (.c (.int .i64 3))], none⟩,
    ⟨some 16, .len (.t 15), none⟩,
    ⟨some 17, .mv (.c (.int .i64 0)), none⟩] [] (some [0, 6, 15, 16, 17])) (.block 0 (.loop false (some [0, 6, 15, 16, 17]) c_impl_PairLoss_l0))) (.seq (.region [⟨some 35, .mv (.t 6), none⟩,
    ⟨some 4, .mv (.t 35), none⟩,
    ⟨some 5, .mv (.c (.bool true)), none⟩] [] (some [4, 5])) .ret))))) }

/-- spec.l1In -/
def c_spec_l1In : GFun := { ntmps := 15, results := [.tmp 6], shared := false, body :=
  (.seq (.region [⟨some 6, .mv (.c (.bool false)), none⟩] [] (some [0, 1, 2])) (.seq (.region [⟨some 7, .mv (.t 0), none⟩,
    ⟨some 8, .mv (.t 1), none⟩,
    ⟨some 9, .bin .i .geq (.t 7) (.t 8), none⟩,
    ⟨some 10, .mv (.t 9), none⟩,
    ⟨some 11, .mv (.t 0), some (10, true)⟩,
    ⟨some 12, .mv (.t 2), some (10, true)⟩,
    ⟨some 13, .bin .i .leq (.t 11) (.t 12), some (10, true)⟩,
    ⟨some 14, .pick (.t 10) (.t 13) (.c (.bool false)), none⟩,
    ⟨some 6, .mv (.t 14), none⟩] [] (some [6])) .ret)) }

/-- spec.l2Job -/
def c_spec_l2Job : GFun := { ntmps := 21, results := [.tmp 2], shared := false, body :=
  (.seq (.region [⟨some 1, .box 4 (.t 0), none⟩,
    ⟨some 2, .mv (.c (.bool false)), none⟩] [] (some [1])) (.seq (.region [⟨some 3, .faddr 0 (.t 1), none⟩,
    ⟨some 4, .load 1 false (.t 3), none⟩,
    ⟨some 5, .call false (.c (.fn n_spec_l1In [])) [(.t 4), (.c (.int .i64 1)), (.c (.int .i64 50))], none⟩,
    ⟨some 6, .mv (.t 5), none⟩,
    ⟨some 7, .faddr 1 (.t 1), some (6, true)⟩,
    ⟨some 8, .load 1 false (.t 7), some (6, true)⟩,
    ⟨some 9, .call false (.c (.fn n_spec_l1In [])) [(.t 8), (.c (.int .i64 0)), (.c (.int .i64 50))], some (6, true)⟩,
    ⟨some 10, .pick (.t 6) (.t 9) (.c (.bool false)), none⟩,
    ⟨some 11, .mv (.t 10), none⟩,
    ⟨some 12, .faddr 2 (.t 1), some (11, true)⟩,
    ⟨some 13, .load 1 false (.t 12), some (11, true)⟩,
    ⟨some 14, .call false (.c (.fn n_spec_l1In [])) [(.t 13), (.c (.int .i64 0)), (.c (.int .i64 500))], some (11, true)⟩,
    ⟨some 15, .pick (.t 11) (.t 14) (.c (.bool false)), none⟩,
    ⟨some 16, .mv (.t 15), none⟩,
    ⟨some 17, .faddr 3 (.t 1), some (16, true)⟩,
    ⟨some 18, .load 1 false (.t 17), some (16, true)⟩,
    ⟨some 19, .call false (.c (.fn n_spec_l1In [])) [(.t 18), (.c (.int .i64 0)), (.c (.int .i64 500))], some (16, true)⟩,
    ⟨some 20, .pick (.t 16) (.t 19) (.c (.bool false)), none⟩,
    ⟨some 2, .mv (.t 20), none⟩] [] (some [2])) .ret)) }

def c_spec_l2Good_l0 : GC :=
  (.seq (.seq (.region [⟨some 4, .mv (.t 3), none⟩,
    ⟨some 5, .mv (.t 0), none⟩,
    ⟨some 6, .len (.t 5), none⟩,
    ⟨some 7, .bin .i .lss (.t 4) (.t 6), none⟩] [] (some [0, 3, 7])) (.cond (.t 7) .skip (.exit 0))) (.seq (.block 1 (.seq (.region [⟨some 10, .mv (.t 0), none⟩,
    ⟨some 11, .mv (.t 3), none⟩,
    ⟨some 12, .iaddr 4 (.t 10) (.t 11), none⟩,
    ⟨some 13, .load 4 true (.t 12), none⟩,
    ⟨some 14, .call false (.c (.fn n_spec_l2Job [])) [(.t 13)], none⟩,
    ⟨some 15, .un .not (.t 14), none⟩] [] (some [0, 3, 15])) (.cond (.t 15) (.seq (.region [⟨some 2, .mv (.c (.bool false)), none⟩] [] (some [2])) .ret) .skip))) (.region [⟨some 8, .mv (.t 3), none⟩,
    ⟨some 9, .bin .i .add (.t 8) (.c (.int .i64 1)), none⟩,
    ⟨some 3, .mv (.t 9), none⟩] [] (some [0, 3]))))
/-- spec.l2Good -/
def c_spec_l2Good : GFun := { ntmps := 19, results := [.tmp 2], shared := false, body :=
  (.seq (.region [⟨some 2, .mv (.c (.bool false)), none⟩] [] (some [0])) (.seq (.seq (.region [⟨some 3, .mv (.c (.int .i64 0)), none⟩] [] (some [0, 3])) (.block 0 (.loop false (some [0, 3]) c_spec_l2Good_l0))) (.seq (.region [⟨some 16, .mv (.t 0), none⟩,
    ⟨some 17, .len (.t 16), none⟩,
    ⟨some 18, .bin .i .leq (.t 17) (.c (.int .i64 8)), none⟩,
    ⟨some 2, .mv (.t 18), none⟩] [] (some [2])) .ret))) }

def c_spec_l3Plain_l0 : GC :=
  (.seq (.seq (.region [⟨some 4, .mv (.t 3), none⟩,
    ⟨some 5, .mv (.t 0), none⟩,
    ⟨some 6, .len (.t 5), none⟩,
    ⟨some 7, .bin .i .lss (.t 4) (.t 6), none⟩] [] (some [0, 3, 7])) (.cond (.t 7) .skip (.exit 0))) (.seq (.block 1 (.seq (.region [⟨some 10, .mv (.t 0), none⟩,
    ⟨some 11, .mv (.t 3), none⟩,
    ⟨some 12, .iaddr 4 (.t 10) (.t 11), none⟩,
    ⟨some 13, .faddr 2 (.t 12), none⟩,
    ⟨some 14, .load 1 false (.t 13), none⟩,
    ⟨some 15, .bin .i .neq (.t 14) (.c (.int .i64 0)), none⟩] [] (some [0, 3, 15])) (.cond (.t 15) (.seq (.region [⟨some 2, .mv (.c (.bool false)), none⟩] [] (some [2])) .ret) .skip))) (.region [⟨some 8, .mv (.t 3), none⟩,
    ⟨some 9, .bin .i .add (.t 8) (.c (.int .i64 1)), none⟩,
    ⟨some 3, .mv (.t 9), none⟩] [] (some [0, 3]))))
/-- spec.l3Plain -/
def c_spec_l3Plain : GFun := { ntmps := 16, results := [.tmp 2], shared := false, body :=
  (.seq (.region [⟨some 2, .mv (.c (.bool false)), none⟩] [] (some [0])) (.seq (.seq (.region [⟨some 3, .mv (.c (.int .i64 0)), none⟩] [] (some [0, 3])) (.block 0 (.loop false (some [0, 3]) c_spec_l3Plain_l0))) (.seq (.region [⟨some 2, .mv (.c (.bool true)), none⟩] [] (some [2])) .ret))) }

/-- spec.l3Ruled -/
def c_spec_l3Ruled : GFun := { ntmps := 19, results := [.tmp 4], shared := false, body :=
  (.seq (.region [⟨some 4, .mv (.c (.bool false)), none⟩] [] (some [0, 1])) (.seq (.seq (.region [⟨some 5, .mv (.t 0), none⟩,
    ⟨some 6, .call false (.c (.fn n_spec_l2Good [])) [(.t 5)], none⟩,
    ⟨some 7, .un .not (.t 6), none⟩,
    ⟨some 8, .mv (.t 7), none⟩,
    ⟨some 9, .mv (.t 1), some (8, false)⟩,
    ⟨some 10, .call false (.c (.fn n_spec_l1In [])) [(.t 9), (.c (.int .i64 1)), (.c (.int .i64 4))], some (8, false)⟩,
    ⟨some 11, .un .not (.t 10), some (8, false)⟩,
    ⟨some 12, .pick (.t 8) (.c (.bool true)) (.t 11), none⟩] [] (some [0, 1, 12])) (.cond (.t 12) (.seq (.region [⟨some 4, .mv (.c (.bool false)), none⟩] [] (some [4])) .ret) .skip)) (.seq (.region [⟨some 13, .mv (.t 1), none⟩,
    ⟨some 14, .bin .i .eql (.t 13) (.c (.int .i64 1)), none⟩,
    ⟨some 15, .mv (.t 14), none⟩,
    ⟨some 16, .mv (.t 0), some (15, false)⟩,
    ⟨some 17, .call false (.c (.fn n_spec_l3Plain [])) [(.t 16)], some (15, false)⟩,
    ⟨some 18, .pick (.t 15) (.c (.bool true)) (.t 17), none⟩,
    ⟨some 4, .mv (.t 18), none⟩] [] (some [4])) .ret))) }

def c_spec_l1Has_l0 : GC :=
  (.seq (.seq (.region [⟨some 6, .mv (.t 5), none⟩,
    ⟨some 7, .mv (.t 0), none⟩,
    ⟨some 8, .len (.t 7), none⟩,
    ⟨some 9, .bin .i .lss (.t 6) (.t 8), none⟩] [] (some [0, 1, 5, 9])) (.cond (.t 9) .skip (.exit 0))) (.seq (.block 1 (.seq (.region [⟨some 12, .mv (.t 0), none⟩,
    ⟨some 13, .mv (.t 5), none⟩,
    ⟨some 14, .iaddr 1 (.t 12) (.t 13), none⟩,
    ⟨some 15, .load 1 false (.t 14), none⟩,
    ⟨some 16, .mv (.t 1), none⟩,
    ⟨some 17, .bin .i .eql (.t 15) (.t 16), none⟩] [] (some [0, 1, 5, 17])) (.cond (.t 17) (.seq (.region [⟨some 4, .mv (.c (.bool true)), none⟩] [] (some [4])) .ret) .skip))) (.region [⟨some 10, .mv (.t 5), none⟩,
    ⟨some 11, .bin .i .add (.t 10) (.c (.int .i64 1)), none⟩,
    ⟨some 5, .mv (.t 11), none⟩] [] (some [0, 1, 5]))))
/-- spec.l1Has -/
def c_spec_l1Has : GFun := { ntmps := 18, results := [.tmp 4], shared := false, body :=
  (.seq (.region [⟨some 4, .mv (.c (.bool false)), none⟩] [] (some [0, 1])) (.seq (.seq (.region [⟨some 5, .mv (.c (.int .i64 0)), none⟩] [] (some [0, 1, 5])) (.block 0 (.loop false (some [0, 1, 5]) c_spec_l1Has_l0))) (.seq (.region [⟨some 4, .mv (.c (.bool false)), none⟩] [] (some [4])) .ret))) }

def c_spec_l2Order_l0 : GC :=
  (.seq (.seq (.region [⟨some 15, .mv (.t 5), none⟩,
    ⟨some 16, .mv (.t 0), none⟩,
    ⟨some 17, .bin .i .lss (.t 15) (.t 16), none⟩] [] (some [0, 1, 5, 17])) (.cond (.t 17) .skip (.exit 0))) (.seq (.block 1 (.seq (.region [⟨some 20, .mv (.t 1), none⟩,
    ⟨some 21, .mv (.t 5), none⟩,
    ⟨some 22, .call false (.c (.fn n_spec_l1Has [])) [(.t 20), (.t 21)], none⟩,
    ⟨some 23, .un .not (.t 22), none⟩] [] (some [0, 1, 5, 23])) (.cond (.t 23) (.seq (.region [⟨some 4, .mv (.c (.bool false)), none⟩] [] (some [4])) .ret) .skip))) (.region [⟨some 18, .mv (.t 5), none⟩,
    ⟨some 19, .bin .i .add (.t 18) (.c (.int .i64 1)), none⟩,
    ⟨some 5, .mv (.t 19), none⟩] [] (some [0, 1, 5]))))
/-- spec.l2Order -/
def c_spec_l2Order : GFun := { ntmps := 24, results := [.tmp 4], shared := false, body :=
  (.seq (.region [⟨some 4, .mv (.c (.bool false)), none⟩] [] (some [0, 1])) (.seq (.seq (.region [⟨some 6, .mv (.t 0), none⟩,
    ⟨some 7, .call false (.c (.fn n_spec_l1In [])) [(.t 6), (.c (.int .i64 0)), (.c (.int .i64 8))], none⟩,
    ⟨some 8, .un .not (.t 7), none⟩,
    ⟨some 9, .mv (.t 8), none⟩,
    ⟨some 10, .mv (.t 1), some (9, false)⟩,
    ⟨some 11, .len (.t 10), some (9, false)⟩,
    ⟨some 12, .mv (.t 0), some (9, false)⟩,
    ⟨some 13, .bin .i .neq (.t 11) (.t 12), some (9, false)⟩,
    ⟨some 14, .pick (.t 9) (.c (.bool true)) (.t 13), none⟩] [] (some [0, 1, 14])) (.cond (.t 14) (.seq (.region [⟨some 4, .mv (.c (.bool false)), none⟩] [] (some [4])) .ret) .skip)) (.seq (.seq (.region [⟨some 5, .mv (.c (.int .i64 0)), none⟩] [] (some [0, 1, 5])) (.block 0 (.loop false (some [0, 1, 5]) c_spec_l2Order_l0))) (.seq (.region [⟨some 4, .mv (.c (.bool true)), none⟩] [] (some [4])) .ret)))) }

/-- spec.l3Both -/
def c_spec_l3Both : GFun := { ntmps := 16, results := [.tmp 6], shared := false, body :=
  (.seq (.region [⟨some 6, .mv (.c (.bool false)), none⟩] [] (some [0, 1, 2])) (.seq (.region [⟨some 7, .mv (.t 0), none⟩,
    ⟨some 8, .mv (.t 2), none⟩,
    ⟨some 9, .call false (.c (.fn n_spec_l3Ruled [])) [(.t 7), (.t 8)], none⟩,
    ⟨some 10, .mv (.t 9), none⟩,
    ⟨some 11, .mv (.t 0), some (10, true)⟩,
    ⟨some 12, .len (.t 11), some (10, true)⟩,
    ⟨some 13, .mv (.t 1), some (10, true)⟩,
    ⟨some 14, .call false (.c (.fn n_spec_l2Order [])) [(.t 12), (.t 13)], some (10, true)⟩,
    ⟨some 15, .pick (.t 10) (.t 14) (.c (.bool false)), none⟩,
    ⟨some 6, .mv (.t 15), none⟩] [] (some [6])) .ret)) }

/-- spec.l3Gap -/
def c_spec_l3Gap : GFun := { ntmps := 52, results := [.tmp 8], shared := false, body :=
  (.seq (.region [⟨some 8, .mv (.c (.int .i64 0)), none⟩] [] (some [0, 1, 2, 3])) (.seq (.region [⟨some 11, .mv (.t 0), none⟩,
    ⟨some 12, .mv (.t 2), none⟩,
    ⟨some 13, .iaddr 4 (.t 11) (.t 12), none⟩,
    ⟨some 14, .load 4 true (.t 13), none⟩,
    ⟨some 15, .mv (.t 0), none⟩,
    ⟨some 16, .mv (.t 3), none⟩,
    ⟨some 17, .iaddr 4 (.t 15) (.t 16), none⟩,
    ⟨some 18, .load 4 true (.t 17), none⟩,
    ⟨some 9, .alloc [(.int .i64 0), (.int .i64 0), (.int .i64 0), (.int .i64 0)], none⟩,
    ⟨some 10, .alloc [(.int .i64 0), (.int .i64 0), (.int .i64 0), (.int .i64 0)], none⟩,
    ⟨none, .store 4 (.t 9) (.t 14), none⟩,
    ⟨none, .store 4 (.t 10) (.t 18), none⟩] [(3, 8), (3, 9), (7, 8), (7, 9), (7, 10), (8, 9)] (some [1, 9, 10])) (.seq (.seq (.region [⟨some 19, .mv (.t 1), none⟩] [] (some [9, 10, 19])) (.block 0 (.seq (.region [⟨some 21, .bin .i .eql (.t 19) (.c (.int .i64 1)), none⟩,
    ⟨some 20, .mv (.t 21), none⟩] [] (some [9, 10, 19, 20])) (.cond (.t 20) (.seq (.region [⟨some 22, .faddr 2 (.t 9), none⟩,
    ⟨some 23, .load 1 false (.t 22), none⟩,
    ⟨some 24, .faddr 2 (.t 10), none⟩,
    ⟨some 25, .load 1 false (.t 24), none⟩,
    ⟨some 26, .bin .i .sub (.t 23) (.t 25), none⟩,
    ⟨some 8, .mv (.t 26), none⟩] [] (some [8])) .ret) (.seq (.region [⟨some 28, .bin .i .eql (.t 19) (.c (.int .i64 2)), none⟩,
    ⟨some 27, .mv (.t 28), none⟩] [] (some [9, 10, 19, 27])) (.cond (.t 27) (.seq (.region [⟨some 29, .faddr 0 (.t 9), none⟩,
    ⟨some 30, .load 1 false (.t 29), none⟩,
    ⟨some 31, .faddr 0 (.t 10), none⟩,
    ⟨some 32, .load 1 false (.t 31), none⟩,
    ⟨some 33, .bin .i .sub (.t 30) (.t 32), none⟩,
    ⟨some 8, .mv (.t 33), none⟩] [] (some [8])) .ret) (.seq (.region [⟨some 35, .bin .i .eql (.t 19) (.c (.int .i64 3)), none⟩,
    ⟨some 34, .mv (.t 35), none⟩] [] (some [9, 10, 34])) (.cond (.t 34) (.seq (.region [⟨some 36, .faddr 0 (.t 9), none⟩,
    ⟨some 37, .load 1 false (.t 36), none⟩,
    ⟨some 38, .faddr 1 (.t 10), none⟩,
    ⟨some 39, .load 1 false (.t 38), none⟩,
    ⟨some 40, .bin .i .mul (.t 37) (.t 39), none⟩,
    ⟨some 41, .faddr 0 (.t 10), none⟩,
    ⟨some 42, .load 1 false (.t 41), none⟩,
    ⟨some 43, .faddr 1 (.t 9), none⟩,
    ⟨some 44, .load 1 false (.t 43), none⟩,
    ⟨some 45, .bin .i .mul (.t 42) (.t 44), none⟩,
    ⟨some 46, .bin .i .sub (.t 40) (.t 45), none⟩,
    ⟨some 8, .mv (.t 46), none⟩] [] (some [8])) .ret) .skip)))))))) (.seq (.region [⟨some 47, .faddr 3 (.t 9), none⟩,
    ⟨some 48, .load 1 false (.t 47), none⟩,
    ⟨some 49, .faddr 3 (.t 10), none⟩,
    ⟨some 50, .load 1 false (.t 49), none⟩,
    ⟨some 51, .bin .i .sub (.t 48) (.t 50), none⟩,
    ⟨some 8, .mv (.t 51), none⟩] [] (some [8])) .ret)))) }

def c_spec_l3Inversions_l1 : GC :=
  (.seq (.seq (.region [⟨some 19, .mv (.t 9), none⟩,
    ⟨some 20, .mv (.t 1), none⟩,
    ⟨some 21, .len (.t 20), none⟩,
    ⟨some 22, .bin .i .lss (.t 19) (.t 21), none⟩] [] (some [0, 1, 2, 7, 8, 9, 22])) (.cond (.t 22) .skip (.exit 2))) (.seq (.block 3 (.seq (.region [⟨some 25, .mv (.t 0), none⟩,
    ⟨some 26, .mv (.t 2), none⟩,
    ⟨some 27, .mv (.t 1), none⟩,
    ⟨some 28, .mv (.t 8), none⟩,
    ⟨some 29, .iaddr 1 (.t 27) (.t 28), none⟩,
    ⟨some 30, .load 1 false (.t 29), none⟩,
    ⟨some 31, .mv (.t 1), none⟩,
    ⟨some 32, .mv (.t 9), none⟩,
    ⟨some 33, .iaddr 1 (.t 31) (.t 32), none⟩,
    ⟨some 34, .load 1 false (.t 33), none⟩,
    ⟨some 35, .call false (.c (.fn n_spec_l3Gap [])) [(.t 25), (.t 26), (.t 30), (.t 34)], none⟩,
    ⟨some 36, .bin .i .gtr (.t 35) (.c (.int .i64 0)), none⟩] [] (some [0, 1, 2, 7, 8, 9, 36])) (.cond (.t 36) (.region [⟨some 37, .mv (.t 7), none⟩,
    ⟨some 38, .mv (.t 1), none⟩,
    ⟨some 39, .mv (.t 8), none⟩,
    ⟨some 40, .iaddr 1 (.t 38) (.t 39), none⟩,
    ⟨some 41, .load 1 false (.t 40), none⟩,
    ⟨some 42, .mv (.t 1), none⟩,
    ⟨some 43, .mv (.t 9), none⟩,
    ⟨some 44, .iaddr 1 (.t 42) (.t 43), none⟩,
    ⟨some 45, .load 1 false (.t 44), none⟩,
    ⟨some 46, .build [(.int .i64 0), (.int .i64 0)] [(0, 1, (.t 41)), (1, 1, (.t 45))], none⟩,
    ⟨some 47, .bsl false 2 [(.int .i64 0), (.int .i64 0)] 1 [(0, (.t 46))], none⟩,
    ⟨some 48, .append false 2 16 (.t 37) (.t 47), none⟩,
    ⟨some 7, .mvo (.t 7) (.t 48), none⟩] [] (some [0, 1, 2, 7, 8, 9])) .skip))) (.region [⟨some 23, .mv (.t 9), none⟩,
    ⟨some 24, .bin .i .add (.t 23) (.c (.int .i64 1)), none⟩,
    ⟨some 9, .mv (.t 24), none⟩] [] (some [0, 1, 2, 7, 8, 9]))))
def c_spec_l3Inversions_l0 : GC :=
  (.seq (.seq (.region [⟨some 11, .mv (.t 8), none⟩,
    ⟨some 12, .mv (.t 1), none⟩,
    ⟨some 13, .len (.t 12), none⟩,
    ⟨some 14, .bin .i .lss (.t 11) (.t 13), none⟩] [] (some [0, 1, 2, 7, 8, 14])) (.cond (.t 14) .skip (.exit 0))) (.seq (.block 1 (.seq (.region [⟨some 17, .mv (.t 8), none⟩,
    ⟨some 18, .bin .i .add (.t 17) (.c (.int .i64 1)), none⟩,
    ⟨some 9, .mv (.t 18), none⟩] [] (some [0, 1, 2, 7, 8, 9])) (.block 2 (.loop false (some [0, 1, 2, 7, 8, 9]) c_spec_l3Inversions_l1)))) (.region [⟨some 15, .mv (.t 8), none⟩,
    ⟨some 16, .bin .i .add (.t 15) (.c (.int .i64 1)), none⟩,
    ⟨some 8, .mv (.t 16), none⟩] [] (some [0, 1, 2, 7, 8]))))
/-- spec.l3Inversions -/
def c_spec_l3Inversions : GFun := { ntmps := 50, results := [.tmp 6], shared := false, body :=
  (.seq (.region [⟨some 6, .mv (.c (.fs [])), none⟩] [] (some [0, 1, 2, 7])) (.seq (.region [⟨some 10, .bsl true 2 [(.int .i64 0), (.int .i64 0)] 0 [], none⟩,
    ⟨some 7, .mvo (.t 7) (.t 10), none⟩] [] (some [0, 1, 2, 7])) (.seq (.seq (.region [⟨some 8, .mv (.c (.int .i64 0)), none⟩] [] (some [0, 1, 2, 7, 8])) (.block 0 (.loop false (some [0, 1, 2, 7, 8]) c_spec_l3Inversions_l0))) (.seq (.region [⟨some 49, .mv (.t 7), none⟩,
    ⟨some 6, .mv (.t 49), none⟩] [] (some [6])) .ret)))) }

def c_spec_PairLoss_l0 : GC :=
  (.seq (.seq (.region [⟨some 16, .mv (.t 8), none⟩,
    ⟨some 17, .mv (.t 7), none⟩,
    ⟨some 18, .len (.t 17), none⟩,
    ⟨some 19, .bin .i .lss (.t 16) (.t 18), none⟩] [] (some [0, 6, 7, 8, 19])) (.cond (.t 19) .skip (.exit 0))) (.seq (.block 1 (.region [⟨some 22, .mv (.t 6), none⟩,
    ⟨some 23, .mv (.t 0), none⟩,
    ⟨some 24, .mv (.t 7), none⟩,
    ⟨some 25, .mv (.t 8), none⟩,
    ⟨some 26, .iaddr 2 (.t 24) (.t 25), none⟩,
    ⟨some 27, .iaddrA 2 1 (.t 26) (.c (.int .i64 0)), none⟩,
    ⟨some 28, .load 1 false (.t 27), none⟩,
    ⟨some 29, .mv (.t 7), none⟩,
    ⟨some 30, .mv (.t 8), none⟩,
    ⟨some 31, .iaddr 2 (.t 29) (.t 30), none⟩,
    ⟨some 32, .iaddrA 2 1 (.t 31) (.c (.int .i64 1)), none⟩,
    ⟨some 33, .load 1 false (.t 32), none⟩,
    ⟨some 34, .call false (.c (.fn n_spec_l3Gap [])) [(.t 23), (.c (.int .i64 3)), (.t 28), (.t 33)], none⟩,
    ⟨some 35, .bin .i .add (.t 22) (.t 34), none⟩,
    ⟨some 6, .mv (.t 35), none⟩] [] (some [0, 6, 7, 8]))) (.region [⟨some 20, .mv (.t 8), none⟩,
    ⟨some 21, .bin .i .add (.t 20) (.c (.int .i64 1)), none⟩,
    ⟨some 8, .mv (.t 21), none⟩] [] (some [0, 6, 7, 8]))))
/-- spec.PairLoss -/
def c_spec_PairLoss : GFun := { ntmps := 37, results := [.tmp 4, .tmp 5], shared := false, body :=
  (.seq (.region [⟨some 4, .mv (.c (.int .i64 0)), none⟩,
    ⟨some 5, .mv (.c (.bool false)), none⟩] [] (some [0, 1])) (.seq (.seq (.region [⟨some 9, .mv (.t 0), none⟩,
    ⟨some 10, .mv (.t 1), none⟩,
    ⟨some 11, .call false (.c (.fn n_spec_l3Both [])) [(.t 9), (.t 10), (.c (.int .i64 3))], none⟩,
    ⟨some 12, .un .not (.t 11), none⟩] [] (some [0, 1, 12])) (.cond (.t 12) (.seq (.region [⟨some 4, .mv (.c (.int .i64 0)), none⟩,
    ⟨some 5, .mv (.c (.bool false)), none⟩] [] (some [4, 5])) .ret) .skip)) (.seq (.region [⟨some 6, .mv (.c (.int .i64 0)), none⟩] [] (some [0, 1, 6])) (.seq (.region [⟨some 13, .mv (.t 0), none⟩,
    ⟨some 14, .mv (.t 1), none⟩,
    ⟨some 15, .call false (.c (.fn n_spec_l3Inversions [])) [(.t 13), (.t 14), (.c (.int .i64 3))], none⟩,
    ⟨some 7, .mv (.t 15), none⟩] [] (some [0, 6, 7])) (.seq (.seq (.region [⟨some 8, .mv (.c (.int .i64 0)), none⟩] [] (some [0, 6, 7, 8])) (.block 0 (.loop false (some [0, 6, 7, 8]) c_spec_PairLoss_l0))) (.seq (.region [⟨some 36, .mv (.t 6), none⟩,
    ⟨some 4, .mv (.t 36), none⟩,
    ⟨some 5, .mv (.c (.bool true)), none⟩] [] (some [4, 5])) .ret)))))) }

/-- (*spec.l1Cur).ruled3 -/
def c_spec_l1Cur_ruled3 : GFun := { ntmps := 21, results := [.tmp 2, .tmp 3], shared := true, body :=
  (.seq (.region [⟨some 2, .mv (.c (.fs [])), none⟩,
    ⟨some 3, .mv (.c (.int .i64 0)), none⟩] [] (some [0])) (.seq (.region [⟨some 5, .mv (.t 0), none⟩,
    ⟨some 6, .call false (.c (.fn n_spec_l1Cur_pick [])) [(.t 5), (.c (.int .i64 4))], none⟩,
    ⟨some 7, .bin .i .add (.c (.int .i64 1)) (.t 6), none⟩,
    ⟨some 4, .mv (.t 7), none⟩] [] (some [0, 4])) (.seq (.seq (.region [⟨some 8, .mv (.t 0), none⟩,
    ⟨some 9, .call false (.c (.fn n_spec_l1Cur_one [])) [(.t 8), (.c (.int .i64 24))], none⟩] [] (some [0, 4, 9])) (.cond (.t 9) (.region [⟨some 10, .mv (.t 0), none⟩,
    ⟨some 11, .bsl false 1 [(.int .i64 0)] 4 [(0, (.c (.int .i64 0))), (1, (.c (.int .i64 5))), (2, (.c (.int .i64 8))), (3, (.c (.int .i64 (-1))))], none⟩,
    ⟨some 12, .call false (.c (.fn n_spec_l1Cur_among [])) [(.t 10), (.t 11)], none⟩,
    ⟨some 4, .mv (.t 12), none⟩] [] (some [0, 4])) .skip)) (.seq (.seq (.region [⟨some 13, .mv (.t 4), none⟩,
    ⟨some 14, .bin .i .eql (.t 13) (.c (.int .i64 1)), none⟩] [] (some [0, 4, 14])) (.cond (.t 14) (.seq (.region [⟨some 15, .mv (.t 0), none⟩,
    ⟨some 16, .call false (.c (.fn n_spec_l1Cur_jobs [])) [(.t 15)], none⟩,
    ⟨some 17, .mv (.t 4), none⟩,
    ⟨some 2, .mv (.t 16), none⟩,
    ⟨some 3, .mv (.t 17), none⟩] [] (some [2, 3])) .ret) .skip)) (.seq (.region [⟨some 18, .mv (.t 0), none⟩,
    ⟨some 19, .call false (.c (.fn n_spec_l1Cur_plain3 [])) [(.t 18)], none⟩,
    ⟨some 20, .mv (.t 4), none⟩,
    ⟨some 2, .mv (.t 19), none⟩,
    ⟨some 3, .mv (.t 20), none⟩] [] (some [2, 3])) .ret))))) }

/-- spec.l1Own -/
def c_spec_l1Own : GFun := { ntmps := 6, results := [.tmp 2], shared := false, body :=
  (.seq (.region [⟨some 2, .nilo 1, none⟩] [] (some [0])) (.seq (.region [⟨some 3, .bsl true 1 [(.int .i64 0)] 0 [], none⟩,
    ⟨some 4, .mv (.t 0), none⟩,
    ⟨some 5, .append false 1 8 (.t 3) (.t 4), none⟩,
    ⟨some 2, .mv (.t 5), none⟩] [] (some [2])) .ret)) }

def c_spec_l3Order_l1 : GC :=
  (.seq (.seq (.region [⟨some 15, .mv (.t 7), none⟩,
    ⟨some 16, .mv (.t 5), none⟩,
    ⟨some 17, .len (.t 16), none⟩,
    ⟨some 18, .bin .i .lss (.t 15) (.t 17), none⟩,
    ⟨some 19, .mv (.t 18), none⟩,
    ⟨some 20, .mv (.t 0), some (19, true)⟩,
    ⟨some 21, .mv (.t 1), some (19, true)⟩,
    ⟨some 22, .mv (.t 5), some (19, true)⟩,
    ⟨some 23, .mv (.t 7), some (19, true)⟩,
    ⟨some 24, .iaddr 1 (.t 22) (.t 23), some (19, true)⟩,
    ⟨some 25, .load 1 false (.t 24), some (19, true)⟩,
    ⟨some 26, .mv (.t 6), some (19, true)⟩,
    ⟨some 27, .call false (.c (.fn n_spec_l3Gap [])) [(.t 20), (.t 21), (.t 25), (.t 26)], some (19, true)⟩,
    ⟨some 28, .bin .i .leq (.t 27) (.c (.int .i64 0)), some (19, true)⟩,
    ⟨some 29, .pick (.t 19) (.t 28) (.c (.bool false)), none⟩] [] (some [0, 1, 5, 6, 7, 29])) (.cond (.t 29) .skip (.exit 2))) (.block 3 (.region [⟨some 30, .mv (.t 7), none⟩,
    ⟨some 31, .bin .i .add (.t 30) (.c (.int .i64 1)), none⟩,
    ⟨some 7, .mv (.t 31), none⟩] [] (some [0, 1, 5, 6, 7]))))
def c_spec_l3Order_l0 : GC :=
  (.seq (.seq (.region [⟨some 9, .mv (.t 6), none⟩,
    ⟨some 10, .mv (.t 0), none⟩,
    ⟨some 11, .len (.t 10), none⟩,
    ⟨some 12, .bin .i .lss (.t 9) (.t 11), none⟩] [] (some [0, 1, 5, 6, 12])) (.cond (.t 12) .skip (.exit 0))) (.seq (.block 1 (.seq (.region [⟨some 7, .mv (.c (.int .i64 0)), none⟩] [] (some [0, 1, 5, 6, 7])) (.seq (.block 2 (.loop false (some [0, 1, 5, 6, 7]) c_spec_l3Order_l1)) (.region [⟨some 32, .mv (.t 5), none⟩,
    ⟨some 33, .mv (.t 7), none⟩,
    ⟨some 34, .slice 1 (.t 32) none (some (.t 33)), none⟩,
    ⟨some 35, .call true (.c (.fn n_spec_l1Own [])) [(.t 34)], none⟩,
    ⟨some 36, .mv (.t 6), none⟩,
    ⟨some 37, .bsl false 1 [(.int .i64 0)] 1 [(0, (.t 36))], none⟩,
    ⟨some 38, .append false 1 8 (.t 35) (.t 37), none⟩,
    ⟨some 39, .mv (.t 5), none⟩,
    ⟨some 40, .mv (.t 7), none⟩,
    ⟨some 41, .slice 1 (.t 39) (some (.t 40)) none, none⟩,
    ⟨some 42, .append true 1 8 (.t 38) (.t 41), none⟩,
    ⟨some 5, .frz (.t 42), none⟩] [] (some [0, 1, 5, 6]))))) (.region [⟨some 13, .mv (.t 6), none⟩,
    ⟨some 14, .bin .i .add (.t 13) (.c (.int .i64 1)), none⟩,
    ⟨some 6, .mv (.t 14), none⟩] [] (some [0, 1, 5, 6]))))
/-- spec.l3Order -/
def c_spec_l3Order : GFun := { ntmps := 44, results := [.tmp 4], shared := false, body :=
  (.seq (.region [⟨some 4, .mv (.c (.fs [])), none⟩] [] (some [0, 1])) (.seq (.region [⟨some 8, .bsl false 1 [(.int .i64 0)] 0 [], none⟩,
    ⟨some 5, .mv (.t 8), none⟩] [] (some [0, 1, 5])) (.seq (.seq (.region [⟨some 6, .mv (.c (.int .i64 0)), none⟩] [] (some [0, 1, 5, 6])) (.block 0 (.loop false (some [0, 1, 5, 6]) c_spec_l3Order_l0))) (.seq (.region [⟨some 43, .mv (.t 5), none⟩,
    ⟨some 4, .mv (.t 43), none⟩] [] (some [4])) .ret)))) }

/-- spec.l2Swap -/
def c_spec_l2Swap : GFun := { ntmps := 25, results := [.tmp 4], shared := false, body :=
  (.seq (.region [⟨some 4, .mv (.c (.fs [])), none⟩] [] (some [0, 1, 5])) (.seq (.region [⟨some 6, .mv (.t 0), none⟩,
    ⟨some 7, .call true (.c (.fn n_spec_l1Own [])) [(.t 6)], none⟩,
    ⟨some 5, .mvo (.t 5) (.t 7), none⟩] [] (some [0, 1, 5])) (.seq (.region [⟨some 8, .mv (.t 5), none⟩,
    ⟨some 9, .mv (.t 1), none⟩,
    ⟨some 10, .mv (.t 0), none⟩,
    ⟨some 11, .mv (.t 1), none⟩,
    ⟨some 12, .bin .i .add (.t 11) (.c (.int .i64 1)), none⟩,
    ⟨some 13, .iaddr 1 (.t 10) (.t 12), none⟩,
    ⟨some 14, .load 1 false (.t 13), none⟩,
    ⟨some 15, .iaddr 1 (.t 8) (.t 9), none⟩,
    ⟨none, .store 1 (.t 15) (.t 14), none⟩] [] (some [0, 1, 5])) (.seq (.region [⟨some 16, .mv (.t 5), none⟩,
    ⟨some 17, .mv (.t 1), none⟩,
    ⟨some 18, .bin .i .add (.t 17) (.c (.int .i64 1)), none⟩,
    ⟨some 19, .mv (.t 0), none⟩,
    ⟨some 20, .mv (.t 1), none⟩,
    ⟨some 21, .iaddr 1 (.t 19) (.t 20), none⟩,
    ⟨some 22, .load 1 false (.t 21), none⟩,
    ⟨some 23, .iaddr 1 (.t 16) (.t 18), none⟩,
    ⟨none, .store 1 (.t 23) (.t 22), none⟩] [] (some [5])) (.seq (.region [⟨some 24, .mv (.t 5), none⟩,
    ⟨some 4, .mv (.t 24), none⟩] [] (some [4])) .ret))))) }

/-- spec.DrawIsRuledOrder -/
def c_spec_DrawIsRuledOrder : GFun := { ntmps := 48, results := [.tmp 2, .tmp 3, .tmp 4], shared := false, body :=
  (.seq (.region [⟨some 2, .mv (.c (.fs [])), none⟩,
    ⟨some 3, .mv (.c (.fs [])), none⟩,
    ⟨some 4, .mv (.c (.int .i64 0)), none⟩] [] (some [0])) (.seq (.region [⟨some 9, .mv (.t 0), none⟩,
    ⟨some 10, .build [(.fs []), (.int .i64 0), (.int .u64 0)] [(0, 1, (.t 9))], none⟩,
    ⟨some 11, .box 3 (.t 10), none⟩,
    ⟨some 5, .mv (.t 11), none⟩] [] (some [5])) (.seq (.region [⟨some 13, .mv (.t 5), none⟩,
    ⟨some 14, .call false (.c (.fn n_spec_l1Cur_ruled3 [])) [(.t 13)], none⟩,
    ⟨some 12, .mv (.t 14), none⟩,
    ⟨some 15, .ext 0 (.t 12), none⟩,
    ⟨some 16, .ext 1 (.t 12), none⟩,
    ⟨some 6, .mv (.t 15), none⟩,
    ⟨some 7, .mv (.t 16), none⟩] [] (some [5, 6, 7])) (.seq (.region [⟨some 17, .mv (.t 5), none⟩,
    ⟨some 18, .mv (.t 6), none⟩,
    ⟨some 19, .len (.t 18), none⟩,
    ⟨some 20, .call false (.c (.fn n_spec_l1Cur_order [])) [(.t 17), (.t 19)], none⟩,
    ⟨some 8, .mv (.t 20), none⟩] [] (some [5, 6, 7, 8])) (.seq (.seq (.region [⟨some 21, .mv (.t 6), none⟩,
    ⟨some 22, .mv (.t 7), none⟩,
    ⟨some 23, .call false (.c (.fn n_spec_l3Ruled [])) [(.t 21), (.t 22)], none⟩,
    ⟨some 24, .mv (.t 23), none⟩,
    ⟨some 25, .mv (.t 5), some (24, true)⟩,
    ⟨some 26, .call false (.c (.fn n_spec_l1Cur_one [])) [(.t 25), (.c (.int .i64 2))], some (24, true)⟩,
    ⟨some 27, .pick (.t 24) (.t 26) (.c (.bool false)), none⟩] [] (some [5, 6, 7, 8, 27])) (.cond (.t 27) (.seq (.region [⟨some 28, .mv (.t 6), none⟩,
    ⟨some 29, .mv (.t 7), none⟩,
    ⟨some 30, .call false (.c (.fn n_spec_l3Order [])) [(.t 28), (.t 29)], none⟩,
    ⟨some 8, .mv (.t 30), none⟩] [] (some [5, 6, 7, 8])) (.seq (.region [⟨some 31, .mv (.t 8), none⟩,
    ⟨some 32, .len (.t 31), none⟩,
    ⟨some 33, .bin .i .gtr (.t 32) (.c (.int .i64 1)), none⟩,
    ⟨some 34, .mv (.t 33), none⟩,
    ⟨some 35, .mv (.t 5), some (34, true)⟩,
    ⟨some 36, .call false (.c (.fn n_spec_l1Cur_one [])) [(.t 35), (.c (.int .i64 2))], some (34, true)⟩,
    ⟨some 37, .pick (.t 34) (.t 36) (.c (.bool false)), none⟩] [] (some [5, 6, 7, 8, 37])) (.cond (.t 37) (.region [⟨some 38, .mv (.t 8), none⟩,
    ⟨some 39, .mv (.t 5), none⟩,
    ⟨some 40, .mv (.t 8), none⟩,
    ⟨some 41, .len (.t 40), none⟩,
    ⟨some 42, .bin .i .sub (.t 41) (.c (.int .i64 1)), none⟩,
    ⟨some 43, .call false (.c (.fn n_spec_l1Cur_pick [])) [(.t 39), (.t 42)], none⟩,
    ⟨some 44, .call false (.c (.fn n_spec_l2Swap [])) [(.t 38), (.t 43)], none⟩,
    ⟨some 8, .mv (.t 44), none⟩] [] (some [6, 7, 8])) .skip))) .skip)) (.seq (.region [⟨some 45, .mv (.t 6), none⟩,
    ⟨some 46, .mv (.t 8), none⟩,
    ⟨some 47, .mv (.t 7), none⟩,
    ⟨some 2, .mv (.t 45), none⟩,
    ⟨some 3, .mv (.t 46), none⟩,
    ⟨some 4, .mv (.t 47), none⟩] [] (some [2, 3, 4])) .ret)))))) }

/-- spec.DrawInversionsOf -/
def c_spec_DrawInversionsOf : GFun := { ntmps := 10, results := [.tmp 2, .tmp 3, .tmp 4], shared := false, body :=
  (.seq (.region [⟨some 2, .mv (.c (.fs [])), none⟩,
    ⟨some 3, .mv (.c (.fs [])), none⟩,
    ⟨some 4, .mv (.c (.int .i64 0)), none⟩] [] (some [0])) (.seq (.region [⟨some 5, .mv (.t 0), none⟩,
    ⟨some 6, .call false (.c (.fn n_spec_DrawIsRuledOrder [])) [(.t 5)], none⟩,
    ⟨some 7, .ext 0 (.t 6), none⟩,
    ⟨some 8, .ext 1 (.t 6), none⟩,
    ⟨some 9, .ext 2 (.t 6), none⟩,
    ⟨some 2, .mv (.t 7), none⟩,
    ⟨some 3, .mv (.t 8), none⟩,
    ⟨some 4, .mv (.t 9), none⟩] [] (some [2, 3, 4])) .ret)) }

/-- impl.InversionsOf -/
def c_impl_InversionsOf : GFun := { ntmps := 17, results := [.tmp 6, .tmp 7], shared := false, body :=
  (.seq (.region [⟨some 6, .mv (.c (.fs [])), none⟩,
    ⟨some 7, .mv (.c (.bool false)), none⟩] [] (some [0, 1, 2])) (.seq (.seq (.region [⟨some 8, .mv (.t 0), none⟩,
    ⟨some 9, .mv (.t 1), none⟩,
    ⟨some 10, .mv (.t 2), none⟩,
    ⟨some 11, .call false (.c (.fn n_impl_isRuledAndOrdered [])) [(.t 8), (.t 9), (.t 10)], none⟩,
    ⟨some 12, .un .not (.t 11), none⟩] [] (some [0, 1, 2, 12])) (.cond (.t 12) (.seq (.region [⟨some 6, .mv (.c (.fs [])), none⟩,
    ⟨some 7, .mv (.c (.bool false)), none⟩] [] (some [6, 7])) .ret) .skip)) (.seq (.region [⟨some 13, .mv (.t 0), none⟩,
    ⟨some 14, .mv (.t 1), none⟩,
    ⟨some 15, .mv (.t 2), none⟩,
    ⟨some 16, .call false (.c (.fn n_impl_inversions [])) [(.t 13), (.t 14), (.t 15)], none⟩,
    ⟨some 6, .mv (.t 16), none⟩,
    ⟨some 7, .mv (.c (.bool true)), none⟩] [] (some [6, 7])) .ret))) }

/-- spec.InversionsOf -/
def c_spec_InversionsOf : GFun := { ntmps := 18, results := [.tmp 6, .tmp 7], shared := false, body :=
  (.seq (.region [⟨some 6, .mv (.c (.fs [])), none⟩,
    ⟨some 7, .mv (.c (.bool false)), none⟩] [] (some [0, 1, 2])) (.seq (.seq (.region [⟨some 8, .mv (.t 0), none⟩,
    ⟨some 9, .mv (.t 1), none⟩,
    ⟨some 10, .mv (.t 2), none⟩,
    ⟨some 11, .call false (.c (.fn n_spec_l3Both [])) [(.t 8), (.t 9), (.t 10)], none⟩,
    ⟨some 12, .un .not (.t 11), none⟩] [] (some [0, 1, 2, 12])) (.cond (.t 12) (.seq (.region [⟨some 13, .bsl false 2 [(.int .i64 0), (.int .i64 0)] 0 [], none⟩,
    ⟨some 6, .mv (.t 13), none⟩,
    ⟨some 7, .mv (.c (.bool false)), none⟩] [] (some [6, 7])) .ret) .skip)) (.seq (.region [⟨some 14, .mv (.t 0), none⟩,
    ⟨some 15, .mv (.t 1), none⟩,
    ⟨some 16, .mv (.t 2), none⟩,
    ⟨some 17, .call false (.c (.fn n_spec_l3Inversions [])) [(.t 14), (.t 15), (.t 16)], none⟩,
    ⟨some 6, .mv (.t 17), none⟩,
    ⟨some 7, .mv (.c (.bool true)), none⟩] [] (some [6, 7])) .ret))) }

def c_laws_vPairs_l0 : GC :=
  (.seq (.seq (.region [⟨some 11, .mv (.t 5), none⟩,
    ⟨some 12, .mv (.t 0), none⟩,
    ⟨some 13, .len (.t 12), none⟩,
    ⟨some 14, .bin .i .lss (.t 11) (.t 13), none⟩] [] (some [0, 1, 5, 14])) (.cond (.t 14) .skip (.exit 0))) (.seq (.block 1 (.seq (.region [⟨some 17, .mv (.t 0), none⟩,
    ⟨some 18, .mv (.t 5), none⟩,
    ⟨some 19, .iaddr 2 (.t 17) (.t 18), none⟩,
    ⟨some 20, .load 2 true (.t 19), none⟩,
    ⟨some 21, .mv (.t 1), none⟩,
    ⟨some 22, .mv (.t 5), none⟩,
    ⟨some 23, .iaddr 2 (.t 21) (.t 22), none⟩,
    ⟨some 24, .load 2 true (.t 23), none⟩,
    ⟨some 25, .bin (.a 2) .neq (.t 20) (.t 24), none⟩] [] (some [0, 1, 5, 25])) (.cond (.t 25) (.seq (.region [⟨some 4, .mv (.c (.bool false)), none⟩] [] (some [4])) .ret) .skip))) (.region [⟨some 15, .mv (.t 5), none⟩,
    ⟨some 16, .bin .i .add (.t 15) (.c (.int .i64 1)), none⟩,
    ⟨some 5, .mv (.t 16), none⟩] [] (some [0, 1, 5]))))
/-- laws.vPairs -/
def c_laws_vPairs : GFun := { ntmps := 26, results := [.tmp 4], shared := false, body :=
  (.seq (.region [⟨some 4, .mv (.c (.bool false)), none⟩] [] (some [0, 1])) (.seq (.seq (.region [⟨some 6, .mv (.t 0), none⟩,
    ⟨some 7, .len (.t 6), none⟩,
    ⟨some 8, .mv (.t 1), none⟩,
    ⟨some 9, .len (.t 8), none⟩,
    ⟨some 10, .bin .i .neq (.t 7) (.t 9), none⟩] [] (some [0, 1, 10])) (.cond (.t 10) (.seq (.region [⟨some 4, .mv (.c (.bool false)), none⟩] [] (some [4])) .ret) .skip)) (.seq (.seq (.region [⟨some 5, .mv (.c (.int .i64 0)), none⟩] [] (some [0, 1, 5])) (.block 0 (.loop false (some [0, 1, 5]) c_laws_vPairs_l0))) (.seq (.region [⟨some 4, .mv (.c (.bool true)), none⟩] [] (some [4])) .ret)))) }

/-- impl.exchanged -/
def c_impl_exchanged : GFun := { ntmps := 25, results := [.tmp 4], shared := false, body :=
  (.seq (.region [⟨some 4, .mv (.c (.fs [])), none⟩] [] (some [0, 1, 5])) (.seq (.region [⟨some 6, .mv (.t 0), none⟩,
    ⟨some 7, .call true (.c (.fn n_impl_copyInts [])) [(.t 6)], none⟩,
    ⟨some 5, .mvo (.t 5) (.t 7), none⟩] [] (some [1, 5])) (.seq (.region [⟨some 8, .mv (.t 5), none⟩,
    ⟨some 9, .mv (.t 1), none⟩,
    ⟨some 10, .mv (.t 5), none⟩,
    ⟨some 11, .mv (.t 1), none⟩,
    ⟨some 12, .bin .i .add (.t 11) (.c (.int .i64 1)), none⟩,
    ⟨some 13, .mv (.t 5), none⟩,
    ⟨some 14, .mv (.t 1), none⟩,
    ⟨some 15, .bin .i .add (.t 14) (.c (.int .i64 1)), none⟩,
    ⟨some 16, .iaddr 1 (.t 13) (.t 15), none⟩,
    ⟨some 17, .load 1 false (.t 16), none⟩,
    ⟨some 18, .mv (.t 5), none⟩,
    ⟨some 19, .mv (.t 1), none⟩,
    ⟨some 20, .iaddr 1 (.t 18) (.t 19), none⟩,
    ⟨some 21, .load 1 false (.t 20), none⟩,
    ⟨some 22, .iaddr 1 (.t 8) (.t 9), none⟩,
    ⟨none, .store 1 (.t 22) (.t 17), none⟩,
    ⟨some 23, .iaddr 1 (.t 10) (.t 12), none⟩,
    ⟨none, .store 1 (.t 23) (.t 21), none⟩] [] (some [5])) (.seq (.region [⟨some 24, .mv (.t 5), none⟩,
    ⟨some 4, .mv (.t 24), none⟩] [] (some [4])) .ret)))) }

/-- impl.gain -/
def c_impl_gain : GFun := { ntmps := 20, results := [.tmp 8], shared := false, body :=
  (.seq (.region [⟨some 8, .mv (.c (.int .i64 0)), none⟩] [] (some [0, 1, 2, 3])) (.seq (.region [⟨some 9, .mv (.t 0), none⟩,
    ⟨some 10, .mv (.t 1), none⟩,
    ⟨some 11, .mv (.t 3), none⟩,
    ⟨some 12, .call false (.c (.fn n_impl_valueOf [])) [(.t 9), (.t 10), (.t 11)], none⟩,
    ⟨some 13, .mv (.t 0), none⟩,
    ⟨some 14, .mv (.t 1), none⟩,
    ⟨some 15, .mv (.t 2), none⟩,
    ⟨some 16, .call false (.c (.fn n_impl_exchanged [])) [(.t 14), (.t 15)], none⟩,
    ⟨some 17, .mv (.t 3), none⟩,
    ⟨some 18, .call false (.c (.fn n_impl_valueOf [])) [(.t 13), (.t 16), (.t 17)], none⟩,
    ⟨some 19, .bin .i .sub (.t 12) (.t 18), none⟩,
    ⟨some 8, .mv (.t 19), none⟩] [] (some [8])) .ret)) }

/-- impl.ExchangeGain -/
def c_impl_ExchangeGain : GFun := { ntmps := 28, results := [.tmp 8, .tmp 9], shared := false, body :=
  (.seq (.region [⟨some 8, .mv (.c (.int .i64 0)), none⟩,
    ⟨some 9, .mv (.c (.bool false)), none⟩] [] (some [0, 1, 2, 3])) (.seq (.seq (.region [⟨some 10, .mv (.t 0), none⟩,
    ⟨some 11, .mv (.t 1), none⟩,
    ⟨some 12, .mv (.t 3), none⟩,
    ⟨some 13, .call false (.c (.fn n_impl_isValued [])) [(.t 10), (.t 11), (.t 12)], none⟩,
    ⟨some 14, .un .not (.t 13), none⟩,
    ⟨some 15, .mv (.t 14), none⟩,
    ⟨some 16, .mv (.t 2), some (15, false)⟩,
    ⟨some 17, .mv (.t 1), some (15, false)⟩,
    ⟨some 18, .len (.t 17), some (15, false)⟩,
    ⟨some 19, .bin .i .sub (.t 18) (.c (.int .i64 2)), some (15, false)⟩,
    ⟨some 20, .call false (.c (.fn n_impl_within [])) [(.t 16), (.c (.int .i64 0)), (.t 19)], some (15, false)⟩,
    ⟨some 21, .un .not (.t 20), some (15, false)⟩,
    ⟨some 22, .pick (.t 15) (.c (.bool true)) (.t 21), none⟩] [] (some [0, 1, 2, 3, 22])) (.cond (.t 22) (.seq (.region [⟨some 8, .mv (.c (.int .i64 0)), none⟩,
    ⟨some 9, .mv (.c (.bool false)), none⟩] [] (some [8, 9])) .ret) .skip)) (.seq (.region [⟨some 23, .mv (.t 0), none⟩,
    ⟨some 24, .mv (.t 1), none⟩,
    ⟨some 25, .mv (.t 2), none⟩,
    ⟨some 26, .mv (.t 3), none⟩,
    ⟨some 27, .call false (.c (.fn n_impl_gain [])) [(.t 23), (.t 24), (.t 25), (.t 26)], none⟩,
    ⟨some 8, .mv (.t 27), none⟩,
    ⟨some 9, .mv (.c (.bool true)), none⟩] [] (some [8, 9])) .ret))) }

def c_laws_FnPairLoss_l0 : GC :=
  (.seq (.seq (.region [⟨some 117, .mv (.t 22), none⟩,
    ⟨some 118, .bin .i .add (.t 117) (.c (.int .i64 1)), none⟩,
    ⟨some 119, .mv (.t 4), none⟩,
    ⟨some 120, .len (.t 119), none⟩,
    ⟨some 121, .bin .i .lss (.t 118) (.t 120), none⟩] [] (some [3, 4, 22, 121])) (.cond (.t 121) .skip (.exit 0))) (.seq (.block 1 (.seq (.region [⟨some 125, .mv (.t 3), none⟩,
    ⟨some 126, .mv (.t 4), none⟩,
    ⟨some 127, .mv (.t 22), none⟩,
    ⟨some 128, .call false (.c (.fn n_impl_ExchangeGain [])) [(.t 125), (.t 126), (.t 127), (.c (.int .i64 3))], none⟩,
    ⟨some 124, .mv (.t 128), none⟩,
    ⟨some 129, .ext 0 (.t 124), none⟩,
    ⟨some 130, .ext 1 (.t 124), none⟩,
    ⟨some 23, .mv (.t 129), none⟩,
    ⟨some 24, .mv (.t 130), none⟩] [] (some [3, 4, 22, 23])) (.seq (.region [⟨some 132, .mv (.t 3), none⟩,
    ⟨some 133, .mv (.t 4), none⟩,
    ⟨some 134, .mv (.t 22), none⟩,
    ⟨some 135, .iaddr 1 (.t 133) (.t 134), none⟩,
    ⟨some 136, .load 1 false (.t 135), none⟩,
    ⟨some 137, .mv (.t 4), none⟩,
    ⟨some 138, .mv (.t 22), none⟩,
    ⟨some 139, .bin .i .add (.t 138) (.c (.int .i64 1)), none⟩,
    ⟨some 140, .iaddr 1 (.t 137) (.t 139), none⟩,
    ⟨some 141, .load 1 false (.t 140), none⟩,
    ⟨some 142, .call false (.c (.fn n_impl_RuleDifference [])) [(.t 132), (.c (.int .i64 3)), (.t 136), (.t 141)], none⟩,
    ⟨some 131, .mv (.t 142), none⟩,
    ⟨some 143, .ext 0 (.t 131), none⟩,
    ⟨some 144, .ext 1 (.t 131), none⟩,
    ⟨some 25, .mv (.t 143), none⟩,
    ⟨some 26, .mv (.t 144), none⟩] [] (some [3, 4, 22, 23, 25])) (.seq (.region [⟨some 145, .mv (.t 23), none⟩,
    ⟨some 146, .mv (.t 25), none⟩,
    ⟨some 147, .bin .i .neq (.t 145) (.t 146), none⟩] [] (some [3, 4, 22, 147])) (.cond (.t 147) (.seq (.region [⟨some 2, .mv (.c (.bool false)), none⟩] [] (some [2])) .ret) .skip))))) (.region [⟨some 122, .mv (.t 22), none⟩,
    ⟨some 123, .bin .i .add (.t 122) (.c (.int .i64 1)), none⟩,
    ⟨some 22, .mv (.t 123), none⟩] [] (some [3, 4, 22]))))
/-- laws.FnPairLoss -/
def c_laws_FnPairLoss : GFun := { ntmps := 148, results := [.tmp 2], shared := false, body :=
  (.seq (.region [⟨some 2, .mv (.c (.bool false)), none⟩] [] (some [0])) (.seq (.seq (.region [⟨some 27, .mv (.t 0), none⟩,
    ⟨some 28, .call false (.c (.fn n_laws_vBig [])) [(.t 27)], none⟩] [] (some [0, 28])) (.cond (.t 28) (.seq (.region [⟨some 2, .mv (.c (.bool true)), none⟩] [] (some [2])) .ret) .skip)) (.seq (.region [⟨some 30, .mv (.t 0), none⟩,
    ⟨some 31, .call false (.c (.fn n_spec_DrawPairLoss [])) [(.t 30)], none⟩,
    ⟨some 29, .mv (.t 31), none⟩,
    ⟨some 32, .ext 0 (.t 29), none⟩,
    ⟨some 33, .ext 1 (.t 29), none⟩,
    ⟨some 3, .mv (.t 32), none⟩,
    ⟨some 4, .mv (.t 33), none⟩] [] (some [0, 3, 4])) (.seq (.region [⟨some 35, .mv (.t 3), none⟩,
    ⟨some 36, .mv (.t 4), none⟩,
    ⟨some 37, .call false (.c (.fn n_impl_PairLoss [])) [(.t 35), (.t 36)], none⟩,
    ⟨some 34, .mv (.t 37), none⟩,
    ⟨some 38, .ext 0 (.t 34), none⟩,
    ⟨some 39, .ext 1 (.t 34), none⟩,
    ⟨some 5, .mv (.t 38), none⟩,
    ⟨some 6, .mv (.t 39), none⟩] [] (some [0, 3, 4, 5, 6])) (.seq (.region [⟨some 41, .mv (.t 3), none⟩,
    ⟨some 42, .mv (.t 4), none⟩,
    ⟨some 43, .call false (.c (.fn n_spec_PairLoss [])) [(.t 41), (.t 42)], none⟩,
    ⟨some 40, .mv (.t 43), none⟩,
    ⟨some 44, .ext 0 (.t 40), none⟩,
    ⟨some 45, .ext 1 (.t 40), none⟩,
    ⟨some 7, .mv (.t 44), none⟩,
    ⟨some 8, .mv (.t 45), none⟩] [] (some [0, 3, 4, 5, 6, 7, 8])) (.seq (.region [⟨some 47, .mv (.t 0), none⟩,
    ⟨some 48, .call false (.c (.fn n_laws_vCut [])) [(.t 47), (.c (.int .i64 1))], none⟩,
    ⟨some 49, .call false (.c (.fn n_spec_DrawInversionsOf [])) [(.t 48)], none⟩,
    ⟨some 46, .mv (.t 49), none⟩,
    ⟨some 50, .ext 0 (.t 46), none⟩,
    ⟨some 51, .ext 1 (.t 46), none⟩,
    ⟨some 52, .ext 2 (.t 46), none⟩,
    ⟨some 9, .mv (.t 50), none⟩,
    ⟨some 10, .mv (.t 51), none⟩,
    ⟨some 11, .mv (.t 52), none⟩] [] (some [3, 4, 5, 6, 7, 8, 9, 10, 11])) (.seq (.region [⟨some 54, .mv (.t 9), none⟩,
    ⟨some 55, .mv (.t 10), none⟩,
    ⟨some 56, .mv (.t 11), none⟩,
    ⟨some 57, .call false (.c (.fn n_impl_InversionsOf [])) [(.t 54), (.t 55), (.t 56)], none⟩,
    ⟨some 53, .mv (.t 57), none⟩,
    ⟨some 58, .ext 0 (.t 53), none⟩,
    ⟨some 59, .ext 1 (.t 53), none⟩,
    ⟨some 12, .mv (.t 58), none⟩,
    ⟨some 13, .mv (.t 59), none⟩] [] (some [3, 4, 5, 6, 7, 8, 9, 10, 11, 12, 13])) (.seq (.region [⟨some 61, .mv (.t 9), none⟩,
    ⟨some 62, .mv (.t 10), none⟩,
    ⟨some 63, .mv (.t 11), none⟩,
    ⟨some 64, .call false (.c (.fn n_spec_InversionsOf [])) [(.t 61), (.t 62), (.t 63)], none⟩,
    ⟨some 60, .mv (.t 64), none⟩,
    ⟨some 65, .ext 0 (.t 60), none⟩,
    ⟨some 66, .ext 1 (.t 60), none⟩,
    ⟨some 14, .mv (.t 65), none⟩,
    ⟨some 15, .mv (.t 66), none⟩] [] (some [3, 4, 5, 6, 7, 8, 9, 10, 11, 12, 13, 14, 15])) (.seq (.seq (.region [⟨some 67, .mv (.t 6), none⟩,
    ⟨some 68, .mv (.t 8), none⟩,
    ⟨some 69, .bin .b .neq (.t 67) (.t 68), none⟩,
    ⟨some 70, .mv (.t 69), none⟩,
    ⟨some 71, .mv (.t 5), some (70, false)⟩,
    ⟨some 72, .mv (.t 7), some (70, false)⟩,
    ⟨some 73, .bin .i .neq (.t 71) (.t 72), some (70, false)⟩,
    ⟨some 74, .pick (.t 70) (.c (.bool true)) (.t 73), none⟩,
    ⟨some 75, .mv (.t 74), none⟩,
    ⟨some 76, .mv (.t 13), some (75, false)⟩,
    ⟨some 77, .mv (.t 15), some (75, false)⟩,
    ⟨some 78, .bin .b .neq (.t 76) (.t 77), some (75, false)⟩,
    ⟨some 79, .pick (.t 75) (.c (.bool true)) (.t 78), none⟩,
    ⟨some 80, .mv (.t 79), none⟩,
    ⟨some 81, .mv (.t 12), some (80, false)⟩,
    ⟨some 82, .mv (.t 14), some (80, false)⟩,
    ⟨some 83, .call false (.c (.fn n_laws_vPairs [])) [(.t 81), (.t 82)], some (80, false)⟩,
    ⟨some 84, .un .not (.t 83), some (80, false)⟩,
    ⟨some 85, .pick (.t 80) (.c (.bool true)) (.t 84), none⟩] [] (some [3, 4, 5, 6, 9, 10, 11, 12, 13, 85])) (.cond (.t 85) (.seq (.region [⟨some 2, .mv (.c (.bool false)), none⟩] [] (some [2])) .ret) .skip)) (.seq (.seq (.region [⟨some 86, .mv (.t 13), none⟩] [] (some [3, 4, 5, 6, 9, 10, 11, 12, 86])) (.cond (.t 86) (.seq (.region [⟨some 88, .mv (.t 9), none⟩,
    ⟨some 89, .mv (.t 10), none⟩,
    ⟨some 90, .mv (.t 11), none⟩,
    ⟨some 91, .call false (.c (.fn n_impl_IsRuledOrder [])) [(.t 88), (.t 89), (.t 90)], none⟩,
    ⟨some 87, .mv (.t 91), none⟩,
    ⟨some 92, .ext 0 (.t 87), none⟩,
    ⟨some 93, .ext 1 (.t 87), none⟩,
    ⟨some 16, .mv (.t 92), none⟩,
    ⟨some 17, .mv (.t 93), none⟩] [] (some [3, 4, 5, 6, 12, 16])) (.seq (.region [⟨some 94, .mv (.t 16), none⟩,
    ⟨some 95, .mv (.t 12), none⟩,
    ⟨some 96, .len (.t 95), none⟩,
    ⟨some 97, .bin .i .eql (.t 96) (.c (.int .i64 0)), none⟩,
    ⟨some 98, .bin .b .neq (.t 94) (.t 97), none⟩] [] (some [3, 4, 5, 6, 98])) (.cond (.t 98) (.seq (.region [⟨some 2, .mv (.c (.bool false)), none⟩] [] (some [2])) .ret) .skip))) .skip)) (.seq (.seq (.region [⟨some 99, .mv (.t 6), none⟩,
    ⟨some 100, .un .not (.t 99), none⟩] [] (some [3, 4, 5, 100])) (.cond (.t 100) (.seq (.region [⟨some 2, .mv (.c (.bool true)), none⟩] [] (some [2])) .ret) .skip)) (.seq (.region [⟨some 102, .mv (.t 3), none⟩,
    ⟨some 103, .mv (.t 4), none⟩,
    ⟨some 104, .call false (.c (.fn n_impl_ValueOf [])) [(.t 102), (.t 103), (.c (.int .i64 3))], none⟩,
    ⟨some 101, .mv (.t 104), none⟩,
    ⟨some 105, .ext 0 (.t 101), none⟩,
    ⟨some 106, .ext 1 (.t 101), none⟩,
    ⟨some 18, .mv (.t 105), none⟩,
    ⟨some 19, .mv (.t 106), none⟩] [] (some [3, 4, 5, 18])) (.seq (.region [⟨some 108, .mv (.t 3), none⟩,
    ⟨some 109, .call false (.c (.fn n_impl_BestValue [])) [(.t 108), (.c (.int .i64 3))], none⟩,
    ⟨some 107, .mv (.t 109), none⟩,
    ⟨some 110, .ext 0 (.t 107), none⟩,
    ⟨some 111, .ext 1 (.t 107), none⟩,
    ⟨some 20, .mv (.t 110), none⟩,
    ⟨some 21, .mv (.t 111), none⟩] [] (some [3, 4, 5, 18, 20])) (.seq (.seq (.region [⟨some 112, .mv (.t 18), none⟩,
    ⟨some 113, .mv (.t 20), none⟩,
    ⟨some 114, .bin .i .sub (.t 112) (.t 113), none⟩,
    ⟨some 115, .mv (.t 5), none⟩,
    ⟨some 116, .bin .i .neq (.t 114) (.t 115), none⟩] [] (some [3, 4, 116])) (.cond (.t 116) (.seq (.region [⟨some 2, .mv (.c (.bool false)), none⟩] [] (some [2])) .ret) .skip)) (.seq (.seq (.region [⟨some 22, .mv (.c (.int .i64 0)), none⟩] [] (some [3, 4, 22])) (.block 0 (.loop false (some [3, 4, 22]) c_laws_FnPairLoss_l0))) (.seq (.region [⟨some 2, .mv (.c (.bool true)), none⟩] [] (some [2])) .ret)))))))))))))))) }

end Gh
