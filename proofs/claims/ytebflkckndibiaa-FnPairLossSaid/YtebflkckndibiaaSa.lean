/- Shallow functions. Written by program. -/
import Derived.Test.YtebflkckndibiaaFb
import Derived.Test.YtebflkckndibiaaGv
namespace Gh
open Go
set_option linter.unusedSimpArgs false
set_option linter.unusedVariables false
set_option maxRecDepth 100000
set_option maxHeartbeats 20000000

structure impl_Job where
  Time : Int
  Weight : Int
  Release : Int
  Due : Int
deriving DecidableEq
def impl_Job.cells (s : impl_Job) : List V := [.int .i64 s.Time, .int .i64 s.Weight, .int .i64 s.Release, .int .i64 s.Due]
theorem rz_impl_Job (l : List impl_Job) : rowsSz 4 (l.map impl_Job.cells) = true := rowsSz_map (n := 4) (c := impl_Job.cells) (fun _ => rfl) l
theorem pr_impl_Job (l : List impl_Job) : pureRows (l.map impl_Job.cells) = true := pureRows_map (c := impl_Job.cells) (fun _ => rfl) l
theorem sc_impl_Job (l : List impl_Job) : scalRows (l.map impl_Job.cells) = true := scalRows_map (c := impl_Job.cells) (fun _ => rfl) l
structure spec_l1Cur where
  code : (List Int)
  at_ : Int
  seed : Int
deriving DecidableEq
def spec_l1Cur.cells (s : spec_l1Cur) : List V := [.fs (s.code.map (cI .u8)), .int .i64 s.at_, .int .u64 s.seed]
theorem rz_spec_l1Cur (l : List spec_l1Cur) : rowsSz 3 (l.map spec_l1Cur.cells) = true := rowsSz_map (n := 3) (c := spec_l1Cur.cells) (fun _ => rfl) l
theorem pr_spec_l1Cur (l : List spec_l1Cur) : pureRows (l.map spec_l1Cur.cells) = true := pureRows_map (c := spec_l1Cur.cells) (fun _ => rfl) l
structure arr_2_int where
  a0 : Int
  a1 : Int
deriving DecidableEq
def arr_2_int.cells (s : arr_2_int) : List V := [.int .i64 s.a0, .int .i64 s.a1]
theorem rz_arr_2_int (l : List arr_2_int) : rowsSz 2 (l.map arr_2_int.cells) = true := rowsSz_map (n := 2) (c := arr_2_int.cells) (fun _ => rfl) l
theorem pr_arr_2_int (l : List arr_2_int) : pureRows (l.map arr_2_int.cells) = true := pureRows_map (c := arr_2_int.cells) (fun _ => rfl) l
theorem sc_arr_2_int (l : List arr_2_int) : scalRows (l.map arr_2_int.cells) = true := scalRows_map (c := arr_2_int.cells) (fun _ => rfl) l

/-- laws.vBig -/
def x_laws_vBig (code_ : (List Int)) : Option Bool :=
  some (decide (65536 < (code_.length : Int)))

/-- impl.within -/
def x_impl_within (n_ : Int) (low_ : Int) (high_ : Int) : Option Bool :=
  if low_ ≤ n_ then
    some (decide (n_ ≤ high_))
  else
    some false

/-- impl.isDate -/
def x_impl_isDate (n_ : Int) : Option Bool :=
  (x_impl_within n_ 0 500).bind fun r1 =>
  some r1

def x_impl_IsJobs_l0 (v : (List impl_Job)) (vz1 : Int) : (Int) → Option (Ctl (Int) (Unit ⊕ (Bool)))
  | vz2 =>
    if vz2 < vz1 then
      (ix v vz2).bind fun y6 =>
      (x_impl_within y6.Time 1 50).bind fun r11 =>
      if r11 = true then
        (x_impl_within y6.Weight 0 50).bind fun r17 =>
        if r17 = true then
          (x_impl_isDate y6.Release).bind fun r23 =>
          if r23 = true then
            (x_impl_isDate y6.Due).bind fun r29 =>
            if r29 = true then
              some (.next (addK .i64 vz2 1))
            else
              some (.done (.inr false))
          else
            some (.done (.inr false))
        else
          some (.done (.inr false))
      else
        some (.done (.inr false))
    else
      some (.done (.inl ()))

abbrev R_impl_IsJobs_l0 (v : (List impl_Job)) (vz1 : Int) (st_ : (Int)) (T_ : Tm) (H_ : List Blk) : Prop :=
  match st_ with
  | vz2 => look T_ 8 = .fs (v.map impl_Job.cells) ∧ look T_ 9 = .int .i64 vz1 ∧ look T_ 10 = .int .i64 vz2 ∧ H_ = []

abbrev Q_impl_IsJobs_l0 (v : (List impl_Job)) (vz1 : Int) (p_ : (Unit ⊕ (Bool))) (e_ : Ex) (T_ : Tm) (H_ : List Blk) : Prop :=
  match p_ with
  | .inl () => e_ = .ex 0 ∧ H_ = []
  | .inr v_r_0 => e_ = .ret ∧ look T_ 2 = .bool v_r_0

/-- impl.IsJobs -/
def x_impl_IsJobs (jobs_ : (List impl_Job)) : Option Bool :=
  if 8 < (jobs_.length : Int) then
    some false
  else
    (loopS (x_impl_IsJobs_l0 jobs_ (jobs_.length : Int)) LL 0).bind fun p6 =>
    match p6 with
    | .inl p6 =>
      some true
    | .inr p6 =>
      some p6

def x_impl_isPlain_l0 (v : (List impl_Job)) (vz1 : Int) : (Int) → Option (Ctl (Int) (Unit ⊕ (Bool)))
  | vz2 =>
    if vz2 < vz1 then
      (ix v vz2).bind fun y6 =>
      if y6.Release = 0 then
        some (.next (addK .i64 vz2 1))
      else
        some (.done (.inr false))
    else
      some (.done (.inl ()))

abbrev R_impl_isPlain_l0 (v : (List impl_Job)) (vz1 : Int) (st_ : (Int)) (T_ : Tm) (H_ : List Blk) : Prop :=
  match st_ with
  | vz2 => look T_ 5 = .fs (v.map impl_Job.cells) ∧ look T_ 6 = .int .i64 vz1 ∧ look T_ 7 = .int .i64 vz2 ∧ H_ = []

abbrev Q_impl_isPlain_l0 (v : (List impl_Job)) (vz1 : Int) (p_ : (Unit ⊕ (Bool))) (e_ : Ex) (T_ : Tm) (H_ : List Blk) : Prop :=
  match p_ with
  | .inl () => e_ = .ex 0 ∧ H_ = []
  | .inr v_r_0 => e_ = .ret ∧ look T_ 2 = .bool v_r_0

/-- impl.isPlain -/
def x_impl_isPlain (jobs_ : (List impl_Job)) : Option Bool :=
  (loopS (x_impl_isPlain_l0 jobs_ (jobs_.length : Int)) LL 0).bind fun p1 =>
  match p1 with
  | .inl p1 =>
    some true
  | .inr p1 =>
    some p1

/-- impl.isRuled -/
def x_impl_isRuled (jobs_ : (List impl_Job)) (objective_ : Int) : Option Bool :=
  (x_impl_IsJobs jobs_).bind fun r1 =>
  if r1 = true then
    if objective_ = 1 then
      some true
    else
      (x_impl_within objective_ 2 4).bind fun r12 =>
      if r12 = true then
        (x_impl_isPlain jobs_).bind fun r18 =>
        some r18
      else
        some false
  else
    some false

/-- impl.isNumber -/
def x_impl_isNumber (i_ : Int) (n_ : Int) : Option Bool :=
  (x_impl_within i_ 0 (subK .i64 n_ 1)).bind fun r1 =>
  some r1

def x_impl_has_l0 (n_ : Int) (v : (List Int)) (vz1 : Int) : (Int) → Option (Ctl (Int) (Unit ⊕ (Bool)))
  | vz2 =>
    if vz2 < vz1 then
      (ix v vz2).bind fun y6 =>
      if y6 = n_ then
        some (.done (.inr true))
      else
        some (.next (addK .i64 vz2 1))
    else
      some (.done (.inl ()))

abbrev R_impl_has_l0 (n_ : Int) (v : (List Int)) (vz1 : Int) (st_ : (Int)) (T_ : Tm) (H_ : List Blk) : Prop :=
  match st_ with
  | vz2 => look T_ 1 = .int .i64 n_ ∧ look T_ 7 = .fs (v.map (cI .i64)) ∧ look T_ 8 = .int .i64 vz1 ∧ look T_ 9 = .int .i64 vz2 ∧ H_ = []

abbrev Q_impl_has_l0 (n_ : Int) (v : (List Int)) (vz1 : Int) (p_ : (Unit ⊕ (Bool))) (e_ : Ex) (T_ : Tm) (H_ : List Blk) : Prop :=
  match p_ with
  | .inl () => e_ = .ex 0 ∧ H_ = []
  | .inr v_r_0 => e_ = .ret ∧ look T_ 4 = .bool v_r_0

/-- impl.has -/
def x_impl_has (list_ : (List Int)) (n_ : Int) : Option Bool :=
  (loopS (x_impl_has_l0 n_ list_ (list_.length : Int)) LL 0).bind fun p1 =>
  match p1 with
  | .inl p1 =>
    some false
  | .inr p1 =>
    some p1

def x_impl_areDifferent_l0 (n_ : Int) (list_ : (List Int)) (v : (List Int)) (vz1 : Int) : (Int) → Option (Ctl (Int) (Unit ⊕ (Bool)))
  | vz2 =>
    if vz2 < vz1 then
      (ix v vz2).bind fun y6 =>
      (x_impl_isNumber y6 n_).bind fun r11 =>
      if r11 = true then
        (cut list_ 0 vz2).bind fun y17 =>
        (x_impl_has y17 y6).bind fun r25 =>
        if r25 = true then
          some (.done (.inr false))
        else
          some (.next (addK .i64 vz2 1))
      else
        some (.done (.inr false))
    else
      some (.done (.inl ()))

abbrev R_impl_areDifferent_l0 (n_ : Int) (list_ : (List Int)) (v : (List Int)) (vz1 : Int) (st_ : (Int)) (T_ : Tm) (H_ : List Blk) : Prop :=
  match st_ with
  | vz2 => look T_ 0 = .int .i64 n_ ∧ look T_ 1 = .fs (list_.map (cI .i64)) ∧ look T_ 7 = .fs (v.map (cI .i64)) ∧ look T_ 8 = .int .i64 vz1 ∧ look T_ 9 = .int .i64 vz2 ∧ H_ = []

abbrev Q_impl_areDifferent_l0 (n_ : Int) (list_ : (List Int)) (v : (List Int)) (vz1 : Int) (p_ : (Unit ⊕ (Bool))) (e_ : Ex) (T_ : Tm) (H_ : List Blk) : Prop :=
  match p_ with
  | .inl () => e_ = .ex 0 ∧ H_ = []
  | .inr v_r_0 => e_ = .ret ∧ look T_ 4 = .bool v_r_0

/-- impl.areDifferent -/
def x_impl_areDifferent (n_ : Int) (list_ : (List Int)) : Option Bool :=
  (loopS (x_impl_areDifferent_l0 n_ list_ list_ (list_.length : Int)) LL 0).bind fun p1 =>
  match p1 with
  | .inl p1 =>
    some true
  | .inr p1 =>
    some p1

/-- impl.isOrder -/
def x_impl_isOrder (n_ : Int) (order_ : (List Int)) : Option Bool :=
  if (order_.length : Int) = n_ then
    (x_impl_areDifferent n_ order_).bind fun r6 =>
    some r6
  else
    some false

/-- impl.isRuledAndOrdered -/
def x_impl_isRuledAndOrdered (jobs_ : (List impl_Job)) (order_ : (List Int)) (objective_ : Int) : Option Bool :=
  (x_impl_isRuled jobs_ objective_).bind fun r1 =>
  if r1 = true then
    (x_impl_isOrder (jobs_.length : Int) order_).bind fun r7 =>
    some r7
  else
    some false

/-- impl.difference -/
def x_impl_difference (a_ : impl_Job) (b_ : impl_Job) (objective_ : Int) : Option Int :=
  if objective_ = 1 then
    some (subK .i64 a_.Release b_.Release)
  else
    if objective_ = 2 then
      some (subK .i64 a_.Time b_.Time)
    else
      if objective_ = 3 then
        some (subK .i64 (mulK .i64 a_.Time b_.Weight) (mulK .i64 b_.Time a_.Weight))
      else
        some (subK .i64 a_.Due b_.Due)

def x_impl_IsRuledOrder_l0 (jobs_ : (List impl_Job)) (order_ : (List Int)) (objective_ : Int) : (Int) → Option (Ctl (Int) (Unit ⊕ (Bool × Bool)))
  | k_ =>
    if k_ < (order_.length : Int) then
      (ix order_ k_).bind fun y6 =>
      (ix jobs_ y6).bind fun y11 =>
      (ix order_ (subK .i64 k_ 1)).bind fun y16 =>
      (ix jobs_ y16).bind fun y21 =>
      (x_impl_difference y11 y21 objective_).bind fun r26 =>
      if r26 < 0 then
        some (.done (.inr ((false, true))))
      else
        some (.next (addK .i64 k_ 1))
    else
      some (.done (.inl ()))

abbrev R_impl_IsRuledOrder_l0 (jobs_ : (List impl_Job)) (order_ : (List Int)) (objective_ : Int) (st_ : (Int)) (T_ : Tm) (H_ : List Blk) : Prop :=
  match st_ with
  | k_ => look T_ 0 = .fs (jobs_.map impl_Job.cells) ∧ look T_ 1 = .fs (order_.map (cI .i64)) ∧ look T_ 2 = .int .i64 objective_ ∧ look T_ 8 = .int .i64 k_ ∧ H_ = []

abbrev Q_impl_IsRuledOrder_l0 (jobs_ : (List impl_Job)) (order_ : (List Int)) (objective_ : Int) (p_ : (Unit ⊕ (Bool × Bool))) (e_ : Ex) (T_ : Tm) (H_ : List Blk) : Prop :=
  match p_ with
  | .inl () => e_ = .ex 0 ∧ H_ = []
  | .inr ((v_r_0, v_r_1)) => e_ = .ret ∧ look T_ 6 = .bool v_r_0 ∧ look T_ 7 = .bool v_r_1

/-- impl.IsRuledOrder -/
def x_impl_IsRuledOrder (jobs_ : (List impl_Job)) (order_ : (List Int)) (objective_ : Int) : Option (Bool × Bool) :=
  (x_impl_isRuledAndOrdered jobs_ order_ objective_).bind fun r1 =>
  if r1 = true then
    (loopS (x_impl_IsRuledOrder_l0 jobs_ order_ objective_) LL 1).bind fun p7 =>
    match p7 with
    | .inl p7 =>
      some (true, true)
    | .inr p7 =>
      some (p7.1, p7.2)
  else
    some (false, false)

/-- laws.vCut -/
def x_laws_vCut (code_ : (List Int)) (n_ : Int) : Option (List Int) :=
  if (code_.length : Int) < n_ then
    (cut code_ (code_.length : Int) (code_.length : Int)).bind fun y6 =>
    if fits y6.length 1 then
      (app 1 y6 [(convK .u8 (code_.length : Int))]).bind fun l17 =>
      some l17
    else
      none
  else
    (cut code_ n_ (code_.length : Int)).bind fun y26 =>
    if fits y26.length 1 then
      (app 1 y26 [(convK .u8 n_)]).bind fun l37 =>
      some l37
    else
      none

/-- impl.RuleDifference -/
def x_impl_RuleDifference (jobs_ : (List impl_Job)) (objective_ : Int) (i_ : Int) (j_ : Int) : Option (Int × Bool) :=
  (x_impl_isRuled jobs_ objective_).bind fun r1 =>
  if r1 = true then
    (x_impl_isNumber i_ (jobs_.length : Int)).bind fun r7 =>
    if r7 = true then
      (x_impl_isNumber j_ (jobs_.length : Int)).bind fun r13 =>
      if r13 = true then
        (ix jobs_ i_).bind fun y19 =>
        (ix jobs_ j_).bind fun y24 =>
        (x_impl_difference y19 y24 objective_).bind fun r29 =>
        some (r29, true)
      else
        some (0, false)
    else
      some (0, false)
  else
    some (0, false)

def x_impl_numbersTo_l0 (n_ : Int) : ((List Int) × Int) → Option (Ctl ((List Int) × Int) ((List Int)))
  | (out_, i_) =>
    if i_ < n_ then
      (app 8 out_ [i_]).bind fun l6 =>
      some (.next (l6, (addK .i64 i_ 1)))
    else
      some (.done out_)

abbrev R_impl_numbersTo_l0 (n_ : Int) (st_ : ((List Int) × Int)) (T_ : Tm) (H_ : List Blk) : Prop :=
  match st_ with
  | (out_, i_) => ∃ b0 g1, look T_ 0 = .int .i64 n_ ∧ look T_ 3 = .os 1 g1 1 0 out_.length ∧ look T_ 4 = .int .i64 i_ ∧ H_ = [b0, (Blk.mk g1 false 1 (out_.map (cI .i64)))]

abbrev Q_impl_numbersTo_l0 (n_ : Int) (p_ : ((List Int))) (e_ : Ex) (T_ : Tm) (H_ : List Blk) : Prop :=
  match p_ with
  | v_b_1_rows => e_ = .ex 0 ∧ ∃ b0 g1, look T_ 3 = .os 1 g1 1 0 v_b_1_rows.length ∧ H_ = [b0, (Blk.mk g1 false 1 (v_b_1_rows.map (cI .i64)))]

/-- impl.numbersTo -/
def x_impl_numbersTo (n_ : Int) : Option (List Int) :=
  (loopS (x_impl_numbersTo_l0 n_) LL (([] : List Int), 0)).bind fun p1 =>
  some p1

def x_impl_nextOrder_l0 (order_ : (List Int)) : (Int) → Option (Ctl (Int) (Int))
  | i_ =>
    if 0 ≤ i_ then
      (ix order_ i_).bind fun y6 =>
      (ix order_ (addK .i64 i_ 1)).bind fun y11 =>
      if y11 < y6 then
        some (.next (subK .i64 i_ 1))
      else
        some (.done i_)
    else
      some (.done i_)

abbrev R_impl_nextOrder_l0 (H0 : List Blk) (id g : Nat) (order_ : (List Int)) (st_ : (Int)) (T_ : Tm) (H_ : List Blk) : Prop :=
  match st_ with
  | i_ => look T_ 0 = .os id g 1 0 order_.length ∧ look T_ 3 = .int .i64 i_ ∧ H_ = (H0.set id (Blk.mk g false 1 (order_.map (cI .i64))))

abbrev Q_impl_nextOrder_l0 (H0 : List Blk) (id g : Nat) (order_ : (List Int)) (p_ : (Int)) (e_ : Ex) (T_ : Tm) (H_ : List Blk) : Prop :=
  match p_ with
  | v_s_3 => e_ = .ex 0 ∧ look T_ 0 = .os id g 1 0 order_.length ∧ look T_ 3 = .int .i64 v_s_3 ∧ H_ = (H0.set id (Blk.mk g false 1 (order_.map (cI .i64))))

def x_impl_nextOrder_l1 (order_ : (List Int)) (i_ : Int) : (Int) → Option (Ctl (Int) (Int))
  | k_ =>
    (ix order_ k_).bind fun y1 =>
    (ix order_ i_).bind fun y6 =>
    if y1 < y6 then
      some (.next (subK .i64 k_ 1))
    else
      some (.done k_)

abbrev R_impl_nextOrder_l1 (H0 : List Blk) (id g : Nat) (order_ : (List Int)) (i_ : Int) (st_ : (Int)) (T_ : Tm) (H_ : List Blk) : Prop :=
  match st_ with
  | k_ => look T_ 0 = .os id g 1 0 order_.length ∧ look T_ 3 = .int .i64 i_ ∧ look T_ 4 = .int .i64 k_ ∧ H_ = (H0.set id (Blk.mk g false 1 (order_.map (cI .i64))))

abbrev Q_impl_nextOrder_l1 (H0 : List Blk) (id g : Nat) (order_ : (List Int)) (i_ : Int) (p_ : (Int)) (e_ : Ex) (T_ : Tm) (H_ : List Blk) : Prop :=
  match p_ with
  | v_s_4 => e_ = .ex 2 ∧ look T_ 0 = .os id g 1 0 order_.length ∧ look T_ 3 = .int .i64 i_ ∧ look T_ 4 = .int .i64 v_s_4 ∧ H_ = (H0.set id (Blk.mk g false 1 (order_.map (cI .i64))))

def x_impl_nextOrder_l2 : ((List Int) × Int × Int) → Option (Ctl ((List Int) × Int × Int) ((List Int)))
  | (order_, a_, b_) =>
    if a_ < b_ then
      (ix order_ b_).bind fun y6 =>
      (ix order_ a_).bind fun y11 =>
      (put order_ a_ y6).bind fun l16 =>
      (ix l16 b_).bind fun y22 =>
      (put l16 b_ y11).bind fun l28 =>
      some (.next (l28, (addK .i64 a_ 1), (subK .i64 b_ 1)))
    else
      some (.done order_)

abbrev R_impl_nextOrder_l2 (H0 : List Blk) (id g : Nat) (st_ : ((List Int) × Int × Int)) (T_ : Tm) (H_ : List Blk) : Prop :=
  match st_ with
  | (order_, a_, b_) => look T_ 0 = .os id g 1 0 order_.length ∧ look T_ 5 = .int .i64 a_ ∧ look T_ 6 = .int .i64 b_ ∧ H_ = (H0.set id (Blk.mk g false 1 (order_.map (cI .i64))))

abbrev Q_impl_nextOrder_l2 (H0 : List Blk) (id g : Nat) (p_ : ((List Int))) (e_ : Ex) (T_ : Tm) (H_ : List Blk) : Prop :=
  match p_ with
  | v_b_cur_rows => e_ = .ex 4 ∧ H_ = (H0.set id (Blk.mk g false 1 (v_b_cur_rows.map (cI .i64))))

/-- impl.nextOrder -/
def x_impl_nextOrder (order_ : (List Int)) : Option (Bool × (List Int)) :=
  (loopS (x_impl_nextOrder_l0 order_) LL (subK .i64 ((order_.length : Nat) : Int) 2)).bind fun p1 =>
  if p1 < 0 then
    some (false, order_)
  else
    (loopS (x_impl_nextOrder_l1 order_ p1) LL (subK .i64 ((order_.length : Nat) : Int) 1)).bind fun p16 =>
    (ix order_ p16).bind fun y27 =>
    (ix order_ p1).bind fun y32 =>
    (put order_ p1 y27).bind fun l37 =>
    (ix l37 p16).bind fun y43 =>
    (put l37 p16 y32).bind fun l49 =>
    (loopS (x_impl_nextOrder_l2) LL (l49, (addK .i64 p1 1), (subK .i64 ((order_.length : Nat) : Int) 1))).bind fun p55 =>
    some (true, p55)

/-- impl.eachOrder: one turn -/
def x_impl_eachOrder_l0 {σ : Type} (step : σ → List Int → Option σ) : σ × List Int → Option (Ctl (σ × List Int) σ)
  | (s, o) => (step s o).bind fun s' => (x_impl_nextOrder o).bind fun r => if r.2.length = o.length then (if r.1 = true then some (Ctl.next (s', r.2)) else some (Ctl.done s')) else none

/-- impl.eachOrder -/
def x_impl_eachOrder {σ : Type} (n : Int) (step : σ → List Int → Option σ) (s : σ) : Option σ :=
  (x_impl_numbersTo n).bind fun o => loopS (x_impl_eachOrder_l0 step) LL (s, o)

/-- impl.add -/
def x_impl_add (value_ : Int) (j_ : impl_Job) (end_ : Int) (objective_ : Int) (first_ : Bool) : Option Int :=
  if objective_ = 1 then
    some (mxK value_ end_)
  else
    if objective_ = 2 then
      some (addK .i64 value_ end_)
    else
      if objective_ = 3 then
        some (addK .i64 value_ (mulK .i64 j_.Weight end_))
      else
        if objective_ = 4 then
          if first_ = true then
            some (subK .i64 end_ j_.Due)
          else
            some (mxK value_ (subK .i64 end_ j_.Due))
        else
          if objective_ = 5 then
            some (addK .i64 value_ (mxK 0 (subK .i64 end_ j_.Due)))
          else
            if objective_ = 6 then
              some (addK .i64 value_ (mulK .i64 j_.Weight (mxK 0 (subK .i64 end_ j_.Due))))
            else
              if (subK .i64 end_ j_.Due) ≤ 0 then
                some value_
              else
                if objective_ = 7 then
                  some (addK .i64 value_ 1)
                else
                  some (addK .i64 value_ j_.Weight)

def x_impl_valueOfEnds_l0 (ends_ : (List Int)) (objective_ : Int) (v : (List impl_Job)) (vz1 : Int) : (Int × Int) → Option (Ctl (Int × Int) (Int))
  | (value_, vz2) =>
    if vz2 < vz1 then
      (ix v vz2).bind fun y6 =>
      (ix ends_ vz2).bind fun y11 =>
      (x_impl_add value_ y6 y11 objective_ (decide (vz2 = 0))).bind fun r16 =>
      some (.next (r16, (addK .i64 vz2 1)))
    else
      some (.done value_)

abbrev R_impl_valueOfEnds_l0 (ends_ : (List Int)) (objective_ : Int) (v : (List impl_Job)) (vz1 : Int) (st_ : (Int × Int)) (T_ : Tm) (H_ : List Blk) : Prop :=
  match st_ with
  | (value_, vz2) => look T_ 1 = .fs (ends_.map (cI .i64)) ∧ look T_ 2 = .int .i64 objective_ ∧ look T_ 7 = .int .i64 value_ ∧ look T_ 10 = .fs (v.map impl_Job.cells) ∧ look T_ 11 = .int .i64 vz1 ∧ look T_ 12 = .int .i64 vz2 ∧ H_ = []

abbrev Q_impl_valueOfEnds_l0 (ends_ : (List Int)) (objective_ : Int) (v : (List impl_Job)) (vz1 : Int) (p_ : (Int)) (e_ : Ex) (T_ : Tm) (H_ : List Blk) : Prop :=
  match p_ with
  | v_s_7 => e_ = .ex 0 ∧ look T_ 7 = .int .i64 v_s_7 ∧ H_ = []

/-- impl.valueOfEnds -/
def x_impl_valueOfEnds (jobs_ : (List impl_Job)) (ends_ : (List Int)) (objective_ : Int) : Option Int :=
  (loopS (x_impl_valueOfEnds_l0 ends_ objective_ jobs_ (jobs_.length : Int)) LL (0, 0)).bind fun p1 =>
  some p1

def x_impl_endsOf_l0 (jobs_ : (List impl_Job)) (v : (List Int)) (vz1 : Int) : ((List Int) × Int × Int) → Option (Ctl ((List Int) × Int × Int) ((List Int)))
  | (out_, end_, vz2) =>
    if vz2 < vz1 then
      (ix v vz2).bind fun y6 =>
      (ix jobs_ y6).bind fun y11 =>
      (ix out_ y6).bind fun y16 =>
      (put out_ y6 (addK .i64 (mxK end_ y11.Release) y11.Time)).bind fun l21 =>
      some (.next (l21, (addK .i64 (mxK end_ y11.Release) y11.Time), (addK .i64 vz2 1)))
    else
      some (.done out_)

abbrev R_impl_endsOf_l0 (jobs_ : (List impl_Job)) (v : (List Int)) (vz1 : Int) (st_ : ((List Int) × Int × Int)) (T_ : Tm) (H_ : List Blk) : Prop :=
  match st_ with
  | (out_, end_, vz2) => ∃ g0, look T_ 0 = .fs (jobs_.map impl_Job.cells) ∧ look T_ 5 = .os 0 g0 1 0 out_.length ∧ look T_ 6 = .int .i64 end_ ∧ look T_ 12 = .fs (v.map (cI .i64)) ∧ look T_ 13 = .int .i64 vz1 ∧ look T_ 14 = .int .i64 vz2 ∧ H_ = [(Blk.mk g0 false 1 (out_.map (cI .i64)))]

abbrev Q_impl_endsOf_l0 (jobs_ : (List impl_Job)) (v : (List Int)) (vz1 : Int) (p_ : ((List Int))) (e_ : Ex) (T_ : Tm) (H_ : List Blk) : Prop :=
  match p_ with
  | v_b_0_rows => e_ = .ex 0 ∧ ∃ g0, look T_ 5 = .os 0 g0 1 0 v_b_0_rows.length ∧ H_ = [(Blk.mk g0 false 1 (v_b_0_rows.map (cI .i64)))]

/-- impl.endsOf -/
def x_impl_endsOf (jobs_ : (List impl_Job)) (order_ : (List Int)) : Option (List Int) :=
  (mk 8 (jobs_.length : Int) 0).bind fun y1 =>
  (loopS (x_impl_endsOf_l0 jobs_ order_ (order_.length : Int)) LL (y1, 0, 0)).bind fun p10 =>
  some p10

/-- impl.valueOf -/
def x_impl_valueOf (jobs_ : (List impl_Job)) (order_ : (List Int)) (objective_ : Int) : Option Int :=
  (x_impl_endsOf jobs_ order_).bind fun r1 =>
  (x_impl_valueOfEnds jobs_ r1 objective_).bind fun r4 =>
  some r4

/-- impl.copyInts -/
def x_impl_copyInts (list_ : (List Int)) : Option (List Int) :=
  if fits list_.length 8 then
    some list_
  else
    none

/-- impl.best$1 -/
def x_impl_best_c1 (x0_0 : (List impl_Job)) (x1_0 : Int) (st_ : ((List Int) × Int × Int)) (order_ : (List Int)) : Option ((List Int) × Int × Int) :=
  match st_ with
  | (x2_0, x3_0, x4_0) =>
  (x_impl_valueOf x0_0 order_ x1_0).bind fun r1 =>
  if x4_0 = 0 then
    (x_impl_copyInts order_).bind fun r11 =>
    some (r11, r1, 1)
  else
    if r1 < x3_0 then
      (x_impl_copyInts order_).bind fun r21 =>
      some (r21, r1, 1)
    else
      if r1 = x3_0 then
        some (x2_0, x3_0, (addK .i64 x4_0 1))
      else
        some (x2_0, x3_0, x4_0)

/-- impl.best -/
def x_impl_best (jobs_ : (List impl_Job)) (objective_ : Int) : Option ((List Int) × Int × Int) :=
  (x_impl_eachOrder (jobs_.length : Int) (x_impl_best_c1 jobs_ objective_) (([] : List Int), 0, 0)).bind fun r3 =>
  some (r3.1, r3.2.1, r3.2.2)

/-- impl.isObjective -/
def x_impl_isObjective (n_ : Int) : Option Bool :=
  (x_impl_within n_ 1 8).bind fun r1 =>
  some r1

/-- impl.BestValue -/
def x_impl_BestValue (jobs_ : (List impl_Job)) (objective_ : Int) : Option (Int × Bool) :=
  (x_impl_IsJobs jobs_).bind fun r1 =>
  if r1 = true then
    (x_impl_isObjective objective_).bind fun r7 =>
    if r7 = true then
      (x_impl_best jobs_ objective_).bind fun r13 =>
      some (r13.2.1, true)
    else
      some (0, false)
  else
    some (0, false)

/-- impl.isScheduled -/
def x_impl_isScheduled (jobs_ : (List impl_Job)) (order_ : (List Int)) : Option Bool :=
  (x_impl_IsJobs jobs_).bind fun r1 =>
  if r1 = true then
    (x_impl_isOrder (jobs_.length : Int) order_).bind fun r7 =>
    some r7
  else
    some false

/-- impl.isValued -/
def x_impl_isValued (jobs_ : (List impl_Job)) (order_ : (List Int)) (objective_ : Int) : Option Bool :=
  (x_impl_isScheduled jobs_ order_).bind fun r1 =>
  if r1 = true then
    (x_impl_isObjective objective_).bind fun r7 =>
    some r7
  else
    some false

/-- impl.ValueOf -/
def x_impl_ValueOf (jobs_ : (List impl_Job)) (order_ : (List Int)) (objective_ : Int) : Option (Int × Bool) :=
  (x_impl_isValued jobs_ order_ objective_).bind fun r1 =>
  if r1 = true then
    (x_impl_valueOf jobs_ order_ objective_).bind fun r7 =>
    some (r7, true)
  else
    some (0, false)

/-- (*spec.l1Cur).next -/
def x_spec_l1Cur_next (c_ : spec_l1Cur) : Option (Int × spec_l1Cur) :=
  if c_.at_ < (c_.code.length : Int) then
    (ix c_.code c_.at_).bind fun y6 =>
    if (addK .i64 c_.at_ 1) ≤ (c_.code.length : Int) then
      some ((convK .i64 y6), (spec_l1Cur.mk c_.code (addK .i64 c_.at_ 1) (addK .u64 (addK .u64 (mulK .u64 c_.seed 6364136223846793005) (convK .u64 (convK .i64 y6))) 462197)))
    else
      some ((convK .i64 (andK .u64 (shrK .u64 (addK .u64 (addK .u64 (mulK .u64 c_.seed 6364136223846793005) (convK .u64 (convK .i64 y6))) 462197) 40) 255)), (spec_l1Cur.mk c_.code (addK .i64 c_.at_ 1) (addK .u64 (addK .u64 (mulK .u64 c_.seed 6364136223846793005) (convK .u64 (convK .i64 y6))) 462197)))
  else
    if (addK .i64 c_.at_ 1) ≤ (c_.code.length : Int) then
      some (0, (spec_l1Cur.mk c_.code (addK .i64 c_.at_ 1) (addK .u64 (addK .u64 (mulK .u64 c_.seed 6364136223846793005) (convK .u64 0)) 462197)))
    else
      some ((convK .i64 (andK .u64 (shrK .u64 (addK .u64 (addK .u64 (mulK .u64 c_.seed 6364136223846793005) (convK .u64 0)) 462197) 40) 255)), (spec_l1Cur.mk c_.code (addK .i64 c_.at_ 1) (addK .u64 (addK .u64 (mulK .u64 c_.seed 6364136223846793005) (convK .u64 0)) 462197)))

/-- (*spec.l1Cur).pick -/
def x_spec_l1Cur_pick (c_ : spec_l1Cur) (n_ : Int) : Option (Int × spec_l1Cur) :=
  if n_ ≤ 1 then
    some (0, c_)
  else
    (x_spec_l1Cur_next c_).bind fun r6 =>
    if 200 < n_ then
      (x_spec_l1Cur_next r6.2).bind fun r15 =>
      if n_ = 0 then
        none
      else
        some ((remK .i64 (addK .i64 (mulK .i64 r6.1 256) r15.1) n_), r15.2)
    else
      if n_ = 0 then
        none
      else
        some ((remK .i64 r6.1 n_), r6.2)

/-- (*spec.l1Cur).one -/
def x_spec_l1Cur_one (c_ : spec_l1Cur) (n_ : Int) : Option (Bool × spec_l1Cur) :=
  (x_spec_l1Cur_pick c_ n_).bind fun r1 =>
  some ((decide (r1.1 = 0)), r1.2)

/-- (*spec.l1Cur).among -/
def x_spec_l1Cur_among (c_ : spec_l1Cur) (list_ : (List Int)) : Option (Int × spec_l1Cur) :=
  (x_spec_l1Cur_pick c_ (list_.length : Int)).bind fun r1 =>
  (ix list_ r1.1).bind fun y5 =>
  some (y5, r1.2)

def x_spec_l1Cur_order_l0 (n_ : Int) : ((List Int) × (List Int) × Int × Int × Int) → Option (Ctl ((List Int) × (List Int) × Int × Int × Int) ((List Int) × (List Int) × Int × Int))
  | (out_, k0, k1, k2, i_) =>
    if i_ < n_ then
      (x_spec_l1Cur_pick (spec_l1Cur.mk k0 k1 k2) (addK .i64 ((out_.length : Nat) : Int) 1)).bind fun r6 =>
      if 0 ≤ 0 ∧ 0 ≤ r6.1 ∧ r6.1 ≤ ((out_.length : Nat) : Int) then
        (win out_ 0 (Int.toNat r6.1)).bind fun w14 =>
        if fits w14.length 8 then
          (app 8 w14 [i_]).bind fun l24 =>
          if 0 ≤ r6.1 ∧ r6.1 ≤ ((out_.length : Nat) : Int) ∧ ((out_.length : Nat) : Int) ≤ ((out_.length : Nat) : Int) then
            (win out_ (Int.toNat r6.1) (out_.length - (Int.toNat r6.1))).bind fun w37 =>
            (app 8 l24 w37).bind fun l44 =>
            some (.next (l44, r6.2.code, r6.2.at_, r6.2.seed, (addK .i64 i_ 1)))
          else
            none
        else
          none
      else
        none
    else
      some (.done (out_, k0, k1, k2))

abbrev R_spec_l1Cur_order_l0 (H0 : List Blk) (id g : Nat) (n_ : Int) (st_ : ((List Int) × (List Int) × Int × Int × Int)) (T_ : Tm) (H_ : List Blk) : Prop :=
  match st_ with
  | (out_, k0, k1, k2, i_) => ∃ g0, look T_ 0 = .ptr id g 0 0 ∧ look T_ 1 = .int .i64 n_ ∧ look T_ 5 = .os H0.length g0 1 0 out_.length ∧ look T_ 6 = .int .i64 i_ ∧ H_ = (H0.set id (Blk.mk g false 3 [[.fs (k0.map (cI .u8)), .int .i64 k1, .int .u64 k2]]) ++ [(Blk.mk g0 false 1 (out_.map (cI .i64)))])

abbrev Q_spec_l1Cur_order_l0 (H0 : List Blk) (id g : Nat) (n_ : Int) (p_ : ((List Int) × (List Int) × Int × Int)) (e_ : Ex) (T_ : Tm) (H_ : List Blk) : Prop :=
  match p_ with
  | (v_b_0_rows, v_b_cur_0, v_b_cur_1, v_b_cur_2) => e_ = .ex 0 ∧ ∃ g0, look T_ 0 = .ptr id g 0 0 ∧ look T_ 1 = .int .i64 n_ ∧ look T_ 5 = .os H0.length g0 1 0 v_b_0_rows.length ∧ H_ = (H0.set id (Blk.mk g false 3 [[.fs (v_b_cur_0.map (cI .u8)), .int .i64 v_b_cur_1, .int .u64 v_b_cur_2]]) ++ [(Blk.mk g0 false 1 (v_b_0_rows.map (cI .i64)))])

/-- (*spec.l1Cur).order -/
def x_spec_l1Cur_order (c_ : spec_l1Cur) (n_ : Int) : Option ((List Int) × spec_l1Cur) :=
  (loopS (x_spec_l1Cur_order_l0 n_) LL (([] : List Int), c_.code, c_.at_, c_.seed, 0)).bind fun p1 =>
  (x_spec_l1Cur_one (spec_l1Cur.mk p1.2.1 p1.2.2.1 p1.2.2.2) 30).bind fun r13 =>
  if r13.1 = true then
    (x_spec_l1Cur_among r13.2 [0, n_, (-1)]).bind fun r20 =>
    (app 8 p1.1 [r20.1]).bind fun l24 =>
    some (l24, r20.2)
  else
    some (p1.1, r13.2)

/-- (*spec.l1Cur).spoiltJob -/
def x_spec_l1Cur_spoiltJob (c_ : spec_l1Cur) (j_ : impl_Job) : Option (impl_Job × spec_l1Cur) :=
  (x_spec_l1Cur_pick c_ 4).bind fun r1 =>
  if r1.1 = 0 then
    (x_spec_l1Cur_among r1.2 [0, 50, 51, (-1), 4611686018427387904]).bind fun r10 =>
    some ((impl_Job.mk r10.1 j_.Weight j_.Release j_.Due), r10.2)
  else
    if r1.1 = 1 then
      (x_spec_l1Cur_among r1.2 [(-1), 50, 51]).bind fun r19 =>
      some ((impl_Job.mk j_.Time r19.1 j_.Release j_.Due), r19.2)
    else
      if r1.1 = 2 then
        (x_spec_l1Cur_among r1.2 [(-1), 500, 501]).bind fun r28 =>
        some ((impl_Job.mk j_.Time j_.Weight r28.1 j_.Due), r28.2)
      else
        (x_spec_l1Cur_among r1.2 [(-1), 500, 501, (-9223372036854775808)]).bind fun r32 =>
        some ((impl_Job.mk j_.Time j_.Weight j_.Release r32.1), r32.2)

/-- (*spec.l1Cur).job -/
def x_spec_l1Cur_job (c_ : spec_l1Cur) (released_ : Bool) : Option (impl_Job × spec_l1Cur) :=
  (x_spec_l1Cur_among c_ [1, 2, 3, 4, 5, 7, 9]).bind fun r1 =>
  (x_spec_l1Cur_among r1.2 [0, 1, 1, 2, 3, 5, 8]).bind fun r5 =>
  (x_spec_l1Cur_pick r5.2 24).bind fun r9 =>
  if released_ = true then
    (x_spec_l1Cur_pick r9.2 12).bind fun r16 =>
    some ((impl_Job.mk r1.1 r5.1 r16.1 r9.1), r16.2)
  else
    some ((impl_Job.mk r1.1 r5.1 0 r9.1), r9.2)

def x_spec_l1Cur_someJobs_l0 (released_ : Bool) (most_ : Int) : ((List impl_Job) × (List Int) × Int × Int × Int) → Option (Ctl ((List impl_Job) × (List Int) × Int × Int × Int) ((List impl_Job) × (List Int) × Int × Int))
  | (jobs_, k0, k1, k2, n_) =>
    if 0 < n_ then
      if ((jobs_.length : Nat) : Int) < most_ then
        (x_spec_l1Cur_job (spec_l1Cur.mk k0 k1 k2) released_).bind fun r11 =>
        (app 32 jobs_ [r11.1]).bind fun l15 =>
        some (.next (l15, r11.2.code, r11.2.at_, r11.2.seed, (subK .i64 n_ 1)))
      else
        some (.done (jobs_, k0, k1, k2))
    else
      some (.done (jobs_, k0, k1, k2))

abbrev R_spec_l1Cur_someJobs_l0 (H0 : List Blk) (id g : Nat) (released_ : Bool) (most_ : Int) (st_ : ((List impl_Job) × (List Int) × Int × Int × Int)) (T_ : Tm) (H_ : List Blk) : Prop :=
  match st_ with
  | (jobs_, k0, k1, k2, n_) => ∃ b0 g1, look T_ 0 = .ptr id g 0 0 ∧ look T_ 1 = .bool released_ ∧ look T_ 2 = .int .i64 most_ ∧ look T_ 7 = .os (H0.length + 1) g1 4 0 jobs_.length ∧ look T_ 8 = .int .i64 n_ ∧ H_ = (H0.set id (Blk.mk g false 3 [[.fs (k0.map (cI .u8)), .int .i64 k1, .int .u64 k2]]) ++ [b0, (Blk.mk g1 false 4 (jobs_.map impl_Job.cells))])

abbrev Q_spec_l1Cur_someJobs_l0 (H0 : List Blk) (id g : Nat) (released_ : Bool) (most_ : Int) (p_ : ((List impl_Job) × (List Int) × Int × Int)) (e_ : Ex) (T_ : Tm) (H_ : List Blk) : Prop :=
  match p_ with
  | (v_b_1_rows, v_b_cur_0, v_b_cur_1, v_b_cur_2) => e_ = .ex 0 ∧ ∃ b0 g1, look T_ 0 = .ptr id g 0 0 ∧ look T_ 1 = .bool released_ ∧ look T_ 7 = .os (H0.length + 1) g1 4 0 v_b_1_rows.length ∧ H_ = (H0.set id (Blk.mk g false 3 [[.fs (v_b_cur_0.map (cI .u8)), .int .i64 v_b_cur_1, .int .u64 v_b_cur_2]]) ++ [b0, (Blk.mk g1 false 4 (v_b_1_rows.map impl_Job.cells))])

def x_spec_l1Cur_someJobs_l1 (released_ : Bool) : ((List impl_Job) × (List Int) × Int × Int) → Option (Ctl ((List impl_Job) × (List Int) × Int × Int) ((List impl_Job) × (List Int) × Int × Int))
  | (jobs_, k0, k1, k2) =>
    if ((jobs_.length : Nat) : Int) < 9 then
      (x_spec_l1Cur_job (spec_l1Cur.mk k0 k1 k2) released_).bind fun r6 =>
      (app 32 jobs_ [r6.1]).bind fun l10 =>
      some (.next (l10, r6.2.code, r6.2.at_, r6.2.seed))
    else
      some (.done (jobs_, k0, k1, k2))

abbrev R_spec_l1Cur_someJobs_l1 (H0 : List Blk) (id g : Nat) (released_ : Bool) (st_ : ((List impl_Job) × (List Int) × Int × Int)) (T_ : Tm) (H_ : List Blk) : Prop :=
  match st_ with
  | (jobs_, k0, k1, k2) => ∃ b0 g1, look T_ 0 = .ptr id g 0 0 ∧ look T_ 1 = .bool released_ ∧ look T_ 7 = .os (H0.length + 1) g1 4 0 jobs_.length ∧ H_ = (H0.set id (Blk.mk g false 3 [[.fs (k0.map (cI .u8)), .int .i64 k1, .int .u64 k2]]) ++ [b0, (Blk.mk g1 false 4 (jobs_.map impl_Job.cells))])

abbrev Q_spec_l1Cur_someJobs_l1 (H0 : List Blk) (id g : Nat) (released_ : Bool) (p_ : ((List impl_Job) × (List Int) × Int × Int)) (e_ : Ex) (T_ : Tm) (H_ : List Blk) : Prop :=
  match p_ with
  | (v_b_1_rows, v_b_cur_0, v_b_cur_1, v_b_cur_2) => e_ = .ex 2 ∧ ∃ b0 g1, look T_ 7 = .os (H0.length + 1) g1 4 0 v_b_1_rows.length ∧ H_ = (H0.set id (Blk.mk g false 3 [[.fs (v_b_cur_0.map (cI .u8)), .int .i64 v_b_cur_1, .int .u64 v_b_cur_2]]) ++ [b0, (Blk.mk g1 false 4 (v_b_1_rows.map impl_Job.cells))])

/-- (*spec.l1Cur).someJobs -/
def x_spec_l1Cur_someJobs (c_ : spec_l1Cur) (released_ : Bool) (most_ : Int) : Option ((List impl_Job) × spec_l1Cur) :=
  (x_spec_l1Cur_among c_ [3, 4, 5, 2, 6, 1, 0]).bind fun r1 =>
  if 6 < most_ then
    (x_spec_l1Cur_one r1.2 6).bind fun r10 =>
    if r10.1 = true then
      (x_spec_l1Cur_pick r10.2 2).bind fun r17 =>
      (loopS (x_spec_l1Cur_someJobs_l0 released_ most_) LL (([] : List impl_Job), r17.2.code, r17.2.at_, r17.2.seed, (addK .i64 7 r17.1))).bind fun p21 =>
      if 0 < ((p21.1.length : Nat) : Int) then
        (x_spec_l1Cur_one (spec_l1Cur.mk p21.2.1 p21.2.2.1 p21.2.2.2) 20).bind fun r39 =>
        if r39.1 = true then
          (x_spec_l1Cur_pick r39.2 ((p21.1.length : Nat) : Int)).bind fun r46 =>
          (ix p21.1 r46.1).bind fun y50 =>
          (x_spec_l1Cur_spoiltJob r46.2 y50).bind fun r55 =>
          (put p21.1 r46.1 r55.1).bind fun l59 =>
          (x_spec_l1Cur_one r55.2 60).bind fun r65 =>
          if r65.1 = true then
            (loopS (x_spec_l1Cur_someJobs_l1 released_) LL (l59, r65.2.code, r65.2.at_, r65.2.seed)).bind fun p72 =>
            some (p72.1, (spec_l1Cur.mk p72.2.1 p72.2.2.1 p72.2.2.2))
          else
            some (l59, r65.2)
        else
          (x_spec_l1Cur_one r39.2 60).bind fun r84 =>
          if r84.1 = true then
            (loopS (x_spec_l1Cur_someJobs_l1 released_) LL (p21.1, r84.2.code, r84.2.at_, r84.2.seed)).bind fun p91 =>
            some (p91.1, (spec_l1Cur.mk p91.2.1 p91.2.2.1 p91.2.2.2))
          else
            some (p21.1, r84.2)
      else
        (x_spec_l1Cur_one (spec_l1Cur.mk p21.2.1 p21.2.2.1 p21.2.2.2) 60).bind fun r103 =>
        if r103.1 = true then
          (loopS (x_spec_l1Cur_someJobs_l1 released_) LL (p21.1, r103.2.code, r103.2.at_, r103.2.seed)).bind fun p110 =>
          some (p110.1, (spec_l1Cur.mk p110.2.1 p110.2.2.1 p110.2.2.2))
        else
          some (p21.1, r103.2)
    else
      (loopS (x_spec_l1Cur_someJobs_l0 released_ most_) LL (([] : List impl_Job), r10.2.code, r10.2.at_, r10.2.seed, r1.1)).bind fun p123 =>
      if 0 < ((p123.1.length : Nat) : Int) then
        (x_spec_l1Cur_one (spec_l1Cur.mk p123.2.1 p123.2.2.1 p123.2.2.2) 20).bind fun r141 =>
        if r141.1 = true then
          (x_spec_l1Cur_pick r141.2 ((p123.1.length : Nat) : Int)).bind fun r148 =>
          (ix p123.1 r148.1).bind fun y152 =>
          (x_spec_l1Cur_spoiltJob r148.2 y152).bind fun r157 =>
          (put p123.1 r148.1 r157.1).bind fun l161 =>
          (x_spec_l1Cur_one r157.2 60).bind fun r167 =>
          if r167.1 = true then
            (loopS (x_spec_l1Cur_someJobs_l1 released_) LL (l161, r167.2.code, r167.2.at_, r167.2.seed)).bind fun p174 =>
            some (p174.1, (spec_l1Cur.mk p174.2.1 p174.2.2.1 p174.2.2.2))
          else
            some (l161, r167.2)
        else
          (x_spec_l1Cur_one r141.2 60).bind fun r186 =>
          if r186.1 = true then
            (loopS (x_spec_l1Cur_someJobs_l1 released_) LL (p123.1, r186.2.code, r186.2.at_, r186.2.seed)).bind fun p193 =>
            some (p193.1, (spec_l1Cur.mk p193.2.1 p193.2.2.1 p193.2.2.2))
          else
            some (p123.1, r186.2)
      else
        (x_spec_l1Cur_one (spec_l1Cur.mk p123.2.1 p123.2.2.1 p123.2.2.2) 60).bind fun r205 =>
        if r205.1 = true then
          (loopS (x_spec_l1Cur_someJobs_l1 released_) LL (p123.1, r205.2.code, r205.2.at_, r205.2.seed)).bind fun p212 =>
          some (p212.1, (spec_l1Cur.mk p212.2.1 p212.2.2.1 p212.2.2.2))
        else
          some (p123.1, r205.2)
  else
    (loopS (x_spec_l1Cur_someJobs_l0 released_ most_) LL (([] : List impl_Job), r1.2.code, r1.2.at_, r1.2.seed, r1.1)).bind fun p225 =>
    if 0 < ((p225.1.length : Nat) : Int) then
      (x_spec_l1Cur_one (spec_l1Cur.mk p225.2.1 p225.2.2.1 p225.2.2.2) 20).bind fun r243 =>
      if r243.1 = true then
        (x_spec_l1Cur_pick r243.2 ((p225.1.length : Nat) : Int)).bind fun r250 =>
        (ix p225.1 r250.1).bind fun y254 =>
        (x_spec_l1Cur_spoiltJob r250.2 y254).bind fun r259 =>
        (put p225.1 r250.1 r259.1).bind fun l263 =>
        (x_spec_l1Cur_one r259.2 60).bind fun r269 =>
        if r269.1 = true then
          (loopS (x_spec_l1Cur_someJobs_l1 released_) LL (l263, r269.2.code, r269.2.at_, r269.2.seed)).bind fun p276 =>
          some (p276.1, (spec_l1Cur.mk p276.2.1 p276.2.2.1 p276.2.2.2))
        else
          some (l263, r269.2)
      else
        (x_spec_l1Cur_one r243.2 60).bind fun r288 =>
        if r288.1 = true then
          (loopS (x_spec_l1Cur_someJobs_l1 released_) LL (p225.1, r288.2.code, r288.2.at_, r288.2.seed)).bind fun p295 =>
          some (p295.1, (spec_l1Cur.mk p295.2.1 p295.2.2.1 p295.2.2.2))
        else
          some (p225.1, r288.2)
    else
      (x_spec_l1Cur_one (spec_l1Cur.mk p225.2.1 p225.2.2.1 p225.2.2.2) 60).bind fun r307 =>
      if r307.1 = true then
        (loopS (x_spec_l1Cur_someJobs_l1 released_) LL (p225.1, r307.2.code, r307.2.at_, r307.2.seed)).bind fun p314 =>
        some (p314.1, (spec_l1Cur.mk p314.2.1 p314.2.2.1 p314.2.2.2))
      else
        some (p225.1, r307.2)

/-- (*spec.l1Cur).jobs -/
def x_spec_l1Cur_jobs (c_ : spec_l1Cur) : Option ((List impl_Job) × spec_l1Cur) :=
  (x_spec_l1Cur_one c_ 2).bind fun r1 =>
  (x_spec_l1Cur_someJobs r1.2 r1.1 6).bind fun r5 =>
  some (r5.1, r5.2)

def x_spec_l1Cur_plain3_l0 : ((List impl_Job) × (List Int) × Int × Int × Int) → Option (Ctl ((List impl_Job) × (List Int) × Int × Int × Int) ((List impl_Job) × (List Int) × Int × Int))
  | (jobs_, k0, k1, k2, i_) =>
    if i_ < ((jobs_.length : Nat) : Int) then
      (ix jobs_ i_).bind fun y6 =>
      (put jobs_ i_ (impl_Job.mk y6.Time y6.Weight 0 y6.Due)).bind fun l11 =>
      if 0 < i_ then
        (x_spec_l1Cur_one (spec_l1Cur.mk k0 k1 k2) 3).bind fun r22 =>
        if r22.1 = true then
          (ix l11 (subK .i64 i_ 1)).bind fun y29 =>
          (ix l11 i_).bind fun y35 =>
          (put l11 i_ (impl_Job.mk y29.Time y35.Weight y35.Release y35.Due)).bind fun l41 =>
          (ix l41 (subK .i64 i_ 1)).bind fun y47 =>
          (ix l41 i_).bind fun y53 =>
          (put l41 i_ (impl_Job.mk y53.Time y47.Weight y53.Release y53.Due)).bind fun l59 =>
          some (.next (l59, r22.2.code, r22.2.at_, r22.2.seed, (addK .i64 i_ 1)))
        else
          some (.next (l11, r22.2.code, r22.2.at_, r22.2.seed, (addK .i64 i_ 1)))
      else
        some (.next (l11, k0, k1, k2, (addK .i64 i_ 1)))
    else
      some (.done (jobs_, k0, k1, k2))

abbrev R_spec_l1Cur_plain3_l0 (H0 : List Blk) (id g : Nat) (st_ : ((List impl_Job) × (List Int) × Int × Int × Int)) (T_ : Tm) (H_ : List Blk) : Prop :=
  match st_ with
  | (jobs_, k0, k1, k2, i_) => ∃ g0, look T_ 0 = .ptr id g 0 0 ∧ look T_ 3 = .os H0.length g0 4 0 jobs_.length ∧ look T_ 4 = .int .i64 i_ ∧ H_ = (H0.set id (Blk.mk g false 3 [[.fs (k0.map (cI .u8)), .int .i64 k1, .int .u64 k2]]) ++ [(Blk.mk g0 false 4 (jobs_.map impl_Job.cells))])

abbrev Q_spec_l1Cur_plain3_l0 (H0 : List Blk) (id g : Nat) (p_ : ((List impl_Job) × (List Int) × Int × Int)) (e_ : Ex) (T_ : Tm) (H_ : List Blk) : Prop :=
  match p_ with
  | (v_b_0_rows, v_b_cur_0, v_b_cur_1, v_b_cur_2) => e_ = .ex 0 ∧ ∃ g0, look T_ 3 = .os H0.length g0 4 0 v_b_0_rows.length ∧ H_ = (H0.set id (Blk.mk g false 3 [[.fs (v_b_cur_0.map (cI .u8)), .int .i64 v_b_cur_1, .int .u64 v_b_cur_2]]) ++ [(Blk.mk g0 false 4 (v_b_0_rows.map impl_Job.cells))])

/-- (*spec.l1Cur).plain3 -/
def x_spec_l1Cur_plain3 (c_ : spec_l1Cur) : Option ((List impl_Job) × spec_l1Cur) :=
  (x_spec_l1Cur_jobs c_).bind fun r1 =>
  (x_spec_l1Cur_one r1.2 24).bind fun r5 =>
  if r5.1 = true then
    some (r1.1, r5.2)
  else
    (loopS (x_spec_l1Cur_plain3_l0) LL (r1.1, r5.2.code, r5.2.at_, r5.2.seed, 0)).bind fun p12 =>
    some (p12.1, (spec_l1Cur.mk p12.2.1 p12.2.2.1 p12.2.2.2))

/-- spec.DrawPairLoss -/
def x_spec_DrawPairLoss (code_ : (List Int)) : Option ((List impl_Job) × (List Int)) :=
  (x_spec_l1Cur_plain3 (spec_l1Cur.mk code_ 0 0)).bind fun r1 =>
  (x_spec_l1Cur_order r1.2 (r1.1.length : Int)).bind fun r5 =>
  some (r1.1, r5.1)

def x_impl_inversions_l1 (jobs_ : (List impl_Job)) (order_ : (List Int)) (objective_ : Int) (x_ : Int) (v : (List Int)) (vz1 : Int) (vz2 : Int) (vz3 : (List Int)) (vz4 : Int) : ((List arr_2_int) × Int) → Option (Ctl ((List arr_2_int) × Int) ((List arr_2_int)))
  | (out_, vz5) =>
    if vz5 < vz4 then
      (ix vz3 vz5).bind fun y6 =>
      (ix jobs_ y6).bind fun y11 =>
      (ix jobs_ x_).bind fun y16 =>
      (x_impl_difference y11 y16 objective_).bind fun r21 =>
      if r21 < 0 then
        (app 16 out_ [(arr_2_int.mk x_ y6)]).bind fun l29 =>
        some (.next (l29, (addK .i64 vz5 1)))
      else
        some (.next (out_, (addK .i64 vz5 1)))
    else
      some (.done out_)

abbrev R_impl_inversions_l1 (jobs_ : (List impl_Job)) (order_ : (List Int)) (objective_ : Int) (x_ : Int) (v : (List Int)) (vz1 : Int) (vz2 : Int) (vz3 : (List Int)) (vz4 : Int) (st_ : ((List arr_2_int) × Int)) (T_ : Tm) (H_ : List Blk) : Prop :=
  match st_ with
  | (out_, vz5) => ∃ g0, look T_ 0 = .fs (jobs_.map impl_Job.cells) ∧ look T_ 1 = .fs (order_.map (cI .i64)) ∧ look T_ 2 = .int .i64 objective_ ∧ look T_ 7 = .os 0 g0 2 0 out_.length ∧ look T_ 9 = .int .i64 x_ ∧ look T_ 12 = .fs (v.map (cI .i64)) ∧ look T_ 13 = .int .i64 vz1 ∧ look T_ 14 = .int .i64 vz2 ∧ look T_ 22 = .fs (vz3.map (cI .i64)) ∧ look T_ 23 = .int .i64 vz4 ∧ look T_ 24 = .int .i64 vz5 ∧ H_ = [(Blk.mk g0 false 2 (out_.map arr_2_int.cells))]

abbrev Q_impl_inversions_l1 (jobs_ : (List impl_Job)) (order_ : (List Int)) (objective_ : Int) (x_ : Int) (v : (List Int)) (vz1 : Int) (vz2 : Int) (vz3 : (List Int)) (vz4 : Int) (p_ : ((List arr_2_int))) (e_ : Ex) (T_ : Tm) (H_ : List Blk) : Prop :=
  match p_ with
  | v_b_0_rows => e_ = .ex 2 ∧ ∃ g0, look T_ 0 = .fs (jobs_.map impl_Job.cells) ∧ look T_ 1 = .fs (order_.map (cI .i64)) ∧ look T_ 2 = .int .i64 objective_ ∧ look T_ 7 = .os 0 g0 2 0 v_b_0_rows.length ∧ look T_ 12 = .fs (v.map (cI .i64)) ∧ look T_ 13 = .int .i64 vz1 ∧ look T_ 14 = .int .i64 vz2 ∧ H_ = [(Blk.mk g0 false 2 (v_b_0_rows.map arr_2_int.cells))]

def x_impl_inversions_l0 (jobs_ : (List impl_Job)) (order_ : (List Int)) (objective_ : Int) (v : (List Int)) (vz1 : Int) : ((List arr_2_int) × Int) → Option (Ctl ((List arr_2_int) × Int) ((List arr_2_int)))
  | (out_, vz2) =>
    if vz2 < vz1 then
      (ix v vz2).bind fun y6 =>
      (cut order_ (addK .i64 vz2 1) (order_.length : Int)).bind fun y11 =>
      (loopS (x_impl_inversions_l1 jobs_ order_ objective_ y6 v vz1 vz2 y11 (y11.length : Int)) LL (out_, 0)).bind fun p19 =>
      some (.next (p19, (addK .i64 vz2 1)))
    else
      some (.done out_)

abbrev R_impl_inversions_l0 (jobs_ : (List impl_Job)) (order_ : (List Int)) (objective_ : Int) (v : (List Int)) (vz1 : Int) (st_ : ((List arr_2_int) × Int)) (T_ : Tm) (H_ : List Blk) : Prop :=
  match st_ with
  | (out_, vz2) => ∃ g0, look T_ 0 = .fs (jobs_.map impl_Job.cells) ∧ look T_ 1 = .fs (order_.map (cI .i64)) ∧ look T_ 2 = .int .i64 objective_ ∧ look T_ 7 = .os 0 g0 2 0 out_.length ∧ look T_ 12 = .fs (v.map (cI .i64)) ∧ look T_ 13 = .int .i64 vz1 ∧ look T_ 14 = .int .i64 vz2 ∧ H_ = [(Blk.mk g0 false 2 (out_.map arr_2_int.cells))]

abbrev Q_impl_inversions_l0 (jobs_ : (List impl_Job)) (order_ : (List Int)) (objective_ : Int) (v : (List Int)) (vz1 : Int) (p_ : ((List arr_2_int))) (e_ : Ex) (T_ : Tm) (H_ : List Blk) : Prop :=
  match p_ with
  | v_b_0_rows => e_ = .ex 0 ∧ ∃ g0, look T_ 7 = .os 0 g0 2 0 v_b_0_rows.length ∧ H_ = [(Blk.mk g0 false 2 (v_b_0_rows.map arr_2_int.cells))]

/-- impl.inversions -/
def x_impl_inversions (jobs_ : (List impl_Job)) (order_ : (List Int)) (objective_ : Int) : Option (List arr_2_int) :=
  (loopS (x_impl_inversions_l0 jobs_ order_ objective_ order_ (order_.length : Int)) LL (([] : List arr_2_int), 0)).bind fun p1 =>
  some p1

def x_impl_PairLoss_l0 (jobs_ : (List impl_Job)) (v : (List arr_2_int)) (vz1 : Int) : (Int × Int) → Option (Ctl (Int × Int) (Int))
  | (loss_, vz2) =>
    if vz2 < vz1 then
      (ix v vz2).bind fun y6 =>
      (ix jobs_ y6.a0).bind fun y11 =>
      (ix jobs_ y6.a1).bind fun y16 =>
      (x_impl_difference y11 y16 3).bind fun r21 =>
      some (.next ((addK .i64 loss_ r21), (addK .i64 vz2 1)))
    else
      some (.done loss_)

abbrev R_impl_PairLoss_l0 (jobs_ : (List impl_Job)) (v : (List arr_2_int)) (vz1 : Int) (st_ : (Int × Int)) (T_ : Tm) (H_ : List Blk) : Prop :=
  match st_ with
  | (loss_, vz2) => look T_ 0 = .fs (jobs_.map impl_Job.cells) ∧ look T_ 6 = .int .i64 loss_ ∧ look T_ 15 = .fs (v.map arr_2_int.cells) ∧ look T_ 16 = .int .i64 vz1 ∧ look T_ 17 = .int .i64 vz2 ∧ H_ = []

abbrev Q_impl_PairLoss_l0 (jobs_ : (List impl_Job)) (v : (List arr_2_int)) (vz1 : Int) (p_ : (Int)) (e_ : Ex) (T_ : Tm) (H_ : List Blk) : Prop :=
  match p_ with
  | v_s_6 => e_ = .ex 0 ∧ look T_ 6 = .int .i64 v_s_6 ∧ H_ = []

/-- impl.PairLoss -/
def x_impl_PairLoss (jobs_ : (List impl_Job)) (order_ : (List Int)) : Option (Int × Bool) :=
  (x_impl_isRuledAndOrdered jobs_ order_ 3).bind fun r1 =>
  if r1 = true then
    (x_impl_inversions jobs_ order_ 3).bind fun r7 =>
    (loopS (x_impl_PairLoss_l0 jobs_ r7 (r7.length : Int)) LL (0, 0)).bind fun p10 =>
    some (p10, true)
  else
    some (0, false)

/-- spec.l1In -/
def x_spec_l1In (x_ : Int) (a_ : Int) (b_ : Int) : Option Bool :=
  if a_ ≤ x_ then
    some (decide (x_ ≤ b_))
  else
    some false

/-- spec.l2Job -/
def x_spec_l2Job (j_ : impl_Job) : Option Bool :=
  (x_spec_l1In j_.Time 1 50).bind fun r1 =>
  if r1 = true then
    (x_spec_l1In j_.Weight 0 50).bind fun r7 =>
    if r7 = true then
      (x_spec_l1In j_.Release 0 500).bind fun r13 =>
      if r13 = true then
        (x_spec_l1In j_.Due 0 500).bind fun r19 =>
        some r19
      else
        some false
    else
      some false
  else
    some false

def x_spec_l2Good_l0 (jobs_ : (List impl_Job)) : (Int) → Option (Ctl (Int) (Unit ⊕ (Bool)))
  | i_ =>
    if i_ < (jobs_.length : Int) then
      (ix jobs_ i_).bind fun y6 =>
      (x_spec_l2Job y6).bind fun r11 =>
      if r11 = true then
        some (.next (addK .i64 i_ 1))
      else
        some (.done (.inr false))
    else
      some (.done (.inl ()))

abbrev R_spec_l2Good_l0 (jobs_ : (List impl_Job)) (st_ : (Int)) (T_ : Tm) (H_ : List Blk) : Prop :=
  match st_ with
  | i_ => look T_ 0 = .fs (jobs_.map impl_Job.cells) ∧ look T_ 3 = .int .i64 i_ ∧ H_ = []

abbrev Q_spec_l2Good_l0 (jobs_ : (List impl_Job)) (p_ : (Unit ⊕ (Bool))) (e_ : Ex) (T_ : Tm) (H_ : List Blk) : Prop :=
  match p_ with
  | .inl () => e_ = .ex 0 ∧ look T_ 0 = .fs (jobs_.map impl_Job.cells) ∧ H_ = []
  | .inr v_r_0 => e_ = .ret ∧ look T_ 2 = .bool v_r_0

/-- spec.l2Good -/
def x_spec_l2Good (jobs_ : (List impl_Job)) : Option Bool :=
  (loopS (x_spec_l2Good_l0 jobs_) LL 0).bind fun p1 =>
  match p1 with
  | .inl p1 =>
    some (decide ((jobs_.length : Int) ≤ 8))
  | .inr p1 =>
    some p1

def x_spec_l3Plain_l0 (jobs_ : (List impl_Job)) : (Int) → Option (Ctl (Int) (Unit ⊕ (Bool)))
  | i_ =>
    if i_ < (jobs_.length : Int) then
      (ix jobs_ i_).bind fun y6 =>
      if y6.Release = 0 then
        some (.next (addK .i64 i_ 1))
      else
        some (.done (.inr false))
    else
      some (.done (.inl ()))

abbrev R_spec_l3Plain_l0 (jobs_ : (List impl_Job)) (st_ : (Int)) (T_ : Tm) (H_ : List Blk) : Prop :=
  match st_ with
  | i_ => look T_ 0 = .fs (jobs_.map impl_Job.cells) ∧ look T_ 3 = .int .i64 i_ ∧ H_ = []

abbrev Q_spec_l3Plain_l0 (jobs_ : (List impl_Job)) (p_ : (Unit ⊕ (Bool))) (e_ : Ex) (T_ : Tm) (H_ : List Blk) : Prop :=
  match p_ with
  | .inl () => e_ = .ex 0 ∧ H_ = []
  | .inr v_r_0 => e_ = .ret ∧ look T_ 2 = .bool v_r_0

/-- spec.l3Plain -/
def x_spec_l3Plain (jobs_ : (List impl_Job)) : Option Bool :=
  (loopS (x_spec_l3Plain_l0 jobs_) LL 0).bind fun p1 =>
  match p1 with
  | .inl p1 =>
    some true
  | .inr p1 =>
    some p1

/-- spec.l3Ruled -/
def x_spec_l3Ruled (jobs_ : (List impl_Job)) (objective_ : Int) : Option Bool :=
  (x_spec_l2Good jobs_).bind fun r1 =>
  if r1 = true then
    (x_spec_l1In objective_ 1 4).bind fun r7 =>
    if r7 = true then
      if objective_ = 1 then
        some true
      else
        (x_spec_l3Plain jobs_).bind fun r18 =>
        some r18
    else
      some false
  else
    some false

def x_spec_l1Has_l0 (l_ : (List Int)) (n_ : Int) : (Int) → Option (Ctl (Int) (Unit ⊕ (Bool)))
  | i_ =>
    if i_ < (l_.length : Int) then
      (ix l_ i_).bind fun y6 =>
      if y6 = n_ then
        some (.done (.inr true))
      else
        some (.next (addK .i64 i_ 1))
    else
      some (.done (.inl ()))

abbrev R_spec_l1Has_l0 (l_ : (List Int)) (n_ : Int) (st_ : (Int)) (T_ : Tm) (H_ : List Blk) : Prop :=
  match st_ with
  | i_ => look T_ 0 = .fs (l_.map (cI .i64)) ∧ look T_ 1 = .int .i64 n_ ∧ look T_ 5 = .int .i64 i_ ∧ H_ = []

abbrev Q_spec_l1Has_l0 (l_ : (List Int)) (n_ : Int) (p_ : (Unit ⊕ (Bool))) (e_ : Ex) (T_ : Tm) (H_ : List Blk) : Prop :=
  match p_ with
  | .inl () => e_ = .ex 0 ∧ H_ = []
  | .inr v_r_0 => e_ = .ret ∧ look T_ 4 = .bool v_r_0

/-- spec.l1Has -/
def x_spec_l1Has (l_ : (List Int)) (n_ : Int) : Option Bool :=
  (loopS (x_spec_l1Has_l0 l_ n_) LL 0).bind fun p1 =>
  match p1 with
  | .inl p1 =>
    some false
  | .inr p1 =>
    some p1

def x_spec_l2Order_l0 (n_ : Int) (order_ : (List Int)) : (Int) → Option (Ctl (Int) (Unit ⊕ (Bool)))
  | i_ =>
    if i_ < n_ then
      (x_spec_l1Has order_ i_).bind fun r6 =>
      if r6 = true then
        some (.next (addK .i64 i_ 1))
      else
        some (.done (.inr false))
    else
      some (.done (.inl ()))

abbrev R_spec_l2Order_l0 (n_ : Int) (order_ : (List Int)) (st_ : (Int)) (T_ : Tm) (H_ : List Blk) : Prop :=
  match st_ with
  | i_ => look T_ 0 = .int .i64 n_ ∧ look T_ 1 = .fs (order_.map (cI .i64)) ∧ look T_ 5 = .int .i64 i_ ∧ H_ = []

abbrev Q_spec_l2Order_l0 (n_ : Int) (order_ : (List Int)) (p_ : (Unit ⊕ (Bool))) (e_ : Ex) (T_ : Tm) (H_ : List Blk) : Prop :=
  match p_ with
  | .inl () => e_ = .ex 0 ∧ H_ = []
  | .inr v_r_0 => e_ = .ret ∧ look T_ 4 = .bool v_r_0

/-- spec.l2Order -/
def x_spec_l2Order (n_ : Int) (order_ : (List Int)) : Option Bool :=
  (x_spec_l1In n_ 0 8).bind fun r1 =>
  if r1 = true then
    if (order_.length : Int) = n_ then
      (loopS (x_spec_l2Order_l0 n_ order_) LL 0).bind fun p12 =>
      match p12 with
      | .inl p12 =>
        some true
      | .inr p12 =>
        some p12
    else
      some false
  else
    some false

/-- spec.l3Both -/
def x_spec_l3Both (jobs_ : (List impl_Job)) (order_ : (List Int)) (objective_ : Int) : Option Bool :=
  (x_spec_l3Ruled jobs_ objective_).bind fun r1 =>
  if r1 = true then
    (x_spec_l2Order (jobs_.length : Int) order_).bind fun r7 =>
    some r7
  else
    some false

/-- spec.l3Gap -/
def x_spec_l3Gap (jobs_ : (List impl_Job)) (objective_ : Int) (i_ : Int) (j_ : Int) : Option Int :=
  (ix jobs_ i_).bind fun y1 =>
  (ix jobs_ j_).bind fun y6 =>
  if objective_ = 1 then
    some (subK .i64 y1.Release y6.Release)
  else
    if objective_ = 2 then
      some (subK .i64 y1.Time y6.Time)
    else
      if objective_ = 3 then
        some (subK .i64 (mulK .i64 y1.Time y6.Weight) (mulK .i64 y6.Time y1.Weight))
      else
        some (subK .i64 y1.Due y6.Due)

def x_spec_l3Inversions_l1 (jobs_ : (List impl_Job)) (order_ : (List Int)) (objective_ : Int) (i_ : Int) : ((List arr_2_int) × Int) → Option (Ctl ((List arr_2_int) × Int) ((List arr_2_int)))
  | (out_, k_) =>
    if k_ < (order_.length : Int) then
      (ix order_ i_).bind fun y6 =>
      (ix order_ k_).bind fun y11 =>
      (x_spec_l3Gap jobs_ objective_ y6 y11).bind fun r16 =>
      if 0 < r16 then
        (app 16 out_ [(arr_2_int.mk y6 y11)]).bind fun l24 =>
        some (.next (l24, (addK .i64 k_ 1)))
      else
        some (.next (out_, (addK .i64 k_ 1)))
    else
      some (.done out_)

abbrev R_spec_l3Inversions_l1 (jobs_ : (List impl_Job)) (order_ : (List Int)) (objective_ : Int) (i_ : Int) (st_ : ((List arr_2_int) × Int)) (T_ : Tm) (H_ : List Blk) : Prop :=
  match st_ with
  | (out_, k_) => ∃ g0, look T_ 0 = .fs (jobs_.map impl_Job.cells) ∧ look T_ 1 = .fs (order_.map (cI .i64)) ∧ look T_ 2 = .int .i64 objective_ ∧ look T_ 7 = .os 0 g0 2 0 out_.length ∧ look T_ 8 = .int .i64 i_ ∧ look T_ 9 = .int .i64 k_ ∧ H_ = [(Blk.mk g0 false 2 (out_.map arr_2_int.cells))]

abbrev Q_spec_l3Inversions_l1 (jobs_ : (List impl_Job)) (order_ : (List Int)) (objective_ : Int) (i_ : Int) (p_ : ((List arr_2_int))) (e_ : Ex) (T_ : Tm) (H_ : List Blk) : Prop :=
  match p_ with
  | v_b_0_rows => e_ = .ex 2 ∧ ∃ g0, look T_ 0 = .fs (jobs_.map impl_Job.cells) ∧ look T_ 1 = .fs (order_.map (cI .i64)) ∧ look T_ 2 = .int .i64 objective_ ∧ look T_ 7 = .os 0 g0 2 0 v_b_0_rows.length ∧ look T_ 8 = .int .i64 i_ ∧ H_ = [(Blk.mk g0 false 2 (v_b_0_rows.map arr_2_int.cells))]

def x_spec_l3Inversions_l0 (jobs_ : (List impl_Job)) (order_ : (List Int)) (objective_ : Int) : ((List arr_2_int) × Int) → Option (Ctl ((List arr_2_int) × Int) ((List arr_2_int)))
  | (out_, i_) =>
    if i_ < (order_.length : Int) then
      (loopS (x_spec_l3Inversions_l1 jobs_ order_ objective_ i_) LL (out_, (addK .i64 i_ 1))).bind fun p6 =>
      some (.next (p6, (addK .i64 i_ 1)))
    else
      some (.done out_)

abbrev R_spec_l3Inversions_l0 (jobs_ : (List impl_Job)) (order_ : (List Int)) (objective_ : Int) (st_ : ((List arr_2_int) × Int)) (T_ : Tm) (H_ : List Blk) : Prop :=
  match st_ with
  | (out_, i_) => ∃ g0, look T_ 0 = .fs (jobs_.map impl_Job.cells) ∧ look T_ 1 = .fs (order_.map (cI .i64)) ∧ look T_ 2 = .int .i64 objective_ ∧ look T_ 7 = .os 0 g0 2 0 out_.length ∧ look T_ 8 = .int .i64 i_ ∧ H_ = [(Blk.mk g0 false 2 (out_.map arr_2_int.cells))]

abbrev Q_spec_l3Inversions_l0 (jobs_ : (List impl_Job)) (order_ : (List Int)) (objective_ : Int) (p_ : ((List arr_2_int))) (e_ : Ex) (T_ : Tm) (H_ : List Blk) : Prop :=
  match p_ with
  | v_b_0_rows => e_ = .ex 0 ∧ ∃ g0, look T_ 7 = .os 0 g0 2 0 v_b_0_rows.length ∧ H_ = [(Blk.mk g0 false 2 (v_b_0_rows.map arr_2_int.cells))]

/-- spec.l3Inversions -/
def x_spec_l3Inversions (jobs_ : (List impl_Job)) (order_ : (List Int)) (objective_ : Int) : Option (List arr_2_int) :=
  (loopS (x_spec_l3Inversions_l0 jobs_ order_ objective_) LL (([] : List arr_2_int), 0)).bind fun p1 =>
  some p1

def x_spec_PairLoss_l0 (jobs_ : (List impl_Job)) (list_ : (List arr_2_int)) : (Int × Int) → Option (Ctl (Int × Int) (Int))
  | (sum_, i_) =>
    if i_ < (list_.length : Int) then
      (ix list_ i_).bind fun y6 =>
      (x_spec_l3Gap jobs_ 3 y6.a0 y6.a1).bind fun r11 =>
      some (.next ((addK .i64 sum_ r11), (addK .i64 i_ 1)))
    else
      some (.done sum_)

abbrev R_spec_PairLoss_l0 (jobs_ : (List impl_Job)) (list_ : (List arr_2_int)) (st_ : (Int × Int)) (T_ : Tm) (H_ : List Blk) : Prop :=
  match st_ with
  | (sum_, i_) => look T_ 0 = .fs (jobs_.map impl_Job.cells) ∧ look T_ 6 = .int .i64 sum_ ∧ look T_ 7 = .fs (list_.map arr_2_int.cells) ∧ look T_ 8 = .int .i64 i_ ∧ H_ = []

abbrev Q_spec_PairLoss_l0 (jobs_ : (List impl_Job)) (list_ : (List arr_2_int)) (p_ : (Int)) (e_ : Ex) (T_ : Tm) (H_ : List Blk) : Prop :=
  match p_ with
  | v_s_6 => e_ = .ex 0 ∧ look T_ 6 = .int .i64 v_s_6 ∧ H_ = []

/-- spec.PairLoss -/
def x_spec_PairLoss (jobs_ : (List impl_Job)) (order_ : (List Int)) : Option (Int × Bool) :=
  (x_spec_l3Both jobs_ order_ 3).bind fun r1 =>
  if r1 = true then
    (x_spec_l3Inversions jobs_ order_ 3).bind fun r7 =>
    (loopS (x_spec_PairLoss_l0 jobs_ r7) LL (0, 0)).bind fun p10 =>
    some (p10, true)
  else
    some (0, false)

/-- (*spec.l1Cur).ruled3 -/
def x_spec_l1Cur_ruled3 (c_ : spec_l1Cur) : Option (((List impl_Job) × Int) × spec_l1Cur) :=
  (x_spec_l1Cur_pick c_ 4).bind fun r1 =>
  (x_spec_l1Cur_one r1.2 24).bind fun r5 =>
  if r5.1 = true then
    (x_spec_l1Cur_among r5.2 [0, 5, 8, (-1)]).bind fun r12 =>
    if r12.1 = 1 then
      (x_spec_l1Cur_jobs r12.2).bind fun r21 =>
      some ((r21.1, r12.1), r21.2)
    else
      (x_spec_l1Cur_plain3 r12.2).bind fun r25 =>
      some ((r25.1, r12.1), r25.2)
  else
    if (addK .i64 1 r1.1) = 1 then
      (x_spec_l1Cur_jobs r5.2).bind fun r34 =>
      some ((r34.1, (addK .i64 1 r1.1)), r34.2)
    else
      (x_spec_l1Cur_plain3 r5.2).bind fun r38 =>
      some ((r38.1, (addK .i64 1 r1.1)), r38.2)

/-- spec.l1Own -/
def x_spec_l1Own (l_ : (List Int)) : Option (List Int) :=
  if fits l_.length 8 then
    some l_
  else
    none

def x_spec_l3Order_l1 (jobs_ : (List impl_Job)) (objective_ : Int) (out_ : (List Int)) (i_ : Int) : (Int) → Option (Ctl (Int) (Int))
  | k_ =>
    if k_ < (out_.length : Int) then
      (ix out_ k_).bind fun y6 =>
      (x_spec_l3Gap jobs_ objective_ y6 i_).bind fun r11 =>
      if r11 ≤ 0 then
        some (.next (addK .i64 k_ 1))
      else
        some (.done k_)
    else
      some (.done k_)

abbrev R_spec_l3Order_l1 (jobs_ : (List impl_Job)) (objective_ : Int) (out_ : (List Int)) (i_ : Int) (st_ : (Int)) (T_ : Tm) (H_ : List Blk) : Prop :=
  match st_ with
  | k_ => look T_ 0 = .fs (jobs_.map impl_Job.cells) ∧ look T_ 1 = .int .i64 objective_ ∧ look T_ 5 = .fs (out_.map (cI .i64)) ∧ look T_ 6 = .int .i64 i_ ∧ look T_ 7 = .int .i64 k_ ∧ H_ = []

abbrev Q_spec_l3Order_l1 (jobs_ : (List impl_Job)) (objective_ : Int) (out_ : (List Int)) (i_ : Int) (p_ : (Int)) (e_ : Ex) (T_ : Tm) (H_ : List Blk) : Prop :=
  match p_ with
  | v_s_7 => e_ = .ex 2 ∧ look T_ 0 = .fs (jobs_.map impl_Job.cells) ∧ look T_ 1 = .int .i64 objective_ ∧ look T_ 5 = .fs (out_.map (cI .i64)) ∧ look T_ 6 = .int .i64 i_ ∧ look T_ 7 = .int .i64 v_s_7 ∧ H_ = []

def x_spec_l3Order_l0 (jobs_ : (List impl_Job)) (objective_ : Int) : ((List Int) × Int) → Option (Ctl ((List Int) × Int) ((List Int)))
  | (out_, i_) =>
    if i_ < (jobs_.length : Int) then
      (loopS (x_spec_l3Order_l1 jobs_ objective_ out_ i_) LL 0).bind fun p6 =>
      (cut out_ 0 p6).bind fun y19 =>
      (x_spec_l1Own y19).bind fun r27 =>
      (app 8 r27 [i_]).bind fun l30 =>
      (cut out_ p6 (out_.length : Int)).bind fun y39 =>
      (app 8 l30 y39).bind fun l47 =>
      some (.next (l47, (addK .i64 i_ 1)))
    else
      some (.done out_)

abbrev R_spec_l3Order_l0 (jobs_ : (List impl_Job)) (objective_ : Int) (st_ : ((List Int) × Int)) (T_ : Tm) (H_ : List Blk) : Prop :=
  match st_ with
  | (out_, i_) => look T_ 0 = .fs (jobs_.map impl_Job.cells) ∧ look T_ 1 = .int .i64 objective_ ∧ look T_ 5 = .fs (out_.map (cI .i64)) ∧ look T_ 6 = .int .i64 i_ ∧ H_ = []

abbrev Q_spec_l3Order_l0 (jobs_ : (List impl_Job)) (objective_ : Int) (p_ : ((List Int))) (e_ : Ex) (T_ : Tm) (H_ : List Blk) : Prop :=
  match p_ with
  | v_s_5 => e_ = .ex 0 ∧ look T_ 5 = .fs (v_s_5.map (cI .i64)) ∧ H_ = []

/-- spec.l3Order -/
def x_spec_l3Order (jobs_ : (List impl_Job)) (objective_ : Int) : Option (List Int) :=
  (loopS (x_spec_l3Order_l0 jobs_ objective_) LL (([] : List Int), 0)).bind fun p1 =>
  some p1

/-- spec.l2Swap -/
def x_spec_l2Swap (order_ : (List Int)) (i_ : Int) : Option (List Int) :=
  (x_spec_l1Own order_).bind fun r1 =>
  (ix order_ (addK .i64 i_ 1)).bind fun y4 =>
  (ix r1 i_).bind fun y9 =>
  (put r1 i_ y4).bind fun l14 =>
  (ix order_ i_).bind fun y20 =>
  (ix l14 (addK .i64 i_ 1)).bind fun y25 =>
  (put l14 (addK .i64 i_ 1) y20).bind fun l31 =>
  some l31

/-- spec.DrawIsRuledOrder -/
def x_spec_DrawIsRuledOrder (code_ : (List Int)) : Option ((List impl_Job) × (List Int) × Int) :=
  (x_spec_l1Cur_ruled3 (spec_l1Cur.mk code_ 0 0)).bind fun r1 =>
  (x_spec_l1Cur_order r1.2 (r1.1.1.length : Int)).bind fun r5 =>
  (x_spec_l3Ruled r1.1.1 r1.1.2).bind fun r9 =>
  if r9 = true then
    (x_spec_l1Cur_one r5.2 2).bind fun r15 =>
    if r15.1 = true then
      (x_spec_l3Order r1.1.1 r1.1.2).bind fun r22 =>
      if 1 < (r22.length : Int) then
        (x_spec_l1Cur_one r15.2 2).bind fun r30 =>
        if r30.1 = true then
          (x_spec_l1Cur_pick r30.2 (subK .i64 (r22.length : Int) 1)).bind fun r37 =>
          (x_spec_l2Swap r22 r37.1).bind fun r41 =>
          some (r1.1.1, r41, r1.1.2)
        else
          some (r1.1.1, r22, r1.1.2)
      else
        some (r1.1.1, r22, r1.1.2)
    else
      some (r1.1.1, r5.1, r1.1.2)
  else
    some (r1.1.1, r5.1, r1.1.2)

/-- spec.DrawInversionsOf -/
def x_spec_DrawInversionsOf (code_ : (List Int)) : Option ((List impl_Job) × (List Int) × Int) :=
  (x_spec_DrawIsRuledOrder code_).bind fun r1 =>
  some (r1.1, r1.2.1, r1.2.2)

/-- impl.InversionsOf -/
def x_impl_InversionsOf (jobs_ : (List impl_Job)) (order_ : (List Int)) (objective_ : Int) : Option ((List arr_2_int) × Bool) :=
  (x_impl_isRuledAndOrdered jobs_ order_ objective_).bind fun r1 =>
  if r1 = true then
    (x_impl_inversions jobs_ order_ objective_).bind fun r7 =>
    some (r7, true)
  else
    some (([] : List arr_2_int), false)

/-- spec.InversionsOf -/
def x_spec_InversionsOf (jobs_ : (List impl_Job)) (order_ : (List Int)) (objective_ : Int) : Option ((List arr_2_int) × Bool) :=
  (x_spec_l3Both jobs_ order_ objective_).bind fun r1 =>
  if r1 = true then
    (x_spec_l3Inversions jobs_ order_ objective_).bind fun r7 =>
    some (r7, true)
  else
    some (([] : List arr_2_int), false)

def x_laws_vPairs_l0 (a_ : (List arr_2_int)) (b_ : (List arr_2_int)) : (Int) → Option (Ctl (Int) (Unit ⊕ (Bool)))
  | i_ =>
    if i_ < (a_.length : Int) then
      (ix a_ i_).bind fun y6 =>
      (ix b_ i_).bind fun y11 =>
      if y6.a0 = y11.a0 ∧ y6.a1 = y11.a1 then
        some (.next (addK .i64 i_ 1))
      else
        some (.done (.inr false))
    else
      some (.done (.inl ()))

abbrev R_laws_vPairs_l0 (a_ : (List arr_2_int)) (b_ : (List arr_2_int)) (st_ : (Int)) (T_ : Tm) (H_ : List Blk) : Prop :=
  match st_ with
  | i_ => look T_ 0 = .fs (a_.map arr_2_int.cells) ∧ look T_ 1 = .fs (b_.map arr_2_int.cells) ∧ look T_ 5 = .int .i64 i_ ∧ H_ = []

abbrev Q_laws_vPairs_l0 (a_ : (List arr_2_int)) (b_ : (List arr_2_int)) (p_ : (Unit ⊕ (Bool))) (e_ : Ex) (T_ : Tm) (H_ : List Blk) : Prop :=
  match p_ with
  | .inl () => e_ = .ex 0 ∧ H_ = []
  | .inr v_r_0 => e_ = .ret ∧ look T_ 4 = .bool v_r_0

/-- laws.vPairs -/
def x_laws_vPairs (a_ : (List arr_2_int)) (b_ : (List arr_2_int)) : Option Bool :=
  if (a_.length : Int) = (b_.length : Int) then
    (loopS (x_laws_vPairs_l0 a_ b_) LL 0).bind fun p6 =>
    match p6 with
    | .inl p6 =>
      some true
    | .inr p6 =>
      some p6
  else
    some false

/-- impl.exchanged -/
def x_impl_exchanged (order_ : (List Int)) (i_ : Int) : Option (List Int) :=
  (x_impl_copyInts order_).bind fun r1 =>
  (ix r1 (addK .i64 i_ 1)).bind fun y4 =>
  (ix r1 i_).bind fun y9 =>
  (put r1 i_ y4).bind fun l14 =>
  (ix l14 (addK .i64 i_ 1)).bind fun y20 =>
  (put l14 (addK .i64 i_ 1) y9).bind fun l26 =>
  some l26

/-- impl.gain -/
def x_impl_gain (jobs_ : (List impl_Job)) (order_ : (List Int)) (i_ : Int) (objective_ : Int) : Option Int :=
  (x_impl_valueOf jobs_ order_ objective_).bind fun r1 =>
  (x_impl_exchanged order_ i_).bind fun r4 =>
  (x_impl_valueOf jobs_ r4 objective_).bind fun r7 =>
  some (subK .i64 r1 r7)

/-- impl.ExchangeGain -/
def x_impl_ExchangeGain (jobs_ : (List impl_Job)) (order_ : (List Int)) (i_ : Int) (objective_ : Int) : Option (Int × Bool) :=
  (x_impl_isValued jobs_ order_ objective_).bind fun r1 =>
  if r1 = true then
    (x_impl_within i_ 0 (subK .i64 (order_.length : Int) 2)).bind fun r7 =>
    if r7 = true then
      (x_impl_gain jobs_ order_ i_ objective_).bind fun r13 =>
      some (r13, true)
    else
      some (0, false)
  else
    some (0, false)

def x_laws_FnPairLoss_l0 (r_ : (List impl_Job)) (r_z1 : (List Int)) : (Int) → Option (Ctl (Int) (Unit ⊕ (Bool)))
  | v =>
    if (addK .i64 v 1) < (r_z1.length : Int) then
      (x_impl_ExchangeGain r_ r_z1 v 3).bind fun r6 =>
      (ix r_z1 v).bind fun y9 =>
      (ix r_z1 (addK .i64 v 1)).bind fun y14 =>
      (x_impl_RuleDifference r_ 3 y9 y14).bind fun r19 =>
      if r6.1 = r19.1 then
        some (.next (addK .i64 v 1))
      else
        some (.done (.inr false))
    else
      some (.done (.inl ()))

abbrev R_laws_FnPairLoss_l0 (r_ : (List impl_Job)) (r_z1 : (List Int)) (st_ : (Int)) (T_ : Tm) (H_ : List Blk) : Prop :=
  match st_ with
  | v => look T_ 3 = .fs (r_.map impl_Job.cells) ∧ look T_ 4 = .fs (r_z1.map (cI .i64)) ∧ look T_ 22 = .int .i64 v ∧ H_ = []

abbrev Q_laws_FnPairLoss_l0 (r_ : (List impl_Job)) (r_z1 : (List Int)) (p_ : (Unit ⊕ (Bool))) (e_ : Ex) (T_ : Tm) (H_ : List Blk) : Prop :=
  match p_ with
  | .inl () => e_ = .ex 0 ∧ H_ = []
  | .inr v_r_0 => e_ = .ret ∧ look T_ 2 = .bool v_r_0

/-- laws.FnPairLoss -/
def x_laws_FnPairLoss (t_ : (List Int)) : Option Bool :=
  (x_laws_vBig t_).bind fun r1 =>
  if r1 = true then
    some true
  else
    (x_spec_DrawPairLoss t_).bind fun r7 =>
    (x_impl_PairLoss r7.1 r7.2).bind fun r10 =>
    (x_spec_PairLoss r7.1 r7.2).bind fun r13 =>
    (x_laws_vCut t_ 1).bind fun r16 =>
    (x_spec_DrawInversionsOf r16).bind fun r19 =>
    (x_impl_InversionsOf r19.1 r19.2.1 r19.2.2).bind fun r22 =>
    (x_spec_InversionsOf r19.1 r19.2.1 r19.2.2).bind fun r25 =>
    if r10.2 = r13.2 then
      if r10.1 = r13.1 then
        if r22.2 = r25.2 then
          (x_laws_vPairs r22.1 r25.1).bind fun r39 =>
          if r39 = true then
            if r22.2 = true then
              (x_impl_IsRuledOrder r19.1 r19.2.1 r19.2.2).bind fun r49 =>
              if r49.1 = (decide ((r22.1.length : Int) = 0)) then
                if r10.2 = true then
                  (x_impl_ValueOf r7.1 r7.2 3).bind fun r59 =>
                  (x_impl_BestValue r7.1 3).bind fun r62 =>
                  if (subK .i64 r59.1 r62.1) = r10.1 then
                    (loopS (x_laws_FnPairLoss_l0 r7.1 r7.2) LL 0).bind fun p70 =>
                    match p70 with
                    | .inl p70 =>
                      some true
                    | .inr p70 =>
                      some p70
                  else
                    some false
                else
                  some true
              else
                some false
            else
              if r10.2 = true then
                (x_impl_ValueOf r7.1 r7.2 3).bind fun r86 =>
                (x_impl_BestValue r7.1 3).bind fun r89 =>
                if (subK .i64 r86.1 r89.1) = r10.1 then
                  (loopS (x_laws_FnPairLoss_l0 r7.1 r7.2) LL 0).bind fun p97 =>
                  match p97 with
                  | .inl p97 =>
                    some true
                  | .inr p97 =>
                    some p97
                else
                  some false
              else
                some true
          else
            some false
        else
          some false
      else
        some false
    else
      some false

def K_laws_vBig (φ : (List Int) → Option Bool) (k : Fun) : Prop := ∀ (code_ : (List Int)) r, φ code_ = some r → RetF k [.fs (code_.map (cI .u8))] (.bool r)

def K_impl_within (φ : Int → Int → Int → Option Bool) (k : Fun) : Prop := ∀ (n_ : Int) (low_ : Int) (high_ : Int) r, φ n_ low_ high_ = some r → RetF k [.int .i64 n_, .int .i64 low_, .int .i64 high_] (.bool r)

def K_impl_isDate (φ : Int → Option Bool) (k : Fun) : Prop := ∀ (n_ : Int) r, φ n_ = some r → RetF k [.int .i64 n_] (.bool r)

def K_impl_IsJobs (φ : (List impl_Job) → Option Bool) (k : Fun) : Prop := ∀ (jobs_ : (List impl_Job)) r, φ jobs_ = some r → RetF k [.fs (jobs_.map impl_Job.cells)] (.bool r)

def K_impl_isPlain (φ : (List impl_Job) → Option Bool) (k : Fun) : Prop := ∀ (jobs_ : (List impl_Job)) r, φ jobs_ = some r → RetF k [.fs (jobs_.map impl_Job.cells)] (.bool r)

def K_impl_isRuled (φ : (List impl_Job) → Int → Option Bool) (k : Fun) : Prop := ∀ (jobs_ : (List impl_Job)) (objective_ : Int) r, φ jobs_ objective_ = some r → RetF k [.fs (jobs_.map impl_Job.cells), .int .i64 objective_] (.bool r)

def K_impl_isNumber (φ : Int → Int → Option Bool) (k : Fun) : Prop := ∀ (i_ : Int) (n_ : Int) r, φ i_ n_ = some r → RetF k [.int .i64 i_, .int .i64 n_] (.bool r)

def K_impl_has (φ : (List Int) → Int → Option Bool) (k : Fun) : Prop := ∀ (list_ : (List Int)) (n_ : Int) r, φ list_ n_ = some r → RetF k [.fs (list_.map (cI .i64)), .int .i64 n_] (.bool r)

def K_impl_areDifferent (φ : Int → (List Int) → Option Bool) (k : Fun) : Prop := ∀ (n_ : Int) (list_ : (List Int)) r, φ n_ list_ = some r → RetF k [.int .i64 n_, .fs (list_.map (cI .i64))] (.bool r)

def K_impl_isOrder (φ : Int → (List Int) → Option Bool) (k : Fun) : Prop := ∀ (n_ : Int) (order_ : (List Int)) r, φ n_ order_ = some r → RetF k [.int .i64 n_, .fs (order_.map (cI .i64))] (.bool r)

def K_impl_isRuledAndOrdered (φ : (List impl_Job) → (List Int) → Int → Option Bool) (k : Fun) : Prop := ∀ (jobs_ : (List impl_Job)) (order_ : (List Int)) (objective_ : Int) r, φ jobs_ order_ objective_ = some r → RetF k [.fs (jobs_.map impl_Job.cells), .fs (order_.map (cI .i64)), .int .i64 objective_] (.bool r)

def K_impl_difference (φ : impl_Job → impl_Job → Int → Option Int) (k : Fun) : Prop := ∀ (a_ : impl_Job) (b_ : impl_Job) (objective_ : Int) r, φ a_ b_ objective_ = some r → RetF k [.agg [.int .i64 a_.Time, .int .i64 a_.Weight, .int .i64 a_.Release, .int .i64 a_.Due], .agg [.int .i64 b_.Time, .int .i64 b_.Weight, .int .i64 b_.Release, .int .i64 b_.Due], .int .i64 objective_] (.int .i64 r)

def K_impl_IsRuledOrder (φ : (List impl_Job) → (List Int) → Int → Option (Bool × Bool)) (k : Fun) : Prop := ∀ (jobs_ : (List impl_Job)) (order_ : (List Int)) (objective_ : Int) r, φ jobs_ order_ objective_ = some r → RetF k [.fs (jobs_.map impl_Job.cells), .fs (order_.map (cI .i64)), .int .i64 objective_] (.tup [.bool r.1, .bool r.2])

def K_laws_vCut (φ : (List Int) → Int → Option (List Int)) (k : Fun) : Prop := ∀ (code_ : (List Int)) (n_ : Int) r, φ code_ n_ = some r → RetO k [.fs (code_.map (cI .u8)), .int .i64 n_] 1 (r.map (cI .u8))

def K_impl_RuleDifference (φ : (List impl_Job) → Int → Int → Int → Option (Int × Bool)) (k : Fun) : Prop := ∀ (jobs_ : (List impl_Job)) (objective_ : Int) (i_ : Int) (j_ : Int) r, φ jobs_ objective_ i_ j_ = some r → RetF k [.fs (jobs_.map impl_Job.cells), .int .i64 objective_, .int .i64 i_, .int .i64 j_] (.tup [.int .i64 r.1, .bool r.2])

def K_impl_numbersTo (φ : Int → Option (List Int)) (k : Fun) : Prop := ∀ (n_ : Int) r, φ n_ = some r → RetO k [.int .i64 n_] 1 (r.map (cI .i64))

def K_impl_nextOrder (φ : (List Int) → Option (Bool × (List Int))) (k : Fun) : Prop := ∀ (order_ : (List Int)) r, φ order_ = some r → RetS k 1 [] ((order_.map (cI .i64))) (r.2.map (cI .i64)) (.bool r.1)

def K_impl_add (φ : Int → impl_Job → Int → Int → Bool → Option Int) (k : Fun) : Prop := ∀ (value_ : Int) (j_ : impl_Job) (end_ : Int) (objective_ : Int) (first_ : Bool) r, φ value_ j_ end_ objective_ first_ = some r → RetF k [.int .i64 value_, .agg [.int .i64 j_.Time, .int .i64 j_.Weight, .int .i64 j_.Release, .int .i64 j_.Due], .int .i64 end_, .int .i64 objective_, .bool first_] (.int .i64 r)

def K_impl_valueOfEnds (φ : (List impl_Job) → (List Int) → Int → Option Int) (k : Fun) : Prop := ∀ (jobs_ : (List impl_Job)) (ends_ : (List Int)) (objective_ : Int) r, φ jobs_ ends_ objective_ = some r → RetF k [.fs (jobs_.map impl_Job.cells), .fs (ends_.map (cI .i64)), .int .i64 objective_] (.int .i64 r)

def K_impl_endsOf (φ : (List impl_Job) → (List Int) → Option (List Int)) (k : Fun) : Prop := ∀ (jobs_ : (List impl_Job)) (order_ : (List Int)) r, φ jobs_ order_ = some r → RetO k [.fs (jobs_.map impl_Job.cells), .fs (order_.map (cI .i64))] 1 (r.map (cI .i64))

def K_impl_valueOf (φ : (List impl_Job) → (List Int) → Int → Option Int) (k : Fun) : Prop := ∀ (jobs_ : (List impl_Job)) (order_ : (List Int)) (objective_ : Int) r, φ jobs_ order_ objective_ = some r → RetF k [.fs (jobs_.map impl_Job.cells), .fs (order_.map (cI .i64)), .int .i64 objective_] (.int .i64 r)

def K_impl_copyInts (φ : (List Int) → Option (List Int)) (k : Fun) : Prop := ∀ (list_ : (List Int)) r, φ list_ = some r → RetO k [.fs (list_.map (cI .i64))] 1 (r.map (cI .i64))

def K_impl_best_c1 (φ : (List impl_Job) → Int → ((List Int) × Int × Int) → (List Int) → Option ((List Int) × Int × Int)) (k : Fun) : Prop := ∀ (x0_0 : (List impl_Job)) (x1_0 : Int) (st_ : ((List Int) × Int × Int)) (order_ : (List Int)) r, φ x0_0 x1_0 st_ order_ = some r → ∀ (g0 : Nat) (g1 : Nat) (g2 : Nat) (g3 : Nat) (g4 : Nat) (g ng : Nat), ∃ X ng', k [.os 5 g 1 0 order_.length, .ptr 0 g0 0 0, .ptr 1 g1 0 0, .ptr 4 g4 0 0, .ptr 3 g3 0 0, .ptr 2 g2 0 0] [(Blk.mk g0 false 1 [[.fs (x0_0.map impl_Job.cells)]]), (Blk.mk g1 false 1 [[.int .i64 x1_0]]), (Blk.mk g2 false 1 [[.fs (st_.1.map (cI .i64))]]), (Blk.mk g3 false 1 [[.int .i64 st_.2.1]]), (Blk.mk g4 false 1 [[.int .i64 st_.2.2]]), (Blk.mk g false 1 (order_.map (cI .i64)))] ng = some (.tup [], [(Blk.mk g0 false 1 [[.fs (x0_0.map impl_Job.cells)]]), (Blk.mk g1 false 1 [[.int .i64 x1_0]]), (Blk.mk g2 false 1 [[.fs (r.1.map (cI .i64))]]), (Blk.mk g3 false 1 [[.int .i64 r.2.1]]), (Blk.mk g4 false 1 [[.int .i64 r.2.2]]), (Blk.mk g false 1 (order_.map (cI .i64)))] ++ X, ng')

def K_impl_best (φ : (List impl_Job) → Int → Option ((List Int) × Int × Int)) (k : Fun) : Prop := ∀ (jobs_ : (List impl_Job)) (objective_ : Int) r, φ jobs_ objective_ = some r → Ret k [.fs (jobs_.map impl_Job.cells), .int .i64 objective_] (.tup [.fs (r.1.map (cI .i64)), .int .i64 r.2.1, .int .i64 r.2.2])

def K_impl_isObjective (φ : Int → Option Bool) (k : Fun) : Prop := ∀ (n_ : Int) r, φ n_ = some r → RetF k [.int .i64 n_] (.bool r)

def K_impl_BestValue (φ : (List impl_Job) → Int → Option (Int × Bool)) (k : Fun) : Prop := ∀ (jobs_ : (List impl_Job)) (objective_ : Int) r, φ jobs_ objective_ = some r → RetF k [.fs (jobs_.map impl_Job.cells), .int .i64 objective_] (.tup [.int .i64 r.1, .bool r.2])

def K_impl_isScheduled (φ : (List impl_Job) → (List Int) → Option Bool) (k : Fun) : Prop := ∀ (jobs_ : (List impl_Job)) (order_ : (List Int)) r, φ jobs_ order_ = some r → RetF k [.fs (jobs_.map impl_Job.cells), .fs (order_.map (cI .i64))] (.bool r)

def K_impl_isValued (φ : (List impl_Job) → (List Int) → Int → Option Bool) (k : Fun) : Prop := ∀ (jobs_ : (List impl_Job)) (order_ : (List Int)) (objective_ : Int) r, φ jobs_ order_ objective_ = some r → RetF k [.fs (jobs_.map impl_Job.cells), .fs (order_.map (cI .i64)), .int .i64 objective_] (.bool r)

def K_impl_ValueOf (φ : (List impl_Job) → (List Int) → Int → Option (Int × Bool)) (k : Fun) : Prop := ∀ (jobs_ : (List impl_Job)) (order_ : (List Int)) (objective_ : Int) r, φ jobs_ order_ objective_ = some r → RetF k [.fs (jobs_.map impl_Job.cells), .fs (order_.map (cI .i64)), .int .i64 objective_] (.tup [.int .i64 r.1, .bool r.2])

def K_spec_l1Cur_next (φ : spec_l1Cur → Option (Int × spec_l1Cur)) (k : Fun) : Prop := ∀ (c_ : spec_l1Cur) r, φ c_ = some r → RetC k 3 [] [.fs (c_.code.map (cI .u8)), .int .i64 c_.at_, .int .u64 c_.seed] [.fs (r.2.code.map (cI .u8)), .int .i64 r.2.at_, .int .u64 r.2.seed] (.int .i64 r.1)

def K_spec_l1Cur_pick (φ : spec_l1Cur → Int → Option (Int × spec_l1Cur)) (k : Fun) : Prop := ∀ (c_ : spec_l1Cur) (n_ : Int) r, φ c_ n_ = some r → RetC k 3 [.int .i64 n_] [.fs (c_.code.map (cI .u8)), .int .i64 c_.at_, .int .u64 c_.seed] [.fs (r.2.code.map (cI .u8)), .int .i64 r.2.at_, .int .u64 r.2.seed] (.int .i64 r.1)

def K_spec_l1Cur_one (φ : spec_l1Cur → Int → Option (Bool × spec_l1Cur)) (k : Fun) : Prop := ∀ (c_ : spec_l1Cur) (n_ : Int) r, φ c_ n_ = some r → RetC k 3 [.int .i64 n_] [.fs (c_.code.map (cI .u8)), .int .i64 c_.at_, .int .u64 c_.seed] [.fs (r.2.code.map (cI .u8)), .int .i64 r.2.at_, .int .u64 r.2.seed] (.bool r.1)

def K_spec_l1Cur_among (φ : spec_l1Cur → (List Int) → Option (Int × spec_l1Cur)) (k : Fun) : Prop := ∀ (c_ : spec_l1Cur) (list_ : (List Int)) r, φ c_ list_ = some r → RetC k 3 [.fs (list_.map (cI .i64))] [.fs (c_.code.map (cI .u8)), .int .i64 c_.at_, .int .u64 c_.seed] [.fs (r.2.code.map (cI .u8)), .int .i64 r.2.at_, .int .u64 r.2.seed] (.int .i64 r.1)

def K_spec_l1Cur_order (φ : spec_l1Cur → Int → Option ((List Int) × spec_l1Cur)) (k : Fun) : Prop := ∀ (c_ : spec_l1Cur) (n_ : Int) r, φ c_ n_ = some r → RetCO k 3 [.int .i64 n_] [.fs (c_.code.map (cI .u8)), .int .i64 c_.at_, .int .u64 c_.seed] [.fs (r.2.code.map (cI .u8)), .int .i64 r.2.at_, .int .u64 r.2.seed] 1 (r.1.map (cI .i64))

def K_spec_l1Cur_spoiltJob (φ : spec_l1Cur → impl_Job → Option (impl_Job × spec_l1Cur)) (k : Fun) : Prop := ∀ (c_ : spec_l1Cur) (j_ : impl_Job) r, φ c_ j_ = some r → RetC k 3 [.agg [.int .i64 j_.Time, .int .i64 j_.Weight, .int .i64 j_.Release, .int .i64 j_.Due]] [.fs (c_.code.map (cI .u8)), .int .i64 c_.at_, .int .u64 c_.seed] [.fs (r.2.code.map (cI .u8)), .int .i64 r.2.at_, .int .u64 r.2.seed] (.agg [.int .i64 r.1.Time, .int .i64 r.1.Weight, .int .i64 r.1.Release, .int .i64 r.1.Due])

def K_spec_l1Cur_job (φ : spec_l1Cur → Bool → Option (impl_Job × spec_l1Cur)) (k : Fun) : Prop := ∀ (c_ : spec_l1Cur) (released_ : Bool) r, φ c_ released_ = some r → RetC k 3 [.bool released_] [.fs (c_.code.map (cI .u8)), .int .i64 c_.at_, .int .u64 c_.seed] [.fs (r.2.code.map (cI .u8)), .int .i64 r.2.at_, .int .u64 r.2.seed] (.agg [.int .i64 r.1.Time, .int .i64 r.1.Weight, .int .i64 r.1.Release, .int .i64 r.1.Due])

def K_spec_l1Cur_someJobs (φ : spec_l1Cur → Bool → Int → Option ((List impl_Job) × spec_l1Cur)) (k : Fun) : Prop := ∀ (c_ : spec_l1Cur) (released_ : Bool) (most_ : Int) r, φ c_ released_ most_ = some r → RetCO k 3 [.bool released_, .int .i64 most_] [.fs (c_.code.map (cI .u8)), .int .i64 c_.at_, .int .u64 c_.seed] [.fs (r.2.code.map (cI .u8)), .int .i64 r.2.at_, .int .u64 r.2.seed] 4 (r.1.map impl_Job.cells)

def K_spec_l1Cur_jobs (φ : spec_l1Cur → Option ((List impl_Job) × spec_l1Cur)) (k : Fun) : Prop := ∀ (c_ : spec_l1Cur) r, φ c_ = some r → RetCO k 3 [] [.fs (c_.code.map (cI .u8)), .int .i64 c_.at_, .int .u64 c_.seed] [.fs (r.2.code.map (cI .u8)), .int .i64 r.2.at_, .int .u64 r.2.seed] 4 (r.1.map impl_Job.cells)

def K_spec_l1Cur_plain3 (φ : spec_l1Cur → Option ((List impl_Job) × spec_l1Cur)) (k : Fun) : Prop := ∀ (c_ : spec_l1Cur) r, φ c_ = some r → RetCO k 3 [] [.fs (c_.code.map (cI .u8)), .int .i64 c_.at_, .int .u64 c_.seed] [.fs (r.2.code.map (cI .u8)), .int .i64 r.2.at_, .int .u64 r.2.seed] 4 (r.1.map impl_Job.cells)

def K_spec_DrawPairLoss (φ : (List Int) → Option ((List impl_Job) × (List Int))) (k : Fun) : Prop := ∀ (code_ : (List Int)) r, φ code_ = some r → Ret k [.fs (code_.map (cI .u8))] (.tup [.fs (r.1.map impl_Job.cells), .fs (r.2.map (cI .i64))])

def K_impl_inversions (φ : (List impl_Job) → (List Int) → Int → Option (List arr_2_int)) (k : Fun) : Prop := ∀ (jobs_ : (List impl_Job)) (order_ : (List Int)) (objective_ : Int) r, φ jobs_ order_ objective_ = some r → RetO k [.fs (jobs_.map impl_Job.cells), .fs (order_.map (cI .i64)), .int .i64 objective_] 2 (r.map arr_2_int.cells)

def K_impl_PairLoss (φ : (List impl_Job) → (List Int) → Option (Int × Bool)) (k : Fun) : Prop := ∀ (jobs_ : (List impl_Job)) (order_ : (List Int)) r, φ jobs_ order_ = some r → RetF k [.fs (jobs_.map impl_Job.cells), .fs (order_.map (cI .i64))] (.tup [.int .i64 r.1, .bool r.2])

def K_spec_l1In (φ : Int → Int → Int → Option Bool) (k : Fun) : Prop := ∀ (x_ : Int) (a_ : Int) (b_ : Int) r, φ x_ a_ b_ = some r → RetF k [.int .i64 x_, .int .i64 a_, .int .i64 b_] (.bool r)

def K_spec_l2Job (φ : impl_Job → Option Bool) (k : Fun) : Prop := ∀ (j_ : impl_Job) r, φ j_ = some r → RetF k [.agg [.int .i64 j_.Time, .int .i64 j_.Weight, .int .i64 j_.Release, .int .i64 j_.Due]] (.bool r)

def K_spec_l2Good (φ : (List impl_Job) → Option Bool) (k : Fun) : Prop := ∀ (jobs_ : (List impl_Job)) r, φ jobs_ = some r → RetF k [.fs (jobs_.map impl_Job.cells)] (.bool r)

def K_spec_l3Plain (φ : (List impl_Job) → Option Bool) (k : Fun) : Prop := ∀ (jobs_ : (List impl_Job)) r, φ jobs_ = some r → RetF k [.fs (jobs_.map impl_Job.cells)] (.bool r)

def K_spec_l3Ruled (φ : (List impl_Job) → Int → Option Bool) (k : Fun) : Prop := ∀ (jobs_ : (List impl_Job)) (objective_ : Int) r, φ jobs_ objective_ = some r → RetF k [.fs (jobs_.map impl_Job.cells), .int .i64 objective_] (.bool r)

def K_spec_l1Has (φ : (List Int) → Int → Option Bool) (k : Fun) : Prop := ∀ (l_ : (List Int)) (n_ : Int) r, φ l_ n_ = some r → RetF k [.fs (l_.map (cI .i64)), .int .i64 n_] (.bool r)

def K_spec_l2Order (φ : Int → (List Int) → Option Bool) (k : Fun) : Prop := ∀ (n_ : Int) (order_ : (List Int)) r, φ n_ order_ = some r → RetF k [.int .i64 n_, .fs (order_.map (cI .i64))] (.bool r)

def K_spec_l3Both (φ : (List impl_Job) → (List Int) → Int → Option Bool) (k : Fun) : Prop := ∀ (jobs_ : (List impl_Job)) (order_ : (List Int)) (objective_ : Int) r, φ jobs_ order_ objective_ = some r → RetF k [.fs (jobs_.map impl_Job.cells), .fs (order_.map (cI .i64)), .int .i64 objective_] (.bool r)

def K_spec_l3Gap (φ : (List impl_Job) → Int → Int → Int → Option Int) (k : Fun) : Prop := ∀ (jobs_ : (List impl_Job)) (objective_ : Int) (i_ : Int) (j_ : Int) r, φ jobs_ objective_ i_ j_ = some r → RetF k [.fs (jobs_.map impl_Job.cells), .int .i64 objective_, .int .i64 i_, .int .i64 j_] (.int .i64 r)

def K_spec_l3Inversions (φ : (List impl_Job) → (List Int) → Int → Option (List arr_2_int)) (k : Fun) : Prop := ∀ (jobs_ : (List impl_Job)) (order_ : (List Int)) (objective_ : Int) r, φ jobs_ order_ objective_ = some r → RetO k [.fs (jobs_.map impl_Job.cells), .fs (order_.map (cI .i64)), .int .i64 objective_] 2 (r.map arr_2_int.cells)

def K_spec_PairLoss (φ : (List impl_Job) → (List Int) → Option (Int × Bool)) (k : Fun) : Prop := ∀ (jobs_ : (List impl_Job)) (order_ : (List Int)) r, φ jobs_ order_ = some r → RetF k [.fs (jobs_.map impl_Job.cells), .fs (order_.map (cI .i64))] (.tup [.int .i64 r.1, .bool r.2])

def K_spec_l1Cur_ruled3 (φ : spec_l1Cur → Option (((List impl_Job) × Int) × spec_l1Cur)) (k : Fun) : Prop := ∀ (c_ : spec_l1Cur) r, φ c_ = some r → RetC k 3 [] [.fs (c_.code.map (cI .u8)), .int .i64 c_.at_, .int .u64 c_.seed] [.fs (r.2.code.map (cI .u8)), .int .i64 r.2.at_, .int .u64 r.2.seed] (.tup [.fs (r.1.1.map impl_Job.cells), .int .i64 r.1.2])

def K_spec_l1Own (φ : (List Int) → Option (List Int)) (k : Fun) : Prop := ∀ (l_ : (List Int)) r, φ l_ = some r → RetO k [.fs (l_.map (cI .i64))] 1 (r.map (cI .i64))

def K_spec_l3Order (φ : (List impl_Job) → Int → Option (List Int)) (k : Fun) : Prop := ∀ (jobs_ : (List impl_Job)) (objective_ : Int) r, φ jobs_ objective_ = some r → Ret k [.fs (jobs_.map impl_Job.cells), .int .i64 objective_] (.fs (r.map (cI .i64)))

def K_spec_l2Swap (φ : (List Int) → Int → Option (List Int)) (k : Fun) : Prop := ∀ (order_ : (List Int)) (i_ : Int) r, φ order_ i_ = some r → RetO k [.fs (order_.map (cI .i64)), .int .i64 i_] 1 (r.map (cI .i64))

def K_spec_DrawIsRuledOrder (φ : (List Int) → Option ((List impl_Job) × (List Int) × Int)) (k : Fun) : Prop := ∀ (code_ : (List Int)) r, φ code_ = some r → Ret k [.fs (code_.map (cI .u8))] (.tup [.fs (r.1.map impl_Job.cells), .fs (r.2.1.map (cI .i64)), .int .i64 r.2.2])

def K_spec_DrawInversionsOf (φ : (List Int) → Option ((List impl_Job) × (List Int) × Int)) (k : Fun) : Prop := ∀ (code_ : (List Int)) r, φ code_ = some r → Ret k [.fs (code_.map (cI .u8))] (.tup [.fs (r.1.map impl_Job.cells), .fs (r.2.1.map (cI .i64)), .int .i64 r.2.2])

def K_impl_InversionsOf (φ : (List impl_Job) → (List Int) → Int → Option ((List arr_2_int) × Bool)) (k : Fun) : Prop := ∀ (jobs_ : (List impl_Job)) (order_ : (List Int)) (objective_ : Int) r, φ jobs_ order_ objective_ = some r → Ret k [.fs (jobs_.map impl_Job.cells), .fs (order_.map (cI .i64)), .int .i64 objective_] (.tup [.fs (r.1.map arr_2_int.cells), .bool r.2])

def K_spec_InversionsOf (φ : (List impl_Job) → (List Int) → Int → Option ((List arr_2_int) × Bool)) (k : Fun) : Prop := ∀ (jobs_ : (List impl_Job)) (order_ : (List Int)) (objective_ : Int) r, φ jobs_ order_ objective_ = some r → Ret k [.fs (jobs_.map impl_Job.cells), .fs (order_.map (cI .i64)), .int .i64 objective_] (.tup [.fs (r.1.map arr_2_int.cells), .bool r.2])

def K_laws_vPairs (φ : (List arr_2_int) → (List arr_2_int) → Option Bool) (k : Fun) : Prop := ∀ (a_ : (List arr_2_int)) (b_ : (List arr_2_int)) r, φ a_ b_ = some r → RetF k [.fs (a_.map arr_2_int.cells), .fs (b_.map arr_2_int.cells)] (.bool r)

def K_impl_exchanged (φ : (List Int) → Int → Option (List Int)) (k : Fun) : Prop := ∀ (order_ : (List Int)) (i_ : Int) r, φ order_ i_ = some r → RetO k [.fs (order_.map (cI .i64)), .int .i64 i_] 1 (r.map (cI .i64))

def K_impl_gain (φ : (List impl_Job) → (List Int) → Int → Int → Option Int) (k : Fun) : Prop := ∀ (jobs_ : (List impl_Job)) (order_ : (List Int)) (i_ : Int) (objective_ : Int) r, φ jobs_ order_ i_ objective_ = some r → RetF k [.fs (jobs_.map impl_Job.cells), .fs (order_.map (cI .i64)), .int .i64 i_, .int .i64 objective_] (.int .i64 r)

def K_impl_ExchangeGain (φ : (List impl_Job) → (List Int) → Int → Int → Option (Int × Bool)) (k : Fun) : Prop := ∀ (jobs_ : (List impl_Job)) (order_ : (List Int)) (i_ : Int) (objective_ : Int) r, φ jobs_ order_ i_ objective_ = some r → RetF k [.fs (jobs_.map impl_Job.cells), .fs (order_.map (cI .i64)), .int .i64 i_, .int .i64 objective_] (.tup [.int .i64 r.1, .bool r.2])

def K_laws_FnPairLoss (φ : (List Int) → Option Bool) (k : Fun) : Prop := ∀ (t_ : (List Int)) r, φ t_ = some r → RetF k [.fs (t_.map (cI .u8))] (.bool r)

def K_impl_eachOrder__impl_best_c1 (k : Fun) : Prop := ∀ (x0_0 : (List impl_Job)) (x1_0 : Int) (a0_ : Int) (st_ : ((List Int) × Int × Int)) r, x_impl_eachOrder a0_ (x_impl_best_c1 x0_0 x1_0) st_ = some r → ∀ (g0 : Nat) (g1 : Nat) (g2 : Nat) (g3 : Nat) (g4 : Nat) (ng : Nat), ∃ X ng', k [.int .i64 a0_, .fn n_impl_best_c1 [.ptr 0 g0 0 0, .ptr 1 g1 0 0, .ptr 4 g4 0 0, .ptr 3 g3 0 0, .ptr 2 g2 0 0]] [(Blk.mk g0 false 1 [[.fs (x0_0.map impl_Job.cells)]]), (Blk.mk g1 false 1 [[.int .i64 x1_0]]), (Blk.mk g2 false 1 [[.fs (st_.1.map (cI .i64))]]), (Blk.mk g3 false 1 [[.int .i64 st_.2.1]]), (Blk.mk g4 false 1 [[.int .i64 st_.2.2]])] ng = some (.tup [], [(Blk.mk g0 false 1 [[.fs (x0_0.map impl_Job.cells)]]), (Blk.mk g1 false 1 [[.int .i64 x1_0]]), (Blk.mk g2 false 1 [[.fs (r.1.map (cI .i64))]]), (Blk.mk g3 false 1 [[.int .i64 r.2.1]]), (Blk.mk g4 false 1 [[.int .i64 r.2.2]])] ++ X, ng')

end Gh
