/- Shallow functions. Written by program. -/
import Derived.Test.YtmjdjnphjpcfcaaFb
import Derived.Test.YtmjdjnphjpcfcaaGv
namespace Gh
open Go
set_option linter.unusedSimpArgs false
set_option linter.unusedVariables false
set_option maxRecDepth 100000
set_option maxHeartbeats 20000000

structure spec_l1Cur where
  code : (List Int)
  at_ : Int
  seed : Int
deriving DecidableEq
def spec_l1Cur.cells (s : spec_l1Cur) : List V := [.fs (s.code.map (cI .u8)), .int .i64 s.at_, .int .u64 s.seed]
theorem rz_spec_l1Cur (l : List spec_l1Cur) : rowsSz 3 (l.map spec_l1Cur.cells) = true := rowsSz_map (n := 3) (c := spec_l1Cur.cells) (fun _ => rfl) l
theorem pr_spec_l1Cur (l : List spec_l1Cur) : pureRows (l.map spec_l1Cur.cells) = true := pureRows_map (c := spec_l1Cur.cells) (fun _ => rfl) l
structure impl_Job where
  Time : Int
  Weight : Int
  Release : Int
  Due : Int
deriving DecidableEq
def impl_Job.cells (s : impl_Job) : List V := [.int .i64 s.Time, .int .i64 s.Weight, .int .i64 s.Release, .int .i64 s.Due]
theorem rz_impl_Job (l : List impl_Job) : rowsSz 4 (l.map impl_Job.cells) = true := rowsSz_map (n := 4) (c := impl_Job.cells) (fun _ => rfl) l
theorem pr_impl_Job (l : List impl_Job) : pureRows (l.map impl_Job.cells) = true := pureRows_map (c := impl_Job.cells) (fun _ => rfl) l
theorem sc_impl_Job (l : List impl_Job) : scalRows (l.map impl_Job.cells) = true := scalRows_map (c := impl_Job.cells) (fun _ => rfl) l
structure spec_l2Search where
  order : (List Int)
  value : Int
  count : Int
deriving DecidableEq
def spec_l2Search.cells (s : spec_l2Search) : List V := [.fs (s.order.map (cI .i64)), .int .i64 s.value, .int .i64 s.count]
theorem rz_spec_l2Search (l : List spec_l2Search) : rowsSz 3 (l.map spec_l2Search.cells) = true := rowsSz_map (n := 3) (c := spec_l2Search.cells) (fun _ => rfl) l
theorem pr_spec_l2Search (l : List spec_l2Search) : pureRows (l.map spec_l2Search.cells) = true := pureRows_map (c := spec_l2Search.cells) (fun _ => rfl) l

/-- laws.rBig -/
def x_laws_rBig (code_ : (List Int)) : Option Bool :=
  some (decide (65536 < (code_.length : Int)))

/-- (*spec.l1Cur).next -/
def x_spec_l1Cur_next (c_ : spec_l1Cur) : Option (Int × spec_l1Cur) :=
  if c_.at_ < (c_.code.length : Int) then
    (ix c_.code c_.at_).bind fun y6 =>
    if (addK .i64 c_.at_ 1) ≤ (c_.code.length : Int) then
      some ((convK .i64 y6), (spec_l1Cur.mk c_.code (addK .i64 c_.at_ 1) (addK .u64 (addK .u64 (mulK .u64 c_.seed 6364136223846793005) (convK .u64 (convK .i64 y6))) 462197)))
    else
      some ((convK .i64 (andK .u64 (shrK .u64 (addK .u64 (addK .u64 (mulK .u64 c_.seed 6364136223846793005) (convK .u64 (convK .i64 y6))) 462197) 40) 255)), (spec_l1Cur.mk c_.code (addK .i64 c_.at_ 1) (addK .u64 (addK .u64 (mulK .u64 c_.seed 6364136223846793005) (convK .u64 (convK .i64 y6))) 462197)))
  else
    if (addK .i64 c_.at_ 1) ≤ (c_.code.length : Int) then
      some (0, (spec_l1Cur.mk c_.code (addK .i64 c_.at_ 1) (addK .u64 (addK .u64 (mulK .u64 c_.seed 6364136223846793005) (convK .u64 0)) 462197)))
    else
      some ((convK .i64 (andK .u64 (shrK .u64 (addK .u64 (addK .u64 (mulK .u64 c_.seed 6364136223846793005) (convK .u64 0)) 462197) 40) 255)), (spec_l1Cur.mk c_.code (addK .i64 c_.at_ 1) (addK .u64 (addK .u64 (mulK .u64 c_.seed 6364136223846793005) (convK .u64 0)) 462197)))

/-- (*spec.l1Cur).pick -/
def x_spec_l1Cur_pick (c_ : spec_l1Cur) (n_ : Int) : Option (Int × spec_l1Cur) :=
  if n_ ≤ 1 then
    some (0, c_)
  else
    (x_spec_l1Cur_next c_).bind fun r6 =>
    if 200 < n_ then
      (x_spec_l1Cur_next r6.2).bind fun r15 =>
      if n_ = 0 then
        none
      else
        some ((remK .i64 (addK .i64 (mulK .i64 r6.1 256) r15.1) n_), r15.2)
    else
      if n_ = 0 then
        none
      else
        some ((remK .i64 r6.1 n_), r6.2)

/-- (*spec.l1Cur).one -/
def x_spec_l1Cur_one (c_ : spec_l1Cur) (n_ : Int) : Option (Bool × spec_l1Cur) :=
  (x_spec_l1Cur_pick c_ n_).bind fun r1 =>
  some ((decide (r1.1 = 0)), r1.2)

/-- (*spec.l1Cur).among -/
def x_spec_l1Cur_among (c_ : spec_l1Cur) (list_ : (List Int)) : Option (Int × spec_l1Cur) :=
  (x_spec_l1Cur_pick c_ (list_.length : Int)).bind fun r1 =>
  (ix list_ r1.1).bind fun y5 =>
  some (y5, r1.2)

/-- (*spec.l1Cur).spoiltJob -/
def x_spec_l1Cur_spoiltJob (c_ : spec_l1Cur) (j_ : impl_Job) : Option (impl_Job × spec_l1Cur) :=
  (x_spec_l1Cur_pick c_ 4).bind fun r1 =>
  if r1.1 = 0 then
    (x_spec_l1Cur_among r1.2 [0, 50, 51, (-1), 4611686018427387904]).bind fun r10 =>
    some ((impl_Job.mk r10.1 j_.Weight j_.Release j_.Due), r10.2)
  else
    if r1.1 = 1 then
      (x_spec_l1Cur_among r1.2 [(-1), 50, 51]).bind fun r19 =>
      some ((impl_Job.mk j_.Time r19.1 j_.Release j_.Due), r19.2)
    else
      if r1.1 = 2 then
        (x_spec_l1Cur_among r1.2 [(-1), 500, 501]).bind fun r28 =>
        some ((impl_Job.mk j_.Time j_.Weight r28.1 j_.Due), r28.2)
      else
        (x_spec_l1Cur_among r1.2 [(-1), 500, 501, (-9223372036854775808)]).bind fun r32 =>
        some ((impl_Job.mk j_.Time j_.Weight j_.Release r32.1), r32.2)

/-- (*spec.l1Cur).job -/
def x_spec_l1Cur_job (c_ : spec_l1Cur) (released_ : Bool) : Option (impl_Job × spec_l1Cur) :=
  (x_spec_l1Cur_among c_ [1, 2, 3, 4, 5, 7, 9]).bind fun r1 =>
  (x_spec_l1Cur_among r1.2 [0, 1, 1, 2, 3, 5, 8]).bind fun r5 =>
  (x_spec_l1Cur_pick r5.2 24).bind fun r9 =>
  if released_ = true then
    (x_spec_l1Cur_pick r9.2 12).bind fun r16 =>
    some ((impl_Job.mk r1.1 r5.1 r16.1 r9.1), r16.2)
  else
    some ((impl_Job.mk r1.1 r5.1 0 r9.1), r9.2)

def x_spec_l1Cur_someJobs_l0 (released_ : Bool) (most_ : Int) : ((List impl_Job) × (List Int) × Int × Int × Int) → Option (Ctl ((List impl_Job) × (List Int) × Int × Int × Int) ((List impl_Job) × (List Int) × Int × Int))
  | (jobs_, k0, k1, k2, n_) =>
    if 0 < n_ then
      if ((jobs_.length : Nat) : Int) < most_ then
        (x_spec_l1Cur_job (spec_l1Cur.mk k0 k1 k2) released_).bind fun r11 =>
        (app 32 jobs_ [r11.1]).bind fun l15 =>
        some (.next (l15, r11.2.code, r11.2.at_, r11.2.seed, (subK .i64 n_ 1)))
      else
        some (.done (jobs_, k0, k1, k2))
    else
      some (.done (jobs_, k0, k1, k2))

abbrev R_spec_l1Cur_someJobs_l0 (H0 : List Blk) (id g : Nat) (released_ : Bool) (most_ : Int) (st_ : ((List impl_Job) × (List Int) × Int × Int × Int)) (T_ : Tm) (H_ : List Blk) : Prop :=
  match st_ with
  | (jobs_, k0, k1, k2, n_) => ∃ g0, look T_ 0 = .ptr id g 0 0 ∧ look T_ 1 = .bool released_ ∧ look T_ 2 = .int .i64 most_ ∧ look T_ 7 = .os H0.length g0 4 0 jobs_.length ∧ look T_ 8 = .int .i64 n_ ∧ H_ = (H0.set id (Blk.mk g false 3 [[.fs (k0.map (cI .u8)), .int .i64 k1, .int .u64 k2]]) ++ [(Blk.mk g0 false 4 (jobs_.map impl_Job.cells))])

abbrev Q_spec_l1Cur_someJobs_l0 (H0 : List Blk) (id g : Nat) (released_ : Bool) (most_ : Int) (p_ : ((List impl_Job) × (List Int) × Int × Int)) (e_ : Ex) (T_ : Tm) (H_ : List Blk) : Prop :=
  match p_ with
  | (v_b_0_rows, v_b_cur_0, v_b_cur_1, v_b_cur_2) => e_ = .ex 0 ∧ ∃ g0, look T_ 0 = .ptr id g 0 0 ∧ look T_ 1 = .bool released_ ∧ look T_ 7 = .os H0.length g0 4 0 v_b_0_rows.length ∧ H_ = (H0.set id (Blk.mk g false 3 [[.fs (v_b_cur_0.map (cI .u8)), .int .i64 v_b_cur_1, .int .u64 v_b_cur_2]]) ++ [(Blk.mk g0 false 4 (v_b_0_rows.map impl_Job.cells))])

def x_spec_l1Cur_someJobs_l1 (released_ : Bool) : ((List impl_Job) × (List Int) × Int × Int) → Option (Ctl ((List impl_Job) × (List Int) × Int × Int) ((List impl_Job) × (List Int) × Int × Int))
  | (jobs_, k0, k1, k2) =>
    if ((jobs_.length : Nat) : Int) < 9 then
      (x_spec_l1Cur_job (spec_l1Cur.mk k0 k1 k2) released_).bind fun r6 =>
      (app 32 jobs_ [r6.1]).bind fun l10 =>
      some (.next (l10, r6.2.code, r6.2.at_, r6.2.seed))
    else
      some (.done (jobs_, k0, k1, k2))

abbrev R_spec_l1Cur_someJobs_l1 (H0 : List Blk) (id g : Nat) (released_ : Bool) (st_ : ((List impl_Job) × (List Int) × Int × Int)) (T_ : Tm) (H_ : List Blk) : Prop :=
  match st_ with
  | (jobs_, k0, k1, k2) => ∃ g0, look T_ 0 = .ptr id g 0 0 ∧ look T_ 1 = .bool released_ ∧ look T_ 7 = .os H0.length g0 4 0 jobs_.length ∧ H_ = (H0.set id (Blk.mk g false 3 [[.fs (k0.map (cI .u8)), .int .i64 k1, .int .u64 k2]]) ++ [(Blk.mk g0 false 4 (jobs_.map impl_Job.cells))])

abbrev Q_spec_l1Cur_someJobs_l1 (H0 : List Blk) (id g : Nat) (released_ : Bool) (p_ : ((List impl_Job) × (List Int) × Int × Int)) (e_ : Ex) (T_ : Tm) (H_ : List Blk) : Prop :=
  match p_ with
  | (v_b_0_rows, v_b_cur_0, v_b_cur_1, v_b_cur_2) => e_ = .ex 2 ∧ ∃ g0, look T_ 7 = .os H0.length g0 4 0 v_b_0_rows.length ∧ H_ = (H0.set id (Blk.mk g false 3 [[.fs (v_b_cur_0.map (cI .u8)), .int .i64 v_b_cur_1, .int .u64 v_b_cur_2]]) ++ [(Blk.mk g0 false 4 (v_b_0_rows.map impl_Job.cells))])

/-- (*spec.l1Cur).someJobs -/
def x_spec_l1Cur_someJobs (c_ : spec_l1Cur) (released_ : Bool) (most_ : Int) : Option ((List impl_Job) × spec_l1Cur) :=
  (x_spec_l1Cur_among c_ [3, 4, 5, 2, 6, 1, 0]).bind fun r1 =>
  if 6 < most_ then
    (x_spec_l1Cur_one r1.2 6).bind fun r10 =>
    if r10.1 = true then
      (x_spec_l1Cur_pick r10.2 2).bind fun r17 =>
      (loopS (x_spec_l1Cur_someJobs_l0 released_ most_) LL (([] : List impl_Job), r17.2.code, r17.2.at_, r17.2.seed, (addK .i64 7 r17.1))).bind fun p21 =>
      if 0 < ((p21.1.length : Nat) : Int) then
        (x_spec_l1Cur_one (spec_l1Cur.mk p21.2.1 p21.2.2.1 p21.2.2.2) 20).bind fun r38 =>
        if r38.1 = true then
          (x_spec_l1Cur_pick r38.2 ((p21.1.length : Nat) : Int)).bind fun r45 =>
          (ix p21.1 r45.1).bind fun y49 =>
          (x_spec_l1Cur_spoiltJob r45.2 y49).bind fun r54 =>
          (put p21.1 r45.1 r54.1).bind fun l58 =>
          (x_spec_l1Cur_one r54.2 60).bind fun r64 =>
          if r64.1 = true then
            (loopS (x_spec_l1Cur_someJobs_l1 released_) LL (l58, r64.2.code, r64.2.at_, r64.2.seed)).bind fun p71 =>
            some (p71.1, (spec_l1Cur.mk p71.2.1 p71.2.2.1 p71.2.2.2))
          else
            some (l58, r64.2)
        else
          (x_spec_l1Cur_one r38.2 60).bind fun r82 =>
          if r82.1 = true then
            (loopS (x_spec_l1Cur_someJobs_l1 released_) LL (p21.1, r82.2.code, r82.2.at_, r82.2.seed)).bind fun p89 =>
            some (p89.1, (spec_l1Cur.mk p89.2.1 p89.2.2.1 p89.2.2.2))
          else
            some (p21.1, r82.2)
      else
        (x_spec_l1Cur_one (spec_l1Cur.mk p21.2.1 p21.2.2.1 p21.2.2.2) 60).bind fun r100 =>
        if r100.1 = true then
          (loopS (x_spec_l1Cur_someJobs_l1 released_) LL (p21.1, r100.2.code, r100.2.at_, r100.2.seed)).bind fun p107 =>
          some (p107.1, (spec_l1Cur.mk p107.2.1 p107.2.2.1 p107.2.2.2))
        else
          some (p21.1, r100.2)
    else
      (loopS (x_spec_l1Cur_someJobs_l0 released_ most_) LL (([] : List impl_Job), r10.2.code, r10.2.at_, r10.2.seed, r1.1)).bind fun p119 =>
      if 0 < ((p119.1.length : Nat) : Int) then
        (x_spec_l1Cur_one (spec_l1Cur.mk p119.2.1 p119.2.2.1 p119.2.2.2) 20).bind fun r136 =>
        if r136.1 = true then
          (x_spec_l1Cur_pick r136.2 ((p119.1.length : Nat) : Int)).bind fun r143 =>
          (ix p119.1 r143.1).bind fun y147 =>
          (x_spec_l1Cur_spoiltJob r143.2 y147).bind fun r152 =>
          (put p119.1 r143.1 r152.1).bind fun l156 =>
          (x_spec_l1Cur_one r152.2 60).bind fun r162 =>
          if r162.1 = true then
            (loopS (x_spec_l1Cur_someJobs_l1 released_) LL (l156, r162.2.code, r162.2.at_, r162.2.seed)).bind fun p169 =>
            some (p169.1, (spec_l1Cur.mk p169.2.1 p169.2.2.1 p169.2.2.2))
          else
            some (l156, r162.2)
        else
          (x_spec_l1Cur_one r136.2 60).bind fun r180 =>
          if r180.1 = true then
            (loopS (x_spec_l1Cur_someJobs_l1 released_) LL (p119.1, r180.2.code, r180.2.at_, r180.2.seed)).bind fun p187 =>
            some (p187.1, (spec_l1Cur.mk p187.2.1 p187.2.2.1 p187.2.2.2))
          else
            some (p119.1, r180.2)
      else
        (x_spec_l1Cur_one (spec_l1Cur.mk p119.2.1 p119.2.2.1 p119.2.2.2) 60).bind fun r198 =>
        if r198.1 = true then
          (loopS (x_spec_l1Cur_someJobs_l1 released_) LL (p119.1, r198.2.code, r198.2.at_, r198.2.seed)).bind fun p205 =>
          some (p205.1, (spec_l1Cur.mk p205.2.1 p205.2.2.1 p205.2.2.2))
        else
          some (p119.1, r198.2)
  else
    (loopS (x_spec_l1Cur_someJobs_l0 released_ most_) LL (([] : List impl_Job), r1.2.code, r1.2.at_, r1.2.seed, r1.1)).bind fun p217 =>
    if 0 < ((p217.1.length : Nat) : Int) then
      (x_spec_l1Cur_one (spec_l1Cur.mk p217.2.1 p217.2.2.1 p217.2.2.2) 20).bind fun r234 =>
      if r234.1 = true then
        (x_spec_l1Cur_pick r234.2 ((p217.1.length : Nat) : Int)).bind fun r241 =>
        (ix p217.1 r241.1).bind fun y245 =>
        (x_spec_l1Cur_spoiltJob r241.2 y245).bind fun r250 =>
        (put p217.1 r241.1 r250.1).bind fun l254 =>
        (x_spec_l1Cur_one r250.2 60).bind fun r260 =>
        if r260.1 = true then
          (loopS (x_spec_l1Cur_someJobs_l1 released_) LL (l254, r260.2.code, r260.2.at_, r260.2.seed)).bind fun p267 =>
          some (p267.1, (spec_l1Cur.mk p267.2.1 p267.2.2.1 p267.2.2.2))
        else
          some (l254, r260.2)
      else
        (x_spec_l1Cur_one r234.2 60).bind fun r278 =>
        if r278.1 = true then
          (loopS (x_spec_l1Cur_someJobs_l1 released_) LL (p217.1, r278.2.code, r278.2.at_, r278.2.seed)).bind fun p285 =>
          some (p285.1, (spec_l1Cur.mk p285.2.1 p285.2.2.1 p285.2.2.2))
        else
          some (p217.1, r278.2)
    else
      (x_spec_l1Cur_one (spec_l1Cur.mk p217.2.1 p217.2.2.1 p217.2.2.2) 60).bind fun r296 =>
      if r296.1 = true then
        (loopS (x_spec_l1Cur_someJobs_l1 released_) LL (p217.1, r296.2.code, r296.2.at_, r296.2.seed)).bind fun p303 =>
        some (p303.1, (spec_l1Cur.mk p303.2.1 p303.2.2.1 p303.2.2.2))
      else
        some (p217.1, r296.2)

/-- (*spec.l1Cur).plainJobs -/
def x_spec_l1Cur_plainJobs (c_ : spec_l1Cur) (most_ : Int) : Option ((List impl_Job) × spec_l1Cur) :=
  (x_spec_l1Cur_one c_ 16).bind fun r1 =>
  (x_spec_l1Cur_someJobs r1.2 r1.1 most_).bind fun r5 =>
  some (r5.1, r5.2)

/-- (*spec.l1Cur).objective -/
def x_spec_l1Cur_objective (c_ : spec_l1Cur) : Option (Int × spec_l1Cur) :=
  (x_spec_l1Cur_one c_ 24).bind fun r1 =>
  if r1.1 = true then
    (x_spec_l1Cur_among r1.2 [0, 9, (-1)]).bind fun r8 =>
    some (r8.1, r8.2)
  else
    (x_spec_l1Cur_pick r1.2 8).bind fun r12 =>
    some ((addK .i64 1 r12.1), r12.2)

/-- (*spec.l1Cur).sums -/
def x_spec_l1Cur_sums (c_ : spec_l1Cur) : Option (Int × spec_l1Cur) :=
  (x_spec_l1Cur_one c_ 8).bind fun r1 =>
  if r1.1 = true then
    (x_spec_l1Cur_objective r1.2).bind fun r8 =>
    some (r8.1, r8.2)
  else
    (x_spec_l1Cur_among r1.2 [2, 3, 5, 6, 7, 8]).bind fun r12 =>
    some (r12.1, r12.2)

/-- spec.DrawSetValues -/
def x_spec_DrawSetValues (code_ : (List Int)) : Option ((List impl_Job) × Int) :=
  (x_spec_l1Cur_plainJobs (spec_l1Cur.mk code_ 0 0) 6).bind fun r1 =>
  (x_spec_l1Cur_sums r1.2).bind fun r5 =>
  some (r1.1, r5.1)

/-- impl.within -/
def x_impl_within (n_ : Int) (low_ : Int) (high_ : Int) : Option Bool :=
  if low_ ≤ n_ then
    some (decide (n_ ≤ high_))
  else
    some false

/-- impl.isDate -/
def x_impl_isDate (n_ : Int) : Option Bool :=
  (x_impl_within n_ 0 500).bind fun r1 =>
  some r1

def x_impl_IsJobs_l0 (v : (List impl_Job)) (vz1 : Int) : (Int) → Option (Ctl (Int) (Unit ⊕ (Bool)))
  | vz2 =>
    if vz2 < vz1 then
      (ix v vz2).bind fun y6 =>
      (x_impl_within y6.Time 1 50).bind fun r11 =>
      if r11 = true then
        (x_impl_within y6.Weight 0 50).bind fun r17 =>
        if r17 = true then
          (x_impl_isDate y6.Release).bind fun r23 =>
          if r23 = true then
            (x_impl_isDate y6.Due).bind fun r29 =>
            if r29 = true then
              some (.next (addK .i64 vz2 1))
            else
              some (.done (.inr false))
          else
            some (.done (.inr false))
        else
          some (.done (.inr false))
      else
        some (.done (.inr false))
    else
      some (.done (.inl ()))

abbrev R_impl_IsJobs_l0 (v : (List impl_Job)) (vz1 : Int) (st_ : (Int)) (T_ : Tm) (H_ : List Blk) : Prop :=
  match st_ with
  | vz2 => look T_ 8 = .fs (v.map impl_Job.cells) ∧ look T_ 9 = .int .i64 vz1 ∧ look T_ 10 = .int .i64 vz2 ∧ H_ = []

abbrev Q_impl_IsJobs_l0 (v : (List impl_Job)) (vz1 : Int) (p_ : (Unit ⊕ (Bool))) (e_ : Ex) (T_ : Tm) (H_ : List Blk) : Prop :=
  match p_ with
  | .inl () => e_ = .ex 0 ∧ H_ = []
  | .inr v_r_0 => e_ = .ret ∧ look T_ 2 = .bool v_r_0

/-- impl.IsJobs -/
def x_impl_IsJobs (jobs_ : (List impl_Job)) : Option Bool :=
  if 8 < (jobs_.length : Int) then
    some false
  else
    (loopS (x_impl_IsJobs_l0 jobs_ (jobs_.length : Int)) LL 0).bind fun p6 =>
    match p6 with
    | .inl p6 =>
      some true
    | .inr p6 =>
      some p6

def x_impl_isPlain_l0 (v : (List impl_Job)) (vz1 : Int) : (Int) → Option (Ctl (Int) (Unit ⊕ (Bool)))
  | vz2 =>
    if vz2 < vz1 then
      (ix v vz2).bind fun y6 =>
      if y6.Release = 0 then
        some (.next (addK .i64 vz2 1))
      else
        some (.done (.inr false))
    else
      some (.done (.inl ()))

abbrev R_impl_isPlain_l0 (v : (List impl_Job)) (vz1 : Int) (st_ : (Int)) (T_ : Tm) (H_ : List Blk) : Prop :=
  match st_ with
  | vz2 => look T_ 5 = .fs (v.map impl_Job.cells) ∧ look T_ 6 = .int .i64 vz1 ∧ look T_ 7 = .int .i64 vz2 ∧ H_ = []

abbrev Q_impl_isPlain_l0 (v : (List impl_Job)) (vz1 : Int) (p_ : (Unit ⊕ (Bool))) (e_ : Ex) (T_ : Tm) (H_ : List Blk) : Prop :=
  match p_ with
  | .inl () => e_ = .ex 0 ∧ H_ = []
  | .inr v_r_0 => e_ = .ret ∧ look T_ 2 = .bool v_r_0

/-- impl.isPlain -/
def x_impl_isPlain (jobs_ : (List impl_Job)) : Option Bool :=
  (loopS (x_impl_isPlain_l0 jobs_ (jobs_.length : Int)) LL 0).bind fun p1 =>
  match p1 with
  | .inl p1 =>
    some true
  | .inr p1 =>
    some p1

/-- impl.IsPlain -/
def x_impl_IsPlain (jobs_ : (List impl_Job)) : Option Bool :=
  (x_impl_IsJobs jobs_).bind fun r1 =>
  if r1 = true then
    (x_impl_isPlain jobs_).bind fun r7 =>
    some r7
  else
    some false

/-- impl.isObjective -/
def x_impl_isObjective (n_ : Int) : Option Bool :=
  (x_impl_within n_ 1 8).bind fun r1 =>
  some r1

/-- impl.isSumObjective -/
def x_impl_isSumObjective (objective_ : Int) : Option Bool :=
  (x_impl_isObjective objective_).bind fun r1 =>
  if r1 = true then
    if objective_ = 1 then
      some false
    else
      if objective_ = 4 then
        some false
      else
        some true
  else
    some false

def x_impl_listOf_l0 (set_ : Int) : ((List Int) × Int) → Option (Ctl ((List Int) × Int) ((List Int)))
  | (out_, i_) =>
    if 0 ≤ i_ then
      if 0 < (shrK .i64 set_ i_) then
        if 0 ≤ i_ then
          if (andK .i64 (shrK .i64 set_ i_) 1) = 1 then
            (app 8 out_ [i_]).bind fun l15 =>
            some (.next (l15, (addK .i64 i_ 1)))
          else
            some (.next (out_, (addK .i64 i_ 1)))
        else
          none
      else
        some (.done out_)
    else
      none

abbrev R_impl_listOf_l0 (set_ : Int) (st_ : ((List Int) × Int)) (T_ : Tm) (H_ : List Blk) : Prop :=
  match st_ with
  | (out_, i_) => ∃ g0, look T_ 0 = .int .i64 set_ ∧ look T_ 3 = .os 0 g0 1 0 out_.length ∧ look T_ 4 = .int .i64 i_ ∧ H_ = [(Blk.mk g0 false 1 (out_.map (cI .i64)))]

abbrev Q_impl_listOf_l0 (set_ : Int) (p_ : ((List Int))) (e_ : Ex) (T_ : Tm) (H_ : List Blk) : Prop :=
  match p_ with
  | v_b_0_rows => e_ = .ex 0 ∧ ∃ g0, look T_ 3 = .os 0 g0 1 0 v_b_0_rows.length ∧ H_ = [(Blk.mk g0 false 1 (v_b_0_rows.map (cI .i64)))]

/-- impl.listOf -/
def x_impl_listOf (set_ : Int) : Option (List Int) :=
  (loopS (x_impl_listOf_l0 set_) LL (([] : List Int), 0)).bind fun p1 =>
  some p1

/-- impl.add -/
def x_impl_add (value_ : Int) (j_ : impl_Job) (end_ : Int) (objective_ : Int) (first_ : Bool) : Option Int :=
  if objective_ = 1 then
    some (mxK value_ end_)
  else
    if objective_ = 2 then
      some (addK .i64 value_ end_)
    else
      if objective_ = 3 then
        some (addK .i64 value_ (mulK .i64 j_.Weight end_))
      else
        if objective_ = 4 then
          if first_ = true then
            some (subK .i64 end_ j_.Due)
          else
            some (mxK value_ (subK .i64 end_ j_.Due))
        else
          if objective_ = 5 then
            some (addK .i64 value_ (mxK 0 (subK .i64 end_ j_.Due)))
          else
            if objective_ = 6 then
              some (addK .i64 value_ (mulK .i64 j_.Weight (mxK 0 (subK .i64 end_ j_.Due))))
            else
              if (subK .i64 end_ j_.Due) ≤ 0 then
                some value_
              else
                if objective_ = 7 then
                  some (addK .i64 value_ 1)
                else
                  some (addK .i64 value_ j_.Weight)

def x_impl_timeOf_l0 (jobs_ : (List impl_Job)) (v : (List Int)) (vz1 : Int) : (Int × Int) → Option (Ctl (Int × Int) (Int))
  | (total_, vz2) =>
    if vz2 < vz1 then
      (ix v vz2).bind fun y6 =>
      (ix jobs_ y6).bind fun y11 =>
      some (.next ((addK .i64 total_ y11.Time), (addK .i64 vz2 1)))
    else
      some (.done total_)

abbrev R_impl_timeOf_l0 (jobs_ : (List impl_Job)) (v : (List Int)) (vz1 : Int) (st_ : (Int × Int)) (T_ : Tm) (H_ : List Blk) : Prop :=
  match st_ with
  | (total_, vz2) => look T_ 0 = .fs (jobs_.map impl_Job.cells) ∧ look T_ 5 = .int .i64 total_ ∧ look T_ 9 = .fs (v.map (cI .i64)) ∧ look T_ 10 = .int .i64 vz1 ∧ look T_ 11 = .int .i64 vz2 ∧ H_ = []

abbrev Q_impl_timeOf_l0 (jobs_ : (List impl_Job)) (v : (List Int)) (vz1 : Int) (p_ : (Int)) (e_ : Ex) (T_ : Tm) (H_ : List Blk) : Prop :=
  match p_ with
  | v_s_5 => e_ = .ex 0 ∧ look T_ 5 = .int .i64 v_s_5 ∧ H_ = []

/-- impl.timeOf -/
def x_impl_timeOf (jobs_ : (List impl_Job)) (set_ : Int) : Option Int :=
  (x_impl_listOf set_).bind fun r1 =>
  (loopS (x_impl_timeOf_l0 jobs_ r1 (r1.length : Int)) LL (0, 0)).bind fun p4 =>
  some p4

def x_impl_setValues_l1 (jobs_ : (List impl_Job)) (objective_ : Int) (start_ : Int) (set_ : Int) (end_ : Int) (v : (List Int)) (vz1 : Int) : ((List Int) × Int) → Option (Ctl ((List Int) × Int) ((List Int)))
  | (out_, vz2) =>
    if vz2 < vz1 then
      (ix v vz2).bind fun y6 =>
      if 0 ≤ y6 then
        (ix out_ (andNotK .i64 set_ (shlK .i64 1 y6))).bind fun y13 =>
        (ix jobs_ y6).bind fun y18 =>
        (x_impl_add y13 y18 end_ objective_ false).bind fun r23 =>
        (ix out_ set_).bind fun y26 =>
        if y26 < 0 then
          (put out_ set_ r23).bind fun l36 =>
          some (.next (l36, (addK .i64 vz2 1)))
        else
          if r23 < y26 then
            (put out_ set_ r23).bind fun l47 =>
            some (.next (l47, (addK .i64 vz2 1)))
          else
            some (.next (out_, (addK .i64 vz2 1)))
      else
        none
    else
      some (.done out_)

abbrev R_impl_setValues_l1 (jobs_ : (List impl_Job)) (objective_ : Int) (start_ : Int) (set_ : Int) (end_ : Int) (v : (List Int)) (vz1 : Int) (st_ : ((List Int) × Int)) (T_ : Tm) (H_ : List Blk) : Prop :=
  match st_ with
  | (out_, vz2) => ∃ g0, look T_ 0 = .fs (jobs_.map impl_Job.cells) ∧ look T_ 1 = .int .i64 objective_ ∧ look T_ 2 = .int .i64 start_ ∧ look T_ 7 = .os 0 g0 1 0 out_.length ∧ look T_ 8 = .int .i64 set_ ∧ look T_ 9 = .int .i64 end_ ∧ look T_ 32 = .fs (v.map (cI .i64)) ∧ look T_ 33 = .int .i64 vz1 ∧ look T_ 34 = .int .i64 vz2 ∧ H_ = [(Blk.mk g0 false 1 (out_.map (cI .i64)))]

abbrev Q_impl_setValues_l1 (jobs_ : (List impl_Job)) (objective_ : Int) (start_ : Int) (set_ : Int) (end_ : Int) (v : (List Int)) (vz1 : Int) (p_ : ((List Int))) (e_ : Ex) (T_ : Tm) (H_ : List Blk) : Prop :=
  match p_ with
  | v_b_0_rows => e_ = .ex 2 ∧ ∃ g0, look T_ 0 = .fs (jobs_.map impl_Job.cells) ∧ look T_ 1 = .int .i64 objective_ ∧ look T_ 2 = .int .i64 start_ ∧ look T_ 7 = .os 0 g0 1 0 v_b_0_rows.length ∧ look T_ 8 = .int .i64 set_ ∧ H_ = [(Blk.mk g0 false 1 (v_b_0_rows.map (cI .i64)))]

def x_impl_setValues_l0 (jobs_ : (List impl_Job)) (objective_ : Int) (start_ : Int) : ((List Int) × Int) → Option (Ctl ((List Int) × Int) ((List Int)))
  | (out_, set_) =>
    if set_ < ((out_.length : Nat) : Int) then
      (x_impl_timeOf jobs_ set_).bind fun r6 =>
      (ix out_ set_).bind fun y9 =>
      (put out_ set_ (-1)).bind fun l14 =>
      (x_impl_listOf set_).bind fun r20 =>
      (loopS (x_impl_setValues_l1 jobs_ objective_ start_ set_ (addK .i64 start_ r6) r20 (r20.length : Int)) LL (l14, 0)).bind fun p23 =>
      some (.next (p23, (addK .i64 set_ 1)))
    else
      some (.done out_)

abbrev R_impl_setValues_l0 (jobs_ : (List impl_Job)) (objective_ : Int) (start_ : Int) (st_ : ((List Int) × Int)) (T_ : Tm) (H_ : List Blk) : Prop :=
  match st_ with
  | (out_, set_) => ∃ g0, look T_ 0 = .fs (jobs_.map impl_Job.cells) ∧ look T_ 1 = .int .i64 objective_ ∧ look T_ 2 = .int .i64 start_ ∧ look T_ 7 = .os 0 g0 1 0 out_.length ∧ look T_ 8 = .int .i64 set_ ∧ H_ = [(Blk.mk g0 false 1 (out_.map (cI .i64)))]

abbrev Q_impl_setValues_l0 (jobs_ : (List impl_Job)) (objective_ : Int) (start_ : Int) (p_ : ((List Int))) (e_ : Ex) (T_ : Tm) (H_ : List Blk) : Prop :=
  match p_ with
  | v_b_0_rows => e_ = .ex 0 ∧ ∃ g0, look T_ 7 = .os 0 g0 1 0 v_b_0_rows.length ∧ H_ = [(Blk.mk g0 false 1 (v_b_0_rows.map (cI .i64)))]

/-- impl.setValues -/
def x_impl_setValues (jobs_ : (List impl_Job)) (objective_ : Int) (start_ : Int) : Option (List Int) :=
  (mk 8 (shlK .i64 1 (jobs_.length : Int)) 0).bind fun y1 =>
  (loopS (x_impl_setValues_l0 jobs_ objective_ start_) LL (y1, 1)).bind fun p10 =>
  some p10

/-- impl.SetValues -/
def x_impl_SetValues (jobs_ : (List impl_Job)) (objective_ : Int) : Option ((List Int) × Bool) :=
  (x_impl_IsPlain jobs_).bind fun r1 =>
  if r1 = true then
    (x_impl_isSumObjective objective_).bind fun r7 =>
    if r7 = true then
      (x_impl_setValues jobs_ objective_ 0).bind fun r13 =>
      some (r13, true)
    else
      some (([] : List Int), false)
  else
    some (([] : List Int), false)

/-- spec.l1In -/
def x_spec_l1In (x_ : Int) (a_ : Int) (b_ : Int) : Option Bool :=
  if a_ ≤ x_ then
    some (decide (x_ ≤ b_))
  else
    some false

/-- spec.l2Job -/
def x_spec_l2Job (j_ : impl_Job) : Option Bool :=
  (x_spec_l1In j_.Time 1 50).bind fun r1 =>
  if r1 = true then
    (x_spec_l1In j_.Weight 0 50).bind fun r7 =>
    if r7 = true then
      (x_spec_l1In j_.Release 0 500).bind fun r13 =>
      if r13 = true then
        (x_spec_l1In j_.Due 0 500).bind fun r19 =>
        some r19
      else
        some false
    else
      some false
  else
    some false

def x_spec_l2Good_l0 (jobs_ : (List impl_Job)) : (Int) → Option (Ctl (Int) (Unit ⊕ (Bool)))
  | i_ =>
    if i_ < (jobs_.length : Int) then
      (ix jobs_ i_).bind fun y6 =>
      (x_spec_l2Job y6).bind fun r11 =>
      if r11 = true then
        some (.next (addK .i64 i_ 1))
      else
        some (.done (.inr false))
    else
      some (.done (.inl ()))

abbrev R_spec_l2Good_l0 (jobs_ : (List impl_Job)) (st_ : (Int)) (T_ : Tm) (H_ : List Blk) : Prop :=
  match st_ with
  | i_ => look T_ 0 = .fs (jobs_.map impl_Job.cells) ∧ look T_ 3 = .int .i64 i_ ∧ H_ = []

abbrev Q_spec_l2Good_l0 (jobs_ : (List impl_Job)) (p_ : (Unit ⊕ (Bool))) (e_ : Ex) (T_ : Tm) (H_ : List Blk) : Prop :=
  match p_ with
  | .inl () => e_ = .ex 0 ∧ look T_ 0 = .fs (jobs_.map impl_Job.cells) ∧ H_ = []
  | .inr v_r_0 => e_ = .ret ∧ look T_ 2 = .bool v_r_0

/-- spec.l2Good -/
def x_spec_l2Good (jobs_ : (List impl_Job)) : Option Bool :=
  (loopS (x_spec_l2Good_l0 jobs_) LL 0).bind fun p1 =>
  match p1 with
  | .inl p1 =>
    some (decide ((jobs_.length : Int) ≤ 8))
  | .inr p1 =>
    some p1

def x_spec_l4Free_l0 (jobs_ : (List impl_Job)) : (Int) → Option (Ctl (Int) (Unit ⊕ (Bool)))
  | i_ =>
    if i_ < (jobs_.length : Int) then
      (ix jobs_ i_).bind fun y6 =>
      if 0 < y6.Release then
        some (.done (.inr false))
      else
        some (.next (addK .i64 i_ 1))
    else
      some (.done (.inl ()))

abbrev R_spec_l4Free_l0 (jobs_ : (List impl_Job)) (st_ : (Int)) (T_ : Tm) (H_ : List Blk) : Prop :=
  match st_ with
  | i_ => look T_ 0 = .fs (jobs_.map impl_Job.cells) ∧ look T_ 3 = .int .i64 i_ ∧ H_ = []

abbrev Q_spec_l4Free_l0 (jobs_ : (List impl_Job)) (p_ : (Unit ⊕ (Bool))) (e_ : Ex) (T_ : Tm) (H_ : List Blk) : Prop :=
  match p_ with
  | .inl () => e_ = .ex 0 ∧ H_ = []
  | .inr v_r_0 => e_ = .ret ∧ look T_ 2 = .bool v_r_0

/-- spec.l4Free -/
def x_spec_l4Free (jobs_ : (List impl_Job)) : Option Bool :=
  (loopS (x_spec_l4Free_l0 jobs_) LL 0).bind fun p1 =>
  match p1 with
  | .inl p1 =>
    some true
  | .inr p1 =>
    some p1

/-- spec.l6Good -/
def x_spec_l6Good (jobs_ : (List impl_Job)) : Option Bool :=
  (x_spec_l2Good jobs_).bind fun r1 =>
  if r1 = true then
    (x_spec_l4Free jobs_).bind fun r7 =>
    some r7
  else
    some false

/-- spec.l2Objective -/
def x_spec_l2Objective (objective_ : Int) : Option Bool :=
  (x_spec_l1In objective_ 1 8).bind fun r1 =>
  some r1

/-- spec.l2Greatest -/
def x_spec_l2Greatest (objective_ : Int) : Option Bool :=
  if objective_ = 1 then
    some true
  else
    some (decide (objective_ = 4))

/-- spec.l6Sum -/
def x_spec_l6Sum (objective_ : Int) : Option Bool :=
  (x_spec_l2Objective objective_).bind fun r1 =>
  if r1 = true then
    (x_spec_l2Greatest objective_).bind fun r7 =>
    if r7 = true then
      some false
    else
      some true
  else
    some false

/-- spec.l1Most -/
def x_spec_l1Most (a_ : Int) (b_ : Int) : Option Int :=
  if b_ < a_ then
    some a_
  else
    some b_

/-- spec.l2Cost -/
def x_spec_l2Cost (j_ : impl_Job) (end_ : Int) (objective_ : Int) : Option Int :=
  (x_spec_l1Most (subK .i64 end_ j_.Due) 0).bind fun r1 =>
  if objective_ = 2 then
    some end_
  else
    if objective_ = 3 then
      some (mulK .i64 j_.Weight end_)
    else
      if objective_ = 5 then
        some r1
      else
        if objective_ = 6 then
          some (mulK .i64 j_.Weight r1)
        else
          if r1 = 0 then
            some 0
          else
            if objective_ = 7 then
              some 1
            else
              some j_.Weight

def x_spec_l6Times_l0 (jobs_ : (List impl_Job)) (code_ : Int) : (Int × Int) → Option (Ctl (Int × Int) (Int))
  | (sum_, i_) =>
    if i_ < (jobs_.length : Int) then
      if 0 ≤ i_ then
        if (andK .i64 (shrK .i64 code_ i_) 1) = 1 then
          (ix jobs_ i_).bind fun y13 =>
          some (.next ((addK .i64 sum_ y13.Time), (addK .i64 i_ 1)))
        else
          some (.next (sum_, (addK .i64 i_ 1)))
      else
        none
    else
      some (.done sum_)

abbrev R_spec_l6Times_l0 (jobs_ : (List impl_Job)) (code_ : Int) (st_ : (Int × Int)) (T_ : Tm) (H_ : List Blk) : Prop :=
  match st_ with
  | (sum_, i_) => look T_ 0 = .fs (jobs_.map impl_Job.cells) ∧ look T_ 1 = .int .i64 code_ ∧ look T_ 5 = .int .i64 sum_ ∧ look T_ 6 = .int .i64 i_ ∧ H_ = []

abbrev Q_spec_l6Times_l0 (jobs_ : (List impl_Job)) (code_ : Int) (p_ : (Int)) (e_ : Ex) (T_ : Tm) (H_ : List Blk) : Prop :=
  match p_ with
  | v_s_5 => e_ = .ex 0 ∧ look T_ 5 = .int .i64 v_s_5 ∧ H_ = []

/-- spec.l6Times -/
def x_spec_l6Times (jobs_ : (List impl_Job)) (code_ : Int) : Option Int :=
  (loopS (x_spec_l6Times_l0 jobs_ code_) LL (0, 0)).bind fun p1 =>
  some p1

/-- spec.l6Last -/
def x_spec_l6Last (jobs_ : (List impl_Job)) (objective_ : Int) (values_ : (List Int)) (code_ : Int) (i_ : Int) : Option Int :=
  if 0 ≤ i_ then
    (ix values_ (subK .i64 code_ (shlK .i64 1 i_))).bind fun y3 =>
    (ix jobs_ i_).bind fun y8 =>
    (x_spec_l6Times jobs_ code_).bind fun r13 =>
    (x_spec_l2Cost y8 r13 objective_).bind fun r16 =>
    some (addK .i64 y3 r16)
  else
    none

def x_spec_l6Values_l1 (values_ : (List Int)) (jobs_ : (List impl_Job)) (objective_ : Int) (code_ : Int) : (Int × Int) → Option (Ctl (Int × Int) (Int))
  | (best_, i_) =>
    if i_ < (jobs_.length : Int) then
      if 0 ≤ i_ then
        if (andK .i64 (shrK .i64 code_ i_) 1) = 0 then
          some (.next (best_, (addK .i64 i_ 1)))
        else
          (x_spec_l6Last jobs_ objective_ values_ code_ i_).bind fun r13 =>
          if best_ < 0 then
            some (.next (r13, (addK .i64 i_ 1)))
          else
            if r13 < best_ then
              some (.next (r13, (addK .i64 i_ 1)))
            else
              some (.next (best_, (addK .i64 i_ 1)))
      else
        none
    else
      some (.done best_)

abbrev R_spec_l6Values_l1 (values_ : (List Int)) (jobs_ : (List impl_Job)) (objective_ : Int) (code_ : Int) (st_ : (Int × Int)) (T_ : Tm) (H_ : List Blk) : Prop :=
  match st_ with
  | (best_, i_) => ∃ g0, look T_ 0 = .fs (jobs_.map impl_Job.cells) ∧ look T_ 1 = .int .i64 objective_ ∧ look T_ 5 = .os 0 g0 1 0 values_.length ∧ look T_ 6 = .int .i64 code_ ∧ look T_ 7 = .int .i64 best_ ∧ look T_ 8 = .int .i64 i_ ∧ H_ = [(Blk.mk g0 false 1 (values_.map (cI .i64)))]

abbrev Q_spec_l6Values_l1 (values_ : (List Int)) (jobs_ : (List impl_Job)) (objective_ : Int) (code_ : Int) (p_ : (Int)) (e_ : Ex) (T_ : Tm) (H_ : List Blk) : Prop :=
  match p_ with
  | v_s_7 => e_ = .ex 2 ∧ ∃ g0, look T_ 0 = .fs (jobs_.map impl_Job.cells) ∧ look T_ 1 = .int .i64 objective_ ∧ look T_ 5 = .os 0 g0 1 0 values_.length ∧ look T_ 6 = .int .i64 code_ ∧ look T_ 7 = .int .i64 v_s_7 ∧ H_ = [(Blk.mk g0 false 1 (values_.map (cI .i64)))]

def x_spec_l6Values_l0 (jobs_ : (List impl_Job)) (objective_ : Int) : ((List Int) × Int) → Option (Ctl ((List Int) × Int) ((List Int)))
  | (values_, code_) =>
    if code_ < (shlK .i64 1 (jobs_.length : Int)) then
      (loopS (x_spec_l6Values_l1 values_ jobs_ objective_ code_) LL ((-1), 0)).bind fun p6 =>
      (app 8 values_ [p6]).bind fun l20 =>
      some (.next (l20, (addK .i64 code_ 1)))
    else
      some (.done values_)

abbrev R_spec_l6Values_l0 (jobs_ : (List impl_Job)) (objective_ : Int) (st_ : ((List Int) × Int)) (T_ : Tm) (H_ : List Blk) : Prop :=
  match st_ with
  | (values_, code_) => ∃ g0, look T_ 0 = .fs (jobs_.map impl_Job.cells) ∧ look T_ 1 = .int .i64 objective_ ∧ look T_ 5 = .os 0 g0 1 0 values_.length ∧ look T_ 6 = .int .i64 code_ ∧ H_ = [(Blk.mk g0 false 1 (values_.map (cI .i64)))]

abbrev Q_spec_l6Values_l0 (jobs_ : (List impl_Job)) (objective_ : Int) (p_ : ((List Int))) (e_ : Ex) (T_ : Tm) (H_ : List Blk) : Prop :=
  match p_ with
  | v_b_0_rows => e_ = .ex 0 ∧ ∃ g0, look T_ 5 = .os 0 g0 1 0 v_b_0_rows.length ∧ H_ = [(Blk.mk g0 false 1 (v_b_0_rows.map (cI .i64)))]

/-- spec.l6Values -/
def x_spec_l6Values (jobs_ : (List impl_Job)) (objective_ : Int) : Option (List Int) :=
  (loopS (x_spec_l6Values_l0 jobs_ objective_) LL ([0], 1)).bind fun p1 =>
  some p1

/-- spec.SetValues -/
def x_spec_SetValues (jobs_ : (List impl_Job)) (objective_ : Int) : Option ((List Int) × Bool) :=
  (x_spec_l6Good jobs_).bind fun r1 =>
  if r1 = true then
    (x_spec_l6Sum objective_).bind fun r7 =>
    if r7 = true then
      (x_spec_l6Values jobs_ objective_).bind fun r13 =>
      some (r13, true)
    else
      some (([] : List Int), false)
  else
    some (([] : List Int), false)

def x_laws_rInts_l0 (a_ : (List Int)) (b_ : (List Int)) : (Int) → Option (Ctl (Int) (Unit ⊕ (Bool)))
  | i_ =>
    if i_ < (a_.length : Int) then
      (ix a_ i_).bind fun y6 =>
      (ix b_ i_).bind fun y11 =>
      if y6 = y11 then
        some (.next (addK .i64 i_ 1))
      else
        some (.done (.inr false))
    else
      some (.done (.inl ()))

abbrev R_laws_rInts_l0 (a_ : (List Int)) (b_ : (List Int)) (st_ : (Int)) (T_ : Tm) (H_ : List Blk) : Prop :=
  match st_ with
  | i_ => look T_ 0 = .fs (a_.map (cI .i64)) ∧ look T_ 1 = .fs (b_.map (cI .i64)) ∧ look T_ 5 = .int .i64 i_ ∧ H_ = []

abbrev Q_laws_rInts_l0 (a_ : (List Int)) (b_ : (List Int)) (p_ : (Unit ⊕ (Bool))) (e_ : Ex) (T_ : Tm) (H_ : List Blk) : Prop :=
  match p_ with
  | .inl () => e_ = .ex 0 ∧ H_ = []
  | .inr v_r_0 => e_ = .ret ∧ look T_ 4 = .bool v_r_0

/-- laws.rInts -/
def x_laws_rInts (a_ : (List Int)) (b_ : (List Int)) : Option Bool :=
  if (a_.length : Int) = (b_.length : Int) then
    (loopS (x_laws_rInts_l0 a_ b_) LL 0).bind fun p6 =>
    match p6 with
    | .inl p6 =>
      some true
    | .inr p6 =>
      some p6
  else
    some false

def x_impl_SetOrder_l1 (jobs_ : (List impl_Job)) (objective_ : Int) (values_ : (List Int)) (k_ : Int) (v : (List Int)) (vz1 : Int) : ((List Int) × Int × Int) → Option (Ctl ((List Int) × Int × Int) ((List Int) × Int))
  | (out_, set_, vz2) =>
    if vz2 < vz1 then
      (ix v vz2).bind fun y6 =>
      if 0 ≤ y6 then
        (ix values_ (andNotK .i64 set_ (shlK .i64 1 y6))).bind fun y13 =>
        (ix jobs_ y6).bind fun y18 =>
        (x_impl_timeOf jobs_ set_).bind fun r23 =>
        (x_impl_add y13 y18 r23 objective_ false).bind fun r26 =>
        (ix values_ set_).bind fun y29 =>
        if r26 = y29 then
          (ix out_ k_).bind fun y39 =>
          (put out_ k_ y6).bind fun l44 =>
          if 0 ≤ y6 then
            some (.done (l44, (andNotK .i64 set_ (shlK .i64 1 y6))))
          else
            none
        else
          some (.next (out_, set_, (addK .i64 vz2 1)))
      else
        none
    else
      some (.done (out_, set_))

abbrev R_impl_SetOrder_l1 (jobs_ : (List impl_Job)) (objective_ : Int) (values_ : (List Int)) (k_ : Int) (v : (List Int)) (vz1 : Int) (st_ : ((List Int) × Int × Int)) (T_ : Tm) (H_ : List Blk) : Prop :=
  match st_ with
  | (out_, set_, vz2) => ∃ g0, look T_ 0 = .fs (jobs_.map impl_Job.cells) ∧ look T_ 1 = .int .i64 objective_ ∧ look T_ 6 = .fs (values_.map (cI .i64)) ∧ look T_ 7 = .os 0 g0 1 0 out_.length ∧ look T_ 8 = .int .i64 set_ ∧ look T_ 9 = .int .i64 k_ ∧ look T_ 38 = .fs (v.map (cI .i64)) ∧ look T_ 39 = .int .i64 vz1 ∧ look T_ 40 = .int .i64 vz2 ∧ H_ = [(Blk.mk g0 false 1 (out_.map (cI .i64)))]

abbrev Q_impl_SetOrder_l1 (jobs_ : (List impl_Job)) (objective_ : Int) (values_ : (List Int)) (k_ : Int) (v : (List Int)) (vz1 : Int) (p_ : ((List Int) × Int)) (e_ : Ex) (T_ : Tm) (H_ : List Blk) : Prop :=
  match p_ with
  | (v_b_0_rows, v_s_8) => e_ = .ex 2 ∧ ∃ g0, look T_ 0 = .fs (jobs_.map impl_Job.cells) ∧ look T_ 1 = .int .i64 objective_ ∧ look T_ 6 = .fs (values_.map (cI .i64)) ∧ look T_ 7 = .os 0 g0 1 0 v_b_0_rows.length ∧ look T_ 8 = .int .i64 v_s_8 ∧ look T_ 9 = .int .i64 k_ ∧ H_ = [(Blk.mk g0 false 1 (v_b_0_rows.map (cI .i64)))]

def x_impl_SetOrder_l0 (jobs_ : (List impl_Job)) (objective_ : Int) (values_ : (List Int)) : ((List Int) × Int × Int) → Option (Ctl ((List Int) × Int × Int) ((List Int)))
  | (out_, set_, k_) =>
    if 0 ≤ k_ then
      (x_impl_listOf set_).bind fun r6 =>
      (loopS (x_impl_SetOrder_l1 jobs_ objective_ values_ k_ r6 (r6.length : Int)) LL (out_, set_, 0)).bind fun p9 =>
      some (.next (p9.1, p9.2, (subK .i64 k_ 1)))
    else
      some (.done out_)

abbrev R_impl_SetOrder_l0 (jobs_ : (List impl_Job)) (objective_ : Int) (values_ : (List Int)) (st_ : ((List Int) × Int × Int)) (T_ : Tm) (H_ : List Blk) : Prop :=
  match st_ with
  | (out_, set_, k_) => ∃ g0, look T_ 0 = .fs (jobs_.map impl_Job.cells) ∧ look T_ 1 = .int .i64 objective_ ∧ look T_ 6 = .fs (values_.map (cI .i64)) ∧ look T_ 7 = .os 0 g0 1 0 out_.length ∧ look T_ 8 = .int .i64 set_ ∧ look T_ 9 = .int .i64 k_ ∧ H_ = [(Blk.mk g0 false 1 (out_.map (cI .i64)))]

abbrev Q_impl_SetOrder_l0 (jobs_ : (List impl_Job)) (objective_ : Int) (values_ : (List Int)) (p_ : ((List Int))) (e_ : Ex) (T_ : Tm) (H_ : List Blk) : Prop :=
  match p_ with
  | v_b_0_rows => e_ = .ex 0 ∧ ∃ g0, look T_ 7 = .os 0 g0 1 0 v_b_0_rows.length ∧ H_ = [(Blk.mk g0 false 1 (v_b_0_rows.map (cI .i64)))]

/-- impl.SetOrder -/
def x_impl_SetOrder (jobs_ : (List impl_Job)) (objective_ : Int) : Option ((List Int) × Bool) :=
  (x_impl_IsPlain jobs_).bind fun r1 =>
  if r1 = true then
    (x_impl_isSumObjective objective_).bind fun r7 =>
    if r7 = true then
      (x_impl_setValues jobs_ objective_ 0).bind fun r13 =>
      (mk 8 (jobs_.length : Int) 0).bind fun y16 =>
      (loopS (x_impl_SetOrder_l0 jobs_ objective_ r13) LL (y16, (subK .i64 (shlK .i64 1 (jobs_.length : Int)) 1), (subK .i64 (jobs_.length : Int) 1))).bind fun p25 =>
      some (p25, true)
    else
      some (([] : List Int), false)
  else
    some (([] : List Int), false)

def x_spec_SetOrder_l1 (jobs_ : (List impl_Job)) (objective_ : Int) (out_ : (List Int)) (values_ : (List Int)) (code_ : Int) : (Int) → Option (Ctl (Int) (Int))
  | i_ =>
    if 0 ≤ i_ then
      if (andK .i64 (shrK .i64 code_ i_) 1) = 0 then
        some (.next (addK .i64 i_ 1))
      else
        (x_spec_l6Last jobs_ objective_ values_ code_ i_).bind fun r8 =>
        (ix values_ code_).bind fun y11 =>
        if r8 = y11 then
          some (.done i_)
        else
          some (.next (addK .i64 i_ 1))
    else
      none

abbrev R_spec_SetOrder_l1 (jobs_ : (List impl_Job)) (objective_ : Int) (out_ : (List Int)) (values_ : (List Int)) (code_ : Int) (st_ : (Int)) (T_ : Tm) (H_ : List Blk) : Prop :=
  match st_ with
  | i_ => look T_ 0 = .fs (jobs_.map impl_Job.cells) ∧ look T_ 1 = .int .i64 objective_ ∧ look T_ 6 = .fs (out_.map (cI .i64)) ∧ look T_ 7 = .fs (values_.map (cI .i64)) ∧ look T_ 8 = .int .i64 code_ ∧ look T_ 9 = .int .i64 i_ ∧ H_ = []

abbrev Q_spec_SetOrder_l1 (jobs_ : (List impl_Job)) (objective_ : Int) (out_ : (List Int)) (values_ : (List Int)) (code_ : Int) (p_ : (Int)) (e_ : Ex) (T_ : Tm) (H_ : List Blk) : Prop :=
  match p_ with
  | v_s_9 => e_ = .ex 2 ∧ look T_ 0 = .fs (jobs_.map impl_Job.cells) ∧ look T_ 1 = .int .i64 objective_ ∧ look T_ 6 = .fs (out_.map (cI .i64)) ∧ look T_ 7 = .fs (values_.map (cI .i64)) ∧ look T_ 8 = .int .i64 code_ ∧ look T_ 9 = .int .i64 v_s_9 ∧ H_ = []

def x_spec_SetOrder_l0 (jobs_ : (List impl_Job)) (objective_ : Int) (values_ : (List Int)) : ((List Int) × Int) → Option (Ctl ((List Int) × Int) ((List Int)))
  | (out_, code_) =>
    if 0 < code_ then
      (loopS (x_spec_SetOrder_l1 jobs_ objective_ out_ values_ code_) LL 0).bind fun p6 =>
      (app 8 [p6] out_).bind fun l20 =>
      if 0 ≤ p6 then
        some (.next (l20, (subK .i64 code_ (shlK .i64 1 p6))))
      else
        none
    else
      some (.done out_)

abbrev R_spec_SetOrder_l0 (jobs_ : (List impl_Job)) (objective_ : Int) (values_ : (List Int)) (st_ : ((List Int) × Int)) (T_ : Tm) (H_ : List Blk) : Prop :=
  match st_ with
  | (out_, code_) => look T_ 0 = .fs (jobs_.map impl_Job.cells) ∧ look T_ 1 = .int .i64 objective_ ∧ look T_ 6 = .fs (out_.map (cI .i64)) ∧ look T_ 7 = .fs (values_.map (cI .i64)) ∧ look T_ 8 = .int .i64 code_ ∧ H_ = []

abbrev Q_spec_SetOrder_l0 (jobs_ : (List impl_Job)) (objective_ : Int) (values_ : (List Int)) (p_ : ((List Int))) (e_ : Ex) (T_ : Tm) (H_ : List Blk) : Prop :=
  match p_ with
  | v_s_6 => e_ = .ex 0 ∧ look T_ 6 = .fs (v_s_6.map (cI .i64)) ∧ H_ = []

/-- spec.SetOrder -/
def x_spec_SetOrder (jobs_ : (List impl_Job)) (objective_ : Int) : Option ((List Int) × Bool) :=
  (x_spec_l6Good jobs_).bind fun r1 =>
  if r1 = true then
    (x_spec_l6Sum objective_).bind fun r7 =>
    if r7 = true then
      (x_spec_l6Values jobs_ objective_).bind fun r13 =>
      (loopS (x_spec_SetOrder_l0 jobs_ objective_ r13) LL (([] : List Int), (subK .i64 (shlK .i64 1 (jobs_.length : Int)) 1))).bind fun p16 =>
      some (p16, true)
    else
      some (([] : List Int), false)
  else
    some (([] : List Int), false)

def x_impl_totalOf_l0 (v : (List impl_Job)) (vz1 : Int) : (Int × Int) → Option (Ctl (Int × Int) (Int))
  | (total_, vz2) =>
    if vz2 < vz1 then
      (ix v vz2).bind fun y6 =>
      some (.next ((addK .i64 total_ y6.Time), (addK .i64 vz2 1)))
    else
      some (.done total_)

abbrev R_impl_totalOf_l0 (v : (List impl_Job)) (vz1 : Int) (st_ : (Int × Int)) (T_ : Tm) (H_ : List Blk) : Prop :=
  match st_ with
  | (total_, vz2) => look T_ 3 = .int .i64 total_ ∧ look T_ 6 = .fs (v.map impl_Job.cells) ∧ look T_ 7 = .int .i64 vz1 ∧ look T_ 8 = .int .i64 vz2 ∧ H_ = []

abbrev Q_impl_totalOf_l0 (v : (List impl_Job)) (vz1 : Int) (p_ : (Int)) (e_ : Ex) (T_ : Tm) (H_ : List Blk) : Prop :=
  match p_ with
  | v_s_3 => e_ = .ex 0 ∧ look T_ 3 = .int .i64 v_s_3 ∧ H_ = []

/-- impl.totalOf -/
def x_impl_totalOf (jobs_ : (List impl_Job)) : Option Int :=
  (loopS (x_impl_totalOf_l0 jobs_ (jobs_.length : Int)) LL (0, 0)).bind fun p1 =>
  some p1

/-- impl.TotalTime -/
def x_impl_TotalTime (jobs_ : (List impl_Job)) : Option (Int × Bool) :=
  (x_impl_IsPlain jobs_).bind fun r1 =>
  if r1 = true then
    (x_impl_totalOf jobs_).bind fun r7 =>
    some (r7, true)
  else
    some (0, false)

def x_spec_l2Times_l0 (jobs_ : (List impl_Job)) : (Int × Int) → Option (Ctl (Int × Int) (Int))
  | (sum_, i_) =>
    if i_ < (jobs_.length : Int) then
      (ix jobs_ i_).bind fun y6 =>
      some (.next ((addK .i64 sum_ y6.Time), (addK .i64 i_ 1)))
    else
      some (.done sum_)

abbrev R_spec_l2Times_l0 (jobs_ : (List impl_Job)) (st_ : (Int × Int)) (T_ : Tm) (H_ : List Blk) : Prop :=
  match st_ with
  | (sum_, i_) => look T_ 0 = .fs (jobs_.map impl_Job.cells) ∧ look T_ 3 = .int .i64 sum_ ∧ look T_ 4 = .int .i64 i_ ∧ H_ = []

abbrev Q_spec_l2Times_l0 (jobs_ : (List impl_Job)) (p_ : (Int)) (e_ : Ex) (T_ : Tm) (H_ : List Blk) : Prop :=
  match p_ with
  | v_s_3 => e_ = .ex 0 ∧ look T_ 3 = .int .i64 v_s_3 ∧ H_ = []

/-- spec.l2Times -/
def x_spec_l2Times (jobs_ : (List impl_Job)) : Option Int :=
  (loopS (x_spec_l2Times_l0 jobs_) LL (0, 0)).bind fun p1 =>
  some p1

/-- spec.TotalTime -/
def x_spec_TotalTime (jobs_ : (List impl_Job)) : Option (Int × Bool) :=
  (x_spec_l6Good jobs_).bind fun r1 =>
  if r1 = true then
    (x_spec_l2Times jobs_).bind fun r7 =>
    some (r7, true)
  else
    some (0, false)

def x_impl_numbersTo_l0 (n_ : Int) : ((List Int) × Int) → Option (Ctl ((List Int) × Int) ((List Int)))
  | (out_, i_) =>
    if i_ < n_ then
      (app 8 out_ [i_]).bind fun l6 =>
      some (.next (l6, (addK .i64 i_ 1)))
    else
      some (.done out_)

abbrev R_impl_numbersTo_l0 (n_ : Int) (st_ : ((List Int) × Int)) (T_ : Tm) (H_ : List Blk) : Prop :=
  match st_ with
  | (out_, i_) => ∃ b0 g1, look T_ 0 = .int .i64 n_ ∧ look T_ 3 = .os 1 g1 1 0 out_.length ∧ look T_ 4 = .int .i64 i_ ∧ H_ = [b0, (Blk.mk g1 false 1 (out_.map (cI .i64)))]

abbrev Q_impl_numbersTo_l0 (n_ : Int) (p_ : ((List Int))) (e_ : Ex) (T_ : Tm) (H_ : List Blk) : Prop :=
  match p_ with
  | v_b_1_rows => e_ = .ex 0 ∧ ∃ b0 g1, look T_ 3 = .os 1 g1 1 0 v_b_1_rows.length ∧ H_ = [b0, (Blk.mk g1 false 1 (v_b_1_rows.map (cI .i64)))]

/-- impl.numbersTo -/
def x_impl_numbersTo (n_ : Int) : Option (List Int) :=
  (loopS (x_impl_numbersTo_l0 n_) LL (([] : List Int), 0)).bind fun p1 =>
  some p1

def x_impl_nextOrder_l0 (order_ : (List Int)) : (Int) → Option (Ctl (Int) (Int))
  | i_ =>
    if 0 ≤ i_ then
      (ix order_ i_).bind fun y6 =>
      (ix order_ (addK .i64 i_ 1)).bind fun y11 =>
      if y11 < y6 then
        some (.next (subK .i64 i_ 1))
      else
        some (.done i_)
    else
      some (.done i_)

abbrev R_impl_nextOrder_l0 (H0 : List Blk) (id g : Nat) (order_ : (List Int)) (st_ : (Int)) (T_ : Tm) (H_ : List Blk) : Prop :=
  match st_ with
  | i_ => look T_ 0 = .os id g 1 0 order_.length ∧ look T_ 3 = .int .i64 i_ ∧ H_ = (H0.set id (Blk.mk g false 1 (order_.map (cI .i64))))

abbrev Q_impl_nextOrder_l0 (H0 : List Blk) (id g : Nat) (order_ : (List Int)) (p_ : (Int)) (e_ : Ex) (T_ : Tm) (H_ : List Blk) : Prop :=
  match p_ with
  | v_s_3 => e_ = .ex 0 ∧ look T_ 0 = .os id g 1 0 order_.length ∧ look T_ 3 = .int .i64 v_s_3 ∧ H_ = (H0.set id (Blk.mk g false 1 (order_.map (cI .i64))))

def x_impl_nextOrder_l1 (order_ : (List Int)) (i_ : Int) : (Int) → Option (Ctl (Int) (Int))
  | k_ =>
    (ix order_ k_).bind fun y1 =>
    (ix order_ i_).bind fun y6 =>
    if y1 < y6 then
      some (.next (subK .i64 k_ 1))
    else
      some (.done k_)

abbrev R_impl_nextOrder_l1 (H0 : List Blk) (id g : Nat) (order_ : (List Int)) (i_ : Int) (st_ : (Int)) (T_ : Tm) (H_ : List Blk) : Prop :=
  match st_ with
  | k_ => look T_ 0 = .os id g 1 0 order_.length ∧ look T_ 3 = .int .i64 i_ ∧ look T_ 4 = .int .i64 k_ ∧ H_ = (H0.set id (Blk.mk g false 1 (order_.map (cI .i64))))

abbrev Q_impl_nextOrder_l1 (H0 : List Blk) (id g : Nat) (order_ : (List Int)) (i_ : Int) (p_ : (Int)) (e_ : Ex) (T_ : Tm) (H_ : List Blk) : Prop :=
  match p_ with
  | v_s_4 => e_ = .ex 2 ∧ look T_ 0 = .os id g 1 0 order_.length ∧ look T_ 3 = .int .i64 i_ ∧ look T_ 4 = .int .i64 v_s_4 ∧ H_ = (H0.set id (Blk.mk g false 1 (order_.map (cI .i64))))

def x_impl_nextOrder_l2 : ((List Int) × Int × Int) → Option (Ctl ((List Int) × Int × Int) ((List Int)))
  | (order_, a_, b_) =>
    if a_ < b_ then
      (ix order_ b_).bind fun y6 =>
      (ix order_ a_).bind fun y11 =>
      (put order_ a_ y6).bind fun l16 =>
      (ix l16 b_).bind fun y22 =>
      (put l16 b_ y11).bind fun l28 =>
      some (.next (l28, (addK .i64 a_ 1), (subK .i64 b_ 1)))
    else
      some (.done order_)

abbrev R_impl_nextOrder_l2 (H0 : List Blk) (id g : Nat) (st_ : ((List Int) × Int × Int)) (T_ : Tm) (H_ : List Blk) : Prop :=
  match st_ with
  | (order_, a_, b_) => look T_ 0 = .os id g 1 0 order_.length ∧ look T_ 5 = .int .i64 a_ ∧ look T_ 6 = .int .i64 b_ ∧ H_ = (H0.set id (Blk.mk g false 1 (order_.map (cI .i64))))

abbrev Q_impl_nextOrder_l2 (H0 : List Blk) (id g : Nat) (p_ : ((List Int))) (e_ : Ex) (T_ : Tm) (H_ : List Blk) : Prop :=
  match p_ with
  | v_b_cur_rows => e_ = .ex 4 ∧ H_ = (H0.set id (Blk.mk g false 1 (v_b_cur_rows.map (cI .i64))))

/-- impl.nextOrder -/
def x_impl_nextOrder (order_ : (List Int)) : Option (Bool × (List Int)) :=
  (loopS (x_impl_nextOrder_l0 order_) LL (subK .i64 ((order_.length : Nat) : Int) 2)).bind fun p1 =>
  if p1 < 0 then
    some (false, order_)
  else
    (loopS (x_impl_nextOrder_l1 order_ p1) LL (subK .i64 ((order_.length : Nat) : Int) 1)).bind fun p16 =>
    (ix order_ p16).bind fun y27 =>
    (ix order_ p1).bind fun y32 =>
    (put order_ p1 y27).bind fun l37 =>
    (ix l37 p16).bind fun y43 =>
    (put l37 p16 y32).bind fun l49 =>
    (loopS (x_impl_nextOrder_l2) LL (l49, (addK .i64 p1 1), (subK .i64 ((order_.length : Nat) : Int) 1))).bind fun p55 =>
    some (true, p55)

/-- impl.eachOrder: one turn -/
def x_impl_eachOrder_l0 {σ : Type} (step : σ → List Int → Option σ) : σ × List Int → Option (Ctl (σ × List Int) σ)
  | (s, o) => (step s o).bind fun s' => (x_impl_nextOrder o).bind fun r => if r.2.length = o.length then (if r.1 = true then some (Ctl.next (s', r.2)) else some (Ctl.done s')) else none

/-- impl.eachOrder -/
def x_impl_eachOrder {σ : Type} (n : Int) (step : σ → List Int → Option σ) (s : σ) : Option σ :=
  (x_impl_numbersTo n).bind fun o => loopS (x_impl_eachOrder_l0 step) LL (s, o)

def x_impl_endsOf_l0 (jobs_ : (List impl_Job)) (v : (List Int)) (vz1 : Int) : ((List Int) × Int × Int) → Option (Ctl ((List Int) × Int × Int) ((List Int)))
  | (out_, end_, vz2) =>
    if vz2 < vz1 then
      (ix v vz2).bind fun y6 =>
      (ix jobs_ y6).bind fun y11 =>
      (ix out_ y6).bind fun y16 =>
      (put out_ y6 (addK .i64 (mxK end_ y11.Release) y11.Time)).bind fun l21 =>
      some (.next (l21, (addK .i64 (mxK end_ y11.Release) y11.Time), (addK .i64 vz2 1)))
    else
      some (.done out_)

abbrev R_impl_endsOf_l0 (jobs_ : (List impl_Job)) (v : (List Int)) (vz1 : Int) (st_ : ((List Int) × Int × Int)) (T_ : Tm) (H_ : List Blk) : Prop :=
  match st_ with
  | (out_, end_, vz2) => ∃ g0, look T_ 0 = .fs (jobs_.map impl_Job.cells) ∧ look T_ 5 = .os 0 g0 1 0 out_.length ∧ look T_ 6 = .int .i64 end_ ∧ look T_ 12 = .fs (v.map (cI .i64)) ∧ look T_ 13 = .int .i64 vz1 ∧ look T_ 14 = .int .i64 vz2 ∧ H_ = [(Blk.mk g0 false 1 (out_.map (cI .i64)))]

abbrev Q_impl_endsOf_l0 (jobs_ : (List impl_Job)) (v : (List Int)) (vz1 : Int) (p_ : ((List Int))) (e_ : Ex) (T_ : Tm) (H_ : List Blk) : Prop :=
  match p_ with
  | v_b_0_rows => e_ = .ex 0 ∧ ∃ g0, look T_ 5 = .os 0 g0 1 0 v_b_0_rows.length ∧ H_ = [(Blk.mk g0 false 1 (v_b_0_rows.map (cI .i64)))]

/-- impl.endsOf -/
def x_impl_endsOf (jobs_ : (List impl_Job)) (order_ : (List Int)) : Option (List Int) :=
  (mk 8 (jobs_.length : Int) 0).bind fun y1 =>
  (loopS (x_impl_endsOf_l0 jobs_ order_ (order_.length : Int)) LL (y1, 0, 0)).bind fun p10 =>
  some p10

def x_impl_valueOfEnds_l0 (ends_ : (List Int)) (objective_ : Int) (v : (List impl_Job)) (vz1 : Int) : (Int × Int) → Option (Ctl (Int × Int) (Int))
  | (value_, vz2) =>
    if vz2 < vz1 then
      (ix v vz2).bind fun y6 =>
      (ix ends_ vz2).bind fun y11 =>
      (x_impl_add value_ y6 y11 objective_ (decide (vz2 = 0))).bind fun r16 =>
      some (.next (r16, (addK .i64 vz2 1)))
    else
      some (.done value_)

abbrev R_impl_valueOfEnds_l0 (ends_ : (List Int)) (objective_ : Int) (v : (List impl_Job)) (vz1 : Int) (st_ : (Int × Int)) (T_ : Tm) (H_ : List Blk) : Prop :=
  match st_ with
  | (value_, vz2) => look T_ 1 = .fs (ends_.map (cI .i64)) ∧ look T_ 2 = .int .i64 objective_ ∧ look T_ 7 = .int .i64 value_ ∧ look T_ 10 = .fs (v.map impl_Job.cells) ∧ look T_ 11 = .int .i64 vz1 ∧ look T_ 12 = .int .i64 vz2 ∧ H_ = []

abbrev Q_impl_valueOfEnds_l0 (ends_ : (List Int)) (objective_ : Int) (v : (List impl_Job)) (vz1 : Int) (p_ : (Int)) (e_ : Ex) (T_ : Tm) (H_ : List Blk) : Prop :=
  match p_ with
  | v_s_7 => e_ = .ex 0 ∧ look T_ 7 = .int .i64 v_s_7 ∧ H_ = []

/-- impl.valueOfEnds -/
def x_impl_valueOfEnds (jobs_ : (List impl_Job)) (ends_ : (List Int)) (objective_ : Int) : Option Int :=
  (loopS (x_impl_valueOfEnds_l0 ends_ objective_ jobs_ (jobs_.length : Int)) LL (0, 0)).bind fun p1 =>
  some p1

/-- impl.valueOf -/
def x_impl_valueOf (jobs_ : (List impl_Job)) (order_ : (List Int)) (objective_ : Int) : Option Int :=
  (x_impl_endsOf jobs_ order_).bind fun r1 =>
  (x_impl_valueOfEnds jobs_ r1 objective_).bind fun r4 =>
  some r4

/-- impl.copyInts -/
def x_impl_copyInts (list_ : (List Int)) : Option (List Int) :=
  if fits list_.length 8 then
    some list_
  else
    none

/-- impl.best$1 -/
def x_impl_best_c1 (x0_0 : (List impl_Job)) (x1_0 : Int) (st_ : ((List Int) × Int × Int)) (order_ : (List Int)) : Option ((List Int) × Int × Int) :=
  match st_ with
  | (x2_0, x3_0, x4_0) =>
  (x_impl_valueOf x0_0 order_ x1_0).bind fun r1 =>
  if x4_0 = 0 then
    (x_impl_copyInts order_).bind fun r11 =>
    some (r11, r1, 1)
  else
    if r1 < x3_0 then
      (x_impl_copyInts order_).bind fun r21 =>
      some (r21, r1, 1)
    else
      if r1 = x3_0 then
        some (x2_0, x3_0, (addK .i64 x4_0 1))
      else
        some (x2_0, x3_0, x4_0)

/-- impl.best -/
def x_impl_best (jobs_ : (List impl_Job)) (objective_ : Int) : Option ((List Int) × Int × Int) :=
  (x_impl_eachOrder (jobs_.length : Int) (x_impl_best_c1 jobs_ objective_) (([] : List Int), 0, 0)).bind fun r3 =>
  some (r3.1, r3.2.1, r3.2.2)

/-- impl.BestValue -/
def x_impl_BestValue (jobs_ : (List impl_Job)) (objective_ : Int) : Option (Int × Bool) :=
  (x_impl_IsJobs jobs_).bind fun r1 =>
  if r1 = true then
    (x_impl_isObjective objective_).bind fun r7 =>
    if r7 = true then
      (x_impl_best jobs_ objective_).bind fun r13 =>
      some (r13.2.1, true)
    else
      some (0, false)
  else
    some (0, false)

def x_spec_l1Has_l0 (l_ : (List Int)) (n_ : Int) : (Int) → Option (Ctl (Int) (Unit ⊕ (Bool)))
  | i_ =>
    if i_ < (l_.length : Int) then
      (ix l_ i_).bind fun y6 =>
      if y6 = n_ then
        some (.done (.inr true))
      else
        some (.next (addK .i64 i_ 1))
    else
      some (.done (.inl ()))

abbrev R_spec_l1Has_l0 (l_ : (List Int)) (n_ : Int) (st_ : (Int)) (T_ : Tm) (H_ : List Blk) : Prop :=
  match st_ with
  | i_ => look T_ 0 = .fs (l_.map (cI .i64)) ∧ look T_ 1 = .int .i64 n_ ∧ look T_ 5 = .int .i64 i_ ∧ H_ = []

abbrev Q_spec_l1Has_l0 (l_ : (List Int)) (n_ : Int) (p_ : (Unit ⊕ (Bool))) (e_ : Ex) (T_ : Tm) (H_ : List Blk) : Prop :=
  match p_ with
  | .inl () => e_ = .ex 0 ∧ H_ = []
  | .inr v_r_0 => e_ = .ret ∧ look T_ 4 = .bool v_r_0

/-- spec.l1Has -/
def x_spec_l1Has (l_ : (List Int)) (n_ : Int) : Option Bool :=
  (loopS (x_spec_l1Has_l0 l_ n_) LL 0).bind fun p1 =>
  match p1 with
  | .inl p1 =>
    some false
  | .inr p1 =>
    some p1

/-- spec.l1Own -/
def x_spec_l1Own (l_ : (List Int)) : Option (List Int) :=
  if fits l_.length 8 then
    some l_
  else
    none

def x_spec_l2Starts_l0 (jobs_ : (List impl_Job)) (order_ : (List Int)) : ((List Int) × Int × Int) → Option (Ctl ((List Int) × Int × Int) ((List Int)))
  | (out_, now_, i_) =>
    if i_ < (order_.length : Int) then
      (ix order_ i_).bind fun y6 =>
      (ix jobs_ y6).bind fun y11 =>
      (x_spec_l1Most now_ y11.Release).bind fun r16 =>
      (ix out_ y6).bind fun y19 =>
      (put out_ y6 r16).bind fun l24 =>
      (ix l24 y6).bind fun y30 =>
      some (.next (l24, (addK .i64 y30 y11.Time), (addK .i64 i_ 1)))
    else
      some (.done out_)

abbrev R_spec_l2Starts_l0 (jobs_ : (List impl_Job)) (order_ : (List Int)) (st_ : ((List Int) × Int × Int)) (T_ : Tm) (H_ : List Blk) : Prop :=
  match st_ with
  | (out_, now_, i_) => ∃ b0 g1, look T_ 0 = .fs (jobs_.map impl_Job.cells) ∧ look T_ 1 = .fs (order_.map (cI .i64)) ∧ look T_ 5 = .os 1 g1 1 0 out_.length ∧ look T_ 6 = .int .i64 now_ ∧ look T_ 7 = .int .i64 i_ ∧ H_ = [b0, (Blk.mk g1 false 1 (out_.map (cI .i64)))]

abbrev Q_spec_l2Starts_l0 (jobs_ : (List impl_Job)) (order_ : (List Int)) (p_ : ((List Int))) (e_ : Ex) (T_ : Tm) (H_ : List Blk) : Prop :=
  match p_ with
  | v_b_1_rows => e_ = .ex 0 ∧ ∃ b0 g1, look T_ 5 = .os 1 g1 1 0 v_b_1_rows.length ∧ H_ = [b0, (Blk.mk g1 false 1 (v_b_1_rows.map (cI .i64)))]

/-- spec.l2Starts -/
def x_spec_l2Starts (jobs_ : (List impl_Job)) (order_ : (List Int)) : Option (List Int) :=
  (mk 8 (jobs_.length : Int) 0).bind fun y1 =>
  (loopS (x_spec_l2Starts_l0 jobs_ order_) LL (y1, 0, 0)).bind fun p10 =>
  some p10

def x_spec_l2Ends_l0 (jobs_ : (List impl_Job)) : ((List Int) × Int) → Option (Ctl ((List Int) × Int) ((List Int)))
  | (out_, i_) =>
    if i_ < (jobs_.length : Int) then
      (ix out_ i_).bind fun y6 =>
      (ix jobs_ i_).bind fun y11 =>
      (put out_ i_ (addK .i64 y6 y11.Time)).bind fun l16 =>
      some (.next (l16, (addK .i64 i_ 1)))
    else
      some (.done out_)

abbrev R_spec_l2Ends_l0 (jobs_ : (List impl_Job)) (st_ : ((List Int) × Int)) (T_ : Tm) (H_ : List Blk) : Prop :=
  match st_ with
  | (out_, i_) => ∃ g0, look T_ 0 = .fs (jobs_.map impl_Job.cells) ∧ look T_ 5 = .os 0 g0 1 0 out_.length ∧ look T_ 6 = .int .i64 i_ ∧ H_ = [(Blk.mk g0 false 1 (out_.map (cI .i64)))]

abbrev Q_spec_l2Ends_l0 (jobs_ : (List impl_Job)) (p_ : ((List Int))) (e_ : Ex) (T_ : Tm) (H_ : List Blk) : Prop :=
  match p_ with
  | v_b_0_rows => e_ = .ex 0 ∧ ∃ g0, look T_ 5 = .os 0 g0 1 0 v_b_0_rows.length ∧ H_ = [(Blk.mk g0 false 1 (v_b_0_rows.map (cI .i64)))]

/-- spec.l2Ends -/
def x_spec_l2Ends (jobs_ : (List impl_Job)) (order_ : (List Int)) : Option (List Int) :=
  (x_spec_l2Starts jobs_ order_).bind fun r1 =>
  (loopS (x_spec_l2Ends_l0 jobs_) LL (r1, 0)).bind fun p4 =>
  some p4

def x_spec_l2Of_l0 (jobs_ : (List impl_Job)) (ends_ : (List Int)) (objective_ : Int) : (Int × Int) → Option (Ctl (Int × Int) (Int))
  | (out_, i_) =>
    if i_ < (jobs_.length : Int) then
      (x_spec_l2Greatest objective_).bind fun r6 =>
      if r6 = true then
        (ix ends_ i_).bind fun y12 =>
        if objective_ = 4 then
          (ix jobs_ i_).bind fun y22 =>
          if i_ = 0 then
            some (.next ((subK .i64 y12 y22.Due), (addK .i64 i_ 1)))
          else
            if out_ < (subK .i64 y12 y22.Due) then
              some (.next ((subK .i64 y12 y22.Due), (addK .i64 i_ 1)))
            else
              some (.next (out_, (addK .i64 i_ 1)))
        else
          if i_ = 0 then
            some (.next (y12, (addK .i64 i_ 1)))
          else
            if out_ < y12 then
              some (.next (y12, (addK .i64 i_ 1)))
            else
              some (.next (out_, (addK .i64 i_ 1)))
      else
        (ix jobs_ i_).bind fun y47 =>
        (ix ends_ i_).bind fun y52 =>
        (x_spec_l2Cost y47 y52 objective_).bind fun r57 =>
        some (.next ((addK .i64 out_ r57), (addK .i64 i_ 1)))
    else
      some (.done out_)

abbrev R_spec_l2Of_l0 (jobs_ : (List impl_Job)) (ends_ : (List Int)) (objective_ : Int) (st_ : (Int × Int)) (T_ : Tm) (H_ : List Blk) : Prop :=
  match st_ with
  | (out_, i_) => look T_ 0 = .fs (jobs_.map impl_Job.cells) ∧ look T_ 1 = .fs (ends_.map (cI .i64)) ∧ look T_ 2 = .int .i64 objective_ ∧ look T_ 7 = .int .i64 out_ ∧ look T_ 8 = .int .i64 i_ ∧ H_ = []

abbrev Q_spec_l2Of_l0 (jobs_ : (List impl_Job)) (ends_ : (List Int)) (objective_ : Int) (p_ : (Int)) (e_ : Ex) (T_ : Tm) (H_ : List Blk) : Prop :=
  match p_ with
  | v_s_7 => e_ = .ex 0 ∧ look T_ 7 = .int .i64 v_s_7 ∧ H_ = []

/-- spec.l2Of -/
def x_spec_l2Of (jobs_ : (List impl_Job)) (ends_ : (List Int)) (objective_ : Int) : Option Int :=
  (loopS (x_spec_l2Of_l0 jobs_ ends_ objective_) LL (0, 0)).bind fun p1 =>
  some p1

/-- spec.l2Value -/
def x_spec_l2Value (jobs_ : (List impl_Job)) (order_ : (List Int)) (objective_ : Int) : Option Int :=
  (x_spec_l2Ends jobs_ order_).bind fun r1 =>
  (x_spec_l2Of jobs_ r1 objective_).bind fun r4 =>
  some r4

def x_spec_l2Try_l0 (rc : (List impl_Job) → (List Int) → Int → spec_l2Search → Option spec_l2Search) (x1_0 : (List Int)) (x1_1 : Int) (x1_2 : Int) (jobs_ : (List impl_Job)) (begun_ : (List Int)) (objective_ : Int) : ((List Int) × Int × Int × Int) → Option (Ctl ((List Int) × Int × Int × Int) ((List Int) × Int × Int))
  | (x0_0, x0_1, x0_2, j_) =>
    if j_ < (jobs_.length : Int) then
      (x_spec_l1Has begun_ j_).bind fun r6 =>
      if r6 = true then
        some (.next (x0_0, x0_1, x0_2, (addK .i64 j_ 1)))
      else
        (x_spec_l1Own begun_).bind fun r12 =>
        (app 8 r12 [j_]).bind fun l15 =>
        (rc jobs_ l15 objective_ (spec_l2Search.mk x0_0 x0_1 x0_2)).bind fun r24 =>
        some (.next (r24.order, r24.value, r24.count, (addK .i64 j_ 1)))
    else
      some (.done (x0_0, x0_1, x0_2))

abbrev R_spec_l2Try_l0 (x1_0 : (List Int)) (x1_1 : Int) (x1_2 : Int) (jobs_ : (List impl_Job)) (begun_ : (List Int)) (objective_ : Int) (st_ : ((List Int) × Int × Int × Int)) (T_ : Tm) (H_ : List Blk) : Prop :=
  match st_ with
  | (x0_0, x0_1, x0_2, j_) => ∃ g0 g1, look T_ 0 = .fs (jobs_.map impl_Job.cells) ∧ look T_ 1 = .fs (begun_.map (cI .i64)) ∧ look T_ 2 = .int .i64 objective_ ∧ look T_ 7 = .ptr 0 g0 0 0 ∧ look T_ 8 = .ptr 1 g1 0 0 ∧ look T_ 10 = .int .i64 j_ ∧ H_ = [(Blk.mk g0 false 3 [[.fs (x0_0.map (cI .i64)), .int .i64 x0_1, .int .i64 x0_2]]), (Blk.mk g1 false 3 [[.fs (x1_0.map (cI .i64)), .int .i64 x1_1, .int .i64 x1_2]])]

abbrev Q_spec_l2Try_l0 (x1_0 : (List Int)) (x1_1 : Int) (x1_2 : Int) (jobs_ : (List impl_Job)) (begun_ : (List Int)) (objective_ : Int) (p_ : ((List Int) × Int × Int)) (e_ : Ex) (T_ : Tm) (H_ : List Blk) : Prop :=
  match p_ with
  | (v_b_0_0, v_b_0_1, v_b_0_2) => e_ = .ex 0 ∧ ∃ g0 g1, look T_ 7 = .ptr 0 g0 0 0 ∧ look T_ 8 = .ptr 1 g1 0 0 ∧ H_ = [(Blk.mk g0 false 3 [[.fs (v_b_0_0.map (cI .i64)), .int .i64 v_b_0_1, .int .i64 v_b_0_2]]), (Blk.mk g1 false 3 [[.fs (x1_0.map (cI .i64)), .int .i64 x1_1, .int .i64 x1_2]])]

/-- spec.l2Try -/
def x_spec_l2Try_b (rc : (List impl_Job) → (List Int) → Int → spec_l2Search → Option spec_l2Search) (jobs_ : (List impl_Job)) (begun_ : (List Int)) (objective_ : Int) (best_ : spec_l2Search) : Option spec_l2Search :=
  if (begun_.length : Int) = (jobs_.length : Int) then
    (x_spec_l2Value jobs_ begun_ objective_).bind fun r6 =>
    if best_.count = 0 then
      (x_spec_l1Own begun_).bind fun r14 =>
      some (spec_l2Search.mk r14 r6 1)
    else
      if r6 < best_.value then
        (x_spec_l1Own begun_).bind fun r22 =>
        some (spec_l2Search.mk r22 r6 1)
      else
        if r6 = best_.value then
          some (spec_l2Search.mk best_.order best_.value (addK .i64 best_.count 1))
        else
          some best_
  else
    (loopS (x_spec_l2Try_l0 rc ([] : List Int) 0 0 jobs_ begun_ objective_) LL (best_.order, best_.value, best_.count, 0)).bind fun p30 =>
    some (spec_l2Search.mk p30.1 p30.2.1 p30.2.2)

def x_spec_l2Try : Nat → (List impl_Job) → (List Int) → Int → spec_l2Search → Option spec_l2Search
  | 0 => fun _ _ _ _ => none
  | d + 1 => x_spec_l2Try_b (x_spec_l2Try d)

/-- spec.l2All -/
def x_spec_l2All (jobs_ : (List impl_Job)) (objective_ : Int) : Option spec_l2Search :=
  (x_spec_l2Try DD jobs_ ([] : List Int) objective_ (spec_l2Search.mk ([] : List Int) 0 0)).bind fun r1 =>
  some r1

/-- spec.l2Best -/
def x_spec_l2Best (jobs_ : (List impl_Job)) (objective_ : Int) : Option ((List Int) × Int) :=
  (x_spec_l2All jobs_ objective_).bind fun r1 =>
  some (r1.order, r1.value)

/-- spec.BestValue -/
def x_spec_BestValue (jobs_ : (List impl_Job)) (objective_ : Int) : Option (Int × Bool) :=
  (x_spec_l2Good jobs_).bind fun r1 =>
  if r1 = true then
    (x_spec_l2Objective objective_).bind fun r7 =>
    if r7 = true then
      (x_spec_l2Best jobs_ objective_).bind fun r13 =>
      some (r13.2, true)
    else
      some (0, false)
  else
    some (0, false)

/-- laws.rBest -/
def x_laws_rBest (jobs_ : (List impl_Job)) (objective_ : Int) : Option (Int × Bool) :=
  (x_impl_BestValue jobs_ objective_).bind fun r1 =>
  (x_spec_BestValue jobs_ objective_).bind fun r4 =>
  if r1.2 = r4.2 then
    some (r1.1, (decide (r1.1 = r4.1)))
  else
    some (r1.1, false)

/-- impl.isNumber -/
def x_impl_isNumber (i_ : Int) (n_ : Int) : Option Bool :=
  (x_impl_within i_ 0 (subK .i64 n_ 1)).bind fun r1 =>
  some r1

def x_impl_has_l0 (n_ : Int) (v : (List Int)) (vz1 : Int) : (Int) → Option (Ctl (Int) (Unit ⊕ (Bool)))
  | vz2 =>
    if vz2 < vz1 then
      (ix v vz2).bind fun y6 =>
      if y6 = n_ then
        some (.done (.inr true))
      else
        some (.next (addK .i64 vz2 1))
    else
      some (.done (.inl ()))

abbrev R_impl_has_l0 (n_ : Int) (v : (List Int)) (vz1 : Int) (st_ : (Int)) (T_ : Tm) (H_ : List Blk) : Prop :=
  match st_ with
  | vz2 => look T_ 1 = .int .i64 n_ ∧ look T_ 7 = .fs (v.map (cI .i64)) ∧ look T_ 8 = .int .i64 vz1 ∧ look T_ 9 = .int .i64 vz2 ∧ H_ = []

abbrev Q_impl_has_l0 (n_ : Int) (v : (List Int)) (vz1 : Int) (p_ : (Unit ⊕ (Bool))) (e_ : Ex) (T_ : Tm) (H_ : List Blk) : Prop :=
  match p_ with
  | .inl () => e_ = .ex 0 ∧ H_ = []
  | .inr v_r_0 => e_ = .ret ∧ look T_ 4 = .bool v_r_0

/-- impl.has -/
def x_impl_has (list_ : (List Int)) (n_ : Int) : Option Bool :=
  (loopS (x_impl_has_l0 n_ list_ (list_.length : Int)) LL 0).bind fun p1 =>
  match p1 with
  | .inl p1 =>
    some false
  | .inr p1 =>
    some p1

def x_impl_areDifferent_l0 (n_ : Int) (list_ : (List Int)) (v : (List Int)) (vz1 : Int) : (Int) → Option (Ctl (Int) (Unit ⊕ (Bool)))
  | vz2 =>
    if vz2 < vz1 then
      (ix v vz2).bind fun y6 =>
      (x_impl_isNumber y6 n_).bind fun r11 =>
      if r11 = true then
        (cut list_ 0 vz2).bind fun y17 =>
        (x_impl_has y17 y6).bind fun r25 =>
        if r25 = true then
          some (.done (.inr false))
        else
          some (.next (addK .i64 vz2 1))
      else
        some (.done (.inr false))
    else
      some (.done (.inl ()))

abbrev R_impl_areDifferent_l0 (n_ : Int) (list_ : (List Int)) (v : (List Int)) (vz1 : Int) (st_ : (Int)) (T_ : Tm) (H_ : List Blk) : Prop :=
  match st_ with
  | vz2 => look T_ 0 = .int .i64 n_ ∧ look T_ 1 = .fs (list_.map (cI .i64)) ∧ look T_ 7 = .fs (v.map (cI .i64)) ∧ look T_ 8 = .int .i64 vz1 ∧ look T_ 9 = .int .i64 vz2 ∧ H_ = []

abbrev Q_impl_areDifferent_l0 (n_ : Int) (list_ : (List Int)) (v : (List Int)) (vz1 : Int) (p_ : (Unit ⊕ (Bool))) (e_ : Ex) (T_ : Tm) (H_ : List Blk) : Prop :=
  match p_ with
  | .inl () => e_ = .ex 0 ∧ H_ = []
  | .inr v_r_0 => e_ = .ret ∧ look T_ 4 = .bool v_r_0

/-- impl.areDifferent -/
def x_impl_areDifferent (n_ : Int) (list_ : (List Int)) : Option Bool :=
  (loopS (x_impl_areDifferent_l0 n_ list_ list_ (list_.length : Int)) LL 0).bind fun p1 =>
  match p1 with
  | .inl p1 =>
    some true
  | .inr p1 =>
    some p1

/-- impl.isOrder -/
def x_impl_isOrder (n_ : Int) (order_ : (List Int)) : Option Bool :=
  if (order_.length : Int) = n_ then
    (x_impl_areDifferent n_ order_).bind fun r6 =>
    some r6
  else
    some false

/-- impl.isScheduled -/
def x_impl_isScheduled (jobs_ : (List impl_Job)) (order_ : (List Int)) : Option Bool :=
  (x_impl_IsJobs jobs_).bind fun r1 =>
  if r1 = true then
    (x_impl_isOrder (jobs_.length : Int) order_).bind fun r7 =>
    some r7
  else
    some false

/-- impl.isValued -/
def x_impl_isValued (jobs_ : (List impl_Job)) (order_ : (List Int)) (objective_ : Int) : Option Bool :=
  (x_impl_isScheduled jobs_ order_).bind fun r1 =>
  if r1 = true then
    (x_impl_isObjective objective_).bind fun r7 =>
    some r7
  else
    some false

/-- impl.ValueOf -/
def x_impl_ValueOf (jobs_ : (List impl_Job)) (order_ : (List Int)) (objective_ : Int) : Option (Int × Bool) :=
  (x_impl_isValued jobs_ order_ objective_).bind fun r1 =>
  if r1 = true then
    (x_impl_valueOf jobs_ order_ objective_).bind fun r7 =>
    some (r7, true)
  else
    some (0, false)

def x_laws_FnSetValues_l1 (r_ : (List impl_Job)) (a_ : (List Int)) (v : Int) : (Int) → Option (Ctl (Int) (Unit ⊕ (Bool)))
  | vz1 =>
    if vz1 < (r_.length : Int) then
      if 0 ≤ vz1 then
        if (andK .i64 (shrK .i64 v vz1) 1) = 1 then
          if 0 ≤ vz1 then
            (ix a_ (subK .i64 v (shlK .i64 1 vz1))).bind fun y15 =>
            (ix a_ v).bind fun y20 =>
            if y20 < y15 then
              some (.done (.inr false))
            else
              some (.next (addK .i64 vz1 1))
          else
            none
        else
          some (.next (addK .i64 vz1 1))
      else
        none
    else
      some (.done (.inl ()))

abbrev R_laws_FnSetValues_l1 (r_ : (List impl_Job)) (a_ : (List Int)) (v : Int) (st_ : (Int)) (T_ : Tm) (H_ : List Blk) : Prop :=
  match st_ with
  | vz1 => look T_ 3 = .fs (r_.map impl_Job.cells) ∧ look T_ 5 = .fs (a_.map (cI .i64)) ∧ look T_ 23 = .int .i64 v ∧ look T_ 24 = .int .i64 vz1 ∧ H_ = []

abbrev Q_laws_FnSetValues_l1 (r_ : (List impl_Job)) (a_ : (List Int)) (v : Int) (p_ : (Unit ⊕ (Bool))) (e_ : Ex) (T_ : Tm) (H_ : List Blk) : Prop :=
  match p_ with
  | .inl () => e_ = .ex 2 ∧ look T_ 3 = .fs (r_.map impl_Job.cells) ∧ look T_ 5 = .fs (a_.map (cI .i64)) ∧ look T_ 23 = .int .i64 v ∧ H_ = []
  | .inr v_r_0 => e_ = .ret ∧ look T_ 2 = .bool v_r_0

def x_laws_FnSetValues_l0 (r_ : (List impl_Job)) (a_ : (List Int)) : (Int) → Option (Ctl (Int) (Unit ⊕ (Bool)))
  | v =>
    if v < (a_.length : Int) then
      (loopS (x_laws_FnSetValues_l1 r_ a_ v) LL 0).bind fun p6 =>
      match p6 with
      | .inl p6 =>
        some (.next (addK .i64 v 1))
      | .inr p6 =>
        some (.done (.inr p6))
    else
      some (.done (.inl ()))

abbrev R_laws_FnSetValues_l0 (r_ : (List impl_Job)) (a_ : (List Int)) (st_ : (Int)) (T_ : Tm) (H_ : List Blk) : Prop :=
  match st_ with
  | v => look T_ 3 = .fs (r_.map impl_Job.cells) ∧ look T_ 5 = .fs (a_.map (cI .i64)) ∧ look T_ 23 = .int .i64 v ∧ H_ = []

abbrev Q_laws_FnSetValues_l0 (r_ : (List impl_Job)) (a_ : (List Int)) (p_ : (Unit ⊕ (Bool))) (e_ : Ex) (T_ : Tm) (H_ : List Blk) : Prop :=
  match p_ with
  | .inl () => e_ = .ex 0 ∧ H_ = []
  | .inr v_r_0 => e_ = .ret ∧ look T_ 2 = .bool v_r_0

/-- laws.FnSetValues -/
def x_laws_FnSetValues (t_ : (List Int)) : Option Bool :=
  (x_laws_rBig t_).bind fun r1 =>
  if r1 = true then
    some true
  else
    (x_spec_DrawSetValues t_).bind fun r7 =>
    (x_impl_SetValues r7.1 r7.2).bind fun r10 =>
    (x_spec_SetValues r7.1 r7.2).bind fun r13 =>
    if r10.2 = r13.2 then
      (x_laws_rInts r10.1 r13.1).bind fun r19 =>
      if r19 = true then
        (x_impl_SetOrder r7.1 r7.2).bind fun r25 =>
        (x_spec_SetOrder r7.1 r7.2).bind fun r28 =>
        if r25.2 = r28.2 then
          if r25.2 = r10.2 then
            (x_laws_rInts r25.1 r28.1).bind fun r37 =>
            if r37 = true then
              (x_impl_TotalTime r7.1).bind fun r43 =>
              (x_spec_TotalTime r7.1).bind fun r46 =>
              if r43.1 = r46.1 then
                if r43.2 = r46.2 then
                  if r10.2 = true then
                    (x_laws_rBest r7.1 r7.2).bind fun r63 =>
                    (x_impl_ValueOf r7.1 r25.1 r7.2).bind fun r66 =>
                    (x_impl_ValueOf r7.1 r25.1 1).bind fun r69 =>
                    if r63.2 = true then
                      if r66.2 = true then
                        if r69.2 = true then
                          if (r10.1.length : Int) = (shlK .i64 1 (r7.1.length : Int)) then
                            (ix r10.1 (subK .i64 (r10.1.length : Int) 1)).bind fun y86 =>
                            if y86 = r63.1 then
                              if r66.1 = r63.1 then
                                if r69.1 = r43.1 then
                                  (loopS (x_laws_FnSetValues_l0 r7.1 r10.1) LL 0).bind fun p106 =>
                                  match p106 with
                                  | .inl p106 =>
                                    some true
                                  | .inr p106 =>
                                    some p106
                                else
                                  some false
                              else
                                some false
                            else
                              some false
                          else
                            some false
                        else
                          some false
                      else
                        some false
                    else
                      some false
                  else
                    some true
                else
                  some false
              else
                some false
            else
              some false
          else
            some false
        else
          some false
      else
        some false
    else
      some false

def K_laws_rBig (φ : (List Int) → Option Bool) (k : Fun) : Prop := ∀ (code_ : (List Int)) r, φ code_ = some r → RetF k [.fs (code_.map (cI .u8))] (.bool r)

def K_spec_l1Cur_next (φ : spec_l1Cur → Option (Int × spec_l1Cur)) (k : Fun) : Prop := ∀ (c_ : spec_l1Cur) r, φ c_ = some r → RetC k 3 [] [.fs (c_.code.map (cI .u8)), .int .i64 c_.at_, .int .u64 c_.seed] [.fs (r.2.code.map (cI .u8)), .int .i64 r.2.at_, .int .u64 r.2.seed] (.int .i64 r.1)

def K_spec_l1Cur_pick (φ : spec_l1Cur → Int → Option (Int × spec_l1Cur)) (k : Fun) : Prop := ∀ (c_ : spec_l1Cur) (n_ : Int) r, φ c_ n_ = some r → RetC k 3 [.int .i64 n_] [.fs (c_.code.map (cI .u8)), .int .i64 c_.at_, .int .u64 c_.seed] [.fs (r.2.code.map (cI .u8)), .int .i64 r.2.at_, .int .u64 r.2.seed] (.int .i64 r.1)

def K_spec_l1Cur_one (φ : spec_l1Cur → Int → Option (Bool × spec_l1Cur)) (k : Fun) : Prop := ∀ (c_ : spec_l1Cur) (n_ : Int) r, φ c_ n_ = some r → RetC k 3 [.int .i64 n_] [.fs (c_.code.map (cI .u8)), .int .i64 c_.at_, .int .u64 c_.seed] [.fs (r.2.code.map (cI .u8)), .int .i64 r.2.at_, .int .u64 r.2.seed] (.bool r.1)

def K_spec_l1Cur_among (φ : spec_l1Cur → (List Int) → Option (Int × spec_l1Cur)) (k : Fun) : Prop := ∀ (c_ : spec_l1Cur) (list_ : (List Int)) r, φ c_ list_ = some r → RetC k 3 [.fs (list_.map (cI .i64))] [.fs (c_.code.map (cI .u8)), .int .i64 c_.at_, .int .u64 c_.seed] [.fs (r.2.code.map (cI .u8)), .int .i64 r.2.at_, .int .u64 r.2.seed] (.int .i64 r.1)

def K_spec_l1Cur_spoiltJob (φ : spec_l1Cur → impl_Job → Option (impl_Job × spec_l1Cur)) (k : Fun) : Prop := ∀ (c_ : spec_l1Cur) (j_ : impl_Job) r, φ c_ j_ = some r → RetC k 3 [.agg [.int .i64 j_.Time, .int .i64 j_.Weight, .int .i64 j_.Release, .int .i64 j_.Due]] [.fs (c_.code.map (cI .u8)), .int .i64 c_.at_, .int .u64 c_.seed] [.fs (r.2.code.map (cI .u8)), .int .i64 r.2.at_, .int .u64 r.2.seed] (.agg [.int .i64 r.1.Time, .int .i64 r.1.Weight, .int .i64 r.1.Release, .int .i64 r.1.Due])

def K_spec_l1Cur_job (φ : spec_l1Cur → Bool → Option (impl_Job × spec_l1Cur)) (k : Fun) : Prop := ∀ (c_ : spec_l1Cur) (released_ : Bool) r, φ c_ released_ = some r → RetC k 3 [.bool released_] [.fs (c_.code.map (cI .u8)), .int .i64 c_.at_, .int .u64 c_.seed] [.fs (r.2.code.map (cI .u8)), .int .i64 r.2.at_, .int .u64 r.2.seed] (.agg [.int .i64 r.1.Time, .int .i64 r.1.Weight, .int .i64 r.1.Release, .int .i64 r.1.Due])

def K_spec_l1Cur_someJobs (φ : spec_l1Cur → Bool → Int → Option ((List impl_Job) × spec_l1Cur)) (k : Fun) : Prop := ∀ (c_ : spec_l1Cur) (released_ : Bool) (most_ : Int) r, φ c_ released_ most_ = some r → RetCO k 3 [.bool released_, .int .i64 most_] [.fs (c_.code.map (cI .u8)), .int .i64 c_.at_, .int .u64 c_.seed] [.fs (r.2.code.map (cI .u8)), .int .i64 r.2.at_, .int .u64 r.2.seed] 4 (r.1.map impl_Job.cells)

def K_spec_l1Cur_plainJobs (φ : spec_l1Cur → Int → Option ((List impl_Job) × spec_l1Cur)) (k : Fun) : Prop := ∀ (c_ : spec_l1Cur) (most_ : Int) r, φ c_ most_ = some r → RetC k 3 [.int .i64 most_] [.fs (c_.code.map (cI .u8)), .int .i64 c_.at_, .int .u64 c_.seed] [.fs (r.2.code.map (cI .u8)), .int .i64 r.2.at_, .int .u64 r.2.seed] (.fs (r.1.map impl_Job.cells))

def K_spec_l1Cur_objective (φ : spec_l1Cur → Option (Int × spec_l1Cur)) (k : Fun) : Prop := ∀ (c_ : spec_l1Cur) r, φ c_ = some r → RetC k 3 [] [.fs (c_.code.map (cI .u8)), .int .i64 c_.at_, .int .u64 c_.seed] [.fs (r.2.code.map (cI .u8)), .int .i64 r.2.at_, .int .u64 r.2.seed] (.int .i64 r.1)

def K_spec_l1Cur_sums (φ : spec_l1Cur → Option (Int × spec_l1Cur)) (k : Fun) : Prop := ∀ (c_ : spec_l1Cur) r, φ c_ = some r → RetC k 3 [] [.fs (c_.code.map (cI .u8)), .int .i64 c_.at_, .int .u64 c_.seed] [.fs (r.2.code.map (cI .u8)), .int .i64 r.2.at_, .int .u64 r.2.seed] (.int .i64 r.1)

def K_spec_DrawSetValues (φ : (List Int) → Option ((List impl_Job) × Int)) (k : Fun) : Prop := ∀ (code_ : (List Int)) r, φ code_ = some r → Ret k [.fs (code_.map (cI .u8))] (.tup [.fs (r.1.map impl_Job.cells), .int .i64 r.2])

def K_impl_within (φ : Int → Int → Int → Option Bool) (k : Fun) : Prop := ∀ (n_ : Int) (low_ : Int) (high_ : Int) r, φ n_ low_ high_ = some r → RetF k [.int .i64 n_, .int .i64 low_, .int .i64 high_] (.bool r)

def K_impl_isDate (φ : Int → Option Bool) (k : Fun) : Prop := ∀ (n_ : Int) r, φ n_ = some r → RetF k [.int .i64 n_] (.bool r)

def K_impl_IsJobs (φ : (List impl_Job) → Option Bool) (k : Fun) : Prop := ∀ (jobs_ : (List impl_Job)) r, φ jobs_ = some r → RetF k [.fs (jobs_.map impl_Job.cells)] (.bool r)

def K_impl_isPlain (φ : (List impl_Job) → Option Bool) (k : Fun) : Prop := ∀ (jobs_ : (List impl_Job)) r, φ jobs_ = some r → RetF k [.fs (jobs_.map impl_Job.cells)] (.bool r)

def K_impl_IsPlain (φ : (List impl_Job) → Option Bool) (k : Fun) : Prop := ∀ (jobs_ : (List impl_Job)) r, φ jobs_ = some r → RetF k [.fs (jobs_.map impl_Job.cells)] (.bool r)

def K_impl_isObjective (φ : Int → Option Bool) (k : Fun) : Prop := ∀ (n_ : Int) r, φ n_ = some r → RetF k [.int .i64 n_] (.bool r)

def K_impl_isSumObjective (φ : Int → Option Bool) (k : Fun) : Prop := ∀ (objective_ : Int) r, φ objective_ = some r → RetF k [.int .i64 objective_] (.bool r)

def K_impl_listOf (φ : Int → Option (List Int)) (k : Fun) : Prop := ∀ (set_ : Int) r, φ set_ = some r → RetO k [.int .i64 set_] 1 (r.map (cI .i64))

def K_impl_add (φ : Int → impl_Job → Int → Int → Bool → Option Int) (k : Fun) : Prop := ∀ (value_ : Int) (j_ : impl_Job) (end_ : Int) (objective_ : Int) (first_ : Bool) r, φ value_ j_ end_ objective_ first_ = some r → RetF k [.int .i64 value_, .agg [.int .i64 j_.Time, .int .i64 j_.Weight, .int .i64 j_.Release, .int .i64 j_.Due], .int .i64 end_, .int .i64 objective_, .bool first_] (.int .i64 r)

def K_impl_timeOf (φ : (List impl_Job) → Int → Option Int) (k : Fun) : Prop := ∀ (jobs_ : (List impl_Job)) (set_ : Int) r, φ jobs_ set_ = some r → RetF k [.fs (jobs_.map impl_Job.cells), .int .i64 set_] (.int .i64 r)

def K_impl_setValues (φ : (List impl_Job) → Int → Int → Option (List Int)) (k : Fun) : Prop := ∀ (jobs_ : (List impl_Job)) (objective_ : Int) (start_ : Int) r, φ jobs_ objective_ start_ = some r → RetO k [.fs (jobs_.map impl_Job.cells), .int .i64 objective_, .int .i64 start_] 1 (r.map (cI .i64))

def K_impl_SetValues (φ : (List impl_Job) → Int → Option ((List Int) × Bool)) (k : Fun) : Prop := ∀ (jobs_ : (List impl_Job)) (objective_ : Int) r, φ jobs_ objective_ = some r → Ret k [.fs (jobs_.map impl_Job.cells), .int .i64 objective_] (.tup [.fs (r.1.map (cI .i64)), .bool r.2])

def K_spec_l1In (φ : Int → Int → Int → Option Bool) (k : Fun) : Prop := ∀ (x_ : Int) (a_ : Int) (b_ : Int) r, φ x_ a_ b_ = some r → RetF k [.int .i64 x_, .int .i64 a_, .int .i64 b_] (.bool r)

def K_spec_l2Job (φ : impl_Job → Option Bool) (k : Fun) : Prop := ∀ (j_ : impl_Job) r, φ j_ = some r → RetF k [.agg [.int .i64 j_.Time, .int .i64 j_.Weight, .int .i64 j_.Release, .int .i64 j_.Due]] (.bool r)

def K_spec_l2Good (φ : (List impl_Job) → Option Bool) (k : Fun) : Prop := ∀ (jobs_ : (List impl_Job)) r, φ jobs_ = some r → RetF k [.fs (jobs_.map impl_Job.cells)] (.bool r)

def K_spec_l4Free (φ : (List impl_Job) → Option Bool) (k : Fun) : Prop := ∀ (jobs_ : (List impl_Job)) r, φ jobs_ = some r → RetF k [.fs (jobs_.map impl_Job.cells)] (.bool r)

def K_spec_l6Good (φ : (List impl_Job) → Option Bool) (k : Fun) : Prop := ∀ (jobs_ : (List impl_Job)) r, φ jobs_ = some r → RetF k [.fs (jobs_.map impl_Job.cells)] (.bool r)

def K_spec_l2Objective (φ : Int → Option Bool) (k : Fun) : Prop := ∀ (objective_ : Int) r, φ objective_ = some r → RetF k [.int .i64 objective_] (.bool r)

def K_spec_l2Greatest (φ : Int → Option Bool) (k : Fun) : Prop := ∀ (objective_ : Int) r, φ objective_ = some r → RetF k [.int .i64 objective_] (.bool r)

def K_spec_l6Sum (φ : Int → Option Bool) (k : Fun) : Prop := ∀ (objective_ : Int) r, φ objective_ = some r → RetF k [.int .i64 objective_] (.bool r)

def K_spec_l1Most (φ : Int → Int → Option Int) (k : Fun) : Prop := ∀ (a_ : Int) (b_ : Int) r, φ a_ b_ = some r → RetF k [.int .i64 a_, .int .i64 b_] (.int .i64 r)

def K_spec_l2Cost (φ : impl_Job → Int → Int → Option Int) (k : Fun) : Prop := ∀ (j_ : impl_Job) (end_ : Int) (objective_ : Int) r, φ j_ end_ objective_ = some r → RetF k [.agg [.int .i64 j_.Time, .int .i64 j_.Weight, .int .i64 j_.Release, .int .i64 j_.Due], .int .i64 end_, .int .i64 objective_] (.int .i64 r)

def K_spec_l6Times (φ : (List impl_Job) → Int → Option Int) (k : Fun) : Prop := ∀ (jobs_ : (List impl_Job)) (code_ : Int) r, φ jobs_ code_ = some r → RetF k [.fs (jobs_.map impl_Job.cells), .int .i64 code_] (.int .i64 r)

def K_spec_l6Last (φ : (List impl_Job) → Int → (List Int) → Int → Int → Option Int) (k : Fun) : Prop := ∀ (jobs_ : (List impl_Job)) (objective_ : Int) (values_ : (List Int)) (code_ : Int) (i_ : Int) r, φ jobs_ objective_ values_ code_ i_ = some r → RetF k [.fs (jobs_.map impl_Job.cells), .int .i64 objective_, .fs (values_.map (cI .i64)), .int .i64 code_, .int .i64 i_] (.int .i64 r)

def K_spec_l6Values (φ : (List impl_Job) → Int → Option (List Int)) (k : Fun) : Prop := ∀ (jobs_ : (List impl_Job)) (objective_ : Int) r, φ jobs_ objective_ = some r → RetO k [.fs (jobs_.map impl_Job.cells), .int .i64 objective_] 1 (r.map (cI .i64))

def K_spec_SetValues (φ : (List impl_Job) → Int → Option ((List Int) × Bool)) (k : Fun) : Prop := ∀ (jobs_ : (List impl_Job)) (objective_ : Int) r, φ jobs_ objective_ = some r → Ret k [.fs (jobs_.map impl_Job.cells), .int .i64 objective_] (.tup [.fs (r.1.map (cI .i64)), .bool r.2])

def K_laws_rInts (φ : (List Int) → (List Int) → Option Bool) (k : Fun) : Prop := ∀ (a_ : (List Int)) (b_ : (List Int)) r, φ a_ b_ = some r → RetF k [.fs (a_.map (cI .i64)), .fs (b_.map (cI .i64))] (.bool r)

def K_impl_SetOrder (φ : (List impl_Job) → Int → Option ((List Int) × Bool)) (k : Fun) : Prop := ∀ (jobs_ : (List impl_Job)) (objective_ : Int) r, φ jobs_ objective_ = some r → RetF k [.fs (jobs_.map impl_Job.cells), .int .i64 objective_] (.tup [.fs (r.1.map (cI .i64)), .bool r.2])

def K_spec_SetOrder (φ : (List impl_Job) → Int → Option ((List Int) × Bool)) (k : Fun) : Prop := ∀ (jobs_ : (List impl_Job)) (objective_ : Int) r, φ jobs_ objective_ = some r → Ret k [.fs (jobs_.map impl_Job.cells), .int .i64 objective_] (.tup [.fs (r.1.map (cI .i64)), .bool r.2])

def K_impl_totalOf (φ : (List impl_Job) → Option Int) (k : Fun) : Prop := ∀ (jobs_ : (List impl_Job)) r, φ jobs_ = some r → RetF k [.fs (jobs_.map impl_Job.cells)] (.int .i64 r)

def K_impl_TotalTime (φ : (List impl_Job) → Option (Int × Bool)) (k : Fun) : Prop := ∀ (jobs_ : (List impl_Job)) r, φ jobs_ = some r → RetF k [.fs (jobs_.map impl_Job.cells)] (.tup [.int .i64 r.1, .bool r.2])

def K_spec_l2Times (φ : (List impl_Job) → Option Int) (k : Fun) : Prop := ∀ (jobs_ : (List impl_Job)) r, φ jobs_ = some r → RetF k [.fs (jobs_.map impl_Job.cells)] (.int .i64 r)

def K_spec_TotalTime (φ : (List impl_Job) → Option (Int × Bool)) (k : Fun) : Prop := ∀ (jobs_ : (List impl_Job)) r, φ jobs_ = some r → RetF k [.fs (jobs_.map impl_Job.cells)] (.tup [.int .i64 r.1, .bool r.2])

def K_impl_numbersTo (φ : Int → Option (List Int)) (k : Fun) : Prop := ∀ (n_ : Int) r, φ n_ = some r → RetO k [.int .i64 n_] 1 (r.map (cI .i64))

def K_impl_nextOrder (φ : (List Int) → Option (Bool × (List Int))) (k : Fun) : Prop := ∀ (order_ : (List Int)) r, φ order_ = some r → RetS k 1 [] ((order_.map (cI .i64))) (r.2.map (cI .i64)) (.bool r.1)

def K_impl_endsOf (φ : (List impl_Job) → (List Int) → Option (List Int)) (k : Fun) : Prop := ∀ (jobs_ : (List impl_Job)) (order_ : (List Int)) r, φ jobs_ order_ = some r → RetO k [.fs (jobs_.map impl_Job.cells), .fs (order_.map (cI .i64))] 1 (r.map (cI .i64))

def K_impl_valueOfEnds (φ : (List impl_Job) → (List Int) → Int → Option Int) (k : Fun) : Prop := ∀ (jobs_ : (List impl_Job)) (ends_ : (List Int)) (objective_ : Int) r, φ jobs_ ends_ objective_ = some r → RetF k [.fs (jobs_.map impl_Job.cells), .fs (ends_.map (cI .i64)), .int .i64 objective_] (.int .i64 r)

def K_impl_valueOf (φ : (List impl_Job) → (List Int) → Int → Option Int) (k : Fun) : Prop := ∀ (jobs_ : (List impl_Job)) (order_ : (List Int)) (objective_ : Int) r, φ jobs_ order_ objective_ = some r → RetF k [.fs (jobs_.map impl_Job.cells), .fs (order_.map (cI .i64)), .int .i64 objective_] (.int .i64 r)

def K_impl_copyInts (φ : (List Int) → Option (List Int)) (k : Fun) : Prop := ∀ (list_ : (List Int)) r, φ list_ = some r → RetO k [.fs (list_.map (cI .i64))] 1 (r.map (cI .i64))

def K_impl_best_c1 (φ : (List impl_Job) → Int → ((List Int) × Int × Int) → (List Int) → Option ((List Int) × Int × Int)) (k : Fun) : Prop := ∀ (x0_0 : (List impl_Job)) (x1_0 : Int) (st_ : ((List Int) × Int × Int)) (order_ : (List Int)) r, φ x0_0 x1_0 st_ order_ = some r → ∀ (g0 : Nat) (g1 : Nat) (g2 : Nat) (g3 : Nat) (g4 : Nat) (g ng : Nat), ∃ X ng', k [.os 5 g 1 0 order_.length, .ptr 0 g0 0 0, .ptr 1 g1 0 0, .ptr 4 g4 0 0, .ptr 3 g3 0 0, .ptr 2 g2 0 0] [(Blk.mk g0 false 1 [[.fs (x0_0.map impl_Job.cells)]]), (Blk.mk g1 false 1 [[.int .i64 x1_0]]), (Blk.mk g2 false 1 [[.fs (st_.1.map (cI .i64))]]), (Blk.mk g3 false 1 [[.int .i64 st_.2.1]]), (Blk.mk g4 false 1 [[.int .i64 st_.2.2]]), (Blk.mk g false 1 (order_.map (cI .i64)))] ng = some (.tup [], [(Blk.mk g0 false 1 [[.fs (x0_0.map impl_Job.cells)]]), (Blk.mk g1 false 1 [[.int .i64 x1_0]]), (Blk.mk g2 false 1 [[.fs (r.1.map (cI .i64))]]), (Blk.mk g3 false 1 [[.int .i64 r.2.1]]), (Blk.mk g4 false 1 [[.int .i64 r.2.2]]), (Blk.mk g false 1 (order_.map (cI .i64)))] ++ X, ng')

def K_impl_best (φ : (List impl_Job) → Int → Option ((List Int) × Int × Int)) (k : Fun) : Prop := ∀ (jobs_ : (List impl_Job)) (objective_ : Int) r, φ jobs_ objective_ = some r → Ret k [.fs (jobs_.map impl_Job.cells), .int .i64 objective_] (.tup [.fs (r.1.map (cI .i64)), .int .i64 r.2.1, .int .i64 r.2.2])

def K_impl_BestValue (φ : (List impl_Job) → Int → Option (Int × Bool)) (k : Fun) : Prop := ∀ (jobs_ : (List impl_Job)) (objective_ : Int) r, φ jobs_ objective_ = some r → RetF k [.fs (jobs_.map impl_Job.cells), .int .i64 objective_] (.tup [.int .i64 r.1, .bool r.2])

def K_spec_l1Has (φ : (List Int) → Int → Option Bool) (k : Fun) : Prop := ∀ (l_ : (List Int)) (n_ : Int) r, φ l_ n_ = some r → RetF k [.fs (l_.map (cI .i64)), .int .i64 n_] (.bool r)

def K_spec_l1Own (φ : (List Int) → Option (List Int)) (k : Fun) : Prop := ∀ (l_ : (List Int)) r, φ l_ = some r → RetO k [.fs (l_.map (cI .i64))] 1 (r.map (cI .i64))

def K_spec_l2Starts (φ : (List impl_Job) → (List Int) → Option (List Int)) (k : Fun) : Prop := ∀ (jobs_ : (List impl_Job)) (order_ : (List Int)) r, φ jobs_ order_ = some r → RetO k [.fs (jobs_.map impl_Job.cells), .fs (order_.map (cI .i64))] 1 (r.map (cI .i64))

def K_spec_l2Ends (φ : (List impl_Job) → (List Int) → Option (List Int)) (k : Fun) : Prop := ∀ (jobs_ : (List impl_Job)) (order_ : (List Int)) r, φ jobs_ order_ = some r → RetO k [.fs (jobs_.map impl_Job.cells), .fs (order_.map (cI .i64))] 1 (r.map (cI .i64))

def K_spec_l2Of (φ : (List impl_Job) → (List Int) → Int → Option Int) (k : Fun) : Prop := ∀ (jobs_ : (List impl_Job)) (ends_ : (List Int)) (objective_ : Int) r, φ jobs_ ends_ objective_ = some r → RetF k [.fs (jobs_.map impl_Job.cells), .fs (ends_.map (cI .i64)), .int .i64 objective_] (.int .i64 r)

def K_spec_l2Value (φ : (List impl_Job) → (List Int) → Int → Option Int) (k : Fun) : Prop := ∀ (jobs_ : (List impl_Job)) (order_ : (List Int)) (objective_ : Int) r, φ jobs_ order_ objective_ = some r → RetF k [.fs (jobs_.map impl_Job.cells), .fs (order_.map (cI .i64)), .int .i64 objective_] (.int .i64 r)

def K_spec_l2Try (φ : (List impl_Job) → (List Int) → Int → spec_l2Search → Option spec_l2Search) (k : Fun) : Prop := ∀ (jobs_ : (List impl_Job)) (begun_ : (List Int)) (objective_ : Int) (best_ : spec_l2Search) r, φ jobs_ begun_ objective_ best_ = some r → Ret k [.fs (jobs_.map impl_Job.cells), .fs (begun_.map (cI .i64)), .int .i64 objective_, .agg [.fs (best_.order.map (cI .i64)), .int .i64 best_.value, .int .i64 best_.count]] (.agg [.fs (r.order.map (cI .i64)), .int .i64 r.value, .int .i64 r.count])

def K_spec_l2All (φ : (List impl_Job) → Int → Option spec_l2Search) (k : Fun) : Prop := ∀ (jobs_ : (List impl_Job)) (objective_ : Int) r, φ jobs_ objective_ = some r → Ret k [.fs (jobs_.map impl_Job.cells), .int .i64 objective_] (.agg [.fs (r.order.map (cI .i64)), .int .i64 r.value, .int .i64 r.count])

def K_spec_l2Best (φ : (List impl_Job) → Int → Option ((List Int) × Int)) (k : Fun) : Prop := ∀ (jobs_ : (List impl_Job)) (objective_ : Int) r, φ jobs_ objective_ = some r → Ret k [.fs (jobs_.map impl_Job.cells), .int .i64 objective_] (.tup [.fs (r.1.map (cI .i64)), .int .i64 r.2])

def K_spec_BestValue (φ : (List impl_Job) → Int → Option (Int × Bool)) (k : Fun) : Prop := ∀ (jobs_ : (List impl_Job)) (objective_ : Int) r, φ jobs_ objective_ = some r → RetF k [.fs (jobs_.map impl_Job.cells), .int .i64 objective_] (.tup [.int .i64 r.1, .bool r.2])

def K_laws_rBest (φ : (List impl_Job) → Int → Option (Int × Bool)) (k : Fun) : Prop := ∀ (jobs_ : (List impl_Job)) (objective_ : Int) r, φ jobs_ objective_ = some r → RetF k [.fs (jobs_.map impl_Job.cells), .int .i64 objective_] (.tup [.int .i64 r.1, .bool r.2])

def K_impl_isNumber (φ : Int → Int → Option Bool) (k : Fun) : Prop := ∀ (i_ : Int) (n_ : Int) r, φ i_ n_ = some r → RetF k [.int .i64 i_, .int .i64 n_] (.bool r)

def K_impl_has (φ : (List Int) → Int → Option Bool) (k : Fun) : Prop := ∀ (list_ : (List Int)) (n_ : Int) r, φ list_ n_ = some r → RetF k [.fs (list_.map (cI .i64)), .int .i64 n_] (.bool r)

def K_impl_areDifferent (φ : Int → (List Int) → Option Bool) (k : Fun) : Prop := ∀ (n_ : Int) (list_ : (List Int)) r, φ n_ list_ = some r → RetF k [.int .i64 n_, .fs (list_.map (cI .i64))] (.bool r)

def K_impl_isOrder (φ : Int → (List Int) → Option Bool) (k : Fun) : Prop := ∀ (n_ : Int) (order_ : (List Int)) r, φ n_ order_ = some r → RetF k [.int .i64 n_, .fs (order_.map (cI .i64))] (.bool r)

def K_impl_isScheduled (φ : (List impl_Job) → (List Int) → Option Bool) (k : Fun) : Prop := ∀ (jobs_ : (List impl_Job)) (order_ : (List Int)) r, φ jobs_ order_ = some r → RetF k [.fs (jobs_.map impl_Job.cells), .fs (order_.map (cI .i64))] (.bool r)

def K_impl_isValued (φ : (List impl_Job) → (List Int) → Int → Option Bool) (k : Fun) : Prop := ∀ (jobs_ : (List impl_Job)) (order_ : (List Int)) (objective_ : Int) r, φ jobs_ order_ objective_ = some r → RetF k [.fs (jobs_.map impl_Job.cells), .fs (order_.map (cI .i64)), .int .i64 objective_] (.bool r)

def K_impl_ValueOf (φ : (List impl_Job) → (List Int) → Int → Option (Int × Bool)) (k : Fun) : Prop := ∀ (jobs_ : (List impl_Job)) (order_ : (List Int)) (objective_ : Int) r, φ jobs_ order_ objective_ = some r → RetF k [.fs (jobs_.map impl_Job.cells), .fs (order_.map (cI .i64)), .int .i64 objective_] (.tup [.int .i64 r.1, .bool r.2])

def K_laws_FnSetValues (φ : (List Int) → Option Bool) (k : Fun) : Prop := ∀ (t_ : (List Int)) r, φ t_ = some r → RetF k [.fs (t_.map (cI .u8))] (.bool r)

def K_impl_eachOrder__impl_best_c1 (k : Fun) : Prop := ∀ (x0_0 : (List impl_Job)) (x1_0 : Int) (a0_ : Int) (st_ : ((List Int) × Int × Int)) r, x_impl_eachOrder a0_ (x_impl_best_c1 x0_0 x1_0) st_ = some r → ∀ (g0 : Nat) (g1 : Nat) (g2 : Nat) (g3 : Nat) (g4 : Nat) (ng : Nat), ∃ X ng', k [.int .i64 a0_, .fn n_impl_best_c1 [.ptr 0 g0 0 0, .ptr 1 g1 0 0, .ptr 4 g4 0 0, .ptr 3 g3 0 0, .ptr 2 g2 0 0]] [(Blk.mk g0 false 1 [[.fs (x0_0.map impl_Job.cells)]]), (Blk.mk g1 false 1 [[.int .i64 x1_0]]), (Blk.mk g2 false 1 [[.fs (st_.1.map (cI .i64))]]), (Blk.mk g3 false 1 [[.int .i64 st_.2.1]]), (Blk.mk g4 false 1 [[.int .i64 st_.2.2]])] ng = some (.tup [], [(Blk.mk g0 false 1 [[.fs (x0_0.map impl_Job.cells)]]), (Blk.mk g1 false 1 [[.int .i64 x1_0]]), (Blk.mk g2 false 1 [[.fs (r.1.map (cI .i64))]]), (Blk.mk g3 false 1 [[.int .i64 r.2.1]]), (Blk.mk g4 false 1 [[.int .i64 r.2.2]])] ++ X, ng')

end Gh
