/- Plain laws: numbers, lists, and what is drawn. -/
import Derived.Test.YtmjdjnphjpcfcaaSa
namespace Gh
open Go
set_option linter.unusedSimpArgs false
set_option linter.unusedVariables false
section
variable {a b : Int}

theorem add_i (h1 : -9223372036854775808 ≤ a + b) (h2 : a + b < 9223372036854775808) : addK .i64 a b = a + b := wrap_i64 h1 h2

theorem sub_i (h1 : -9223372036854775808 ≤ a - b) (h2 : a - b < 9223372036854775808) : subK .i64 a b = a - b := wrap_i64 h1 h2

theorem mul_i (h1 : -9223372036854775808 ≤ a * b) (h2 : a * b < 9223372036854775808) : mulK .i64 a b = a * b := wrap_i64 h1 h2

theorem conv_i (h1 : -9223372036854775808 ≤ a) (h2 : a < 9223372036854775808) : convK .i64 a = a := wrap_i64 h1 h2

theorem inc_i {n : Nat} (h : n < 1000000000) : addK .i64 (n : Int) 1 = ((n + 1 : Nat) : Int) := by rw [add_i (by omega) (by omega)]; rfl

theorem mx_eq : mxK a b = max a b := by unfold mxK; rw [Int.max_def]; split <;> split <;> omega
end

theorem u64_and (a : Int) : 0 ≤ andK .u64 a 255 ∧ andK .u64 a 255 ≤ 255 := by
  have h1 : (BitVec.ofInt IntKind.u64.bits a &&& BitVec.ofInt IntKind.u64.bits 255).toNat ≤ 255 := by
    rw [BitVec.toNat_and]
    have e1 : (BitVec.ofInt IntKind.u64.bits 255).toNat = 255 := by decide
    rw [e1]
    exact Nat.and_le_right
  unfold andK
  generalize (BitVec.ofInt IntKind.u64.bits a &&& BitVec.ofInt IntKind.u64.bits 255).toNat = n at h1
  have e : (2 : Int) ^ 64 = 18446744073709551616 := by decide
  have hs : IntKind.u64.signed = false := rfl
  have hb : IntKind.u64.bits = 64 := rfl
  simp only [IntKind.wrap, hs, hb, Bool.false_and, Bool.false_eq_true, if_false, e]
  omega
section
variable {α : Type}

theorem ix_cast (l : List α) (i : Nat) : ix l (i : Int) = l[i]? := by simp [ix]

theorem ix_lt {l : List α} {i : Nat} (h : i < l.length) : ix l (i : Int) = some l[i] := by rw [ix_cast]; exact List.getElem?_eq_getElem h

theorem ix_int {l : List α} {e : Int} (h0 : 0 ≤ e) (h1 : e < (l.length : Int)) : ∃ y, ix l e = some y ∧ y ∈ l := by
  obtain ⟨i, rfl⟩ := Int.eq_ofNat_of_zero_le h0
  have hi : i < l.length := by omega
  exact ⟨l[i], ix_lt hi, List.getElem_mem hi⟩

theorem put_lt {l : List α} {i : Nat} (h : i < l.length) (x : α) : put l (i : Int) x = some (l.set i x) := by simp [put, h]

theorem put_int {l : List α} {e : Int} (h0 : 0 ≤ e) (h1 : e < (l.length : Int)) (x : α) : put l e x = some (l.set e.toNat x) := by simp [put, h0, h1]

theorem fits_ok {n b : Nat} (h : n ≤ 1000000) (hb : b ≤ 1000) : fits n b := by
  have := Nat.mul_le_mul h hb
  unfold fits room
  omega

theorem app_ok {l m : List α} {b : Nat} (h : l.length + m.length ≤ 1000000) (hb : b ≤ 1000) : app b l m = some (l ++ m) := by simp [app, fits_ok h hb]

theorem mk_ok {n b : Nat} {z : α} (h : n ≤ 1000000) (hb : b ≤ 1000) : mk b (n : Int) z = some (List.replicate n z) := by simp [mk, fits_ok h hb]

theorem cut_ok {l : List α} {lo hi : Nat} (h1 : lo ≤ hi) (h2 : hi ≤ l.length) : cut l (lo : Int) (hi : Int) = some ((l.take hi).drop lo) := by
  have : (lo : Int) ≤ hi ∧ (hi : Int) ≤ l.length := by omega
  simp [cut, this]

theorem LL_lt {n : Nat} (h : n < 1000000) : n < LL := h
end

theorem bind_some_of {α β : Type} {x : Option α} {y : α} {f : α → Option β} (h : x = some y) : x.bind f = f y := by rw [h]; rfl

/-- A cursor with room for 'm' more bytes. -/
def CK (m : Nat) (c : spec_l1Cur) : Prop := (∀ z ∈ c.code, 0 ≤ z ∧ z < 256) ∧ 0 ≤ c.at_ ∧ c.at_ + (m : Int) < 4611686018427387904

theorem CK.mono {m k : Nat} {c : spec_l1Cur} (h : CK m c) (hk : k ≤ m) : CK k c := ⟨h.1, h.2.1, by have := h.2.2; omega⟩

theorem next_ok {m : Nat} {c : spec_l1Cur} (h : CK (m + 1) c) : ∃ r c', x_spec_l1Cur_next c = some (r, c') ∧ CK m c' ∧ 0 ≤ r ∧ r ≤ 255 := by
  obtain ⟨h1, h2, h3⟩ := h
  have ha : addK .i64 c.at_ 1 = c.at_ + 1 := add_i (by omega) (by omega)
  have hck : ∀ s, CK m (spec_l1Cur.mk c.code (addK .i64 c.at_ 1) s) := fun s => ⟨h1, by show 0 ≤ addK .i64 c.at_ 1; omega, by show addK .i64 c.at_ 1 + (m : Int) < _; rw [ha]; omega⟩
  have hl : ∀ x, 0 ≤ convK .i64 (andK .u64 x 255) ∧ convK .i64 (andK .u64 x 255) ≤ 255 := fun x => by
    have := u64_and x
    rw [conv_i (by omega) (by omega)]
    exact this
  unfold x_spec_l1Cur_next
  by_cases k1 : c.at_ < (c.code.length : Int)
  · obtain ⟨y, hy, hm⟩ := ix_int h2 k1
    have hb := h1 y hm
    have hcv : convK .i64 y = y := conv_i (by omega) (by omega)
    rw [if_pos k1, hy]
    simp only [Option.bind_some]
    split
    · exact ⟨_, _, rfl, hck _, by omega, by omega⟩
    · exact ⟨_, _, rfl, hck _, (hl _).1, (hl _).2⟩
  · rw [if_neg k1]
    split
    · exact ⟨_, _, rfl, hck _, by omega, by omega⟩
    · exact ⟨_, _, rfl, hck _, (hl _).1, (hl _).2⟩

theorem pick_ok {m : Nat} {c : spec_l1Cur} (h : CK (m + 2) c) (n : Int) : ∃ r c', x_spec_l1Cur_pick c n = some (r, c') ∧ CK m c' ∧ 0 ≤ r ∧ (r < n ∨ r = 0) := by
  unfold x_spec_l1Cur_pick
  by_cases k1 : n ≤ 1
  · rw [if_pos k1]; exact ⟨_, _, rfl, h.mono (by omega), by omega, .inr rfl⟩
  · obtain ⟨r, c1, e1, h1, b1, b2⟩ := next_ok (m := m + 1) h
    rw [if_neg k1, bind_some_of e1]
    have hn0 : ¬ n = 0 := by omega
    by_cases k2 : 200 < n
    · obtain ⟨r2, c2, e2, h2, b3, b4⟩ := next_ok (m := m) h1
      rw [if_pos k2, bind_some_of e2, if_neg hn0]
      refine ⟨_, _, rfl, h2, ?_, .inl ?_⟩
      · show 0 ≤ Int.tmod _ n
        exact Int.tmod_nonneg _ (by rw [mul_i (by omega) (by omega), add_i (by omega) (by omega)]; omega)
      · exact Int.tmod_lt_of_pos _ (by omega)
    · rw [if_neg k2, if_neg hn0]
      refine ⟨_, _, rfl, h1.mono (by omega), Int.tmod_nonneg _ b1, .inl (Int.tmod_lt_of_pos _ (by omega))⟩

theorem one_ok {m : Nat} {c : spec_l1Cur} (h : CK (m + 2) c) (n : Int) : ∃ r c', x_spec_l1Cur_one c n = some (r, c') ∧ CK m c' := by
  obtain ⟨r, c1, e1, h1, _⟩ := pick_ok h n
  exact ⟨_, _, bind_some_of e1, h1⟩

theorem among_ok {m : Nat} {c : spec_l1Cur} (h : CK (m + 2) c) (l : List Int) (hl : l ≠ []) : ∃ r c', x_spec_l1Cur_among c l = some (r, c') ∧ CK m c' ∧ r ∈ l := by
  obtain ⟨r, c1, e1, h1, b1, b2⟩ := pick_ok h (l.length : Int)
  have hp : 0 < l.length := List.length_pos_iff.2 hl
  obtain ⟨y, hy, hm⟩ := ix_int (l := l) b1 (by omega)
  exact ⟨y, c1, by unfold x_spec_l1Cur_among; rw [bind_some_of e1, bind_some_of hy], h1, hm⟩

theorem spoiltJob_ok {m : Nat} {c : spec_l1Cur} (h : CK (m + 4) c) (j : impl_Job) : ∃ r c', x_spec_l1Cur_spoiltJob c j = some (r, c') ∧ CK m c' := by
  obtain ⟨r, c1, e1, h1, _⟩ := pick_ok (m := m + 2) h 4
  unfold x_spec_l1Cur_spoiltJob
  rw [bind_some_of e1]
  split
  · obtain ⟨x, c2, e2, h2, _⟩ := among_ok (m := m) h1 [0, 50, 51, (-1), 4611686018427387904] (by simp)
    rw [bind_some_of e2]; exact ⟨_, _, rfl, h2⟩
  · split
    · obtain ⟨x, c2, e2, h2, _⟩ := among_ok (m := m) h1 [(-1), 50, 51] (by simp)
      rw [bind_some_of e2]; exact ⟨_, _, rfl, h2⟩
    · split
      · obtain ⟨x, c2, e2, h2, _⟩ := among_ok (m := m) h1 [(-1), 500, 501] (by simp)
        rw [bind_some_of e2]; exact ⟨_, _, rfl, h2⟩
      · obtain ⟨x, c2, e2, h2, _⟩ := among_ok (m := m) h1 [(-1), 500, 501, (-9223372036854775808)] (by simp)
        rw [bind_some_of e2]; exact ⟨_, _, rfl, h2⟩

theorem job_ok {m : Nat} {c : spec_l1Cur} (h : CK (m + 8) c) (b : Bool) : ∃ r c', x_spec_l1Cur_job c b = some (r, c') ∧ CK m c' := by
  obtain ⟨t, c1, e1, h1, _⟩ := among_ok (m := m + 6) h [1, 2, 3, 4, 5, 7, 9] (by simp)
  obtain ⟨w, c2, e2, h2, _⟩ := among_ok (m := m + 4) h1 [0, 1, 1, 2, 3, 5, 8] (by simp)
  obtain ⟨d, c3, e3, h3, _⟩ := pick_ok (m := m + 2) h2 24
  unfold x_spec_l1Cur_job
  rw [bind_some_of e1, bind_some_of e2, bind_some_of e3]
  split
  · obtain ⟨q, c4, e4, h4, _⟩ := pick_ok (m := m) h3 12
    rw [bind_some_of e4]; exact ⟨_, _, rfl, h4⟩
  · exact ⟨_, _, rfl, h3.mono (by omega)⟩

/-- Jobs one by one, at most 'most' of them. -/
theorem jobs_loop0 {m : Nat} (b : Bool) (most : Nat) (hm : most ≤ 9) (l : List impl_Job) (c : spec_l1Cur) (n : Int) (hn : n ≤ 100) (hn0 : -100 ≤ n) (h : CK (m + 100) c) (hl : l.length = 0) :
    ∃ p, loopS (x_spec_l1Cur_someJobs_l0 b (most : Int)) LL (l, c.code, c.at_, c.seed, n) = some p ∧ CK m ⟨p.2.1, p.2.2.1, p.2.2.2⟩ ∧ p.1.length ≤ most := by
  refine loopS_inv (fun i (s : List impl_Job × List Int × Int × Int × Int) => s.1.length = i ∧ CK (m + 100 - 8 * i) ⟨s.2.1, s.2.2.1, s.2.2.2.1⟩ ∧ s.2.2.2.2 ≤ 100 ∧ -100 - (i : Int) ≤ s.2.2.2.2) (fun (p : List impl_Job × List Int × Int × Int) => CK m ⟨p.2.1, p.2.2.1, p.2.2.2⟩ ∧ p.1.length ≤ most) most ?_ ?_ (LL_lt (by omega)) _ ⟨hl, h, hn, by simpa using hn0⟩
  · rintro i ⟨l, k0, k1, k2, n⟩ hi ⟨h1, h2, h3, h4⟩
    simp only at h1 h2 h3 h4
    unfold x_spec_l1Cur_someJobs_l0
    simp only
    by_cases q1 : 0 < n
    · have q2 : (l.length : Int) < (most : Int) := by omega
      obtain ⟨j, c', e1, h5⟩ := job_ok (m := m + 100 - 8 * (i + 1)) (c := ⟨k0, k1, k2⟩) (h2.mono (by omega)) b
      have e2 : app 32 l [j] = some (l ++ [j]) := app_ok (by simp; omega) (by omega)
      rw [if_pos q1, if_pos q2, bind_some_of e1, bind_some_of e2]
      refine .inl ⟨_, rfl, by simp [h1], h5, ?_, ?_⟩
      · show subK .i64 n 1 ≤ 100; rw [sub_i (by omega) (by omega)]; omega
      · show -100 - ((i + 1 : Nat) : Int) ≤ subK .i64 n 1; rw [sub_i (by omega) (by omega)]; omega
    · rw [if_neg q1]; exact .inr ⟨_, rfl, h2.mono (by omega), by show l.length ≤ most; omega⟩
  · rintro ⟨l, k0, k1, k2, n⟩ ⟨h1, h2, h3, h4⟩
    simp only at h1 h2 h3 h4
    unfold x_spec_l1Cur_someJobs_l0
    simp only
    have q2 : ¬ (l.length : Int) < (most : Int) := by omega
    by_cases q1 : 0 < n
    · rw [if_pos q1, if_neg q2]; exact ⟨_, rfl, h2.mono (by omega), by show l.length ≤ most; omega⟩
    · rw [if_neg q1]; exact ⟨_, rfl, h2.mono (by omega), by show l.length ≤ most; omega⟩

theorem jobs_loop1 {m : Nat} (b : Bool) (l : List impl_Job) (c : spec_l1Cur) (h : CK (m + 100) c) (hl : l.length ≤ 9) :
    ∃ p, loopS (x_spec_l1Cur_someJobs_l1 b) LL (l, c.code, c.at_, c.seed) = some p ∧ CK m ⟨p.2.1, p.2.2.1, p.2.2.2⟩ ∧ p.1.length = 9 := by
  refine loopS_inv (fun i (s : List impl_Job × List Int × Int × Int) => s.1.length = l.length + i ∧ CK (m + 100 - 8 * i) ⟨s.2.1, s.2.2.1, s.2.2.2⟩) (fun (p : List impl_Job × List Int × Int × Int) => CK m ⟨p.2.1, p.2.2.1, p.2.2.2⟩ ∧ p.1.length = 9) (9 - l.length) ?_ ?_ (LL_lt (by omega)) _ ⟨rfl, h⟩
  · rintro i ⟨l', k0, k1, k2⟩ hi ⟨h1, h2⟩
    simp only at h1 h2
    unfold x_spec_l1Cur_someJobs_l1
    simp only
    have q2 : (l'.length : Int) < 9 := by omega
    obtain ⟨j, c', e1, h5⟩ := job_ok (m := m + 100 - 8 * (i + 1)) (c := ⟨k0, k1, k2⟩) (h2.mono (by omega)) b
    have e2 : app 32 l' [j] = some (l' ++ [j]) := app_ok (by simp; omega) (by omega)
    rw [if_pos q2, bind_some_of e1, bind_some_of e2]
    exact .inl ⟨_, rfl, by simp [h1]; omega, h5⟩
  · rintro ⟨l', k0, k1, k2⟩ ⟨h1, h2⟩
    simp only at h1 h2
    unfold x_spec_l1Cur_someJobs_l1
    simp only
    have q2 : ¬ (l'.length : Int) < 9 := by omega
    rw [if_neg q2]
    exact ⟨_, rfl, h2.mono (by omega), by show l'.length = 9; omega⟩

theorem someJobs_ok {m : Nat} {c : spec_l1Cur} (h : CK (m + 300) c) (b : Bool) (most : Nat) (hm : most ≤ 9) : ∃ r c', x_spec_l1Cur_someJobs c b (most : Int) = some (r, c') ∧ CK m c' ∧ (r.length ≤ most ∨ r.length = 9) := by
  -- what comes behind the first loop
  have tail : ∀ (p : List impl_Job × List Int × Int × Int), CK (m + 150) ⟨p.2.1, p.2.2.1, p.2.2.2⟩ → p.1.length ≤ most →
      ∃ r c', (if 0 < ((p.1.length : Nat) : Int) then
        (x_spec_l1Cur_one (spec_l1Cur.mk p.2.1 p.2.2.1 p.2.2.2) 20).bind fun r34 =>
        if r34.1 = true then
          (x_spec_l1Cur_pick r34.2 ((p.1.length : Nat) : Int)).bind fun r41 =>
          (ix p.1 r41.1).bind fun y45 =>
          (x_spec_l1Cur_spoiltJob r41.2 y45).bind fun r50 =>
          (put p.1 r41.1 r50.1).bind fun l54 =>
          (x_spec_l1Cur_one r50.2 60).bind fun r60 =>
          if r60.1 = true then
            (loopS (x_spec_l1Cur_someJobs_l1 b) LL (l54, r60.2.code, r60.2.at_, r60.2.seed)).bind fun p67 =>
            some (p67.1, (spec_l1Cur.mk p67.2.1 p67.2.2.1 p67.2.2.2))
          else
            some (l54, r60.2)
        else
          (x_spec_l1Cur_one r34.2 60).bind fun r80 =>
          if r80.1 = true then
            (loopS (x_spec_l1Cur_someJobs_l1 b) LL (p.1, r80.2.code, r80.2.at_, r80.2.seed)).bind fun p87 =>
            some (p87.1, (spec_l1Cur.mk p87.2.1 p87.2.2.1 p87.2.2.2))
          else
            some (p.1, r80.2)
      else
        (x_spec_l1Cur_one (spec_l1Cur.mk p.2.1 p.2.2.1 p.2.2.2) 60).bind fun r100 =>
        if r100.1 = true then
          (loopS (x_spec_l1Cur_someJobs_l1 b) LL (p.1, r100.2.code, r100.2.at_, r100.2.seed)).bind fun p107 =>
          some (p107.1, (spec_l1Cur.mk p107.2.1 p107.2.2.1 p107.2.2.2))
        else
          some (p.1, r100.2)) = some (r, c') ∧ CK m c' ∧ (r.length ≤ most ∨ r.length = 9) := by
    intro p hp hpl
    have last : ∀ (l : List impl_Job) (c : spec_l1Cur), CK (m + 102) c → l.length ≤ most →
        ∃ r c', ((x_spec_l1Cur_one c 60).bind fun r60 =>
          if r60.1 = true then
            (loopS (x_spec_l1Cur_someJobs_l1 b) LL (l, r60.2.code, r60.2.at_, r60.2.seed)).bind fun p67 =>
            some (p67.1, (spec_l1Cur.mk p67.2.1 p67.2.2.1 p67.2.2.2))
          else
            some (l, r60.2)) = some (r, c') ∧ CK m c' ∧ (r.length ≤ most ∨ r.length = 9) := by
      intro l c hc hl
      obtain ⟨q, c1, e1, h1⟩ := one_ok (m := m + 100) hc 60
      rw [bind_some_of e1]
      split
      · obtain ⟨p, e2, h2, h3⟩ := jobs_loop1 (m := m) b l c1 h1 (by omega)
        rw [bind_some_of e2]
        exact ⟨_, _, rfl, h2, .inr h3⟩
      · exact ⟨_, _, rfl, h1.mono (by omega), .inl hl⟩
    split
    · rename_i hpos
      obtain ⟨q, c1, e1, h1⟩ := one_ok (m := m + 148) hp 20
      rw [bind_some_of e1]
      split
      · obtain ⟨i, c2, e2, h2, b1, b2⟩ := pick_ok (m := m + 146) h1 (p.1.length : Int)
        obtain ⟨y, hy, _⟩ := ix_int (l := p.1) b1 (by omega)
        obtain ⟨j, c3, e3, h3⟩ := spoiltJob_ok (m := m + 142) h2 y
        have e4 := put_int (l := p.1) b1 (by omega) j
        rw [bind_some_of e2, bind_some_of hy, bind_some_of e3, bind_some_of e4]
        exact last _ c3 (h3.mono (by omega)) (by simpa using hpl)
      · exact last _ c1 (h1.mono (by omega)) hpl
    · exact last _ _ (hp.mono (by omega)) hpl
  obtain ⟨n, c1, e1, h1, hn⟩ := among_ok (m := m + 298) h [3, 4, 5, 2, 6, 1, 0] (by simp)
  have hnb : 0 ≤ n ∧ n ≤ 6 := by simp at hn; omega
  unfold x_spec_l1Cur_someJobs
  rw [bind_some_of e1]
  split
  · obtain ⟨q, c2, e2, h2⟩ := one_ok (m := m + 296) h1 6
    rw [bind_some_of e2]
    split
    · obtain ⟨k, c3, e3, h3, b1, b2⟩ := pick_ok (m := m + 294) h2 2
      have e4 : addK .i64 7 k = 7 + k := add_i (by omega) (by omega)
      rw [bind_some_of e3]
      simp only
      rw [e4]
      obtain ⟨p, e5, h5, h6⟩ := jobs_loop0 (m := m + 150) b most hm [] c3 (7 + k) (by omega) (by omega) (h3.mono (by omega)) rfl
      rw [bind_some_of e5]
      exact tail p h5 h6
    · obtain ⟨p, e5, h5, h6⟩ := jobs_loop0 (m := m + 150) b most hm [] c2 n (by omega) (by omega) (h2.mono (by omega)) rfl
      rw [bind_some_of e5]
      exact tail p h5 h6
  · obtain ⟨p, e5, h5, h6⟩ := jobs_loop0 (m := m + 150) b most hm [] c1 n (by omega) (by omega) (h1.mono (by omega)) rfl
    rw [bind_some_of e5]
    exact tail p h5 h6
end Gh
