/- Plain laws: more draws; lists that are cut; equal lists. -/
import Derived.Test.YtebflkckndibiaaPg
namespace Gh
open Go
set_option linter.unusedSimpArgs false
set_option linter.unusedVariables false
set_option maxRecDepth 100000

theorem CK.start {code : List Int} (hc : ∀ z ∈ code, 0 ≤ z ∧ z < 256) (m : Nat) (hm : m < 1000000000) : CK m ⟨code, 0, 0⟩ := ⟨hc, by show (0 : Int) ≤ 0; omega, by show (0 : Int) + _ < _; omega⟩

theorem u8_range {a : Int} : 0 ≤ convK .u8 a ∧ convK .u8 a < 256 := by
  have e : (2 : Int) ^ 8 = 256 := by decide
  have hs : IntKind.u8.signed = false := rfl
  have hb : IntKind.u8.bits = 8 := rfl
  simp only [convK, IntKind.wrap, hs, hb, Bool.false_and, Bool.false_eq_true, if_false, e]
  omega

theorem vCut_ok {code : List Int} (hc : ∀ z ∈ code, 0 ≤ z ∧ z < 256) (hl : code.length ≤ 65536) (n : Nat) : ∃ r, x_laws_vCut code (n : Int) = some r ∧ ∀ z ∈ r, 0 ≤ z ∧ z < 256 := by
  unfold x_laws_vCut
  have last : ∀ (y : List Int) (b : Int), y.length ≤ 65536 → (∀ z ∈ y, 0 ≤ z ∧ z < 256) → ∃ r, (if fits y.length 1 then (app 1 y [convK .u8 b]).bind fun l => some l else none) = some r ∧ ∀ z ∈ r, 0 ≤ z ∧ z < 256 := by
    intro y b hy hz
    rw [if_pos (fits_ok (by omega) (by omega)), bind_some_of (app_ok (by simp; omega) (by omega))]
    refine ⟨_, rfl, fun z hz' => ?_⟩
    rcases List.mem_append.1 hz' with h | h
    · exact hz z h
    · have : z = convK .u8 b := by simpa using h
      rw [this]; exact u8_range
  by_cases h : (code.length : Int) < n
  · rw [if_pos h, bind_some_of (cut_ok (Nat.le_refl _) (Nat.le_refl _))]
    exact last _ _ (by simp) (fun z hz => hc z (List.mem_of_mem_take (List.mem_of_mem_drop hz)))
  · rw [if_neg h, bind_some_of (cut_ok (by omega) (Nat.le_refl _))]
    exact last _ _ (by simp; omega) (fun z hz => hc z (List.mem_of_mem_take (List.mem_of_mem_drop hz)))

theorem jobs_ok {m : Nat} {c : spec_l1Cur} (h : CK (m + 302) c) : ∃ r c', x_spec_l1Cur_jobs c = some (r, c') ∧ CK m c' ∧ (r.length ≤ 6 ∨ r.length = 9) := by
  obtain ⟨b, c1, e1, h1⟩ := one_ok (m := m + 300) h 2
  obtain ⟨r, c2, e2, h2, h3⟩ := someJobs_ok (m := m) h1 b 6 (by omega)
  have e2' : x_spec_l1Cur_someJobs c1 b 6 = some (r, c2) := e2
  exact ⟨r, c2, by unfold x_spec_l1Cur_jobs; rw [bind_some_of e1, bind_some_of e2'], h2, h3⟩

theorem plain3_ok {m : Nat} {c : spec_l1Cur} (h : CK (m + 400) c) : ∃ r c', x_spec_l1Cur_plain3 c = some (r, c') ∧ CK m c' ∧ (r.length ≤ 6 ∨ r.length = 9) := by
  obtain ⟨l, c1, e1, h1, hl⟩ := jobs_ok (m := m + 98) h
  obtain ⟨b, c2, e2, h2⟩ := one_ok (m := m + 96) h1 24
  unfold x_spec_l1Cur_plain3
  rw [bind_some_of e1, bind_some_of e2]
  split
  · exact ⟨_, _, rfl, h2.mono (by omega), hl⟩
  · have key := loopS_inv (b := x_spec_l1Cur_plain3_l0) (fun i (s : List impl_Job × List Int × Int × Int × Int) => s.1.length = l.length ∧ s.2.2.2.2 = (i : Int) ∧ CK (m + 96 - 2 * i) ⟨s.2.1, s.2.2.1, s.2.2.2.1⟩)
      (fun p : List impl_Job × List Int × Int × Int => p.1.length = l.length ∧ CK m ⟨p.2.1, p.2.2.1, p.2.2.2⟩) l.length (by
      rintro i ⟨l', k0, k1, k2, i'⟩ hi ⟨a1, a2, a3⟩
      simp only at a1 a2 a3
      subst a2
      unfold x_spec_l1Cur_plain3_l0
      simp only
      have hi' : i < l'.length := by omega
      rw [if_pos (by omega), bind_some_of (ix_lt hi'), bind_some_of (put_lt hi' _), inc_i (by omega)]
      by_cases h0 : (0 : Int) < i
      · rw [if_pos h0]
        obtain ⟨b', c3, e3, h3⟩ := one_ok (m := m + 96 - 2 * (i + 1)) (c := ⟨k0, k1, k2⟩) (a3.mono (by omega)) 3
        have hs : subK .i64 (i : Int) 1 = ((i - 1 : Nat) : Int) := by rw [sub_i (by omega) (by omega)]; omega
        rw [bind_some_of e3]
        by_cases hb : b' = true
        · rw [if_pos hb, hs, bind_some_of (ix_lt (by simp; omega)), bind_some_of (ix_lt (by simp; omega)), bind_some_of (put_lt (by simp; omega) _), bind_some_of (ix_lt (by simp; omega)), bind_some_of (ix_lt (by simp; omega)), bind_some_of (put_lt (by simp; omega) _)]
          exact .inl ⟨_, rfl, by simp [a1], rfl, h3⟩
        · rw [if_neg hb]
          exact .inl ⟨_, rfl, by simp [a1], rfl, h3⟩
      · rw [if_neg h0]
        exact .inl ⟨_, rfl, by simp [a1], rfl, a3.mono (by omega)⟩) (by
      rintro ⟨l', k0, k1, k2, i'⟩ ⟨a1, a2, a3⟩
      simp only at a1 a2 a3
      subst a2
      unfold x_spec_l1Cur_plain3_l0
      simp only
      rw [if_neg (by omega)]
      exact ⟨_, rfl, a1, a3.mono (by omega)⟩) (LL_lt (by omega)) (l, c2.code, c2.at_, c2.seed, 0) ⟨rfl, rfl, h2⟩
    obtain ⟨p, e3, h3, h4⟩ := key
    rw [bind_some_of e3]
    exact ⟨_, _, rfl, h4, by rw [h3]; exact hl⟩

theorem order_ok {m : Nat} {c : spec_l1Cur} (h : CK (m + 200) c) (n : Nat) (hn : n ≤ 10) : ∃ r c', x_spec_l1Cur_order c (n : Int) = some (r, c') ∧ CK m c' ∧ r.length ≤ 11 := by
  unfold x_spec_l1Cur_order
  have key := loopS_inv (b := x_spec_l1Cur_order_l0 (n : Int)) (fun i (s : List Int × List Int × Int × Int × Int) => s.1.length = i ∧ s.2.2.2.2 = (i : Int) ∧ CK (m + 200 - 2 * i) ⟨s.2.1, s.2.2.1, s.2.2.2.1⟩)
    (fun p : List Int × List Int × Int × Int => p.1.length = n ∧ CK (m + 100) ⟨p.2.1, p.2.2.1, p.2.2.2⟩) n (by
    rintro i ⟨l, k0, k1, k2, i'⟩ hi ⟨a1, a2, a3⟩
    simp only at a1 a2 a3
    subst a2
    unfold x_spec_l1Cur_order_l0
    simp only
    have hadd : addK .i64 (l.length : Int) 1 = ((l.length + 1 : Nat) : Int) := inc_i (by omega)
    obtain ⟨r, c3, e3, h3, b1, b2⟩ := pick_ok (m := m + 200 - 2 * (i + 1)) (c := ⟨k0, k1, k2⟩) (a3.mono (by omega)) ((l.length + 1 : Nat) : Int)
    obtain ⟨k, rfl⟩ := Int.eq_ofNat_of_zero_le b1
    have hk : k ≤ l.length := by omega
    have w1 : win l 0 k = some (l.take k) := by unfold win; rw [if_pos (by omega)]; simp
    have w2 : win l k (l.length - k) = some (l.drop k) := by unfold win; rw [if_pos (by omega), List.take_of_length_le (by simp)]
    rw [if_pos (by omega), hadd, bind_some_of e3]
    simp only [Int.ofNat_eq_natCast, Int.toNat_natCast]
    rw [if_pos (by omega), bind_some_of w1, if_pos (fits_ok (by simp; omega) (by omega)), bind_some_of (app_ok (by simp; omega) (by omega)), if_pos (by omega), bind_some_of w2, bind_some_of (app_ok (by simp; omega) (by omega)), inc_i (by omega)]
    exact .inl ⟨_, rfl, by simp; omega, rfl, h3⟩) (by
    rintro ⟨l, k0, k1, k2, i'⟩ ⟨a1, a2, a3⟩
    simp only at a1 a2 a3
    subst a2
    unfold x_spec_l1Cur_order_l0
    simp only
    rw [if_neg (by omega)]
    exact ⟨_, rfl, a1, a3.mono (by omega)⟩) (LL_lt (by omega)) ([], c.code, c.at_, c.seed, 0) ⟨rfl, rfl, h⟩
  obtain ⟨p, e1, h1, h2⟩ := key
  obtain ⟨b, c2, e2, h3⟩ := one_ok (m := m + 98) (c := ⟨p.2.1, p.2.2.1, p.2.2.2⟩) h2 30
  rw [bind_some_of e1, bind_some_of e2]
  split
  · obtain ⟨x, c3, e3, h4, _⟩ := among_ok (m := m + 96) h3 [0, (n : Int), (-1)] (by simp)
    rw [bind_some_of e3, bind_some_of (app_ok (by simp; omega) (by omega))]
    exact ⟨_, _, rfl, h4.mono (by omega), by simp; omega⟩
  · exact ⟨_, _, rfl, h3.mono (by omega), by omega⟩

theorem ruled3_ok {m : Nat} {c : spec_l1Cur} (h : CK (m + 410) c) : ∃ l obj c', x_spec_l1Cur_ruled3 c = some ((l, obj), c') ∧ CK m c' ∧ (l.length ≤ 6 ∨ l.length = 9) := by
  obtain ⟨x, c1, e1, h1, b1, b2⟩ := pick_ok (m := m + 408) h 4
  obtain ⟨b, c2, e2, h2⟩ := one_ok (m := m + 406) h1 24
  unfold x_spec_l1Cur_ruled3
  rw [bind_some_of e1, bind_some_of e2]
  have tail : ∀ (c : spec_l1Cur) (obj : Int), CK (m + 400) c → ∃ l obj' c', (if obj = 1 then (x_spec_l1Cur_jobs c).bind fun r21 => some ((r21.1, obj), r21.2) else (x_spec_l1Cur_plain3 c).bind fun r25 => some ((r25.1, obj), r25.2)) = some ((l, obj'), c') ∧ CK m c' ∧ (l.length ≤ 6 ∨ l.length = 9) := by
    intro c obj hc
    split
    · obtain ⟨l, c3, e3, h3, hl⟩ := jobs_ok (m := m + 98) hc
      rw [bind_some_of e3]; exact ⟨_, _, _, rfl, h3.mono (by omega), hl⟩
    · obtain ⟨l, c3, e3, h3, hl⟩ := plain3_ok (m := m) hc
      rw [bind_some_of e3]; exact ⟨_, _, _, rfl, h3, hl⟩
  split
  · obtain ⟨y, c3, e3, h3, _⟩ := among_ok (m := m + 404) h2 [0, 5, 8, (-1)] (by simp)
    rw [bind_some_of e3]
    exact tail c3 y (h3.mono (by omega))
  · exact tail c2 _ (h2.mono (by omega))
end Gh
