/- Plain laws: the law of ruled orders. -/
import Derived.Test.YtebflkckndibiaaQc
namespace Gh
open Go
set_option linter.unusedSimpArgs false
set_option linter.unusedVariables false
set_option maxRecDepth 100000

theorem cover : ∀ (m l : List Int), m.Nodup → (∀ x ∈ m, x ∈ l) → l.length ≤ m.length → l.Perm m
  | [], l, _, _, h => by
    have : l = [] := List.length_eq_zero_iff.1 (by simpa using h)
    subst this; exact List.Perm.refl _
  | a :: m, l, hn, hs, h => by
    have ha := hs a (by simp)
    have hn' := List.nodup_cons.1 hn
    have h1 := List.perm_cons_erase ha
    refine h1.trans (List.Perm.cons a (cover m _ hn'.2 (fun x hx => ?_) ?_))
    · exact (List.mem_erase_of_ne (fun e => by subst e; exact hn'.1 hx)).2 (hs x (List.mem_cons_of_mem _ hx))
    · have := List.length_erase_of_mem ha
      simp at h
      omega

theorem all_order {l : List Int} {n : Nat} (hl : l.length = n) (ha : ∀ i, i < n → (i : Int) ∈ l) : ∃ p, l = ic p ∧ IsOrd n p := by
  have h := cover (ic (List.range n)) l (List.pairwise_map.2 (List.nodup_range.imp fun h e => h (by omega))) (fun x hx => by
    obtain ⟨i, hi, rfl⟩ := ic_mem.1 hx
    exact ha i (by simpa using hi)) (by rw [ic_len, hl]; simp)
  obtain ⟨q, e, hq⟩ := ic_perm h
  exact ⟨q, e, IsOrd.of_perm hq⟩

/-- The program's own test of an order. -/
theorem l2Order_eq (n : Nat) (hn : n ≤ 8) (l : List Int) (hl : l.length < 900000) : ∃ b, x_spec_l2Order (n : Int) l = some b ∧ (b = true ↔ ∃ p, l = ic p ∧ IsOrd n p) := by
  unfold x_spec_l2Order
  rw [bind_some_of (l1In_eq _ _ _), if_pos (by simp; omega)]
  by_cases h : (l.length : Int) = (n : Int)
  · rw [if_pos h]
    have hln : l.length = n := by omega
    obtain ⟨p, e, hp⟩ := scan (n := n) (b := x_spec_l2Order_l0 (n : Int) l) false (fun i => (i : Int) ∈ l) (by
      intro i hi
      unfold x_spec_l2Order_l0
      rw [if_pos (by omega), bind_some_of (l1Has_eq l (i : Int) hl)]
      by_cases hm : (i : Int) ∈ l
      · exact .inl ⟨hm, by rw [if_pos (by simpa using hm), inc_i (by omega)]⟩
      · exact .inr ⟨hm, if_neg (by simpa using hm)⟩) (by
      unfold x_spec_l2Order_l0
      rw [if_neg (by omega)]) (by omega)
    rw [bind_some_of e]
    rcases hp with ⟨rfl, ha⟩ | ⟨rfl, i, hi, ha⟩
    · exact ⟨true, rfl, fun _ => all_order hln ha, fun _ => rfl⟩
    · refine ⟨false, rfl, fun h => (by cases h), ?_⟩
      rintro ⟨p, rfl, hp⟩
      exact absurd (ic_mem.2 ⟨i, hp.all hi, rfl⟩) ha
  · rw [if_neg h]
    refine ⟨false, rfl, fun h => (by cases h), ?_⟩
    rintro ⟨p, rfl, hp⟩
    exact absurd (by rw [ic_len, hp.1]) h

/-- Two jobs of an order in each other's place. -/
theorem swap_len {o : List Int} (hl : o.length ≤ 1000000) {i : Nat} (h : i + 1 < o.length) : ∃ q, x_spec_l2Swap o (i : Int) = some q ∧ q.length = o.length := by
  unfold x_spec_l2Swap
  rw [bind_some_of (l1Own_eq hl), inc_i (by omega), bind_some_of (ix_lt h), bind_some_of (ix_lt (show i < o.length by omega)), bind_some_of (put_lt (show i < o.length by omega) _), bind_some_of (ix_lt (show i < o.length by omega)), bind_some_of (ix_lt (show i + 1 < (o.set i _).length by simpa using h)), bind_some_of (put_lt (show i + 1 < (o.set i _).length by simpa using h) _)]
  exact ⟨_, rfl, by simp⟩

theorem DrawIsRuledOrder_ok {code : List Int} (hc : ∀ z ∈ code, 0 ≤ z ∧ z < 256) : ∃ l o obj, x_spec_DrawIsRuledOrder code = some (l, o, obj) ∧ (l.length ≤ 6 ∨ l.length = 9) ∧ o.length < 900000 := by
  unfold x_spec_DrawIsRuledOrder
  obtain ⟨l, obj, c1, e1, h1, hl⟩ := ruled3_ok (m := 1000) (CK.start hc 1410 (by omega))
  have hl9 : l.length ≤ 10 := by omega
  obtain ⟨o, c2, e2, h2, ho⟩ := order_ok (m := 800) (c := c1) h1 l.length hl9
  obtain ⟨b3, c3, e3, h3⟩ := one_ok (m := 798) (c := c2) h2 2
  rw [bind_some_of e1]
  simp only
  rw [bind_some_of e2, bind_some_of (l3Ruled_eq l obj (by omega))]
  simp only
  by_cases hr : ruled l obj
  · rw [if_pos (by simpa using hr), bind_some_of e3]
    obtain ⟨r, e4, h4, _⟩ := l3Order_eq hr.1 obj
    cases b3 with
    | false => rw [if_neg (by simp)]; exact ⟨_, _, _, rfl, hl, by omega⟩
    | true =>
      rw [if_pos rfl, bind_some_of e4]
      have hrl : (ic r).length = l.length := by rw [ic_len, h4.1]
      by_cases h1l : 1 < ((ic r).length : Int)
      · obtain ⟨b5, c5, e5, h5⟩ := one_ok (m := 796) (c := c3) h3 2
        rw [if_pos h1l, bind_some_of e5]
        cases b5 with
        | false => rw [if_neg (by simp)]; exact ⟨_, _, _, rfl, hl, by omega⟩
        | true =>
          obtain ⟨x, c6, e6, h6, g1, g2⟩ := pick_ok (m := 794) (c := c5) h5 (subK .i64 ((ic r).length : Int) 1)
          rw [if_pos rfl, bind_some_of e6]
          rw [sub_i (by omega) (by omega)] at g2
          obtain ⟨i, rfl⟩ := Int.eq_ofNat_of_zero_le g1
          obtain ⟨q, e7, h7⟩ := swap_len (o := ic r) (by omega) (i := i) (by omega)
          rw [bind_some_of e7]
          exact ⟨_, _, _, rfl, hl, by omega⟩
      · rw [if_neg h1l]; exact ⟨_, _, _, rfl, hl, by omega⟩
  · rw [if_neg (by simpa using hr)]; exact ⟨_, _, _, rfl, hl, by omega⟩
end Gh
