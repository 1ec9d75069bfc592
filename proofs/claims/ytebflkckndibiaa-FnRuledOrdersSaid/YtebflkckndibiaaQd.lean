/- Plain laws: the law of ruled orders. -/
import Derived.Test.YtebflkckndibiaaQc
namespace Gh
open Go
set_option linter.unusedSimpArgs false
set_option linter.unusedVariables false
set_option maxRecDepth 100000

theorem cover : ∀ (m l : List Int), m.Nodup → (∀ x ∈ m, x ∈ l) → l.length ≤ m.length → l.Perm m
  | [], l, _, _, h => by
    have : l = [] := List.length_eq_zero_iff.1 (by simpa using h)
    subst this; exact List.Perm.refl _
  | a :: m, l, hn, hs, h => by
    have ha := hs a (by simp)
    have hn' := List.nodup_cons.1 hn
    have h1 := List.perm_cons_erase ha
    refine h1.trans (List.Perm.cons a (cover m _ hn'.2 (fun x hx => ?_) ?_))
    · exact (List.mem_erase_of_ne (fun e => by subst e; exact hn'.1 hx)).2 (hs x (List.mem_cons_of_mem _ hx))
    · have := List.length_erase_of_mem ha
      simp at h
      omega

theorem all_order {l : List Int} {n : Nat} (hl : l.length = n) (ha : ∀ i, i < n → (i : Int) ∈ l) : ∃ p, l = ic p ∧ IsOrd n p := by
  have h := cover (ic (List.range n)) l (List.pairwise_map.2 (List.nodup_range.imp fun h e => h (by omega))) (fun x hx => by
    obtain ⟨i, hi, rfl⟩ := ic_mem.1 hx
    exact ha i (by simpa using hi)) (by rw [ic_len, hl]; simp)
  obtain ⟨q, e, hq⟩ := ic_perm h
  exact ⟨q, e, IsOrd.of_perm hq⟩

/-- The program's own test of an order. -/
theorem l2Order_eq (n : Nat) (hn : n ≤ 8) (l : List Int) (hl : l.length < 900000) : ∃ b, x_spec_l2Order (n : Int) l = some b ∧ (b = true ↔ ∃ p, l = ic p ∧ IsOrd n p) := by
  unfold x_spec_l2Order
  rw [bind_some_of (l1In_eq _ _ _), if_pos (by simp; omega)]
  by_cases h : (l.length : Int) = (n : Int)
  · rw [if_pos h]
    have hln : l.length = n := by omega
    obtain ⟨p, e, hp⟩ := scan (n := n) (b := x_spec_l2Order_l0 (n : Int) l) false (fun i => (i : Int) ∈ l) (by
      intro i hi
      unfold x_spec_l2Order_l0
      rw [if_pos (by omega), bind_some_of (l1Has_eq l (i : Int) hl)]
      by_cases hm : (i : Int) ∈ l
      · exact .inl ⟨hm, by rw [if_pos (by simpa using hm), inc_i (by omega)]⟩
      · exact .inr ⟨hm, if_neg (by simpa using hm)⟩) (by
      unfold x_spec_l2Order_l0
      rw [if_neg (by omega)]) (by omega)
    rw [bind_some_of e]
    rcases hp with ⟨rfl, ha⟩ | ⟨rfl, i, hi, ha⟩
    · exact ⟨true, rfl, fun _ => all_order hln ha, fun _ => rfl⟩
    · refine ⟨false, rfl, fun h => (by cases h), ?_⟩
      rintro ⟨p, rfl, hp⟩
      exact absurd (ic_mem.2 ⟨i, hp.all hi, rfl⟩) ha
  · rw [if_neg h]
    refine ⟨false, rfl, fun h => (by cases h), ?_⟩
    rintro ⟨p, rfl, hp⟩
    exact absurd (by rw [ic_len, hp.1]) h

/-- Both tests of a ruled order. -/
theorem isRuled_both (l : List impl_Job) (hl : l.length < 900000) (o : List Int) (hol : o.length < 900000) (obj : Int) : ∃ b ok, x_impl_IsRuledOrder l o obj = some (b, ok) ∧ x_spec_IsRuledOrder l o obj = some (b, ok) ∧
    (ok = true ↔ ruled l obj ∧ ∃ p, o = ic p ∧ IsOrd l.length p) ∧ ∀ p, ok = true → o = ic p → (b = true ↔ p.Pairwise fun a b => gap obj (jb l a) (jb l b) ≤ 0) := by
  unfold x_impl_IsRuledOrder x_spec_IsRuledOrder x_impl_isRuledAndOrdered x_spec_l3Both
  rw [bind_some_of (isRuled_eq l obj hl), bind_some_of (l3Ruled_eq l obj hl)]
  by_cases hr : ruled l obj
  · have hg := hr.1
    have h8 := hg.1
    rw [if_pos (by simpa using hr), if_pos (by simpa using hr)]
    obtain ⟨b1, e1, h1⟩ := isOrder_eq l.length hl o hol
    obtain ⟨b2, e2, h2⟩ := l2Order_eq l.length hg.1 o hol
    have hb : b2 = b1 := by rw [Bool.eq_iff_iff, h1, h2]
    subst hb
    rw [bind_some_of e1, bind_some_of e2, Option.bind_some, Option.bind_some]
    cases b2 with
    | false =>
      rw [if_neg (by simp), if_neg (by simp)]
      exact ⟨false, false, rfl, rfl, ⟨fun h => (by cases h), fun h => absurd (h1.2 h.2) (by simp)⟩, fun p h => (by cases h)⟩
    | true =>
      rw [if_pos rfl, if_pos rfl]
      obtain ⟨p, rfl, hp⟩ := h1.1 rfl
      have hol := hp.1
      obtain ⟨b, e3, h3⟩ := isRuledLoop_eq hg hp obj
      have key := loopS_inv (b := x_spec_l3Wrong_l0 l (ic p) obj) (fun i (s : Int) => s = (i : Int) ∧ ∀ k (h : k + 1 < p.length), k < i → gap obj (jb l p[k]) (jb l p[k + 1]) ≤ 0)
        (fun q => (q = .inl () ∧ ∀ k (h : k + 1 < p.length), gap obj (jb l p[k]) (jb l p[k + 1]) ≤ 0) ∨ (∃ i : Nat, q = .inr (i : Int)) ∧ ¬ ∀ k (h : k + 1 < p.length), gap obj (jb l p[k]) (jb l p[k + 1]) ≤ 0) (p.length - 1) (by
        rintro i s hi ⟨rfl, hs⟩
        have h1 : i + 1 < p.length := by omega
        have h0 : i < p.length := by omega
        have ha : p[i + 1] < l.length := hp.2.2 _ (List.getElem_mem h1)
        have hb : p[i] < l.length := hp.2.2 _ (List.getElem_mem h0)
        unfold x_spec_l3Wrong_l0
        simp only
        rw [inc_i (by omega), if_pos (by rw [ic_len]; omega), bind_some_of (ic_get h0), bind_some_of (ic_get h1), bind_some_of (l3Gap_eq hg hb ha obj)]
        by_cases hlt : 0 < gap obj (jb l p[i]) (jb l p[i + 1])
        · exact .inr ⟨_, if_pos hlt, .inr ⟨⟨i, rfl⟩, fun h => by have := h i h1; omega⟩⟩
        · refine .inl ⟨_, if_neg hlt, rfl, fun k hk hki => ?_⟩
          by_cases e : k = i
          · subst e; omega
          · exact hs k hk (by omega)) (by
        rintro s ⟨rfl, hs⟩
        unfold x_spec_l3Wrong_l0
        simp only
        rw [inc_i (by omega), if_neg (by rw [ic_len]; omega)]
        exact ⟨_, rfl, .inl ⟨rfl, fun k hk => hs k hk (by omega)⟩⟩) (LL_lt (by omega)) 0 ⟨rfl, fun k _ hk => absurd hk (Nat.not_lt_zero _)⟩
      obtain ⟨q, e4, h4⟩ := key
      rw [neighbors hg hp.2.2] at h4
      have hw : x_spec_l3Wrong l (ic p) obj = some (match q with | .inl _ => -1 | .inr i => i) := by
        unfold x_spec_l3Wrong
        rw [bind_some_of e4]
        cases q <;> rfl
      have hsw : (x_spec_l3Wrong l (ic p) obj).bind (fun r7 => some (decide (r7 < 0), true)) = some (b, true) := by
        rw [bind_some_of hw]
        congr 2
        rw [Bool.eq_iff_iff, decide_eq_true_eq, h3]
        rcases h4 with ⟨rfl, h⟩ | ⟨⟨i, rfl⟩, h⟩
        · exact ⟨fun _ => h, fun _ => (by show (-1 : Int) < 0; omega)⟩
        · exact ⟨fun hi => absurd hi (by show ¬ (i : Int) < 0; omega), fun h' => absurd h' h⟩
      refine ⟨b, true, ?_, hsw, ⟨fun _ => ⟨hr, p, rfl, hp⟩, fun _ => rfl⟩, fun p' _ e => ?_⟩
      · rw [bind_some_of e3]
        cases b <;> rfl
      · have := ic_inj e
        subst this
        exact h3
  · rw [if_neg (by simpa using hr), if_neg (by simpa using hr), Option.bind_some, Option.bind_some, if_neg (by simp), if_neg (by simp)]
    exact ⟨false, false, rfl, rfl, ⟨fun h => (by cases h), fun h => absurd h.1 hr⟩, fun p h => (by cases h)⟩

/-- Both orders of a ruled case. -/
theorem ruledOrder_both (l : List impl_Job) (hl : l.length < 900000) (obj : Int) : ∃ o ok, x_impl_RuledOrder l obj = some (o, ok) ∧ x_spec_RuledOrder l obj = some (o, ok) ∧ o.length < 900000 ∧
    (ok = true → ruled l obj ∧ ∃ r, o = ic r ∧ IsOrd l.length r ∧ r.Pairwise (rsoon l obj)) := by
  unfold x_impl_RuledOrder x_spec_RuledOrder
  rw [bind_some_of (isRuled_eq l obj hl), bind_some_of (l3Ruled_eq l obj hl)]
  by_cases hr : ruled l obj
  · obtain ⟨r, e1, e2, h1, h2⟩ := ruled_same hr.1 obj
    rw [if_pos (by simpa using hr), if_pos (by simpa using hr), bind_some_of e1, bind_some_of e2]
    exact ⟨_, _, rfl, rfl, by rw [ic_len, h1.1]; exact hl, fun _ => ⟨hr, r, rfl, h1, h2⟩⟩
  · rw [if_neg (by simpa using hr), if_neg (by simpa using hr)]
    exact ⟨_, _, rfl, rfl, by simp, fun h => (by cases h)⟩

/-- Both differences of a ruled case. -/
theorem ruleDiff_both (l : List impl_Job) (hl : l.length < 900000) (obj i k : Int) : ∃ d ok, x_impl_RuleDifference l obj i k = some (d, ok) ∧ x_spec_RuleDifference l obj i k = some (d, ok) ∧
    (ok = true ↔ ruled l obj ∧ (∃ a : Nat, i = (a : Int) ∧ a < l.length) ∧ ∃ b : Nat, k = (b : Int) ∧ b < l.length) ∧ ∀ a b : Nat, ok = true → i = (a : Int) → k = (b : Int) → d = gap obj (jb l a) (jb l b) := by
  have hin : ∀ x : Int, x_spec_l3Job l x = some (decide (0 ≤ x ∧ x < (l.length : Int))) := fun x => by
    unfold x_spec_l3Job
    rw [bind_some_of (l1In_eq _ _ _), sub_i (by omega) (by omega)]
    congr 1
    rw [decide_eq_decide]
    omega
  unfold x_impl_RuleDifference x_spec_RuleDifference
  rw [bind_some_of (isRuled_eq l obj hl), bind_some_of (l3Ruled_eq l obj hl), bind_some_of (isNumber_eq i _ hl), bind_some_of (isNumber_eq k _ hl), bind_some_of (hin i), bind_some_of (hin k)]
  by_cases hr : ruled l obj
  · simp only [decide_eq_true hr, if_true]
    by_cases hi : 0 ≤ i ∧ i < (l.length : Int)
    · simp only [decide_eq_true hi, if_true]
      by_cases hk : 0 ≤ k ∧ k < (l.length : Int)
      · simp only [decide_eq_true hk, if_true]
        obtain ⟨a, rfl⟩ := Int.eq_ofNat_of_zero_le hi.1
        obtain ⟨b, rfl⟩ := Int.eq_ofNat_of_zero_le hk.1
        have ha : a < l.length := by omega
        have hb : b < l.length := by omega
        rw [bind_some_of (jb_ix ha), bind_some_of (jb_ix hb), bind_some_of (difference_eq (jb_ok hr.1 ha) (jb_ok hr.1 hb) obj), bind_some_of (l3Gap_eq hr.1 ha hb obj)]
        exact ⟨_, _, rfl, rfl, ⟨fun _ => ⟨hr, ⟨a, rfl, ha⟩, b, rfl, hb⟩, fun _ => rfl⟩, fun a' b' _ e1 e2 => by
          have : a' = a := by omega
          have : b' = b := by omega
          subst a' b'; rfl⟩
      · simp only [decide_eq_false hk, Bool.false_eq_true, if_false]
        exact ⟨_, _, rfl, rfl, ⟨fun h => (by cases h), fun h => by obtain ⟨_, _, b, rfl, h⟩ := h; omega⟩, fun a b h => (by cases h)⟩
    · simp only [decide_eq_false hi, Bool.false_eq_true, if_false]
      exact ⟨_, _, rfl, rfl, ⟨fun h => (by cases h), fun h => by obtain ⟨_, ⟨b, rfl, h⟩, _⟩ := h; omega⟩, fun a b h => (by cases h)⟩
  · simp only [decide_eq_false hr, Bool.false_eq_true, if_false]
    exact ⟨_, _, rfl, rfl, ⟨fun h => (by cases h), fun h => absurd h.1 hr⟩, fun a b h => (by cases h)⟩

/-- Both tests of plain jobs. -/
theorem plain_both (l : List impl_Job) (hl : l.length < 900000) : x_impl_IsPlain l = x_spec_IsPlain l ∧ ∃ b, x_spec_IsPlain l = some b := by
  rw [IsPlain_eq l hl, specIsPlain_eq l hl]
  exact ⟨rfl, _, rfl⟩

/-- Is an order best? -/
theorem isBest_eq {l : List impl_Job} {obj : Int} (hr : ruled l obj) (h6 : l.length ≤ 6) {o : List Nat} (ho : IsOrd l.length o) {r : List Nat} (hro : IsOrd l.length r) (hs : r.Pairwise fun a b => gap obj (jb l a) (jb l b) ≤ 0) :
    ∃ b, x_impl_IsBestOrder l (ic o) obj = some (b, true) ∧ (b = true ↔ val l o obj = val l r obj) := by
  have hob := ruled_obj hr
  unfold x_impl_IsBestOrder
  rw [bind_some_of (isValued_ok hr.1 ho hob.1 (by omega)), if_pos rfl, bind_some_of (best_eq hr.1 h6 obj), bind_some_of (valueOf_eq hr.1 ho obj)]
  refine ⟨_, rfl, ?_⟩
  have hb := bestP_spec l obj
  obtain ⟨q, hq, _, hv⟩ := hb.2
  have h1 := hb.1 r hro
  have h2 := ruled_best hr hro hs hq
  rw [decide_eq_true_eq]
  omega

/-- Two jobs of an order in each other's place. -/
theorem swap_len {o : List Int} (hl : o.length ≤ 1000000) {i : Nat} (h : i + 1 < o.length) : ∃ q, x_spec_l2Swap o (i : Int) = some q ∧ q.length = o.length := by
  unfold x_spec_l2Swap
  rw [bind_some_of (l1Own_eq hl), inc_i (by omega), bind_some_of (ix_lt h), bind_some_of (ix_lt (show i < o.length by omega)), bind_some_of (put_lt (show i < o.length by omega) _), bind_some_of (ix_lt (show i < o.length by omega)), bind_some_of (ix_lt (show i + 1 < (o.set i _).length by simpa using h)), bind_some_of (put_lt (show i + 1 < (o.set i _).length by simpa using h) _)]
  exact ⟨_, rfl, by simp⟩

theorem DrawIsRuledOrder_ok {code : List Int} (hc : ∀ z ∈ code, 0 ≤ z ∧ z < 256) : ∃ l o obj, x_spec_DrawIsRuledOrder code = some (l, o, obj) ∧ (l.length ≤ 6 ∨ l.length = 9) ∧ o.length < 900000 := by
  unfold x_spec_DrawIsRuledOrder
  obtain ⟨l, obj, c1, e1, h1, hl⟩ := ruled3_ok (m := 1000) (CK.start hc 1410 (by omega))
  have hl9 : l.length ≤ 10 := by omega
  obtain ⟨o, c2, e2, h2, ho⟩ := order_ok (m := 800) (c := c1) h1 l.length hl9
  obtain ⟨b3, c3, e3, h3⟩ := one_ok (m := 798) (c := c2) h2 2
  rw [bind_some_of e1]
  simp only
  rw [bind_some_of e2, bind_some_of (l3Ruled_eq l obj (by omega))]
  simp only
  by_cases hr : ruled l obj
  · rw [if_pos (by simpa using hr), bind_some_of e3]
    obtain ⟨r, _, e4, h4, _⟩ := ruled_same hr.1 obj
    cases b3 with
    | false => rw [if_neg (by simp)]; exact ⟨_, _, _, rfl, hl, by omega⟩
    | true =>
      rw [if_pos rfl, bind_some_of e4]
      have hrl : (ic r).length = l.length := by rw [ic_len, h4.1]
      by_cases h1l : 1 < ((ic r).length : Int)
      · obtain ⟨b5, c5, e5, h5⟩ := one_ok (m := 796) (c := c3) h3 2
        rw [if_pos h1l, bind_some_of e5]
        cases b5 with
        | false => rw [if_neg (by simp)]; exact ⟨_, _, _, rfl, hl, by omega⟩
        | true =>
          obtain ⟨x, c6, e6, h6, g1, g2⟩ := pick_ok (m := 794) (c := c5) h5 (subK .i64 ((ic r).length : Int) 1)
          rw [if_pos rfl, bind_some_of e6]
          rw [sub_i (by omega) (by omega)] at g2
          obtain ⟨i, rfl⟩ := Int.eq_ofNat_of_zero_le g1
          obtain ⟨q, e7, h7⟩ := swap_len (o := ic r) (by omega) (i := i) (by omega)
          rw [bind_some_of e7]
          exact ⟨_, _, _, rfl, hl, by omega⟩
      · rw [if_neg h1l]; exact ⟨_, _, _, rfl, hl, by omega⟩
  · rw [if_neg (by simpa using hr)]; exact ⟨_, _, _, rfl, hl, by omega⟩

theorem DrawIsPlain_ok {code : List Int} (hc : ∀ z ∈ code, 0 ≤ z ∧ z < 256) : ∃ l, x_spec_DrawIsPlain code = some l ∧ (l.length ≤ 6 ∨ l.length = 9) := by
  unfold x_spec_DrawIsPlain
  obtain ⟨b, c1, e1, h1⟩ := one_ok (m := 1000) (CK.start hc 1002 (by omega)) 2
  rw [bind_some_of e1]
  obtain ⟨l, c2, e2, _, hl⟩ := jobs_ok (m := 500) (c := c1) (h1.mono (by omega))
  obtain ⟨l3, c3, e3, _, hl3⟩ := plain3_ok (m := 500) (c := c1) (h1.mono (by omega))
  cases b with
  | false => rw [if_neg (by simp), bind_some_of e3]; exact ⟨_, rfl, hl3⟩
  | true => rw [if_pos rfl, bind_some_of e2]; exact ⟨_, rfl, hl⟩

theorem DrawRuleDifference_ok {code : List Int} (hc : ∀ z ∈ code, 0 ≤ z ∧ z < 256) : ∃ l obj i k, x_spec_DrawRuleDifference code = some (l, obj, i, k) ∧ (l.length ≤ 6 ∨ l.length = 9) := by
  unfold x_spec_DrawRuleDifference
  obtain ⟨l, obj, c1, e1, h1, hl⟩ := ruled3_ok (m := 1000) (CK.start hc 1410 (by omega))
  rw [bind_some_of e1]
  obtain ⟨x, c2, e2, h2, _⟩ := pick_ok (m := 998) (c := c1) h1 (addK .i64 (l.length : Int) 2)
  obtain ⟨y, c3, e3, h3, _⟩ := pick_ok (m := 996) (c := c2) h2 (max 1 (l.length : Int))
  simp only
  rw [bind_some_of e2, bind_some_of (l1Most_eq _ _), bind_some_of e3]
  exact ⟨_, _, _, _, rfl, hl⟩

/-- The law of ruled orders. -/
theorem ruledOrders_true {code : List Int} (hc : ∀ z ∈ code, 0 ≤ z ∧ z < 256) : x_laws_FnRuledOrders code = some true := by
  unfold x_laws_FnRuledOrders x_laws_vBig
  rw [Option.bind_some]
  by_cases hbig : decide (65536 < (code.length : Int)) = true
  · rw [if_pos hbig]
  rw [if_neg hbig]
  have hlen : code.length ≤ 65536 := by
    simp at hbig
    omega
  obtain ⟨l, o, obj, e1, hl, hol⟩ := DrawIsRuledOrder_ok hc
  obtain ⟨cd1, e6, hc1⟩ := vCut_ok hc hlen 1
  obtain ⟨l2, e7, hl2⟩ := DrawIsPlain_ok hc1
  obtain ⟨cd2, e8, hc2⟩ := vCut_ok hc hlen 2
  obtain ⟨l3, obj3, i, k, e9, hl3⟩ := DrawRuleDifference_ok hc2
  have e6 : x_laws_vCut code 1 = some cd1 := e6
  have e8 : x_laws_vCut code 2 = some cd2 := e8
  have hl' : l.length < 900000 := by omega
  have hl2' : l2.length < 900000 := by omega
  have hl3' : l3.length < 900000 := by omega
  obtain ⟨b1, ok1, e2, e3, k1, k2⟩ := isRuled_both l hl' o hol obj
  obtain ⟨r, ok2, e4, e5, hrl, k3⟩ := ruledOrder_both l hl' obj
  obtain ⟨d, ok3, e10, e11, k4, k5⟩ := ruleDiff_both l3 hl3' obj3 i k
  obtain ⟨d', ok4, e12, _, k6, k7⟩ := ruleDiff_both l3 hl3' obj3 k i
  obtain ⟨e13, pb, e14⟩ := plain_both l2 hl2'
  rw [bind_some_of e1, bind_some_of e2, bind_some_of e3, bind_some_of e4, bind_some_of e5, bind_some_of e6, bind_some_of e7, bind_some_of e8, bind_some_of e9, bind_some_of e10, bind_some_of e11, if_pos rfl, if_pos rfl, if_pos rfl, bind_some_of (vInts_eq hrl), if_pos (decide_eq_true rfl), bind_some_of (e13.trans e14), bind_some_of e14, if_pos rfl, if_pos rfl, if_pos rfl]
  have h34 : ok3 = true → ok4 = true ∧ d' = negK .i64 d := fun h3 => by
    obtain ⟨hr, ⟨a, rfl, ha⟩, b, rfl, hb⟩ := k4.1 h3
    have h4 := k6.2 ⟨hr, ⟨b, rfl, hb⟩, a, rfl, ha⟩
    refine ⟨h4, ?_⟩
    rw [k7 b a h4 rfl rfl, k5 a b h3 rfl rfl]
    have h1 := gap_bd (obj := obj3) (jb_ok hr.1 ha) (jb_ok hr.1 hb)
    rw [neg_i (by omega) (by omega), gap_anti]
  have h2 : ok2 = true → ∃ q, ruled l obj ∧ r = ic q ∧ IsOrd l.length q ∧ (q.Pairwise fun a b => gap obj (jb l a) (jb l b) ≤ 0) ∧ x_impl_IsBestOrder l r obj = some (true, true) ∧ x_impl_IsRuledOrder l r obj = some (true, true) := fun h2 => by
    obtain ⟨hr, q, rfl, hq, hs⟩ := k3 h2
    have h6 : l.length ≤ 6 := by
      have := hr.1.1
      rcases hl with h | h <;> omega
    have hs' := hs.imp fun h => rsoon_le h
    obtain ⟨b9, e15, h9⟩ := isBest_eq hr h6 hq hq hs'
    have h9' := h9.2 rfl
    subst h9'
    obtain ⟨b8, ok8, e16, _, k8, k9⟩ := isRuled_both l hl' (ic q) hrl obj
    have h8 := k8.2 ⟨hr, q, rfl, hq⟩
    have h8' := (k9 q h8 rfl).2 hs'
    subst h8 h8'
    exact ⟨q, hr, rfl, hq, hs', e15, e16⟩
  have h1 : ok1 = true → ok2 = true → ∃ b10, x_impl_IsBestOrder l o obj = some (b10, true) ∧ (b1 = true → b10 = true) ∧ (obj = 2 ∨ obj = 3 → b10 = true → b1 = true) := fun h1 h2' => by
    obtain ⟨hr, p, rfl, hp⟩ := k1.1 h1
    obtain ⟨q, _, _, hq, hs, _, _⟩ := h2 h2'
    have h6 : l.length ≤ 6 := by
      have := hr.1.1
      rcases hl with h | h <;> omega
    obtain ⟨b10, e17, h10⟩ := isBest_eq hr h6 hp hq hs
    have hb1 := k2 p h1 rfl
    refine ⟨b10, e17, fun h => ?_, fun ho h => ?_⟩
    · have a1 := ruled_best hr hp (hb1.1 h) hq
      have a2 := ruled_best hr hq hs hp
      exact h10.2 (Int.le_antisymm a1 a2)
    · exact hb1.2 ((best_ruled hr ho hq hs hp).1 (h10.1 h))
  by_cases h3 : ok3 = true
  rw [if_pos h3, bind_some_of e12, if_pos (h34 h3).1, if_pos (h34 h3).2]
  rotate_left
  rw [if_neg h3]
  all_goals
    by_cases h2' : ok2 = true
    · obtain ⟨q, _, _, _, _, e15, e16⟩ := h2 h2'
      rw [if_pos h2', bind_some_of e15, bind_some_of e16, if_pos rfl, if_pos rfl, if_pos rfl, if_pos rfl]
      by_cases h1' : ok1 = true
      · obtain ⟨b10, e17, g1, g2⟩ := h1 h1' h2'
        rw [if_pos h1', bind_some_of e17, if_pos rfl]
        by_cases hb : b1 = true
        · rw [if_pos hb, if_pos (g1 hb)]
          simp only [ite_self]
        · rw [if_neg hb]
          by_cases ho2 : obj = 2
          · rw [if_pos ho2, if_neg (fun h => hb (g2 (.inl ho2) h))]
          · rw [if_neg ho2]
            by_cases ho3 : obj = 3
            · rw [if_pos ho3, if_neg (fun h => hb (g2 (.inr ho3) h))]
            · rw [if_neg ho3]
      · rw [if_neg h1']
    · rw [if_neg h2']
end Gh
