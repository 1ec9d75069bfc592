/- Plain laws: the law of the values of sets. -/
import Derived.Test.YtmjdjnphjpcfcaaRc
namespace Gh
open Go
set_option linter.unusedSimpArgs false
set_option linter.unusedVariables false
set_option maxRecDepth 100000

theorem rInts_same (a : List Int) (ha : a.length < 900000) : x_laws_rInts a a = some true := by
  unfold x_laws_rInts
  rw [if_pos rfl]
  obtain ⟨p, e, hp⟩ := scan (n := a.length) (b := x_laws_rInts_l0 a a) false (fun i => True) (by
    intro i hi
    unfold x_laws_rInts_l0
    rw [if_pos (by omega), bind_some_of (ix_lt hi), bind_some_of (ix_lt hi), if_pos rfl, inc_i (by omega)]
    exact .inl ⟨trivial, rfl⟩) (by
    unfold x_laws_rInts_l0
    rw [if_neg (by omega)]) ha
  rw [bind_some_of e]
  rcases hp with ⟨rfl, _⟩ | ⟨_, i, _, h⟩
  · rfl
  · exact absurd trivial h

def sumObj (obj : Int) : Prop := (1 ≤ obj ∧ obj ≤ 8) ∧ obj ≠ 1 ∧ obj ≠ 4

instance (obj : Int) : Decidable (sumObj obj) := by unfold sumObj; infer_instance

theorem isSum_eq (obj : Int) : x_impl_isSumObjective obj = some (decide (sumObj obj)) := by
  unfold x_impl_isSumObjective x_impl_isObjective
  rw [within_eq, Option.bind_some, Option.bind_some]
  by_cases h : 1 ≤ obj ∧ obj ≤ 8
  · rw [if_pos (by simpa using h)]
    by_cases h1 : obj = 1
    · rw [if_pos h1]; simp [sumObj, h1]
    · rw [if_neg h1]
      by_cases h4 : obj = 4
      · rw [if_pos h4]; simp [sumObj, h4]
      · rw [if_neg h4]; simp [sumObj, h, h1, h4]
  · rw [if_neg (by simpa using h)]
    have : ¬ sumObj obj := fun k => h k.1
    simp [this]

theorem l6Sum_eq (obj : Int) : x_spec_l6Sum obj = some (decide (sumObj obj)) := by
  unfold x_spec_l6Sum x_spec_l2Objective x_spec_l2Greatest
  rw [l1In_eq, Option.bind_some, Option.bind_some]
  by_cases h : 1 ≤ obj ∧ obj ≤ 8
  · rw [if_pos (by simpa using h)]
    by_cases h1 : obj = 1
    · rw [if_pos h1]; simp [sumObj, h1]
    · rw [if_neg h1]
      by_cases h4 : obj = 4
      · simp [sumObj, h4]
      · simp [sumObj, h, h1, h4]
  · rw [if_neg (by simpa using h)]
    have : ¬ sumObj obj := fun k => h k.1
    simp [this]

/-- Both lists of values. -/
theorem SetValues_both (l : List impl_Job) (hl : l.length ≤ 6 ∨ l.length = 9) (obj : Int) : ∃ v ok, x_impl_SetValues l obj = some (v, ok) ∧ x_spec_SetValues l obj = some (v, ok) ∧ v.length < 900000 ∧ (ok = true ↔ plain l ∧ sumObj obj) ∧ (ok = true → v = valsW l obj (2 ^ l.length)) := by
  unfold x_impl_SetValues x_spec_SetValues
  rw [bind_some_of (IsPlain_eq l (by omega)), bind_some_of (l6Good_eq l (by omega)), bind_some_of (isSum_eq obj), bind_some_of (l6Sum_eq obj)]
  by_cases hp : plain l
  · simp only [decide_eq_true hp, if_true]
    by_cases hs : sumObj obj
    · have h8 := hp.1.1
      have hn : l.length ≤ 6 := by omega
      have hpow : 2 ^ l.length ≤ 256 := pow_lt h8
      simp only [decide_eq_true hs, if_true]
      rw [bind_some_of (setValues_eq hp.1 hn hs.2.1 hs.2.2), bind_some_of (l6Values_eq hp.1 hn hs.2.1 hs.2.2)]
      exact ⟨_, _, rfl, rfl, by rw [valsW_len]; omega, ⟨fun _ => ⟨hp, hs⟩, fun _ => rfl⟩, fun _ => rfl⟩
    · simp only [decide_eq_false hs, Bool.false_eq_true, if_false]
      exact ⟨_, _, rfl, rfl, by simp, ⟨fun h => (by cases h), fun h => absurd h.2 hs⟩, fun h => (by cases h)⟩
  · simp only [decide_eq_false hp, Bool.false_eq_true, if_false]
    exact ⟨_, _, rfl, rfl, by simp, ⟨fun h => (by cases h), fun h => absurd h.1 hp⟩, fun h => (by cases h)⟩

/-- Both orders. -/
theorem SetOrder_both (l : List impl_Job) (hl : l.length ≤ 6 ∨ l.length = 9) (obj : Int) : ∃ v ok, x_impl_SetOrder l obj = some (v, ok) ∧ x_spec_SetOrder l obj = some (v, ok) ∧ v.length < 900000 ∧ (ok = true ↔ plain l ∧ sumObj obj) ∧ (ok = true → v = ic (chainW l obj l.length (2 ^ l.length - 1))) := by
  unfold x_impl_SetOrder x_spec_SetOrder
  rw [bind_some_of (IsPlain_eq l (by omega)), bind_some_of (l6Good_eq l (by omega)), bind_some_of (isSum_eq obj), bind_some_of (l6Sum_eq obj)]
  by_cases hp : plain l
  · simp only [decide_eq_true hp, if_true]
    by_cases hs : sumObj obj
    · have h8 := hp.1.1
      have hn : l.length ≤ 6 := by omega
      have hpow : 2 ^ l.length ≤ 256 := pow_lt h8
      have hpos : 0 < 2 ^ l.length := Nat.pow_pos (by decide)
      simp only [decide_eq_true hs, if_true]
      have hperm := (chain_spec hp.1 hn hs.2.1 hs.2.2 l.length (2 ^ l.length - 1) (by omega) (by rw [setOf_all]; simp)).1
      rw [setOf_all] at hperm
      have hlen := (IsOrd.of_perm hperm).1
      rw [bind_some_of (setValues_eq hp.1 hn hs.2.1 hs.2.2), bind_some_of (l6Values_eq hp.1 hn hs.2.1 hs.2.2), bind_some_of (mk_ok (by omega) (by omega)), pow_cast _ (by omega), sub_i (by omega) (by omega), bind_some_of (implOrder_loop hp.1 hn hs.2.1 hs.2.2), bind_some_of (specOrder_loop hp.1 hn hs.2.1 hs.2.2)]
      exact ⟨_, _, rfl, rfl, by rw [ic_len, hlen]; omega, ⟨fun _ => ⟨hp, hs⟩, fun _ => rfl⟩, fun _ => rfl⟩
    · simp only [decide_eq_false hs, Bool.false_eq_true, if_false]
      exact ⟨_, _, rfl, rfl, by simp, ⟨fun h => (by cases h), fun h => absurd h.2 hs⟩, fun h => (by cases h)⟩
  · simp only [decide_eq_false hp, Bool.false_eq_true, if_false]
    exact ⟨_, _, rfl, rfl, by simp, ⟨fun h => (by cases h), fun h => absurd h.1 hp⟩, fun h => (by cases h)⟩

/-- Both totals. -/
theorem TotalTime_both (l : List impl_Job) (hl : l.length < 900000) : ∃ v ok, x_impl_TotalTime l = some (v, ok) ∧ x_spec_TotalTime l = some (v, ok) ∧ (plain l → ok = true ∧ v = tsum l (List.range l.length)) := by
  unfold x_impl_TotalTime x_spec_TotalTime
  rw [bind_some_of (IsPlain_eq l hl), bind_some_of (l6Good_eq l hl)]
  by_cases hp : plain l
  · have hg := hp.1
    have hn := hg.1
    have e1 : x_impl_totalOf l = some (tsum l (List.range l.length)) := by
      unfold x_impl_totalOf
      rw [bind_some_of (time_loop hg (p := List.range l.length) (fun i hi => List.mem_range.1 hi) (by simp; omega) (fun k h t h1 h2 => by
        have hk : k < l.length := by simpa using h
        have t3 := jb_ok hg hk
        unfold jobOk at t3
        unfold x_impl_totalOf_l0
        simp only [List.getElem_range]
        rw [if_pos (by omega), bind_some_of (jb_ix hk), add_i (by omega) (by omega), inc_i (by omega)]) (fun t => by
        unfold x_impl_totalOf_l0
        simp only
        rw [List.length_range, if_neg (by omega)]))]
    have e2 : x_spec_l2Times l = some (tsum l (List.range l.length)) := by
      unfold x_spec_l2Times
      rw [bind_some_of (time_loop hg (p := List.range l.length) (fun i hi => List.mem_range.1 hi) (by simp; omega) (fun k h t h1 h2 => by
        have hk : k < l.length := by simpa using h
        have t3 := jb_ok hg hk
        unfold jobOk at t3
        unfold x_spec_l2Times_l0
        simp only [List.getElem_range]
        rw [if_pos (by omega), bind_some_of (jb_ix hk), add_i (by omega) (by omega), inc_i (by omega)]) (fun t => by
        unfold x_spec_l2Times_l0
        simp only
        rw [List.length_range, if_neg (by omega)]))]
    simp only [decide_eq_true hp, if_true]
    rw [bind_some_of e1, bind_some_of e2]
    exact ⟨_, _, rfl, rfl, fun _ => ⟨rfl, rfl⟩⟩
  · simp only [decide_eq_false hp, Bool.false_eq_true, if_false]
    exact ⟨_, _, rfl, rfl, fun h => absurd h hp⟩

/-- A set without one of its jobs costs no more. -/
theorem VW_mono {l : List impl_Job} (hg : good l) (hn : l.length ≤ 6) {obj : Int} (h1 : obj ≠ 1) (h4 : obj ≠ 4) {c i : Nat} (hc : c < 2 ^ l.length) (hi : i ∈ setOf l.length c) : VW l obj (c - 2 ^ i) ≤ VW l obj c := by
  have hs := set_sub hn hc hi
  have hlen := setOf_len l.length c
  obtain ⟨hp, hv⟩ := chain_spec hg hn h1 h4 _ c hc rfl
  have hmem : ∀ k ∈ chainW l obj (setOf l.length c).length c, k < l.length := fun k hk => (mem_setOf.1 (hp.subset hk)).1
  have hl := hp.length_eq
  have hlow := VW_lower hg hn h1 h4 _ ((chainW l obj (setOf l.length c).length c).erase i) (c - 2 ^ i) rfl (Nat.lt_of_le_of_lt (Nat.sub_le _ _) hc) (by rw [hs.1]; exact hp.erase i)
  have he := csumT_erase hg h1 h4 (t := 0) i hmem (by omega) (Int.le_refl _) (by omega)
  omega

/-- The best value is the value of the set of all jobs. -/
theorem best_VW {l : List impl_Job} (hp : plain l) (hn : l.length ≤ 6) {obj : Int} (h1 : obj ≠ 1) (h4 : obj ≠ 4) :
    IsOrd l.length (chainW l obj l.length (2 ^ l.length - 1)) ∧ val l (chainW l obj l.length (2 ^ l.length - 1)) obj = VW l obj (2 ^ l.length - 1) ∧ (bestP l obj (lexP l.length)).2.1 = VW l obj (2 ^ l.length - 1) := by
  have hg := hp.1
  have hf := free_of_plain hp
  have hpos : 0 < 2 ^ l.length := Nat.pow_pos (by decide)
  obtain ⟨hperm, hv⟩ := chain_spec hg hn h1 h4 l.length (2 ^ l.length - 1) (by omega) (by rw [setOf_all]; simp)
  rw [setOf_all] at hperm
  have ho := IsOrd.of_perm hperm
  have hval : val l (chainW l obj l.length (2 ^ l.length - 1)) obj = VW l obj (2 ^ l.length - 1) := by rw [val_csum hf h1 h4 ho, hv]
  refine ⟨ho, hval, ?_⟩
  have hb := bestP_spec l obj
  obtain ⟨q, hq, _, hqv⟩ := hb.2
  have a1 := hb.1 _ ho
  have a2 := VW_lower hg hn h1 h4 _ q (2 ^ l.length - 1) rfl (by omega) (by rw [setOf_all]; exact hq.perm)
  rw [← val_csum hf h1 h4 hq] at a2
  omega

theorem DrawSetValues_ok {code : List Int} (hc : ∀ z ∈ code, 0 ≤ z ∧ z < 256) : ∃ l obj, x_spec_DrawSetValues code = some (l, obj) ∧ (l.length ≤ 6 ∨ l.length = 9) := by
  unfold x_spec_DrawSetValues
  obtain ⟨l, c1, e1, h1, hl⟩ := plainJobs_ok (m := 1000) (CK.start hc 1302 (by omega)) 6 (by omega)
  have e1 : x_spec_l1Cur_plainJobs ⟨code, 0, 0⟩ 6 = some (l, c1) := e1
  rw [bind_some_of e1]
  unfold x_spec_l1Cur_sums
  obtain ⟨b, c2, e2, h2⟩ := one_ok (m := 998) (c := c1) h1 8
  simp only
  rw [bind_some_of e2]
  cases b with
  | false =>
    obtain ⟨x, c3, e3, h3, _⟩ := among_ok (m := 996) (c := c2) h2 [2, 3, 5, 6, 7, 8] (by simp)
    rw [if_neg (by simp), bind_some_of e3]
    exact ⟨l, _, rfl, hl⟩
  | true =>
    unfold x_spec_l1Cur_objective
    obtain ⟨b3, c3, e3, h3⟩ := one_ok (m := 996) (c := c2) h2 24
    rw [if_pos rfl]
    simp only
    rw [bind_some_of e3]
    cases b3 with
    | false =>
      obtain ⟨x, c4, e4, h4, _⟩ := pick_ok (m := 994) (c := c3) h3 8
      rw [if_neg (by simp), bind_some_of e4]
      exact ⟨l, _, rfl, hl⟩
    | true =>
      obtain ⟨x, c4, e4, h4, _⟩ := among_ok (m := 994) (c := c3) h3 [0, 9, (-1)] (by simp)
      rw [if_pos rfl, bind_some_of e4]
      exact ⟨l, _, rfl, hl⟩

/-- The law of the values of sets. -/
theorem setValues_true {code : List Int} (hc : ∀ z ∈ code, 0 ≤ z ∧ z < 256) : x_laws_FnSetValues code = some true := by
  unfold x_laws_FnSetValues x_laws_rBig
  rw [Option.bind_some]
  by_cases hbig : decide (65536 < (code.length : Int)) = true
  · rw [if_pos hbig]
  rw [if_neg hbig]
  obtain ⟨l, obj, e1, hl⟩ := DrawSetValues_ok hc
  obtain ⟨v, ok, e2, e3, hv, k1, k2⟩ := SetValues_both l hl obj
  obtain ⟨o, ok2, e4, e5, ho, k3, k4⟩ := SetOrder_both l hl obj
  obtain ⟨t, ok3, e6, e7, k5⟩ := TotalTime_both l (by omega)
  have hok : ok2 = ok := by rw [Bool.eq_iff_iff, k1, k3]
  rw [bind_some_of e1, bind_some_of e2, bind_some_of e3, if_pos rfl, bind_some_of (rInts_same v hv), if_pos rfl, bind_some_of e4, bind_some_of e5, if_pos rfl, if_pos hok, bind_some_of (rInts_same o ho), if_pos rfl, bind_some_of e6, bind_some_of e7, if_pos rfl, if_pos rfl]
  by_cases hk : ok = true
  · obtain ⟨hp, hs⟩ := k1.1 hk
    have hg := hp.1
    have h8 := hg.1
    have hn : l.length ≤ 6 := by omega
    have hpow : 2 ^ l.length ≤ 256 := pow_lt h8
    have hpos : 0 < 2 ^ l.length := Nat.pow_pos (by decide)
    have hv' := k2 hk
    have ho' := k4 (hok.trans hk)
    subst hv' ho'
    obtain ⟨hord, hval, hbest⟩ := best_VW hp hn hs.2.1 hs.2.2
    have hfull : (valsW l obj (2 ^ l.length)).length = 2 ^ l.length := valsW_len _ _ _
    have hobj : x_impl_isObjective obj = some true := by
      unfold x_impl_isObjective
      rw [within_eq, Option.bind_some, decide_eq_true hs.1]
    have hobj2 : x_spec_l2Objective obj = some true := by
      unfold x_spec_l2Objective
      rw [l1In_eq, Option.bind_some, decide_eq_true hs.1]
    have hrb : x_laws_rBest l obj = some (VW l obj (2 ^ l.length - 1), true) := by
      unfold x_laws_rBest x_impl_BestValue x_spec_BestValue x_spec_l2Best
      simp only [IsJobs_eq, l2Good_eq l (show l.length < 900000 by omega), hg, decide_true, Option.bind_some, if_true, hobj, hobj2, best_eq hg hn, l2All_eq hg, ofT, hbest]
    have hv1 : x_impl_ValueOf l (ic (chainW l obj l.length (2 ^ l.length - 1))) obj = some (VW l obj (2 ^ l.length - 1), true) := by
      unfold x_impl_ValueOf
      rw [bind_some_of (isValued_ok hg hord hs.1.1 hs.1.2), if_pos rfl, bind_some_of (valueOf_eq hg hord obj), hval]
    have hv2 : x_impl_ValueOf l (ic (chainW l obj l.length (2 ^ l.length - 1))) 1 = some (tsum l (List.range l.length), true) := by
      unfold x_impl_ValueOf
      rw [bind_some_of (isValued_ok hg hord (by omega) (by omega)), if_pos rfl, bind_some_of (valueOf_eq hg hord 1), val_end hg hord]
      unfold endT
      rw [endT_plain (fun i hi => plain_jb hp (hord.2.2 i hi)) 0 (Int.le_refl _), tsum_perm hord.perm, Int.zero_add]
    have hlast : ix (valsW l obj (2 ^ l.length)) (subK .i64 ((valsW l obj (2 ^ l.length)).length : Int) 1) = some (VW l obj (2 ^ l.length - 1)) := by
      rw [hfull, sub_i (by omega) (by omega), show ((2 ^ l.length : Nat) : Int) - 1 = ((2 ^ l.length - 1 : Nat) : Int) by omega, ix_cast, valsW_at l obj (by omega)]
    have hloop : loopS (x_laws_FnSetValues_l0 l (valsW l obj (2 ^ l.length))) LL 0 = some (.inl ()) := by
      have key := loopS_inv (b := x_laws_FnSetValues_l0 l (valsW l obj (2 ^ l.length))) (fun c (s : Int) => s = (c : Int)) (fun p => p = .inl ()) (2 ^ l.length) (by
        rintro c _ hc rfl
        have inner := loopS_inv (b := x_laws_FnSetValues_l1 l (valsW l obj (2 ^ l.length)) (c : Int)) (fun i (s : Int) => s = (i : Int)) (fun p => p = .inl ()) l.length (by
          rintro i _ hi rfl
          unfold x_laws_FnSetValues_l1
          simp only
          rw [if_pos (by omega), if_pos (by omega), inc_i (by omega)]
          by_cases hb : bit c i = true
          · have hi' : i ∈ setOf l.length c := mem_setOf.2 ⟨hi, hb⟩
            have hs' := set_sub hn hc hi'
            have hp' : 0 < 2 ^ i := Nat.pow_pos (by decide)
            have hsub : subK .i64 (c : Int) (shlK .i64 1 (i : Int)) = ((c - 2 ^ i : Nat) : Int) := by
              rw [shl_pow i (by omega), sub_i (by omega) (by omega)]
              omega
            have hix : ix (valsW l obj (2 ^ l.length)) (c : Int) = some (VW l obj c) := by rw [ix_cast, valsW_at l obj hc]
            have hix2 : ix (valsW l obj (2 ^ l.length)) ((c - 2 ^ i : Nat) : Int) = some (VW l obj (c - 2 ^ i)) := by rw [ix_cast, valsW_at l obj (by omega)]
            have hm := VW_mono hg hn hs.2.1 hs.2.2 hc hi'
            rw [if_pos ((bit_eq c i (by omega)).2 hb), if_pos (by omega), hsub, bind_some_of hix2, bind_some_of hix, if_neg (by omega)]
            exact .inl ⟨_, rfl, rfl⟩
          · rw [if_neg (fun h => hb ((bit_eq c i (by omega)).1 h))]
            exact .inl ⟨_, rfl, rfl⟩) (by
          rintro _ rfl
          unfold x_laws_FnSetValues_l1
          simp only
          rw [if_neg (by omega)]
          exact ⟨_, rfl, rfl⟩) (LL_lt (by omega)) 0 rfl
        obtain ⟨p, e, rfl⟩ := inner
        unfold x_laws_FnSetValues_l0
        simp only
        rw [if_pos (by rw [hfull]; omega), bind_some_of e, inc_i (by omega)]
        exact .inl ⟨_, rfl, rfl⟩) (by
        rintro _ rfl
        unfold x_laws_FnSetValues_l0
        simp only
        rw [if_neg (by rw [hfull]; omega)]
        exact ⟨_, rfl, rfl⟩) (LL_lt (by omega)) 0 rfl
      obtain ⟨p, e, rfl⟩ := key
      exact e
    have ht := k5 hp
    have hsz : ((valsW l obj (2 ^ l.length)).length : Int) = shlK .i64 1 (l.length : Int) := by rw [hfull, shl_pow _ (by omega)]
    rw [if_pos hk, bind_some_of hrb, bind_some_of hv1, bind_some_of hv2, if_pos rfl, if_pos rfl, if_pos rfl, if_pos hsz, bind_some_of hlast, if_pos rfl, if_pos rfl, if_pos ht.2.symm, bind_some_of hloop]
  · rw [if_neg hk]
end Gh
