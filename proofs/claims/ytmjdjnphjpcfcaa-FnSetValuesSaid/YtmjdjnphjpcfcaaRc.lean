/- Plain laws: an order out of the values of sets. -/
import Derived.Test.YtmjdjnphjpcfcaaRb
namespace Gh
open Go
set_option linter.unusedSimpArgs false
set_option linter.unusedVariables false
set_option maxRecDepth 100000

/-- Every order of a set costs at least its value. -/
theorem VW_lower {l : List impl_Job} (hg : good l) (hn : l.length ≤ 6) {obj : Int} (h1 : obj ≠ 1) (h4 : obj ≠ 4) : ∀ (m : Nat) (o : List Nat) (c : Nat), o.length = m → c < 2 ^ l.length → o.Perm (setOf l.length c) → VW l obj c ≤ csumT l obj 0 o
  | 0, o, c, hm, hc, hp => by
    have : o = [] := List.length_eq_zero_iff.1 hm
    subst this
    have e : setOf l.length c = [] := List.length_eq_zero_iff.1 (by simpa using hp.length_eq.symm)
    have : c = 0 := by
      rcases Nat.eq_zero_or_pos c with h | h
      · exact h
      · exact absurd e (setOf_pos hc h)
    subst this
    simp [VW, csumT]
  | m + 1, o, c, hm, hc, hp => by
    obtain ⟨q, k, rfl⟩ : ∃ q k, o = q ++ [k] := ⟨o.dropLast, o.getLast (fun e => by rw [e] at hm; cases hm), (List.dropLast_concat_getLast _).symm⟩
    have hk : k ∈ setOf l.length c := hp.subset (by simp)
    have hs := set_sub hn hc hk
    have hq : q.Perm (setOf l.length (c - 2 ^ k)) := by
      rw [hs.1]
      have h2 : (k :: q).Perm (setOf l.length c) := (List.perm_append_comm (l₁ := [k]) (l₂ := q)).trans hp
      have h3 := h2.erase k
      rwa [List.erase_cons_head] at h3
    have ih := VW_lower hg hn h1 h4 m q (c - 2 ^ k) (by simpa using hm) (Nat.lt_of_le_of_lt (Nat.sub_le _ _) hc) hq
    have hv := ((VW_spec hg hn h1 h4 c hc).2.1 k hk).1
    have ht : tsum l (q ++ [k]) = tsum l (setOf l.length c) := tsum_perm hp
    rw [csumT_snoc, ht]
    unfold lastV at hv
    omega

/-- The first job that may be the last of a set. -/
def isPk (l : List impl_Job) (obj : Int) (c i : Nat) : Prop := i ∈ setOf l.length c ∧ lastV l obj c i = VW l obj c ∧ ∀ j ∈ setOf l.length c, j < i → lastV l obj c j ≠ VW l obj c

theorem isPk_one {l : List impl_Job} {obj : Int} {c i j : Nat} (h : isPk l obj c i) (k : isPk l obj c j) : i = j := by
  rcases Nat.lt_trichotomy i j with e | e | e
  · exact absurd h.2.1 (k.2.2 i h.1 e)
  · exact e
  · exact absurd k.2.1 (h.2.2 j k.1 e)

theorem setOf_sorted (n c : Nat) : (setOf n c).Pairwise (· < ·) := List.Pairwise.filter _ (range_sorted n)

def pkW (l : List impl_Job) (obj : Int) (c : Nat) : Nat := ((setOf l.length c).find? fun i => decide (lastV l obj c i = VW l obj c)).getD 0

theorem pkW_spec {l : List impl_Job} (hg : good l) (hn : l.length ≤ 6) {obj : Int} (h1 : obj ≠ 1) (h4 : obj ≠ 4) {c : Nat} (hc : c < 2 ^ l.length) (h0 : 0 < c) : isPk l obj c (pkW l obj c) := by
  obtain ⟨i, hi, e⟩ := (VW_spec hg hn h1 h4 c hc).2.2 h0
  cases hf : (setOf l.length c).find? fun i => decide (lastV l obj c i = VW l obj c) with
  | none =>
    have := List.find?_eq_none.1 hf i hi
    exact absurd e.symm (by simpa using this)
  | some j =>
    obtain ⟨hj, us, bs, hl, hall⟩ := List.find?_eq_some_iff_append.1 hf
    have hpk : pkW l obj c = j := by unfold pkW; rw [hf]; rfl
    rw [hpk]
    refine ⟨by rw [hl]; simp, by simpa using hj, fun k hk hkj he => ?_⟩
    have hs := setOf_sorted l.length c
    rw [hl] at hs hk
    rcases List.mem_append.1 hk with hk | hk
    · have := hall k hk
      simp [he] at this
    · rcases List.mem_cons.1 hk with rfl | hk
      · omega
      · have := (List.pairwise_cons.1 (List.pairwise_append.1 hs).2.1).1 k hk
        omega

/-- The order that the values tell. -/
def chainW (l : List impl_Job) (obj : Int) : Nat → Nat → List Nat
  | 0, _ => []
  | m + 1, c => chainW l obj m (c - 2 ^ pkW l obj c) ++ [pkW l obj c]

theorem chain_spec {l : List impl_Job} (hg : good l) (hn : l.length ≤ 6) {obj : Int} (h1 : obj ≠ 1) (h4 : obj ≠ 4) : ∀ (m c : Nat), c < 2 ^ l.length → (setOf l.length c).length = m → (chainW l obj m c).Perm (setOf l.length c) ∧ csumT l obj 0 (chainW l obj m c) = VW l obj c
  | 0, c, hc, hm => by
    have e : setOf l.length c = [] := List.length_eq_zero_iff.1 hm
    have : c = 0 := by
      rcases Nat.eq_zero_or_pos c with h | h
      · exact h
      · exact absurd e (setOf_pos hc h)
    subst this
    rw [e]
    simp [chainW, csumT, VW]
  | m + 1, c, hc, hm => by
    have h0 : 0 < c := by
      rcases Nat.eq_zero_or_pos c with h | h
      · subst h; rw [setOf_zero] at hm; cases hm
      · exact h
    have hp := pkW_spec hg hn h1 h4 hc h0
    have hs := set_sub hn hc hp.1
    have hlen := List.length_erase_of_mem hp.1
    obtain ⟨i1, i2⟩ := chain_spec hg hn h1 h4 m (c - 2 ^ pkW l obj c) (Nat.lt_of_le_of_lt (Nat.sub_le _ _) hc) (by rw [hs.1]; omega)
    have hperm : (chainW l obj (m + 1) c).Perm (setOf l.length c) := by
      simp only [chainW]
      rw [hs.1] at i1
      exact (List.perm_append_comm.trans (List.Perm.cons _ i1)).trans (List.perm_cons_erase hp.1).symm
    refine ⟨hperm, ?_⟩
    have ht : tsum l (chainW l obj (m + 1) c) = tsum l (setOf l.length c) := tsum_perm hperm
    simp only [chainW] at ht ⊢
    rw [csumT_snoc, i2, ht]
    exact hp.2.1

theorem setOf_one {n c : Nat} (hc : c < 2 ^ n) (h : (setOf n c).length = 0) : c = 0 := by
  have e : setOf n c = [] := List.length_eq_zero_iff.1 h
  rcases Nat.eq_zero_or_pos c with h | h
  · exact h
  · exact absurd e (setOf_pos hc h)

/-- The program's own order. -/
theorem specOrder_loop {l : List impl_Job} (hg : good l) (hn : l.length ≤ 6) {obj : Int} (h1 : obj ≠ 1) (h4 : obj ≠ 4) :
    loopS (x_spec_SetOrder_l0 l obj (valsW l obj (2 ^ l.length))) LL ([], ((2 ^ l.length - 1 : Nat) : Int)) = some (ic (chainW l obj l.length (2 ^ l.length - 1))) := by
  have hpow : 2 ^ l.length ≤ 256 := pow_lt hg.1
  have hpos : 0 < 2 ^ l.length := Nat.pow_pos (by decide)
  have key := loopS_inv (b := x_spec_SetOrder_l0 l obj (valsW l obj (2 ^ l.length)))
    (fun k (s : List Int × Int) => ∃ (c : Nat) (q : List Nat), s = (ic q, (c : Int)) ∧ c < 2 ^ l.length ∧ (setOf l.length c).length = l.length - k ∧ q.length = k ∧ chainW l obj (l.length - k) c ++ q = chainW l obj l.length (2 ^ l.length - 1))
    (fun p => p = ic (chainW l obj l.length (2 ^ l.length - 1))) l.length (by
    rintro k s hk ⟨c, q, rfl, hc, hlen, hq, hch⟩
    have h0 : 0 < c := by
      rcases Nat.eq_zero_or_pos c with h | h
      · subst h; rw [setOf_zero] at hlen; simp at hlen; omega
      · exact h
    have hp := pkW_spec hg hn h1 h4 hc h0
    have hs := set_sub hn hc hp.1
    have hp2 : 0 < 2 ^ pkW l obj c := Nat.pow_pos (by decide)
    have inner := loopS_inv (b := x_spec_SetOrder_l1 l obj (ic q) (valsW l obj (2 ^ l.length)) (c : Int)) (fun i (s : Int) => s = (i : Int) ∧ ∀ j ∈ setOf l.length c, j < i → lastV l obj c j ≠ VW l obj c) (fun p => p = (pkW l obj c : Int)) l.length (by
      rintro i s hi ⟨rfl, hall⟩
      unfold x_spec_SetOrder_l1
      simp only
      rw [if_pos (by omega), inc_i (by omega)]
      by_cases hb : bit c i = true
      · have hi' : i ∈ setOf l.length c := mem_setOf.2 ⟨hi, hb⟩
        have hix : ix (valsW l obj (2 ^ l.length)) (c : Int) = some (VW l obj c) := by rw [ix_cast, valsW_at l obj hc]
        rw [if_neg (fun h => (bit0 c i (by omega)).1 h hb), bind_some_of (l6Last_eq hg hn h1 h4 hc hi' (by omega)), bind_some_of hix]
        by_cases e : lastV l obj c i = VW l obj c
        · rw [if_pos e]
          exact .inr ⟨_, rfl, by rw [isPk_one hp ⟨hi', e, hall⟩]⟩
        · rw [if_neg e]
          refine .inl ⟨_, rfl, rfl, fun j hj hji => ?_⟩
          by_cases e2 : j = i
          · subst e2; exact e
          · exact hall j hj (by omega)
      · rw [if_pos ((bit0 c i (by omega)).2 hb)]
        refine .inl ⟨_, rfl, rfl, fun j hj hji => ?_⟩
        by_cases e2 : j = i
        · subst e2; exact absurd (mem_setOf.1 hj).2 hb
        · exact hall j hj (by omega)) (by
      rintro s ⟨rfl, hall⟩
      exact absurd hp.2.1 (hall _ hp.1 hs.2.2.2)) (LL_lt (by omega)) 0 ⟨rfl, fun j _ h => absurd h (Nat.not_lt_zero _)⟩
    obtain ⟨p, e, rfl⟩ := inner
    have hsub : subK .i64 (c : Int) (shlK .i64 1 (pkW l obj c : Int)) = ((c - 2 ^ pkW l obj c : Nat) : Int) := by
      rw [shl_pow _ (by omega), sub_i (by omega) (by omega)]
      omega
    unfold x_spec_SetOrder_l0
    simp only
    rw [if_pos (by omega), bind_some_of e, bind_some_of (app_ok (by rw [ic_len]; simp only [List.length_singleton]; omega) (by omega)), if_pos (by omega), hsub]
    have hlen2 := List.length_erase_of_mem hp.1
    refine .inl ⟨_, rfl, c - 2 ^ pkW l obj c, pkW l obj c :: q, rfl, by omega, by rw [hs.1]; omega, by simp [hq], ?_⟩
    have hm : l.length - k = (l.length - (k + 1)) + 1 := by omega
    rw [hm] at hch
    rw [← hch]
    simp [chainW]) (by
    rintro s ⟨c, q, rfl, hc, hlen, hq, hch⟩
    have h0 : c = 0 := setOf_one hc (by omega)
    subst h0
    unfold x_spec_SetOrder_l0
    simp only
    rw [if_neg (by omega)]
    refine ⟨_, rfl, ?_⟩
    rw [Nat.sub_self] at hch
    rw [← hch]
    rfl) (LL_lt (by omega)) ([], ((2 ^ l.length - 1 : Nat) : Int)) ⟨2 ^ l.length - 1, [], rfl, by omega, by rw [setOf_all]; simp, rfl, by simp⟩
  obtain ⟨p, e, rfl⟩ := key
  exact e

/-- impl's order. -/
theorem implOrder_loop {l : List impl_Job} (hg : good l) (hn : l.length ≤ 6) {obj : Int} (h1 : obj ≠ 1) (h4 : obj ≠ 4) :
    loopS (x_impl_SetOrder_l0 l obj (valsW l obj (2 ^ l.length))) LL (List.replicate l.length 0, ((2 ^ l.length - 1 : Nat) : Int), (l.length : Int) - 1) = some (ic (chainW l obj l.length (2 ^ l.length - 1))) := by
  have hpow : 2 ^ l.length ≤ 256 := pow_lt hg.1
  have hpos : 0 < 2 ^ l.length := Nat.pow_pos (by decide)
  have key := loopS_inv (b := x_impl_SetOrder_l0 l obj (valsW l obj (2 ^ l.length)))
    (fun k (s : List Int × Int × Int) => ∃ (c : Nat) (q : List Nat), s = (List.replicate (l.length - k) 0 ++ ic q, (c : Int), (l.length : Int) - 1 - (k : Int)) ∧ c < 2 ^ l.length ∧ (setOf l.length c).length = l.length - k ∧ q.length = k ∧ chainW l obj (l.length - k) c ++ q = chainW l obj l.length (2 ^ l.length - 1))
    (fun p => p = ic (chainW l obj l.length (2 ^ l.length - 1))) l.length (by
    rintro k s hk ⟨c, q, rfl, hc, hlen, hq, hch⟩
    have h0 : 0 < c := by
      rcases Nat.eq_zero_or_pos c with h | h
      · subst h; rw [setOf_zero] at hlen; simp at hlen; omega
      · exact h
    have hp := pkW_spec hg hn h1 h4 hc h0
    have hs := set_sub hn hc hp.1
    have hp2 : 0 < 2 ^ pkW l obj c := Nat.pow_pos (by decide)
    obtain ⟨m, hm⟩ : ∃ m, l.length - k = m + 1 := ⟨l.length - k - 1, by omega⟩
    have hkm : (l.length : Int) - 1 - (k : Int) = (m : Int) := by omega
    have hrep : List.replicate (l.length - k) (0 : Int) ++ ic q = List.replicate m 0 ++ 0 :: ic q := by
      rw [hm, List.replicate_succ', List.append_assoc]; rfl
    have hput : ∀ x, put (List.replicate m (0 : Int) ++ 0 :: ic q) (m : Int) x = some (List.replicate m 0 ++ x :: ic q) := fun x => by
      rw [put_lt (by simp), List.set_append_right _ _ (by simp)]
      simp
    have hget : ix (List.replicate m (0 : Int) ++ 0 :: ic q) (m : Int) = some 0 := by
      rw [ix_cast, List.getElem?_append_right (by simp)]
      simp
    have hT := set_T hg c
    rw [hrep, hkm]
    have inner := loopS_inv (b := x_impl_SetOrder_l1 l obj (valsW l obj (2 ^ l.length)) (m : Int) (ic (setOf l.length c)) ((ic (setOf l.length c)).length : Int))
      (fun i (s : List Int × Int × Int) => s = (List.replicate m 0 ++ 0 :: ic q, (c : Int), (i : Int)) ∧ ∀ (j : Nat) (h : j < (setOf l.length c).length), j < i → lastV l obj c (setOf l.length c)[j] ≠ VW l obj c)
      (fun p => p = (List.replicate m 0 ++ (pkW l obj c : Int) :: ic q, ((c - 2 ^ pkW l obj c : Nat) : Int))) (setOf l.length c).length (by
      rintro i s hi ⟨rfl, hall⟩
      have hi' := List.getElem_mem hi
      have hs' := set_sub hn hc hi'
      have hp' : 0 < 2 ^ (setOf l.length c)[i] := Nat.pow_pos (by decide)
      have hb := V_bd hg hn h1 h4 (c := c - 2 ^ (setOf l.length c)[i]) (by omega)
      have hix : ix (valsW l obj (2 ^ l.length)) (c : Int) = some (VW l obj c) := by rw [ix_cast, valsW_at l obj hc]
      have hix2 : ix (valsW l obj (2 ^ l.length)) ((c - 2 ^ (setOf l.length c)[i] : Nat) : Int) = some (VW l obj (c - 2 ^ (setOf l.length c)[i])) := by rw [ix_cast, valsW_at l obj (by omega)]
      have hadd : addV (VW l obj (c - 2 ^ (setOf l.length c)[i])) (jb l (setOf l.length c)[i]) (tsum l (setOf l.length c)) obj false = lastV l obj c (setOf l.length c)[i] := addV_cst h1 h4 _ _ _ _
      unfold x_impl_SetOrder_l1
      simp only
      rw [if_pos (by rw [ic_len]; omega), bind_some_of (ic_get hi), if_pos (by omega), hs'.2.2.1, bind_some_of hix2, bind_some_of (jb_ix hs'.2.2.2), bind_some_of (timeOf_eq hg hc), bind_some_of (add_eq (jb_ok hg hs'.2.2.2) (by omega) (by omega) (by omega) (by omega)), hadd, bind_some_of hix, inc_i (by have := setOf_len l.length c; omega)]
      by_cases e : lastV l obj c (setOf l.length c)[i] = VW l obj c
      · have hpk : pkW l obj c = (setOf l.length c)[i] := isPk_one hp ⟨hi', e, fun j hj hlt => by
          obtain ⟨j', hj', rfl⟩ := List.getElem_of_mem hj
          refine hall j' hj' ?_
          rcases Nat.lt_trichotomy j' i with h | h | h
          · exact h
          · subst h; omega
          · have := (List.pairwise_iff_getElem.1 (setOf_sorted l.length c)) i j' hi hj' h
            omega⟩
        rw [if_pos e, bind_some_of hget, bind_some_of (hput _), if_pos (by omega)]
        exact .inr ⟨_, rfl, by rw [hpk]⟩
      · rw [if_neg e]
        refine .inl ⟨_, rfl, rfl, fun j hj hji => ?_⟩
        by_cases e2 : j = i
        · subst e2; exact e
        · exact hall j hj (by omega)) (by
      rintro s ⟨rfl, hall⟩
      obtain ⟨j, hj, e⟩ := List.getElem_of_mem hp.1
      exact absurd hp.2.1 (by rw [← e]; exact hall j hj hj)) (LL_lt (by have := setOf_len l.length c; omega)) (List.replicate m 0 ++ 0 :: ic q, (c : Int), 0) ⟨rfl, fun j _ h => absurd h (Nat.not_lt_zero _)⟩
    obtain ⟨p, e, rfl⟩ := inner
    unfold x_impl_SetOrder_l0
    simp only
    rw [if_pos (by omega), bind_some_of (listOf_eq hg.1 hc), bind_some_of e, sub_i (by omega) (by omega)]
    have hlen2 := List.length_erase_of_mem hp.1
    have hm2 : l.length - (k + 1) = m := by omega
    refine .inl ⟨_, rfl, c - 2 ^ pkW l obj c, pkW l obj c :: q, ?_, by omega, by rw [hs.1]; omega, by simp [hq], ?_⟩
    · rw [hm2]
      have : (m : Int) - 1 = (l.length : Int) - 1 - ((k + 1 : Nat) : Int) := by omega
      rw [this]
      rfl
    · rw [hm] at hch
      rw [hm2, ← hch]
      simp [chainW]) (by
    rintro s ⟨c, q, rfl, hc, hlen, hq, hch⟩
    unfold x_impl_SetOrder_l0
    simp only
    rw [if_neg (by omega)]
    refine ⟨_, rfl, ?_⟩
    rw [Nat.sub_self] at hch ⊢
    rw [← hch]
    simp [chainW]) (LL_lt (by omega)) (List.replicate l.length 0, ((2 ^ l.length - 1 : Nat) : Int), (l.length : Int) - 1) ⟨2 ^ l.length - 1, [], by simp [ic], by omega, by rw [setOf_all]; simp, rfl, by simp⟩
  obtain ⟨p, e, rfl⟩ := key
  exact e
end Gh
