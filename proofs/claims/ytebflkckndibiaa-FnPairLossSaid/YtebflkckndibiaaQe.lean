/- Plain laws: pairs in the wrong order, and what they lose. -/
import Derived.Test.YtebflkckndibiaaQd
namespace Gh
open Go
set_option linter.unusedSimpArgs false
set_option linter.unusedVariables false
set_option maxRecDepth 100000

/-- A job in front of a list: the wrong pairs. -/
def invR (l : List impl_Job) (obj : Int) (a : Nat) (q : List Nat) : List arr_2_int := (q.filter fun b => decide (0 < gap obj (jb l a) (jb l b))).map fun (b : Nat) => ⟨(a : Int), (b : Int)⟩

/-- All wrong pairs of an order. -/
def invs (l : List impl_Job) (obj : Int) : List Nat → List arr_2_int
  | [] => []
  | a :: q => invR l obj a q ++ invs l obj q

theorem invR_len (l : List impl_Job) (obj : Int) (a : Nat) (q : List Nat) : (invR l obj a q).length ≤ q.length := by
  simp only [invR, List.length_map]; exact List.length_filter_le _ _

theorem invR_cons (l : List impl_Job) (obj : Int) (a b : Nat) (q : List Nat) : invR l obj a (b :: q) = (if 0 < gap obj (jb l a) (jb l b) then [⟨(a : Int), (b : Int)⟩] else []) ++ invR l obj a q := by
  by_cases h : 0 < gap obj (jb l a) (jb l b) <;> simp [invR, h]

theorem invs_len (l : List impl_Job) (obj : Int) : ∀ (o : List Nat) (k : Nat), o.length ≤ k → (invs l obj o).length ≤ k * k
  | [], _, _ => Nat.zero_le _
  | a :: q, k, h => by
    simp only [List.length_cons] at h
    have h1 := invR_len l obj a q
    have h2 := invs_len l obj q (k - 1) (by omega)
    obtain ⟨m, rfl⟩ : ∃ m, k = m + 1 := ⟨k - 1, by omega⟩
    simp only [invs, List.length_append, Nat.add_sub_cancel] at *
    have : (m + 1) * (m + 1) = m * m + m + m + 1 := by rw [Nat.add_mul, Nat.mul_add]; omega
    omega

theorem invs_mem {l : List impl_Job} {obj : Int} : ∀ {o : List Nat} {p : arr_2_int}, p ∈ invs l obj o → ∃ a ∈ o, ∃ b ∈ o, p = ⟨(a : Int), (b : Int)⟩
  | [], p, h => by simp [invs] at h
  | a :: q, p, h => by
    simp only [invs, List.mem_append] at h
    rcases h with h | h
    · simp only [invR, List.mem_map, List.mem_filter] at h
      obtain ⟨b, ⟨hb, _⟩, rfl⟩ := h
      exact ⟨a, by simp, b, by simp [hb], rfl⟩
    · obtain ⟨c, hc, b, hb, e⟩ := invs_mem h
      exact ⟨c, by simp [hc], b, by simp [hb], e⟩

theorem invs_nil {l : List impl_Job} {obj : Int} : ∀ {o : List Nat}, invs l obj o = [] ↔ o.Pairwise fun a b => gap obj (jb l a) (jb l b) ≤ 0
  | [] => by simp [invs]
  | a :: q => by
    simp only [invs, List.append_eq_nil_iff, List.pairwise_cons, invs_nil]
    refine and_congr ⟨fun h b hb => ?_, fun h => ?_⟩ Iff.rfl
    · simp only [invR, List.map_eq_nil_iff, List.filter_eq_nil_iff, decide_eq_true_eq] at h
      have := h b hb
      omega
    · simp only [invR, List.map_eq_nil_iff, List.filter_eq_nil_iff, decide_eq_true_eq]
      intro b hb
      have := h b hb
      omega

/-- What a pair loses. -/
def gapP (l : List impl_Job) (obj : Int) (p : arr_2_int) : Int := gap obj (jb l p.a0.toNat) (jb l p.a1.toNat)

theorem invR_sum (l : List impl_Job) (obj : Int) (a : Nat) : ∀ q : List Nat, isum (gapP l obj) (invR l obj a q) = isum (fun b => max 0 (gap obj (jb l a) (jb l b))) q
  | [] => rfl
  | b :: q => by
    rw [invR_cons, isum_app, invR_sum l obj a q]
    simp only [isum]
    by_cases h : 0 < gap obj (jb l a) (jb l b)
    · rw [if_pos h]
      have : gapP l obj ⟨(a : Int), (b : Int)⟩ = gap obj (jb l a) (jb l b) := by simp [gapP]
      simp only [isum, this]
      omega
    · rw [if_neg h]
      simp only [isum]
      omega

theorem invs_sum (l : List impl_Job) (obj : Int) : ∀ o : List Nat, isum (gapP l obj) (invs l obj o) = lossO l obj o
  | [] => rfl
  | a :: q => by
    simp only [invs, isum_app, invR_sum, invs_sum l obj q, lossO, psum]

/-- impl's list of wrong pairs. -/
theorem inversions_eq {l : List impl_Job} (hg : good l) {o : List Nat} (ho : IsOrd l.length o) (obj : Int) : x_impl_inversions l (ic o) obj = some (invs l obj o) := by
  have hn := hg.1
  have hol := ho.1
  have hT := invs_len l obj o 8 (by omega)
  have inner : ∀ (i : Nat) (hi : i < o.length) (out T : List arr_2_int) (z1 z2 : Int), T.length ≤ 64 → out ++ invR l obj o[i] (o.drop (i + 1)) = T → loopS (x_impl_inversions_l1 l (ic o) obj (o[i] : Int) (ic o) z1 z2 (ic (o.drop (i + 1))) ((ic (o.drop (i + 1))).length : Int)) LL (out, 0) = some T := by
    intro i hi out T z1 z2 hT hout
    have ha : o[i] < l.length := ho.2.2 _ (List.getElem_mem hi)
    have key := loopS_inv (b := x_impl_inversions_l1 l (ic o) obj (o[i] : Int) (ic o) z1 z2 (ic (o.drop (i + 1))) ((ic (o.drop (i + 1))).length : Int)) (fun k (s : List arr_2_int × Int) => s.2 = (k : Int) ∧ s.1 ++ invR l obj o[i] ((o.drop (i + 1)).drop k) = T)
      (fun p => p = T) (o.drop (i + 1)).length (by
      rintro k ⟨s, z⟩ hk ⟨h1, h2⟩
      simp only at h1 h2
      subst h1
      have hb : (o.drop (i + 1))[k] < l.length := ho.2.2 _ (List.mem_of_mem_drop (List.getElem_mem hk))
      have hkl : k < 100 := by rw [List.length_drop] at hk; omega
      rw [List.drop_eq_getElem_cons hk, invR_cons] at h2
      unfold x_impl_inversions_l1
      simp only
      have hanti := gap_anti obj (jb l o[i]) (jb l (o.drop (i + 1))[k])
      rw [if_pos (by rw [ic_len]; omega), bind_some_of (ic_get hk), bind_some_of (jb_ix hb), bind_some_of (jb_ix ha), bind_some_of (difference_eq (jb_ok hg hb) (jb_ok hg ha) obj), inc_i (by omega)]
      by_cases hlt : 0 < gap obj (jb l o[i]) (jb l (o.drop (i + 1))[k])
      · rw [if_pos (by omega)]
        rw [if_pos hlt] at h2
        have hl := congrArg List.length h2
        simp only [List.length_append, List.length_singleton] at hl
        rw [bind_some_of (app_ok (by simp only [List.length_singleton]; omega) (by omega))]
        exact .inl ⟨_, rfl, rfl, by rw [← h2, List.append_assoc]⟩
      · rw [if_neg (by omega)]
        rw [if_neg hlt, List.nil_append] at h2
        exact .inl ⟨_, rfl, rfl, h2⟩) (by
      rintro ⟨s, z⟩ ⟨h1, h2⟩
      simp only at h1 h2
      subst h1
      unfold x_impl_inversions_l1
      simp only
      rw [if_neg (by rw [ic_len]; omega)]
      refine ⟨_, rfl, ?_⟩
      rw [List.drop_length] at h2
      simpa [invR] using h2) (LL_lt (by rw [List.length_drop]; omega)) (out, 0) ⟨rfl, by simpa using hout⟩
    obtain ⟨p, e, rfl⟩ := key
    exact e
  unfold x_impl_inversions
  have key := loopS_inv (b := x_impl_inversions_l0 l (ic o) obj (ic o) ((ic o).length : Int)) (fun k (s : List arr_2_int × Int) => s.2 = (k : Int) ∧ s.1 ++ invs l obj (o.drop k) = invs l obj o)
    (fun p => p = invs l obj o) o.length (by
    rintro k ⟨s, z⟩ hk ⟨h1, h2⟩
    simp only at h1 h2
    subst h1
    rw [List.drop_eq_getElem_cons hk] at h2
    simp only [invs] at h2
    rw [← List.append_assoc] at h2
    have hl := congrArg List.length h2
    rw [List.length_append] at hl
    have hcut : cut (ic o) (addK .i64 (k : Int) 1) ((ic o).length : Int) = some (ic (o.drop (k + 1))) := by
      rw [inc_i (by omega), cut_ok (by rw [ic_len]; omega) (Nat.le_refl _), List.take_length]
      simp [ic, List.map_drop]
    unfold x_impl_inversions_l0
    simp only
    rw [if_pos (by rw [ic_len]; omega), bind_some_of (ic_get hk), bind_some_of hcut, bind_some_of (inner k hk s _ _ _ (by omega) rfl), inc_i (by omega)]
    exact .inl ⟨_, rfl, rfl, h2⟩) (by
    rintro ⟨s, z⟩ ⟨h1, h2⟩
    simp only at h1 h2
    subst h1
    unfold x_impl_inversions_l0
    simp only
    rw [if_neg (by rw [ic_len]; omega)]
    refine ⟨_, rfl, ?_⟩
    rw [List.drop_length] at h2
    simpa [invs] using h2) (LL_lt (by omega)) ([], 0) ⟨rfl, by simp⟩
  obtain ⟨p, e, rfl⟩ := key
  rw [bind_some_of e]

/-- The program's own list of wrong pairs. -/
theorem l3Inversions_eq {l : List impl_Job} (hg : good l) {o : List Nat} (ho : IsOrd l.length o) (obj : Int) : x_spec_l3Inversions l (ic o) obj = some (invs l obj o) := by
  have hn := hg.1
  have hol := ho.1
  have hT := invs_len l obj o 8 (by omega)
  have inner : ∀ (i : Nat) (hi : i < o.length) (out T : List arr_2_int), T.length ≤ 64 → out ++ invR l obj o[i] (o.drop (i + 1)) = T → loopS (x_spec_l3Inversions_l1 l (ic o) obj (i : Int)) LL (out, ((i + 1 : Nat) : Int)) = some T := by
    intro i hi out T hT hout
    have ha : o[i] < l.length := ho.2.2 _ (List.getElem_mem hi)
    have key := loopS_inv (b := x_spec_l3Inversions_l1 l (ic o) obj (i : Int)) (fun k (s : List arr_2_int × Int) => s.2 = ((i + 1 + k : Nat) : Int) ∧ s.1 ++ invR l obj o[i] (o.drop (i + 1 + k)) = T)
      (fun p => p = T) (o.length - (i + 1)) (by
      rintro k ⟨s, z⟩ hk ⟨h1, h2⟩
      simp only at h1 h2
      subst h1
      have hk' : i + 1 + k < o.length := by omega
      have hb : o[i + 1 + k] < l.length := ho.2.2 _ (List.getElem_mem hk')
      rw [List.drop_eq_getElem_cons hk', invR_cons] at h2
      unfold x_spec_l3Inversions_l1
      simp only
      rw [if_pos (by rw [ic_len]; omega), bind_some_of (ic_get hi), bind_some_of (ic_get hk'), bind_some_of (l3Gap_eq hg ha hb obj), inc_i (by omega)]
      by_cases hlt : 0 < gap obj (jb l o[i]) (jb l o[i + 1 + k])
      · rw [if_pos hlt]
        rw [if_pos hlt] at h2
        have hl := congrArg List.length h2
        simp only [List.length_append, List.length_singleton] at hl
        rw [bind_some_of (app_ok (by simp only [List.length_singleton]; omega) (by omega))]
        exact .inl ⟨_, rfl, rfl, by rw [← h2, List.append_assoc]; rfl⟩
      · rw [if_neg hlt]
        rw [if_neg hlt, List.nil_append] at h2
        exact .inl ⟨_, rfl, rfl, h2⟩) (by
      rintro ⟨s, z⟩ ⟨h1, h2⟩
      simp only at h1 h2
      subst h1
      unfold x_spec_l3Inversions_l1
      simp only
      rw [if_neg (by rw [ic_len]; omega)]
      refine ⟨_, rfl, ?_⟩
      rw [List.drop_eq_nil_of_le (by omega)] at h2
      simpa [invR] using h2) (LL_lt (by omega)) (out, ((i + 1 : Nat) : Int)) ⟨rfl, hout⟩
    obtain ⟨p, e, rfl⟩ := key
    exact e
  unfold x_spec_l3Inversions
  have key := loopS_inv (b := x_spec_l3Inversions_l0 l (ic o) obj) (fun k (s : List arr_2_int × Int) => s.2 = (k : Int) ∧ s.1 ++ invs l obj (o.drop k) = invs l obj o)
    (fun p => p = invs l obj o) o.length (by
    rintro k ⟨s, z⟩ hk ⟨h1, h2⟩
    simp only at h1 h2
    subst h1
    rw [List.drop_eq_getElem_cons hk] at h2
    simp only [invs] at h2
    rw [← List.append_assoc] at h2
    have hl := congrArg List.length h2
    rw [List.length_append] at hl
    unfold x_spec_l3Inversions_l0
    simp only
    rw [if_pos (by rw [ic_len]; omega), inc_i (by omega), bind_some_of (inner k hk s _ (by omega) rfl)]
    exact .inl ⟨_, rfl, rfl, h2⟩) (by
    rintro ⟨s, z⟩ ⟨h1, h2⟩
    simp only at h1 h2
    subst h1
    unfold x_spec_l3Inversions_l0
    simp only
    rw [if_neg (by rw [ic_len]; omega)]
    refine ⟨_, rfl, ?_⟩
    rw [List.drop_length] at h2
    simpa [invs] using h2) (LL_lt (by omega)) ([], 0) ⟨rfl, by simp⟩
  obtain ⟨p, e, rfl⟩ := key
  rw [bind_some_of e]

/-- Equal lists of pairs are told equal. -/
theorem vPairs_same (a : List arr_2_int) (ha : a.length < 900000) : x_laws_vPairs a a = some true := by
  unfold x_laws_vPairs
  rw [if_pos rfl]
  obtain ⟨p, e, hp⟩ := scan (n := a.length) (b := x_laws_vPairs_l0 a a) false (fun i => True) (by
    intro i hi
    unfold x_laws_vPairs_l0
    rw [if_pos (by omega), bind_some_of (ix_lt hi), bind_some_of (ix_lt hi), if_pos ⟨rfl, rfl⟩, inc_i (by omega)]
    exact .inl ⟨trivial, rfl⟩) (by
    unfold x_laws_vPairs_l0
    rw [if_neg (by omega)]) ha
  rw [bind_some_of e]
  rcases hp with ⟨rfl, _⟩ | ⟨_, i, _, h⟩
  · rfl
  · exact absurd trivial h
end Gh
