/- Plain laws: ruled orders. -/
import Derived.Test.YtebflkckndibiaaQa
namespace Gh
open Go
set_option linter.unusedSimpArgs false
set_option linter.unusedVariables false
set_option maxRecDepth 100000

/-- The rule difference of two jobs. -/
def gap (obj : Int) (x y : impl_Job) : Int :=
  if obj = 1 then x.Release - y.Release else if obj = 2 then x.Time - y.Time else if obj = 3 then x.Time * y.Weight - y.Time * x.Weight else x.Due - y.Due

theorem prod_bd {a b : Int} (h1 : 0 ≤ a) (h2 : a ≤ 50) (h3 : 0 ≤ b) (h4 : b ≤ 50) : 0 ≤ a * b ∧ a * b ≤ 2500 := by
  refine ⟨Int.mul_nonneg h1 h3, ?_⟩
  have := Int.mul_le_mul h2 h4 h3 (by omega)
  simpa using this

theorem gap_bd {obj : Int} {x y : impl_Job} (hx : jobOk x) (hy : jobOk y) : -3000 ≤ gap obj x y ∧ gap obj x y ≤ 3000 := by
  unfold jobOk at hx hy
  have m1 := prod_bd (a := x.Time) (b := y.Weight) (by omega) (by omega) (by omega) (by omega)
  have m2 := prod_bd (a := y.Time) (b := x.Weight) (by omega) (by omega) (by omega) (by omega)
  unfold gap
  repeat' split
  all_goals omega

theorem difference_eq {x y : impl_Job} (hx : jobOk x) (hy : jobOk y) (obj : Int) : x_impl_difference x y obj = some (gap obj x y) := by
  unfold jobOk at hx hy
  have m1 := prod_bd (a := x.Time) (b := y.Weight) (by omega) (by omega) (by omega) (by omega)
  have m2 := prod_bd (a := y.Time) (b := x.Weight) (by omega) (by omega) (by omega) (by omega)
  unfold x_impl_difference gap
  rw [sub_i (by omega) (by omega), sub_i (by omega) (by omega), mul_i (by omega) (by omega), mul_i (by omega) (by omega), sub_i (by omega) (by omega), sub_i (by omega) (by omega)]
  repeat' split
  all_goals rfl

theorem l3Gap_eq {l : List impl_Job} (hg : good l) {i k : Nat} (hi : i < l.length) (hk : k < l.length) (obj : Int) : x_spec_l3Gap l obj (i : Int) (k : Int) = some (gap obj (jb l i) (jb l k)) := by
  have hx := jb_ok hg hi
  have hy := jb_ok hg hk
  unfold jobOk at hx hy
  have m1 := prod_bd (a := (jb l i).Time) (b := (jb l k).Weight) (by omega) (by omega) (by omega) (by omega)
  have m2 := prod_bd (a := (jb l k).Time) (b := (jb l i).Weight) (by omega) (by omega) (by omega) (by omega)
  unfold x_spec_l3Gap gap
  rw [bind_some_of (jb_ix hi), bind_some_of (jb_ix hk)]
  rw [sub_i (by omega) (by omega), sub_i (by omega) (by omega), mul_i (by omega) (by omega), mul_i (by omega) (by omega), sub_i (by omega) (by omega), sub_i (by omega) (by omega)]
  repeat' split
  all_goals rfl

theorem gap_anti (obj : Int) (x y : impl_Job) : gap obj y x = - gap obj x y := by
  unfold gap
  repeat' split
  all_goals omega

theorem gap_trans {obj : Int} {x y z : impl_Job} (hx : jobOk x) (hy : jobOk y) (hz : jobOk z) (h1 : gap obj x y ≤ 0) (h2 : gap obj y z ≤ 0) : gap obj x z ≤ 0 := by
  unfold jobOk at hx hy hz
  unfold gap at *
  split at h1
  · rename_i e; rw [if_pos e] at h2 ⊢; omega
  · rename_i e1
    rw [if_neg e1] at h2 ⊢
    split at h1
    · rename_i e; rw [if_pos e] at h2 ⊢; omega
    · rename_i e2
      rw [if_neg e2] at h2 ⊢
      split at h1
      · rename_i e
        rw [if_pos e] at h2 ⊢
        have a1 : z.Time * (x.Time * y.Weight) ≤ z.Time * (y.Time * x.Weight) := Int.mul_le_mul_of_nonneg_left (by omega) (by omega)
        have a2 : x.Time * (y.Time * z.Weight) ≤ x.Time * (z.Time * y.Weight) := Int.mul_le_mul_of_nonneg_left (by omega) (by omega)
        have e3 : y.Time * (x.Time * z.Weight) = x.Time * (y.Time * z.Weight) := Int.mul_left_comm _ _ _
        have e4 : y.Time * (z.Time * x.Weight) = z.Time * (y.Time * x.Weight) := Int.mul_left_comm _ _ _
        have e5 : x.Time * (z.Time * y.Weight) = z.Time * (x.Time * y.Weight) := Int.mul_left_comm _ _ _
        have a3 : y.Time * (x.Time * z.Weight) ≤ y.Time * (z.Time * x.Weight) := by omega
        have a4 := Int.le_of_mul_le_mul_left a3 (by omega)
        omega
      · rename_i e3
        rw [if_neg e3] at h2 ⊢
        omega

/-- The objective is ruled for the jobs. -/
def ruled (l : List impl_Job) (obj : Int) : Prop := good l ∧ (obj = 1 ∨ ((2 ≤ obj ∧ obj ≤ 4) ∧ ∀ j ∈ l, j.Release = 0))

instance (l : List impl_Job) (obj : Int) : Decidable (ruled l obj) := by unfold ruled; infer_instance

theorem isRuled_eq (l : List impl_Job) (obj : Int) (hl : l.length < 900000) : x_impl_isRuled l obj = some (decide (ruled l obj)) := by
  unfold x_impl_isRuled
  simp only [IsJobs_eq, within_eq, isPlain_eq l hl, Option.bind_some, decide_eq_true_eq]
  by_cases h1 : good l
  · rw [if_pos h1]
    by_cases h2 : obj = 1
    · rw [if_pos h2]; simp [ruled, h1, h2]
    · rw [if_neg h2]
      by_cases h3 : 2 ≤ obj ∧ obj ≤ 4
      · rw [if_pos h3]; simp [ruled, h1, h2, h3]
      · rw [if_neg h3]; simp [ruled, h1, h2, h3]
  · rw [if_neg h1]; simp [ruled, h1]

theorem l3Plain_eq (l : List impl_Job) (hl : l.length < 900000) : x_spec_l3Plain l = some (decide (∀ j ∈ l, j.Release = 0)) := by
  unfold x_spec_l3Plain
  obtain ⟨p, e, hp⟩ := scan (n := l.length) (b := x_spec_l3Plain_l0 l) false (fun i => ∃ h : i < l.length, l[i].Release = 0) (by
    intro i hi
    have hlt : (i : Int) < (l.length : Int) := by omega
    unfold x_spec_l3Plain_l0
    rw [if_pos hlt, bind_some_of (ix_lt hi), inc_i (show i < 1000000000 by omega)]
    by_cases k1 : l[i].Release = 0
    · exact .inl ⟨⟨hi, k1⟩, by rw [if_pos k1]⟩
    · exact .inr ⟨fun ⟨_, h⟩ => k1 h, by rw [if_neg k1]⟩) (by
    unfold x_spec_l3Plain_l0
    rw [if_neg (by omega)]) hl
  rw [bind_some_of e]
  rcases hp with ⟨rfl, hp⟩ | ⟨rfl, i, hi, hp⟩
  · have h1 : ∀ j ∈ l, j.Release = 0 := forall_ix.2 fun i hi => (hp i hi).2
    exact congrArg some (decide_eq_true h1).symm
  · have : ¬ ∀ j ∈ l, j.Release = 0 := fun h => hp ⟨hi, forall_ix.1 h i hi⟩
    exact congrArg some (decide_eq_false this).symm

theorem l3Ruled_eq (l : List impl_Job) (obj : Int) (hl : l.length < 900000) : x_spec_l3Ruled l obj = some (decide (ruled l obj)) := by
  unfold x_spec_l3Ruled
  simp only [l2Good_eq l hl, l1In_eq, l3Plain_eq l hl, Option.bind_some, decide_eq_true_eq]
  by_cases h1 : good l
  · rw [if_pos h1]
    by_cases h2 : obj = 1
    · rw [if_pos (show 1 ≤ obj ∧ obj ≤ 4 by omega), if_pos h2]; simp [ruled, h1, h2]
    · by_cases h3 : 2 ≤ obj ∧ obj ≤ 4
      · rw [if_pos (show 1 ≤ obj ∧ obj ≤ 4 by omega), if_neg h2]; simp [ruled, h1, h2, h3]
      · rw [if_neg (show ¬ (1 ≤ obj ∧ obj ≤ 4) by omega)]; simp [ruled, h1, h2, h3]
  · rw [if_neg h1]; simp [ruled, h1]

/-- A job comes before another one in the ruled order. -/
def rsoon (l : List impl_Job) (obj : Int) (a b : Nat) : Prop := (a < l.length ∧ b < l.length) ∧ (gap obj (jb l a) (jb l b) < 0 ∨ (gap obj (jb l a) (jb l b) = 0 ∧ a < b))

theorem rsoon_le {l : List impl_Job} {obj : Int} {a b : Nat} (h : rsoon l obj a b) : gap obj (jb l a) (jb l b) ≤ 0 := by unfold rsoon at h; omega

theorem rsoon_trans {l : List impl_Job} (hg : good l) {obj : Int} {a b c : Nat} (h1 : rsoon l obj a b) (h2 : rsoon l obj b c) : rsoon l obj a c := by
  have ja := jb_ok hg h1.1.1
  have jb' := jb_ok hg h1.1.2
  have jc := jb_ok hg h2.1.2
  have h3 := gap_trans ja jb' jc (rsoon_le h1) (rsoon_le h2)
  refine ⟨⟨h1.1.1, h2.1.2⟩, ?_⟩
  by_cases e : gap obj (jb l a) (jb l c) = 0
  · refine .inr ⟨e, ?_⟩
    have a1 := gap_anti obj (jb l a) (jb l b)
    have a2 := gap_anti obj (jb l b) (jb l c)
    have a3 := gap_anti obj (jb l a) (jb l c)
    have b1 := rsoon_le h1
    have b2 := rsoon_le h2
    have c1 := gap_trans jc ja jb' (obj := obj) (by omega) b1
    have c2 := gap_trans jb' jc ja (obj := obj) b2 (by omega)
    have d1 := h1.2
    have d2 := h2.2
    omega
  · exact .inl (by omega)

theorem l3Order_eq {l : List impl_Job} (hg : good l) (obj : Int) : ∃ q, x_spec_l3Order l obj = some (ic q) ∧ IsOrd l.length q ∧ q.Pairwise (rsoon l obj) := by
  have hn := hg.1
  unfold x_spec_l3Order
  have key := loopS_inv (b := x_spec_l3Order_l0 l obj) (fun i (s : List Int × Int) => s.2 = (i : Int) ∧ ∃ out : List Nat, s.1 = ic out ∧ out.Perm (List.range i) ∧ out.Pairwise (rsoon l obj)) (fun r => ∃ q : List Nat, r = ic q ∧ q.Perm (List.range l.length) ∧ q.Pairwise (rsoon l obj)) l.length (by
    rintro i ⟨out', y2⟩ hi ⟨h2, out, h0, h3, h4⟩
    simp only at h2 h0
    subst h2 h0
    have hol : out.length = i := by have := h3.length_eq; simpa using this
    have hmem : ∀ y ∈ out, y < i := fun y hy => by have := h3.mem_iff.1 hy; simpa using this
    -- the place
    have kp := loopS_inv (b := x_spec_l3Order_l1 l obj (ic out) (i : Int)) (fun k (s : Int) => s = (k : Int) ∧ ∀ j (h : j < out.length), j < k → gap obj (jb l out[j]) (jb l i) ≤ 0)
      (fun r => ∃ k : Nat, r = (k : Int) ∧ k ≤ out.length ∧ (∀ j (h : j < out.length), j < k → gap obj (jb l out[j]) (jb l i) ≤ 0) ∧ ∀ h : k < out.length, ¬ gap obj (jb l out[k]) (jb l i) ≤ 0) out.length (by
      rintro k s hk ⟨rfl, hs⟩
      have hkl : out[k] < l.length := by have := hmem _ (List.getElem_mem hk); omega
      unfold x_spec_l3Order_l1
      rw [if_pos (by rw [ic_len]; omega), bind_some_of (ic_get hk), bind_some_of (l3Gap_eq hg hkl hi obj), inc_i (by omega)]
      by_cases hb : gap obj (jb l out[k]) (jb l i) ≤ 0
      · refine .inl ⟨_, if_pos hb, rfl, fun j hj hjk => ?_⟩
        by_cases e : j = k
        · subst e; exact hb
        · exact hs j hj (by omega)
      · exact .inr ⟨_, if_neg hb, k, rfl, Nat.le_of_lt hk, hs, fun _ => hb⟩) (by
      rintro s ⟨rfl, hs⟩
      unfold x_spec_l3Order_l1
      rw [if_neg (by rw [ic_len]; omega)]
      exact ⟨_, rfl, out.length, rfl, Nat.le_refl _, hs, fun h => absurd h (by omega)⟩) (LL_lt (by omega)) 0 ⟨rfl, fun j _ h => absurd h (Nat.not_lt_zero _)⟩
    obtain ⟨_, e1, k, rfl, hk, hbefore, hat⟩ := kp
    have hil : (ic out).length = out.length := ic_len out
    have c1 : cut (ic out) 0 (k : Int) = some (ic (out.take k)) := by
      have := cut_ok (l := ic out) (lo := 0) (hi := k) (Nat.zero_le _) (by omega)
      simpa [ic] using this
    have c2 : cut (ic out) (k : Int) ((ic out).length : Int) = some (ic (out.drop k)) := by
      have := cut_ok (l := ic out) (lo := k) (hi := (ic out).length) (by omega) (Nat.le_refl _)
      rw [this, List.take_length]; simp [ic]
    have htl : (ic (out.take k)).length ≤ 1000 := by rw [ic_len, List.length_take]; omega
    have hdl : (ic (out.drop k)).length ≤ 1000 := by rw [ic_len, List.length_drop]; omega
    have a1 : app 8 (ic (out.take k)) [(i : Int)] = some (ic (out.take k) ++ [(i : Int)]) := app_ok (by simp; omega) (by omega)
    have a2 : app 8 (ic (out.take k) ++ [(i : Int)]) (ic (out.drop k)) = some (ic (out.take k ++ i :: out.drop k)) := by
      rw [app_ok (by simp only [List.length_append, List.length_cons, List.length_nil]; omega) (by omega)]
      simp [ic]
    unfold x_spec_l3Order_l0
    simp only
    rw [if_pos (by omega), bind_some_of e1, bind_some_of c1, bind_some_of (l1Own_eq (by omega)), bind_some_of a1, bind_some_of c2, bind_some_of a2, inc_i (by omega)]
    refine .inl ⟨_, rfl, rfl, _, rfl, ?_, ?_⟩
    · rw [List.range_succ]
      refine List.perm_middle.trans ?_
      rw [List.take_append_drop]
      refine (List.Perm.cons _ h3).trans ?_
      exact (List.perm_append_comm (l₁ := [i]) (l₂ := List.range i))
    · have hsplit : (out.take k ++ out.drop k).Pairwise (rsoon l obj) := by rw [List.take_append_drop]; exact h4
      obtain ⟨p1, p2, p3⟩ := List.pairwise_append.1 hsplit
      have hd : ∀ b ∈ out.drop k, rsoon l obj i b := fun b hb' => by
        obtain ⟨j, hj, rfl⟩ := List.mem_drop_iff_getElem.1 hb'
        have hklt : k < out.length := by omega
        have hkl : out[k] < l.length := by have := hmem _ (List.getElem_mem hklt); omega
        have h5 : rsoon l obj i out[k] := by
          have := hat hklt
          have := gap_anti obj (jb l i) (jb l out[k])
          exact ⟨⟨hi, hkl⟩, .inl (by omega)⟩
        by_cases e : j = 0
        · subst e; exact h5
        · exact rsoon_trans hg h5 ((List.pairwise_iff_getElem.1 h4) k (k + j) hklt (by omega) (by omega))
      have ht : ∀ a ∈ out.take k, rsoon l obj a i := fun a ha => by
        obtain ⟨j, hj, rfl⟩ := List.mem_take_iff_getElem.1 ha
        have h5 := hbefore j (by omega) (by omega)
        have h6 := hmem out[j] (List.getElem_mem _)
        exact ⟨⟨by omega, hi⟩, by omega⟩
      refine List.pairwise_append.2 ⟨p1, List.pairwise_cons.2 ⟨hd, p2⟩, fun a ha b hb' => ?_⟩
      rcases List.mem_cons.1 hb' with rfl | hb'
      · exact ht a ha
      · exact p3 a ha b hb') (by
    rintro ⟨out', y2⟩ ⟨h2, out, h0, h3, h4⟩
    simp only at h2 h0
    subst h2 h0
    unfold x_spec_l3Order_l0
    simp only
    rw [if_neg (by omega)]
    exact ⟨_, rfl, out, rfl, h3, h4⟩) (LL_lt (by omega)) ([], 0) ⟨rfl, [], rfl, by simp, List.Pairwise.nil⟩
  obtain ⟨r, e, q, rfl, h1, h2⟩ := key
  exact ⟨q, bind_some_of e, IsOrd.of_perm h1, h2⟩

/-- Neighbors in order are all in order. -/
theorem neighbors {l : List impl_Job} (hg : good l) {obj : Int} {o : List Nat} (ho : ∀ i ∈ o, i < l.length) : (∀ k (h : k + 1 < o.length), gap obj (jb l o[k]) (jb l o[k + 1]) ≤ 0) ↔ o.Pairwise fun a b => gap obj (jb l a) (jb l b) ≤ 0 := by
  constructor
  · intro h
    induction o with
    | nil => exact List.Pairwise.nil
    | cons a o ih =>
      have ih' := ih (fun i hi => ho i (by simp [hi])) (fun k hk => h (k + 1) (by simp; omega))
      refine List.pairwise_cons.2 ⟨fun b hb => ?_, ih'⟩
      cases o with
      | nil => cases hb
      | cons c o =>
        have h0 := h 0 (by simp)
        simp only [List.getElem_cons_zero, List.getElem_cons_succ] at h0
        rcases List.mem_cons.1 hb with rfl | hb
        · exact h0
        · exact gap_trans (jb_ok hg (ho a (by simp))) (jb_ok hg (ho c (by simp))) (jb_ok hg (ho b (by simp [hb]))) h0 ((List.pairwise_cons.1 ih').1 b hb)
  · intro h k hk
    exact (List.pairwise_iff_getElem.1 h) k (k + 1) (by omega) hk (by omega)

theorem isRuledLoop_eq {l : List impl_Job} (hg : good l) {o : List Nat} (ho : IsOrd l.length o) (obj : Int) : ∃ b, loopS (x_impl_IsRuledOrder_l0 l (ic o) obj) LL 1 = some (if b = true then .inl () else .inr (false, true)) ∧ (b = true ↔ o.Pairwise fun a b => gap obj (jb l a) (jb l b) ≤ 0) := by
  have hn := hg.1
  have hol := ho.1
  have key := loopS_inv (b := x_impl_IsRuledOrder_l0 l (ic o) obj) (fun i (s : Int) => s = ((i + 1 : Nat) : Int) ∧ ∀ k (h : k + 1 < o.length), k < i → gap obj (jb l o[k]) (jb l o[k + 1]) ≤ 0)
    (fun p => (p = .inl () ∧ ∀ k (h : k + 1 < o.length), gap obj (jb l o[k]) (jb l o[k + 1]) ≤ 0) ∨ (p = .inr (false, true) ∧ ¬ ∀ k (h : k + 1 < o.length), gap obj (jb l o[k]) (jb l o[k + 1]) ≤ 0)) (o.length - 1) (by
    rintro i s hi ⟨rfl, hs⟩
    have h1 : i + 1 < o.length := by omega
    have h0 : i < o.length := by omega
    have ha : o[i + 1] < l.length := ho.2.2 _ (List.getElem_mem h1)
    have hb : o[i] < l.length := ho.2.2 _ (List.getElem_mem h0)
    have hsub : subK .i64 ((i + 1 : Nat) : Int) 1 = (i : Int) := by rw [sub_i (by omega) (by omega)]; omega
    unfold x_impl_IsRuledOrder_l0
    rw [if_pos (by rw [ic_len]; omega), bind_some_of (ic_get h1), bind_some_of (jb_ix ha), hsub, bind_some_of (ic_get h0), bind_some_of (jb_ix hb), bind_some_of (difference_eq (jb_ok hg ha) (jb_ok hg hb) obj), inc_i (by omega)]
    have hanti := gap_anti obj (jb l o[i]) (jb l o[i + 1])
    by_cases hlt : gap obj (jb l o[i + 1]) (jb l o[i]) < 0
    · exact .inr ⟨_, if_pos hlt, .inr ⟨rfl, fun h => by have := h i h1; omega⟩⟩
    · refine .inl ⟨_, if_neg hlt, rfl, fun k hk hki => ?_⟩
      by_cases e : k = i
      · subst e; omega
      · exact hs k hk (by omega)) (by
    rintro s ⟨rfl, hs⟩
    unfold x_impl_IsRuledOrder_l0
    rw [if_neg (by rw [ic_len]; omega)]
    exact ⟨_, rfl, .inl ⟨rfl, fun k hk => hs k hk (by omega)⟩⟩) (LL_lt (by omega)) 1 ⟨rfl, fun k _ h => absurd h (Nat.not_lt_zero _)⟩
  obtain ⟨p, e, hp⟩ := key
  rcases hp with ⟨rfl, hp⟩ | ⟨rfl, hp⟩
  · exact ⟨true, by rw [e]; rfl, by simp [(neighbors hg ho.2.2).1 hp]⟩
  · exact ⟨false, by rw [e]; rfl, by simp only [Bool.false_eq_true, false_iff]; exact fun h => hp ((neighbors hg ho.2.2).2 h)⟩
end Gh
