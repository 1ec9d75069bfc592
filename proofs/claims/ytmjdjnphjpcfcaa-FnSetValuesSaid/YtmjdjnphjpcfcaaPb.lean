/- Plain laws: checks of jobs and of orders. -/
import Derived.Test.YtmjdjnphjpcfcaaPa
namespace Gh
open Go
set_option linter.unusedSimpArgs false
set_option linter.unusedVariables false

/-- A loop that looks at numbers one by one and stops at the first that is not so. -/
theorem scan {n : Nat} {b : Int → Option (Ctl Int (Unit ⊕ Bool))} (r : Bool) (P : Nat → Prop) (h : ∀ i, i < n → (P i ∧ b (i : Int) = some (.next ((i + 1 : Nat) : Int))) ∨ (¬ P i ∧ b (i : Int) = some (.done (.inr r))))
    (hd : b (n : Int) = some (.done (.inl ()))) (hn : n < 900000) : ∃ p, loopS b LL 0 = some p ∧ ((p = .inl () ∧ ∀ i, i < n → P i) ∨ (p = .inr r ∧ ∃ i, i < n ∧ ¬ P i)) := by
  refine loopS_inv (fun i s => s = (i : Int) ∧ ∀ k, k < i → P k) _ n ?_ ?_ (LL_lt (by omega)) 0 ⟨rfl, fun k hk => absurd hk (Nat.not_lt_zero _)⟩
  · rintro i s hi ⟨rfl, hp⟩
    rcases h i hi with ⟨h1, h2⟩ | ⟨h1, h2⟩
    · refine .inl ⟨_, h2, rfl, fun k hk => ?_⟩
      by_cases e : k = i
      · subst e; exact h1
      · exact hp k (by omega)
    · exact .inr ⟨_, h2, .inr ⟨rfl, i, hi, h1⟩⟩
  · rintro s ⟨rfl, hp⟩
    exact ⟨_, hd, .inl ⟨rfl, hp⟩⟩

theorem within_eq (n lo hi : Int) : x_impl_within n lo hi = some (decide (lo ≤ n ∧ n ≤ hi)) := by
  unfold x_impl_within
  by_cases h : lo ≤ n <;> simp [h]

theorem l1In_eq (n lo hi : Int) : x_spec_l1In n lo hi = some (decide (lo ≤ n ∧ n ≤ hi)) := by
  unfold x_spec_l1In
  by_cases h : lo ≤ n <;> simp [h]

/-- A job is valid. -/
def jobOk (j : impl_Job) : Prop := (1 ≤ j.Time ∧ j.Time ≤ 50) ∧ (0 ≤ j.Weight ∧ j.Weight ≤ 50) ∧ (0 ≤ j.Release ∧ j.Release ≤ 500) ∧ (0 ≤ j.Due ∧ j.Due ≤ 500)

instance (j : impl_Job) : Decidable (jobOk j) := by unfold jobOk; infer_instance

/-- A list of jobs is valid. -/
def good (l : List impl_Job) : Prop := l.length ≤ 8 ∧ ∀ j ∈ l, jobOk j

instance (l : List impl_Job) : Decidable (good l) := by unfold good; infer_instance

/-- And all are there at the start. -/
def plain (l : List impl_Job) : Prop := good l ∧ ∀ j ∈ l, j.Release = 0

instance (l : List impl_Job) : Decidable (plain l) := by unfold plain; infer_instance

theorem forall_ix {α : Type} {l : List α} {P : α → Prop} : (∀ x ∈ l, P x) ↔ ∀ i (h : i < l.length), P l[i] := by
  constructor
  · intro h i hi; exact h _ (List.getElem_mem hi)
  · intro h x hx
    obtain ⟨i, hi, rfl⟩ := List.getElem_of_mem hx
    exact h i hi

theorem IsJobs_eq (l : List impl_Job) : x_impl_IsJobs l = some (decide (good l)) := by
  unfold x_impl_IsJobs
  by_cases h8 : 8 < (l.length : Int)
  · rw [if_pos h8]
    have : ¬ good l := fun h => by have := h.1; omega
    simp [this]
  · rw [if_neg h8]
    obtain ⟨p, e, hp⟩ := scan (n := l.length) (b := x_impl_IsJobs_l0 l (l.length : Int)) false (fun i => ∃ h : i < l.length, jobOk l[i]) (by
      intro i hi
      have hlt : (i : Int) < (l.length : Int) := by omega
      unfold x_impl_IsJobs_l0
      rw [if_pos hlt, bind_some_of (ix_lt hi)]
      simp only [within_eq, x_impl_isDate, Option.bind_some, inc_i (show i < 1000000000 by omega), decide_eq_true_eq]
      by_cases k1 : 1 ≤ l[i].Time ∧ l[i].Time ≤ 50
      · by_cases k2 : 0 ≤ l[i].Weight ∧ l[i].Weight ≤ 50
        · by_cases k3 : 0 ≤ l[i].Release ∧ l[i].Release ≤ 500
          · by_cases k4 : 0 ≤ l[i].Due ∧ l[i].Due ≤ 500
            · exact .inl ⟨⟨hi, k1, k2, k3, k4⟩, by rw [if_pos k1, if_pos k2, if_pos k3, if_pos k4]⟩
            · exact .inr ⟨fun ⟨_, h⟩ => k4 h.2.2.2, by rw [if_pos k1, if_pos k2, if_pos k3, if_neg k4]⟩
          · exact .inr ⟨fun ⟨_, h⟩ => k3 h.2.2.1, by rw [if_pos k1, if_pos k2, if_neg k3]⟩
        · exact .inr ⟨fun ⟨_, h⟩ => k2 h.2.1, by rw [if_pos k1, if_neg k2]⟩
      · exact .inr ⟨fun ⟨_, h⟩ => k1 h.1, by rw [if_neg k1]⟩) (by
      unfold x_impl_IsJobs_l0
      rw [if_neg (by omega)]) (by omega)
    rw [bind_some_of e]
    rcases hp with ⟨rfl, hp⟩ | ⟨rfl, i, hi, hp⟩
    · have : good l := ⟨by omega, forall_ix.2 fun i hi => (hp i hi).2⟩
      simp [this]
    · have : ¬ good l := fun h => hp ⟨hi, forall_ix.1 h.2 i hi⟩
      simp [this]

theorem l2Job_eq (j : impl_Job) : x_spec_l2Job j = some (decide (jobOk j)) := by
  unfold x_spec_l2Job jobOk
  simp only [l1In_eq, Option.bind_some, decide_eq_true_eq]
  by_cases k1 : 1 ≤ j.Time ∧ j.Time ≤ 50 <;> by_cases k2 : 0 ≤ j.Weight ∧ j.Weight ≤ 50 <;> by_cases k3 : 0 ≤ j.Release ∧ j.Release ≤ 500 <;> simp [k1, k2, k3]

theorem l2Good_eq (l : List impl_Job) (hl : l.length < 900000) : x_spec_l2Good l = some (decide (good l)) := by
  unfold x_spec_l2Good
  obtain ⟨p, e, hp⟩ := scan (n := l.length) (b := x_spec_l2Good_l0 l) false (fun i => ∃ h : i < l.length, jobOk l[i]) (by
    intro i hi
    have hlt : (i : Int) < (l.length : Int) := by omega
    unfold x_spec_l2Good_l0
    rw [if_pos hlt, bind_some_of (ix_lt hi)]
    simp only [l2Job_eq, Option.bind_some, inc_i (show i < 1000000000 by omega), decide_eq_true_eq]
    by_cases k1 : jobOk l[i]
    · exact .inl ⟨⟨hi, k1⟩, by rw [if_pos k1]⟩
    · exact .inr ⟨fun ⟨_, h⟩ => k1 h, by rw [if_neg k1]⟩) (by
    unfold x_spec_l2Good_l0
    rw [if_neg (by omega)]) hl
  rw [bind_some_of e]
  rcases hp with ⟨rfl, hp⟩ | ⟨rfl, i, hi, hp⟩
  · have h1 : ∀ j ∈ l, jobOk j := forall_ix.2 fun i hi => (hp i hi).2
    simp only [Option.some.injEq, decide_eq_decide]
    unfold good
    constructor
    · intro h; exact ⟨by omega, h1⟩
    · intro h; have := h.1; omega
  · have : ¬ good l := fun h => hp ⟨hi, forall_ix.1 h.2 i hi⟩
    simp [this]

theorem isPlain_eq (l : List impl_Job) (hl : l.length < 900000) : x_impl_isPlain l = some (decide (∀ j ∈ l, j.Release = 0)) := by
  unfold x_impl_isPlain
  obtain ⟨p, e, hp⟩ := scan (n := l.length) (b := x_impl_isPlain_l0 l (l.length : Int)) false (fun i => ∃ h : i < l.length, l[i].Release = 0) (by
    intro i hi
    have hlt : (i : Int) < (l.length : Int) := by omega
    unfold x_impl_isPlain_l0
    rw [if_pos hlt, bind_some_of (ix_lt hi), inc_i (show i < 1000000000 by omega)]
    by_cases k1 : l[i].Release = 0
    · exact .inl ⟨⟨hi, k1⟩, by rw [if_pos k1]⟩
    · exact .inr ⟨fun ⟨_, h⟩ => k1 h, by rw [if_neg k1]⟩) (by
    unfold x_impl_isPlain_l0
    rw [if_neg (by omega)]) hl
  rw [bind_some_of e]
  rcases hp with ⟨rfl, hp⟩ | ⟨rfl, i, hi, hp⟩
  · have h1 : ∀ j ∈ l, j.Release = 0 := forall_ix.2 fun i hi => (hp i hi).2
    exact congrArg some (decide_eq_true h1).symm
  · have : ¬ ∀ j ∈ l, j.Release = 0 := fun h => hp ⟨hi, forall_ix.1 h i hi⟩
    exact congrArg some (decide_eq_false this).symm

theorem l4Free_eq (l : List impl_Job) (hl : l.length < 900000) : x_spec_l4Free l = some (decide (∀ j ∈ l, j.Release ≤ 0)) := by
  unfold x_spec_l4Free
  obtain ⟨p, e, hp⟩ := scan (n := l.length) (b := x_spec_l4Free_l0 l) false (fun i => ∃ h : i < l.length, l[i].Release ≤ 0) (by
    intro i hi
    have hlt : (i : Int) < (l.length : Int) := by omega
    unfold x_spec_l4Free_l0
    rw [if_pos hlt, bind_some_of (ix_lt hi), inc_i (show i < 1000000000 by omega)]
    by_cases k1 : 0 < l[i].Release
    · exact .inr ⟨fun ⟨_, h⟩ => by omega, by rw [if_pos k1]⟩
    · exact .inl ⟨⟨hi, by omega⟩, by rw [if_neg k1]⟩) (by
    unfold x_spec_l4Free_l0
    rw [if_neg (by omega)]) hl
  rw [bind_some_of e]
  rcases hp with ⟨rfl, hp⟩ | ⟨rfl, i, hi, hp⟩
  · have h1 : ∀ j ∈ l, j.Release ≤ 0 := forall_ix.2 fun i hi => (hp i hi).2
    exact congrArg some (decide_eq_true h1).symm
  · have : ¬ ∀ j ∈ l, j.Release ≤ 0 := fun h => hp ⟨hi, forall_ix.1 h i hi⟩
    exact congrArg some (decide_eq_false this).symm

theorem IsPlain_eq (l : List impl_Job) (hl : l.length < 900000) : x_impl_IsPlain l = some (decide (plain l)) := by
  unfold x_impl_IsPlain
  simp only [IsJobs_eq, isPlain_eq l hl, Option.bind_some, decide_eq_true_eq]
  by_cases h : good l
  · rw [if_pos h]; simp [plain, h]
  · rw [if_neg h]; simp [plain, h]

theorem l6Good_eq (l : List impl_Job) (hl : l.length < 900000) : x_spec_l6Good l = some (decide (plain l)) := by
  unfold x_spec_l6Good
  simp only [l2Good_eq l hl, l4Free_eq l hl, Option.bind_some, decide_eq_true_eq]
  by_cases h : good l
  · rw [if_pos h]
    simp only [Option.some.injEq, decide_eq_decide, plain, h, true_and]
    constructor
    · intro k j hj; have := k j hj; have := (h.2 j hj).2.2.1; omega
    · intro k j hj; have := k j hj; omega
  · rw [if_neg h]; simp [plain, h]

/-- Natural numbers as integers. -/
def ic (o : List Nat) : List Int := o.map fun (i : Nat) => (i : Int)

theorem ic_len (o : List Nat) : (ic o).length = o.length := by simp [ic]

theorem ic_get {o : List Nat} {i : Nat} (h : i < o.length) : ix (ic o) (i : Int) = some (o[i] : Int) := by rw [ix_cast]; simp [ic, h]

theorem ic_app (a b : List Nat) : ic (a ++ b) = ic a ++ ic b := by simp [ic]

theorem ic_inj : ∀ {a b : List Nat}, ic a = ic b → a = b
  | [], [], _ => rfl
  | [], _ :: _, h => by simp [ic] at h
  | _ :: _, [], h => by simp [ic] at h
  | x :: a, y :: b, h => by
    simp only [ic, List.map_cons, List.cons.injEq] at h
    rw [ic_inj (a := a) (b := b) h.2, show x = y by omega]

theorem ic_mem {o : List Nat} {x : Int} : x ∈ ic o ↔ ∃ i ∈ o, (i : Int) = x := by simp [ic]

/-- An order of 'n' jobs. -/
def IsOrd (n : Nat) (p : List Nat) : Prop := p.length = n ∧ p.Nodup ∧ ∀ i ∈ p, i < n

theorem pigeon : ∀ (p m : List Nat), p.Nodup → (∀ i ∈ p, i ∈ m) → p.length ≤ m.length
  | [], m, _, _ => Nat.zero_le _
  | a :: p, m, hn, hs => by
    rw [List.nodup_cons] at hn
    have ha : a ∈ m := hs a (by simp)
    have := pigeon p (m.erase a) hn.2 (fun i hi => by
      have him := hs i (by simp [hi])
      have hne : i ≠ a := fun e => hn.1 (e ▸ hi)
      exact (List.mem_erase_of_ne hne).2 him)
    rw [List.length_erase_of_mem ha] at this
    have hp : 0 < m.length := List.length_pos_of_mem ha
    simp only [List.length_cons]
    omega

theorem IsOrd.all {n : Nat} {p : List Nat} (h : IsOrd n p) {i : Nat} (hi : i < n) : i ∈ p := by
  by_cases hm : i ∈ p
  · exact hm
  · have := pigeon (i :: p) (List.range n) (List.nodup_cons.2 ⟨hm, h.2.1⟩) (fun k hk => by
      rcases List.mem_cons.1 hk with rfl | hk
      · simpa using hi
      · simpa using h.2.2 k hk)
    simp only [List.length_cons, List.length_range] at this
    have := h.1
    omega

theorem IsOrd.perm {n : Nat} {p : List Nat} (h : IsOrd n p) : p.Perm (List.range n) :=
  (List.perm_ext_iff_of_nodup h.2.1 List.nodup_range).2 fun i => ⟨fun hi => by simpa using h.2.2 i hi, fun hi => h.all (by simpa using hi)⟩

theorem IsOrd.of_perm {n : Nat} {p : List Nat} (h : p.Perm (List.range n)) : IsOrd n p :=
  ⟨by have := h.length_eq; simpa using this, h.nodup_iff.2 List.nodup_range, fun i hi => by have := h.mem_iff.1 hi; simpa using this⟩

theorem scan_mem {l : List Int} {n : Int} {b : Int → Option (Ctl Int (Unit ⊕ Bool))} (hl : l.length < 900000)
    (h : ∀ i, (hi : i < l.length) → b (i : Int) = if l[i] = n then some (.done (.inr true)) else some (.next (addK .i64 (i : Int) 1))) (hd : b (l.length : Int) = some (.done (.inl ()))) :
    ∃ p, loopS b LL 0 = some p ∧ ((p = .inl () ∧ n ∉ l) ∨ (p = .inr true ∧ n ∈ l)) := by
  obtain ⟨p, e, hp⟩ := scan (n := l.length) (b := b) true (fun i => ∀ h : i < l.length, l[i] ≠ n) (by
    intro i hi
    rw [h i hi, inc_i (by omega)]
    by_cases k : l[i] = n
    · exact .inr ⟨fun hh => hh hi k, by rw [if_pos k]⟩
    · exact .inl ⟨fun _ => k, by rw [if_neg k]⟩) hd hl
  refine ⟨p, e, ?_⟩
  rcases hp with ⟨rfl, hp⟩ | ⟨rfl, i, hi, hp⟩
  · exact .inl ⟨rfl, fun hm => by obtain ⟨i, hi, hx⟩ := List.getElem_of_mem hm; exact hp i hi hi hx⟩
  · refine .inr ⟨rfl, ?_⟩
    by_cases k : l[i] = n
    · rw [← k]; exact List.getElem_mem hi
    · exact absurd (fun _ => k) hp

theorem has_eq (l : List Int) (n : Int) (hl : l.length < 900000) : x_impl_has l n = some (decide (n ∈ l)) := by
  unfold x_impl_has
  obtain ⟨p, e, hp⟩ := scan_mem (l := l) (n := n) (b := x_impl_has_l0 n l (l.length : Int)) hl (fun i hi => by
    unfold x_impl_has_l0
    rw [if_pos (by omega), bind_some_of (ix_lt hi)]) (by unfold x_impl_has_l0; rw [if_neg (by omega)])
  rw [bind_some_of e]
  rcases hp with ⟨rfl, hp⟩ | ⟨rfl, hp⟩ <;> simp [hp]

theorem l1Has_eq (l : List Int) (n : Int) (hl : l.length < 900000) : x_spec_l1Has l n = some (decide (n ∈ l)) := by
  unfold x_spec_l1Has
  obtain ⟨p, e, hp⟩ := scan_mem (l := l) (n := n) (b := x_spec_l1Has_l0 l n) hl (fun i hi => by
    unfold x_spec_l1Has_l0
    rw [if_pos (by omega), bind_some_of (ix_lt hi)]) (by unfold x_spec_l1Has_l0; rw [if_neg (by omega)])
  rw [bind_some_of e]
  rcases hp with ⟨rfl, hp⟩ | ⟨rfl, hp⟩ <;> simp [hp]

theorem isNumber_eq (i : Int) (n : Nat) (hn : n < 900000) : x_impl_isNumber i (n : Int) = some (decide (0 ≤ i ∧ i < n)) := by
  unfold x_impl_isNumber
  rw [sub_i (by omega) (by omega), within_eq]
  simp only [Option.bind_some, Option.some.injEq, decide_eq_decide]
  omega

/-- Different numbers below 'n'. -/
theorem areDifferent_eq (n : Nat) (hn : n < 900000) (l : List Int) (hl : l.length < 900000) : ∃ b, x_impl_areDifferent (n : Int) l = some b ∧ (b = true ↔ ∃ p : List Nat, l = ic p ∧ p.Nodup ∧ ∀ i ∈ p, i < n) := by
  unfold x_impl_areDifferent
  obtain ⟨p, e, hp⟩ := scan (n := l.length) (b := x_impl_areDifferent_l0 (n : Int) l l (l.length : Int)) false (fun i => ∃ h : i < l.length, (0 ≤ l[i] ∧ l[i] < n) ∧ l[i] ∉ l.take i) (by
    intro i hi
    have hcut : cut l 0 (i : Int) = some (l.take i) := by
      have := cut_ok (l := l) (lo := 0) (hi := i) (Nat.zero_le _) (Nat.le_of_lt hi)
      simpa using this
    unfold x_impl_areDifferent_l0
    rw [if_pos (by omega), bind_some_of (ix_lt hi)]
    simp only [isNumber_eq _ n hn, Option.bind_some, decide_eq_true_eq, hcut, has_eq (l.take i) _ (by rw [List.length_take]; omega), inc_i (show i < 1000000000 by omega)]
    by_cases k1 : 0 ≤ l[i] ∧ l[i] < n
    · rw [if_pos k1]
      by_cases k2 : l[i] ∈ l.take i
      · rw [if_pos k2]; exact .inr ⟨fun ⟨_, _, h⟩ => h k2, rfl⟩
      · rw [if_neg k2]; exact .inl ⟨⟨hi, k1, k2⟩, rfl⟩
    · rw [if_neg k1]; exact .inr ⟨fun ⟨_, h, _⟩ => k1 h, rfl⟩) (by
    unfold x_impl_areDifferent_l0
    rw [if_neg (by omega)]) hl
  rw [bind_some_of e]
  rcases hp with ⟨rfl, hp⟩ | ⟨rfl, i, hi, hp⟩
  · refine ⟨true, rfl, fun _ => ⟨l.map Int.toNat, ?_, ?_, ?_⟩, fun _ => rfl⟩
    · unfold ic
      rw [List.map_map]
      refine (List.map_id' l).symm.trans (List.map_congr_left fun x hx => ?_)
      obtain ⟨i, hi, rfl⟩ := List.getElem_of_mem hx
      obtain ⟨_, h1, _⟩ := hp i hi
      show l[i] = ((l[i].toNat : Nat) : Int)
      omega
    · rw [List.nodup_iff_pairwise_ne, List.pairwise_iff_getElem]
      intro a c ha hc hac
      simp only [List.length_map] at ha hc
      simp only [List.getElem_map]
      obtain ⟨_, h1, _⟩ := hp a ha
      obtain ⟨_, h2, h3⟩ := hp c hc
      intro he
      refine h3 ?_
      have : l[c] = l[a] := by omega
      rw [this]
      exact List.mem_take_iff_getElem.2 ⟨a, by omega, rfl⟩
    · intro x hx
      obtain ⟨y, hy, rfl⟩ := List.mem_map.1 hx
      obtain ⟨i, hi, rfl⟩ := List.getElem_of_mem hy
      obtain ⟨_, h1, _⟩ := hp i hi
      omega
  · refine ⟨false, rfl, fun h => (by cases h), ?_⟩
    rintro ⟨q, rfl, h1, h2⟩
    refine absurd ⟨hi, ?_, ?_⟩ hp
    · simp only [ic, List.getElem_map]
      have := h2 (q[i]'(by simpa [ic] using hi)) (List.getElem_mem _)
      omega
    · intro hm
      obtain ⟨k, hk, he⟩ := List.mem_take_iff_getElem.1 hm
      simp only [ic, List.getElem_map, List.length_map] at he hk
      have he' : q[k]'(by omega) = q[i]'(by simpa [ic] using hi) := by omega
      have := (List.pairwise_iff_getElem.1 (List.nodup_iff_pairwise_ne.1 h1)) k i (by omega) (by simpa [ic] using hi) (by omega)
      exact this he'

theorem isOrder_eq (n : Nat) (hn : n < 900000) (l : List Int) (hl : l.length < 900000) : ∃ b, x_impl_isOrder (n : Int) l = some b ∧ (b = true ↔ ∃ p, l = ic p ∧ IsOrd n p) := by
  unfold x_impl_isOrder
  by_cases h : (l.length : Int) = n
  · rw [if_pos h]
    obtain ⟨b, e, hb⟩ := areDifferent_eq n hn l hl
    rw [bind_some_of e]
    refine ⟨b, rfl, hb.trans ⟨?_, ?_⟩⟩
    · rintro ⟨p, rfl, h1, h2⟩; exact ⟨p, rfl, by rw [ic_len] at h; omega, h1, h2⟩
    · rintro ⟨p, rfl, h0, h1, h2⟩; exact ⟨p, rfl, h1, h2⟩
  · rw [if_neg h]
    refine ⟨false, rfl, fun k => (by cases k), ?_⟩
    rintro ⟨p, rfl, h0, _⟩
    exact absurd (by simp [ic, h0]) h
end Gh
