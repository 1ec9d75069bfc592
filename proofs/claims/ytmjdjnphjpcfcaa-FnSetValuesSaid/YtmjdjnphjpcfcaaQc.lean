/- Plain laws: ruled orders are best; what an order loses. -/
import Derived.Test.YtmjdjnphjpcfcaaQa
namespace Gh
open Go
set_option linter.unusedSimpArgs false
set_option linter.unusedVariables false
set_option maxRecDepth 100000

def isum {α : Type} (f : α → Int) : List α → Int
  | [] => 0
  | a :: l => f a + isum f l

theorem isum_perm {α : Type} (f : α → Int) {l m : List α} (h : l.Perm m) : isum f l = isum f m := by
  induction h with
  | nil => rfl
  | cons a _ ih => simp only [isum, ih]
  | swap a b p => simp only [isum]; omega
  | trans _ _ h1 h2 => rw [h1, h2]

theorem foldl_sum (g : Int → Nat → Int) (f : Nat → Int) : ∀ (o : List Nat) (v : Int), (∀ v, ∀ i ∈ o, g v i = v + f i) → o.foldl g v = v + isum f o
  | [], v, _ => by simp [isum]
  | a :: o, v, h => by
    rw [List.foldl_cons, foldl_sum g f o _ (fun v i hi => h v i (by simp [hi])), h v a (by simp)]
    simp only [isum]
    omega

/-- When orders end: the first objective. -/
theorem fold_end (l : List impl_Job) (es : List Int) : ∀ m, (∀ i, i < m → es.getD i 0 ≤ (List.range m).foldl (fun v i => addV v (jb l i) (es.getD i 0) 1 (decide (i = 0))) 0) ∧ 0 ≤ (List.range m).foldl (fun v i => addV v (jb l i) (es.getD i 0) 1 (decide (i = 0))) 0 ∧
    ((List.range m).foldl (fun v i => addV v (jb l i) (es.getD i 0) 1 (decide (i = 0))) 0 = 0 ∨ ∃ i, i < m ∧ (List.range m).foldl (fun v i => addV v (jb l i) (es.getD i 0) 1 (decide (i = 0))) 0 = es.getD i 0)
  | 0 => ⟨fun i hi => absurd hi (Nat.not_lt_zero _), Int.le_refl 0, .inl rfl⟩
  | m + 1 => by
    obtain ⟨h1, h2, h3⟩ := fold_end l es m
    rw [List.range_succ, List.foldl_append]
    simp only [List.foldl_cons, List.foldl_nil]
    have hs : ∀ v, addV v (jb l m) (es.getD m 0) 1 (decide (m = 0)) = max v (es.getD m 0) := fun v => by simp [addV]
    rw [hs]
    refine ⟨fun i hi => ?_, Int.le_trans h2 (Int.le_max_left _ _), ?_⟩
    · by_cases e : i = m
      · subst e; exact Int.le_max_right _ _
      · exact Int.le_trans (h1 i (by omega)) (Int.le_max_left _ _)
    · rw [Int.max_def]
      split
      · exact .inr ⟨m, by omega, rfl⟩
      · rcases h3 with h | ⟨i, hi, h⟩
        · exact .inl h
        · exact .inr ⟨i, by omega, h⟩

theorem nextT_ge {l : List impl_Job} {t : Int} {i : Nat} (h : 0 ≤ (jb l i).Time) : t + (jb l i).Time ≤ nextT l t i ∧ (jb l i).Release + (jb l i).Time ≤ nextT l t i := by
  unfold nextT
  rw [Int.max_def]
  split <;> omega

theorem endF_ge {l : List impl_Job} : ∀ (o : List Nat) (t : Int), (∀ i ∈ o, 0 ≤ (jb l i).Time) → t + tsum l o ≤ o.foldl (nextT l) t
  | [], t, _ => by simp [tsum]
  | a :: o, t, h => by
    have h1 := (nextT_ge (l := l) (t := t) (h a (by simp))).1
    have h2 := endF_ge o (nextT l t a) fun i hi => h i (by simp [hi])
    rw [List.foldl_cons, tsum_cons]
    omega

theorem good_time {l : List impl_Job} (hg : good l) {i : Nat} (h : i < l.length) : 0 ≤ (jb l i).Time ∧ 0 ≤ (jb l i).Release := by
  have := jb_ok hg h
  unfold jobOk at this
  omega

theorem val_end {l : List impl_Job} (hg : good l) {o : List Nat} (ho : IsOrd l.length o) : val l o 1 = endT l o := by
  obtain ⟨h1, h2, h3⟩ := fold_end l (endsA l o) l.length
  have hmono : ∀ (p q : List Nat), (∀ i ∈ q, 0 ≤ (jb l i).Time) → p.foldl (nextT l) 0 ≤ (p ++ q).foldl (nextT l) 0 := fun p q hq => by
    rw [List.foldl_append]
    have := endF_ge q (p.foldl (nextT l) 0) hq
    have := tsum_nonneg (l := l) (p := q) hq
    omega
  have hat : ∀ i, i < l.length → (endsA l o).getD i 0 ≤ endT l o := fun i hi => by
    obtain ⟨p, q, e⟩ := List.append_of_mem (ho.all hi)
    have hq : i ∉ q := by
      have := ho.2.1
      rw [e] at this
      have := (List.nodup_append.1 this).2.1
      rw [List.nodup_cons] at this
      exact this.1
    rw [e, List.getD_eq_getElem?_getD, endsA_at hi hq, Option.getD_some]
    unfold endT
    have := hmono (p ++ [i]) q fun k hk => (good_time hg (ho.2.2 k (by rw [e]; simp [hk]))).1
    rw [show p ++ i :: q = (p ++ [i]) ++ q by simp]
    exact this
  have hle : val l o 1 ≤ endT l o := by
    rcases h3 with h | ⟨i, hi, h⟩
    · show valE l (endsA l o) 1 ≤ _
      unfold valE
      rw [h]
      unfold endT
      have h4 := endF_ge (l := l) o 0 fun i hi => (good_time hg (ho.2.2 i hi)).1
      have h5 := tsum_nonneg (l := l) (p := o) fun i hi => (good_time hg (ho.2.2 i hi)).1
      omega
    · show valE l (endsA l o) 1 ≤ _
      unfold valE
      rw [h]
      exact hat i hi
  have hge : endT l o ≤ val l o 1 := by
    by_cases hz : o = []
    · subst hz
      show (0 : Int) ≤ valE l (endsA l []) 1
      exact h2
    · have hlast := List.dropLast_concat_getLast hz
      have hm : o.getLast hz < l.length := ho.2.2 _ (List.getLast_mem hz)
      have := h1 _ hm
      have e : (endsA l o).getD (o.getLast hz) 0 = endT l o := by
        have e1 := endsA_at (l := l) (p := o.dropLast) (q := []) hm (by simp)
        rw [hlast] at e1
        rw [List.getD_eq_getElem?_getD, e1, Option.getD_some]
      rw [e] at this
      exact this
  omega
end Gh
