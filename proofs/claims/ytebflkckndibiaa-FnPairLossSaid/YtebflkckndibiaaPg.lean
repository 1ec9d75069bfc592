/- Plain laws: due order has the least greatest lateness; the law of lateness. -/
import Derived.Test.YtebflkckndibiaaPf
namespace Gh
open Go
set_option linter.unusedSimpArgs false
set_option linter.unusedVariables false
set_option maxRecDepth 100000

/-- A job's lateness in an order. -/
def lateA (l : List impl_Job) (o : List Nat) (i : Nat) : Int := (endsA l o).getD i 0 - (jb l i).Due

theorem fold_late (l : List impl_Job) (es : List Int) : ∀ m, 0 < m → (∀ i, i < m → es.getD i 0 - (jb l i).Due ≤ (List.range m).foldl (fun v i => addV v (jb l i) (es.getD i 0) 4 (decide (i = 0))) 0) ∧
    ∃ i, i < m ∧ (List.range m).foldl (fun v i => addV v (jb l i) (es.getD i 0) 4 (decide (i = 0))) 0 = es.getD i 0 - (jb l i).Due
  | 0, h => absurd h (by omega)
  | m + 1, _ => by
    rw [List.range_succ, List.foldl_append]
    simp only [List.foldl_cons, List.foldl_nil]
    by_cases hm : m = 0
    · subst hm
      have : addV ((List.range 0).foldl (fun v i => addV v (jb l i) (es.getD i 0) 4 (decide (i = 0))) 0) (jb l 0) (es.getD 0 0) 4 (decide (0 = 0)) = es.getD 0 0 - (jb l 0).Due := by simp [addV]
      rw [this]
      exact ⟨fun i hi => by rw [show i = 0 by omega]; exact Int.le_refl _, 0, by omega, rfl⟩
    · obtain ⟨h1, k, hk, h2⟩ := fold_late l es m (by omega)
      have hs : ∀ v, addV v (jb l m) (es.getD m 0) 4 (decide (m = 0)) = max v (es.getD m 0 - (jb l m).Due) := fun v => by simp [addV, hm]
      rw [hs]
      refine ⟨fun i hi => ?_, ?_⟩
      · by_cases e : i = m
        · subst e; exact Int.le_max_right _ _
        · exact Int.le_trans (h1 i (by omega)) (Int.le_max_left _ _)
      · rw [Int.max_def]
        split
        · exact ⟨m, by omega, rfl⟩
        · exact ⟨k, by omega, h2⟩

theorem val_late (l : List impl_Job) (o : List Nat) (hn : 0 < l.length) : (∀ i, i < l.length → lateA l o i ≤ val l o 4) ∧ ∃ i, i < l.length ∧ val l o 4 = lateA l o i := fold_late l (endsA l o) l.length hn

theorem val_nil {l : List impl_Job} (o : List Nat) (obj : Int) (h : l.length = 0) : val l o obj = 0 := by
  unfold val valE
  rw [h]
  rfl

/-- The sum of the times of some jobs. -/
def tsum (l : List impl_Job) (p : List Nat) : Int := (p.map fun i => (jb l i).Time).sum

theorem tsum_app (l : List impl_Job) (p q : List Nat) : tsum l (p ++ q) = tsum l p + tsum l q := by simp [tsum]

theorem tsum_cons (l : List impl_Job) (a : Nat) (p : List Nat) : tsum l (a :: p) = (jb l a).Time + tsum l p := by simp [tsum]

theorem tsum_nonneg {l : List impl_Job} : ∀ {p : List Nat}, (∀ i ∈ p, 0 ≤ (jb l i).Time) → 0 ≤ tsum l p
  | [], _ => by simp [tsum]
  | a :: p, h => by
    rw [tsum_cons]
    have h1 := h a (by simp)
    have h2 := tsum_nonneg (l := l) (p := p) fun i hi => h i (by simp [hi])
    omega

theorem tsum_perm {l : List impl_Job} {p q : List Nat} (h : p.Perm q) : tsum l p = tsum l q := by
  induction h with
  | nil => rfl
  | cons a _ ih => rw [tsum_cons, tsum_cons, ih]
  | swap a b p => simp only [tsum_cons]; omega
  | trans _ _ h1 h2 => rw [h1, h2]

theorem tsum_sub {l : List impl_Job} : ∀ (p q : List Nat), p.Nodup → (∀ i ∈ p, i ∈ q) → (∀ i ∈ q, 0 ≤ (jb l i).Time) → tsum l p ≤ tsum l q
  | [], q, _, _, h => tsum_nonneg h
  | a :: p, q, hn, hs, h => by
    rw [List.nodup_cons] at hn
    have ha : a ∈ q := hs a (by simp)
    rw [tsum_perm (List.perm_cons_erase ha), tsum_cons, tsum_cons]
    have := tsum_sub p (q.erase a) hn.2 (fun i hi => (List.mem_erase_of_ne (fun (e : i = a) => hn.1 (e ▸ hi))).2 (hs i (by simp [hi]))) (fun i hi => h i (List.mem_of_mem_erase hi))
    omega

theorem endT_plain {l : List impl_Job} : ∀ {p : List Nat}, (∀ i ∈ p, (jb l i).Release = 0 ∧ 0 ≤ (jb l i).Time) → ∀ t, 0 ≤ t → p.foldl (nextT l) t = t + tsum l p
  | [], _, t, _ => by simp [tsum]
  | a :: p, h, t, ht => by
    obtain ⟨h1, h2⟩ := h a (by simp)
    have hx : nextT l t a = t + (jb l a).Time := by unfold nextT; rw [h1, Int.max_def]; split <;> omega
    rw [List.foldl_cons, hx, endT_plain (fun i hi => h i (by simp [hi])) _ (by omega), tsum_cons]
    omega

theorem plain_jb {l : List impl_Job} (h : plain l) {i : Nat} (hi : i < l.length) : (jb l i).Release = 0 ∧ 0 ≤ (jb l i).Time := by
  have h1 := jb_ok h.1 hi
  unfold jobOk at h1
  refine ⟨?_, by omega⟩
  rw [jb_lt hi]
  exact h.2 _ (List.getElem_mem hi)

/-- Jobs without releases and of no negative time, whatever their dates. -/
def Free (l : List impl_Job) : Prop := ∀ i, i < l.length → (jb l i).Release = 0 ∧ 0 ≤ (jb l i).Time

theorem late_at {l : List impl_Job} (h : Free l) {o p q : List Nat} {k : Nat} (ho : IsOrd l.length o) (e : o = p ++ k :: q) : lateA l o k = tsum l (p ++ [k]) - (jb l k).Due := by
  subst e
  have hk : k < l.length := ho.2.2 k (by simp)
  have hq : k ∉ q := by
    have := (List.nodup_append.1 ho.2.1).2.1
    rw [List.nodup_cons] at this
    exact this.1
  unfold lateA
  rw [List.getD_eq_getElem?_getD, endsA_at hk hq, Option.getD_some, endT, endT_plain (fun i hi => h i (ho.2.2 i (by
    rcases List.mem_append.1 hi with h | h
    · simp [h]
    · have : i = k := by simpa using h
      simp [this]))) 0 (Int.le_refl 0)]
  omega

/-- The last element of a list that has a property. -/
theorem last_split {P : Nat → Prop} : ∀ {o : List Nat}, (∃ i ∈ o, P i) → ∃ p k q, o = p ++ k :: q ∧ P k ∧ ∀ i ∈ q, ¬ P i
  | [], h => by obtain ⟨i, hi, _⟩ := h; cases hi
  | a :: o, h => by
    by_cases hx : ∃ i ∈ o, P i
    · obtain ⟨p, k, q, e, h1, h2⟩ := last_split hx
      exact ⟨a :: p, k, q, by rw [e]; rfl, h1, h2⟩
    · obtain ⟨i, hi, hp⟩ := h
      rcases List.mem_cons.1 hi with rfl | hi
      · exact ⟨[], i, o, rfl, hp, fun k hk hpk => hx ⟨k, hk, hpk⟩⟩
      · exact absurd ⟨i, hi, hp⟩ hx

/-- Due order has the least greatest lateness. -/
theorem edd {l : List impl_Job} (h : Free l) {r : List Nat} (hr : IsOrd l.length r) (hs : r.Pairwise fun a b => (jb l a).Due ≤ (jb l b).Due) {o : List Nat} (ho : IsOrd l.length o) : val l r 4 ≤ val l o 4 := by
  by_cases hn : l.length = 0
  · rw [val_nil r 4 hn, val_nil o 4 hn]; exact Int.le_refl _
  · obtain ⟨_, c, hc, e⟩ := val_late l r (by omega)
    obtain ⟨p, q, er⟩ := List.append_of_mem (hr.all hc)
    rw [e, late_at h hr er]
    obtain ⟨a, k, b, eo, hk, hb⟩ := last_split (P := fun i => i ∈ p ++ [c]) (o := o) ⟨c, ho.all hc, by simp⟩
    have hkl : k < l.length := ho.2.2 k (by rw [eo]; simp)
    have h1 := (val_late l o (by omega)).1 k hkl
    rw [late_at h ho eo] at h1
    have hnd : (p ++ [c]).Nodup := by
      have := hr.2.1
      rw [er, show p ++ c :: q = (p ++ [c]) ++ q by simp] at this
      exact (List.nodup_append.1 this).1
    have h2 : tsum l (p ++ [c]) ≤ tsum l (a ++ [k]) := tsum_sub _ _ hnd (fun i hi => by
      have hil : i < l.length := hr.2.2 i (by
        rw [er]
        rcases List.mem_append.1 hi with x | x
        · simp [x]
        · have : i = c := by simpa using x
          simp [this])
      have hio := ho.all hil
      rw [eo] at hio
      rcases List.mem_append.1 hio with x | x
      · simp [x]
      · rcases List.mem_cons.1 x with x | x
        · simp [x]
        · exact absurd hi (hb i x)) (fun i hi => (h i (ho.2.2 i (by
          rw [eo]
          rcases List.mem_append.1 hi with x | x
          · simp [x]
          · have : i = k := by simpa using x
            simp [this]))).2)
    have h3 : (jb l k).Due ≤ (jb l c).Due := by
      rcases List.mem_append.1 hk with x | x
      · rw [er] at hs
        exact (List.pairwise_append.1 hs).2.2 k x c (by simp)
      · have : k = c := by simpa using x
        rw [this]; exact Int.le_refl _
    omega

theorem free_of_plain {l : List impl_Job} (h : plain l) : Free l := fun i hi => plain_jb h hi

theorem isValued_ok {l : List impl_Job} (hg : good l) {o : List Nat} (ho : IsOrd l.length o) {obj : Int} (h1 : 1 ≤ obj) (h8 : obj ≤ 8) : x_impl_isValued l (ic o) obj = some true := by
  have hn := hg.1
  unfold x_impl_isValued x_impl_isScheduled x_impl_isObjective
  obtain ⟨b, e, hb⟩ := isOrder_eq l.length (by omega) (ic o) (by rw [ic_len, ho.1]; omega)
  have hbt : b = true := hb.2 ⟨o, rfl, ho⟩
  subst hbt
  simp only [IsJobs_eq, hg, decide_true, Option.bind_some, if_true, e, within_eq]
  simp [h1, h8]
end Gh
