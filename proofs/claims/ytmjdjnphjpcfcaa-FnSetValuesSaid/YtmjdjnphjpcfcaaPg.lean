/- Plain laws: due order has the least greatest lateness; the law of lateness. -/
import Derived.Test.YtmjdjnphjpcfcaaPf
namespace Gh
open Go
set_option linter.unusedSimpArgs false
set_option linter.unusedVariables false
set_option maxRecDepth 100000

/-- The sum of the times of some jobs. -/
def tsum (l : List impl_Job) (p : List Nat) : Int := (p.map fun i => (jb l i).Time).sum

theorem tsum_app (l : List impl_Job) (p q : List Nat) : tsum l (p ++ q) = tsum l p + tsum l q := by simp [tsum]

theorem tsum_cons (l : List impl_Job) (a : Nat) (p : List Nat) : tsum l (a :: p) = (jb l a).Time + tsum l p := by simp [tsum]

theorem tsum_nonneg {l : List impl_Job} : ∀ {p : List Nat}, (∀ i ∈ p, 0 ≤ (jb l i).Time) → 0 ≤ tsum l p
  | [], _ => by simp [tsum]
  | a :: p, h => by
    rw [tsum_cons]
    have h1 := h a (by simp)
    have h2 := tsum_nonneg (l := l) (p := p) fun i hi => h i (by simp [hi])
    omega

theorem tsum_perm {l : List impl_Job} {p q : List Nat} (h : p.Perm q) : tsum l p = tsum l q := by
  induction h with
  | nil => rfl
  | cons a _ ih => rw [tsum_cons, tsum_cons, ih]
  | swap a b p => simp only [tsum_cons]; omega
  | trans _ _ h1 h2 => rw [h1, h2]

theorem endT_plain {l : List impl_Job} : ∀ {p : List Nat}, (∀ i ∈ p, (jb l i).Release = 0 ∧ 0 ≤ (jb l i).Time) → ∀ t, 0 ≤ t → p.foldl (nextT l) t = t + tsum l p
  | [], _, t, _ => by simp [tsum]
  | a :: p, h, t, ht => by
    obtain ⟨h1, h2⟩ := h a (by simp)
    have hx : nextT l t a = t + (jb l a).Time := by unfold nextT; rw [h1, Int.max_def]; split <;> omega
    rw [List.foldl_cons, hx, endT_plain (fun i hi => h i (by simp [hi])) _ (by omega), tsum_cons]
    omega

theorem plain_jb {l : List impl_Job} (h : plain l) {i : Nat} (hi : i < l.length) : (jb l i).Release = 0 ∧ 0 ≤ (jb l i).Time := by
  have h1 := jb_ok h.1 hi
  unfold jobOk at h1
  refine ⟨?_, by omega⟩
  rw [jb_lt hi]
  exact h.2 _ (List.getElem_mem hi)

/-- Jobs without releases and of no negative time, whatever their dates. -/
def Free (l : List impl_Job) : Prop := ∀ i, i < l.length → (jb l i).Release = 0 ∧ 0 ≤ (jb l i).Time

theorem free_of_plain {l : List impl_Job} (h : plain l) : Free l := fun i hi => plain_jb h hi

theorem isValued_ok {l : List impl_Job} (hg : good l) {o : List Nat} (ho : IsOrd l.length o) {obj : Int} (h1 : 1 ≤ obj) (h8 : obj ≤ 8) : x_impl_isValued l (ic o) obj = some true := by
  have hn := hg.1
  unfold x_impl_isValued x_impl_isScheduled x_impl_isObjective
  obtain ⟨b, e, hb⟩ := isOrder_eq l.length (by omega) (ic o) (by rw [ic_len, ho.1]; omega)
  have hbt : b = true := hb.2 ⟨o, rfl, ho⟩
  subst hbt
  simp only [IsJobs_eq, hg, decide_true, Option.bind_some, if_true, e, within_eq]
  simp [h1, h8]

theorem plainJobs_ok {m : Nat} {c : spec_l1Cur} (h : CK (m + 302) c) (most : Nat) (hm : most ≤ 9) : ∃ r c', x_spec_l1Cur_plainJobs c (most : Int) = some (r, c') ∧ CK m c' ∧ (r.length ≤ most ∨ r.length = 9) := by
  obtain ⟨b, c1, e1, h1⟩ := one_ok (m := m + 300) h 16
  obtain ⟨r, c2, e2, h2, h3⟩ := someJobs_ok (m := m) h1 b most hm
  exact ⟨r, c2, by unfold x_spec_l1Cur_plainJobs; rw [bind_some_of e1, bind_some_of e2], h2, h3⟩
end Gh
