/- Plain laws: the reference finds the same best order; what a best order is. -/
import Derived.Test.YtebflkckndibiaaPd
namespace Gh
open Go
set_option linter.unusedSimpArgs false
set_option linter.unusedVariables false
set_option maxRecDepth 100000

/-- The fold over orders. -/
def foldB (l : List impl_Job) (obj : Int) (s : List Int × Int × Int) (P : List (List Nat)) : List Int × Int × Int := P.foldl (fun s (o : List Nat) => updB s o (val l o obj)) s

/-- What the fold finds. -/
theorem foldB_best (l : List impl_Job) (obj : Int) : ∀ (P : List (List Nat)) (s : List Int × Int × Int), 1 ≤ s.2.2 → 1 ≤ (foldB l obj s P).2.2 ∧ (foldB l obj s P).2.1 ≤ s.2.1 ∧ (∀ o ∈ P, (foldB l obj s P).2.1 ≤ val l o obj) ∧
    ((∃ o ∈ P, (foldB l obj s P).1 = ic o ∧ (foldB l obj s P).2.1 = val l o obj) ∨ ((foldB l obj s P).1 = s.1 ∧ (foldB l obj s P).2.1 = s.2.1))
  | [], s, h => ⟨h, Int.le_refl _, (fun o ho => absurd ho List.not_mem_nil), Or.inr ⟨rfl, rfl⟩⟩
  | o :: P, s, h => by
    show 1 ≤ (foldB l obj (updB s o (val l o obj)) P).2.2 ∧ (foldB l obj (updB s o (val l o obj)) P).2.1 ≤ s.2.1 ∧ (∀ q ∈ o :: P, (foldB l obj (updB s o (val l o obj)) P).2.1 ≤ val l q obj) ∧
      ((∃ q ∈ o :: P, (foldB l obj (updB s o (val l o obj)) P).1 = ic q ∧ (foldB l obj (updB s o (val l o obj)) P).2.1 = val l q obj) ∨ ((foldB l obj (updB s o (val l o obj)) P).1 = s.1 ∧ (foldB l obj (updB s o (val l o obj)) P).2.1 = s.2.1))
    have hu : 1 ≤ (updB s o (val l o obj)).2.2 ∧ (updB s o (val l o obj)).2.1 ≤ s.2.1 ∧ (updB s o (val l o obj)).2.1 ≤ val l o obj ∧
        (((updB s o (val l o obj)).1 = ic o ∧ (updB s o (val l o obj)).2.1 = val l o obj) ∨ ((updB s o (val l o obj)).1 = s.1 ∧ (updB s o (val l o obj)).2.1 = s.2.1)) := by
      unfold updB
      have h0 : ¬ s.2.2 = 0 := by omega
      by_cases k : val l o obj < s.2.1
      · rw [if_pos (.inr k)]; exact ⟨Int.le_refl _, Int.le_of_lt k, Int.le_refl _, .inl ⟨rfl, rfl⟩⟩
      · rw [if_neg (by simp [h0, k])]
        split
        · exact ⟨by show 1 ≤ s.2.2 + 1; omega, Int.le_refl _, by show s.2.1 ≤ _; omega, .inr ⟨rfl, rfl⟩⟩
        · exact ⟨h, Int.le_refl _, by omega, .inr ⟨rfl, rfl⟩⟩
    obtain ⟨a1, a2, a3, a4⟩ := foldB_best l obj P _ hu.1
    refine ⟨a1, by omega, fun q hq => ?_, ?_⟩
    · rcases List.mem_cons.1 hq with rfl | hq
      · omega
      · exact a3 q hq
    · rcases a4 with ⟨q, hq, h1, h2⟩ | ⟨h1, h2⟩
      · exact .inl ⟨q, by simp [hq], h1, h2⟩
      · rcases hu.2.2.2 with ⟨h3, h4⟩ | ⟨h3, h4⟩
        · exact .inl ⟨o, by simp, h1.trans h3, h2.trans h4⟩
        · exact .inr ⟨h1.trans h3, h2.trans h4⟩

theorem bestP_spec (l : List impl_Job) (obj : Int) : (∀ o, IsOrd l.length o → (bestP l obj (lexP l.length)).2.1 ≤ val l o obj) ∧ ∃ o, IsOrd l.length o ∧ (bestP l obj (lexP l.length)).1 = ic o ∧ (bestP l obj (lexP l.length)).2.1 = val l o obj := by
  obtain ⟨P, hP⟩ : ∃ P, lexP l.length = List.range l.length :: P := by
    obtain ⟨P, hP⟩ := lexP_cons l.length
    cases h : lexP l.length with
    | nil => rw [h] at hP; simp at hP
    | cons a Q =>
      rw [h] at hP
      simp only [List.map_cons, List.cons.injEq] at hP
      exact ⟨Q, by rw [ic_inj hP.1]⟩
  have hr : IsOrd l.length (List.range l.length) := mem_lexP.1 (by rw [hP]; simp)
  have hb : bestP l obj (lexP l.length) = foldB l obj (ic (List.range l.length), val l (List.range l.length) obj, 1) P := by
    rw [hP]
    show foldB l obj (updB ([], 0, 0) (List.range l.length) (val l (List.range l.length) obj)) P = _
    congr 1
  obtain ⟨a1, a2, a3, a4⟩ := foldB_best l obj P (ic (List.range l.length), val l (List.range l.length) obj, 1) (Int.le_refl 1)
  rw [← hb] at a1 a2 a3 a4
  refine ⟨fun o ho => ?_, ?_⟩
  · have := mem_lexP.2 ho
    rw [hP] at this
    rcases List.mem_cons.1 this with rfl | h
    · exact a2
    · exact a3 o h
  · rcases a4 with ⟨o, ho, h1, h2⟩ | ⟨h1, h2⟩
    · exact ⟨o, mem_lexP.1 (by rw [hP]; simp [ho]), h1, h2⟩
    · exact ⟨_, hr, h1, h2⟩
end Gh
