/- Plain laws: all orders one by one, and the best of them. -/
import Derived.Test.YtmjdjnphjpcfcaaPc
import Derived.KernelRfl
namespace Gh
open Go
set_option linter.unusedSimpArgs false
set_option linter.unusedVariables false
set_option maxRecDepth 100000

/-- All orders of some numbers, the least first. -/
def permsN : Nat → List Nat → List (List Nat)
  | 0, _ => [[]]
  | k + 1, l => l.flatMap fun x => (permsN k (l.erase x)).map (x :: ·)

def lexP (n : Nat) : List (List Nat) := permsN n (List.range n)

theorem mem_permsN : ∀ (k : Nat) (l o : List Nat), l.length = k → (o ∈ permsN k l ↔ o.Perm l)
  | 0, l, o, h => by
    have : l = [] := List.length_eq_zero_iff.1 h
    subst this
    simp [permsN]
  | k + 1, l, o, h => by
    simp only [permsN, List.mem_flatMap, List.mem_map]
    constructor
    · rintro ⟨x, hx, p, hp, rfl⟩
      have hl : (l.erase x).length = k := by rw [List.length_erase_of_mem hx]; omega
      exact List.cons_perm_iff_perm_erase.2 ⟨hx, (mem_permsN k _ p hl).1 hp⟩
    · intro hp
      cases o with
      | nil => have := hp.length_eq; simp at this; omega
      | cons x p =>
        obtain ⟨hx, hp'⟩ := List.cons_perm_iff_perm_erase.1 hp
        have hl : (l.erase x).length = k := by rw [List.length_erase_of_mem hx]; omega
        exact ⟨x, hx, p, (mem_permsN k _ p hl).2 hp', rfl⟩

theorem mem_lexP {n : Nat} {o : List Nat} : o ∈ lexP n ↔ IsOrd n o := by
  rw [lexP, mem_permsN n _ o (by simp)]
  exact ⟨IsOrd.of_perm, IsOrd.perm⟩

/-- Each list is behind the one ahead of it in the program's own way. -/
def chain : List (List Int) → Bool
  | [] => false
  | [p] => match x_impl_nextOrder p with
    | some (b, q) => !b && q.length == p.length
    | none => false
  | p :: q :: r => (match x_impl_nextOrder p with
    | some (b, q') => b && q' == q
    | none => false) && q.length == p.length && chain (q :: r)

theorem chain0 : chain ((lexP 0).map ic) = true := by kernel_rfl

theorem chain1 : chain ((lexP 1).map ic) = true := by kernel_rfl

theorem chain2 : chain ((lexP 2).map ic) = true := by kernel_rfl

theorem chain3 : chain ((lexP 3).map ic) = true := by kernel_rfl

theorem chain4 : chain ((lexP 4).map ic) = true := by kernel_rfl

theorem chain5 : chain ((lexP 5).map ic) = true := by kernel_rfl

theorem chain6 : chain ((lexP 6).map ic) = true := by kernel_rfl

theorem chain_all (n : Nat) (hn : n ≤ 6) : chain ((lexP n).map ic) = true := by
  have : n = 0 ∨ n = 1 ∨ n = 2 ∨ n = 3 ∨ n = 4 ∨ n = 5 ∨ n = 6 := by omega
  rcases this with rfl | rfl | rfl | rfl | rfl | rfl | rfl
  · exact chain0
  · exact chain1
  · exact chain2
  · exact chain3
  · exact chain4
  · exact chain5
  · exact chain6

theorem numbersTo_eq (n : Nat) (hn : n < 900000) : x_impl_numbersTo (n : Int) = some (ic (List.range n)) := by
  unfold x_impl_numbersTo
  have key := loop_fold (b := x_impl_numbersTo_l0 (n : Int)) (fun (s : List Int) i => (s, (i : Int))) (fun s (i : Nat) => s ++ [(i : Int)]) (fun s => s) (List.range n) (fun i s => s = ic (List.range i)) (by
    rintro i hi s rfl
    simp only [List.length_range] at hi
    simp only [List.getElem_range]
    refine ⟨?_, by rw [List.range_succ, ic_app]; rfl⟩
    unfold x_impl_numbersTo_l0
    simp only
    rw [if_pos (by omega), bind_some_of (app_ok (by simp [ic]; omega) (by omega)), inc_i (by omega)]) (by
    rintro s _
    unfold x_impl_numbersTo_l0
    simp only [List.length_range]
    rw [if_neg (by omega)]) (by simpa using hn) [] rfl
  have h2 := key.2
  simp only [List.length_range] at h2
  rw [h2] at key
  exact bind_some_of key.1

/-- What a step does to a state, for each of some orders. -/
theorem fold_chain {σ : Type} (step : σ → List Int → Option σ) : ∀ (P : List (List Int)) (p : List Int) (L : Nat) (s : σ), chain (p :: P) = true → P.length < L → loopS (x_impl_eachOrder_l0 step) L (s, p) = (p :: P).foldlM step s
  | [], p, L, s, hc, hL => by
    cases L with
    | zero => omega
    | succ L =>
      simp only [chain] at hc
      simp only [loopS, x_impl_eachOrder_l0, List.foldlM_cons, List.foldlM_nil]
      cases hs : step s p with
      | none => simp
      | some s' =>
        cases hn : x_impl_nextOrder p with
        | none => rw [hn] at hc; cases hc
        | some r =>
          obtain ⟨b, q⟩ := r
          rw [hn] at hc
          simp only [Bool.and_eq_true, Bool.not_eq_true', beq_iff_eq] at hc
          simp [hc.1, hc.2]
  | q :: P, p, L, s, hc, hL => by
    cases L with
    | zero => omega
    | succ L =>
      simp only [chain, Bool.and_eq_true, beq_iff_eq] at hc
      obtain ⟨⟨h1, h2⟩, h3⟩ := hc
      simp only [List.length_cons] at hL
      rw [List.foldlM_cons]
      simp only [loopS, x_impl_eachOrder_l0]
      cases hs : step s p with
      | none => simp
      | some s' =>
        cases hn : x_impl_nextOrder p with
        | none => rw [hn] at h1; cases h1
        | some r =>
          obtain ⟨b, q'⟩ := r
          rw [hn] at h1
          simp only [Bool.and_eq_true, beq_iff_eq] at h1
          obtain ⟨rfl, rfl⟩ := h1
          simp only [Option.bind_some, h2, if_true]
          exact fold_chain step P q' L s' h3 (by omega)

theorem lexP_cons (n : Nat) : ∃ P, (lexP n).map ic = ic (List.range n) :: P := by
  have key : ∀ (k : Nat) (l : List Nat), l.length = k → ∃ P, permsN k l = l :: P := by
    intro k
    induction k with
    | zero => intro l h; rw [List.length_eq_zero_iff.1 h]; exact ⟨[], rfl⟩
    | succ k ih =>
      intro l h
      cases l with
      | nil => simp at h
      | cons x l =>
        obtain ⟨P, hP⟩ := ih l (by simpa using h)
        simp only [permsN, List.flatMap_cons, List.erase_cons_head, hP, List.map_cons, List.cons_append]
        exact ⟨_, rfl⟩
  obtain ⟨P, hP⟩ := key n (List.range n) (by simp)
  exact ⟨P.map ic, by rw [lexP, hP]; rfl⟩

theorem permsN_len : ∀ (k : Nat) (l : List Nat), l.length = k → (permsN k l).length ≤ k ^ k
  | 0, _, _ => by simp [permsN]
  | k + 1, l, h => by
    have h1 : ∀ x ∈ l, ((permsN k (l.erase x)).map (x :: ·)).length ≤ k ^ k := fun x hx => by
      rw [List.length_map]
      exact permsN_len k _ (by rw [List.length_erase_of_mem hx]; omega)
    have h2 : ∀ (m : List Nat), (∀ x ∈ m, ((permsN k (l.erase x)).map (x :: ·)).length ≤ k ^ k) → (m.flatMap fun x => (permsN k (l.erase x)).map (x :: ·)).length ≤ m.length * k ^ k := by
      intro m
      induction m with
      | nil => intro _; simp
      | cons a m ih =>
        intro hm
        simp only [List.flatMap_cons, List.length_append, List.length_cons]
        have a1 := hm a (by simp)
        have a2 := ih fun x hx => hm x (by simp [hx])
        rw [Nat.succ_mul]
        omega
    have h3 := h2 l h1
    simp only [permsN]
    rw [h] at h3
    refine Nat.le_trans h3 ?_
    rw [Nat.pow_succ, Nat.mul_comm]
    exact Nat.mul_le_mul_right _ (Nat.pow_le_pow_left (Nat.le_succ k) k)

theorem eachOrder_eq {σ : Type} {n : Nat} (hn : n ≤ 6) (step : σ → List Int → Option σ) (s : σ) : x_impl_eachOrder (n : Int) step s = (lexP n).foldlM (fun s o => step s (ic o)) s := by
  unfold x_impl_eachOrder
  rw [bind_some_of (numbersTo_eq n (by omega))]
  obtain ⟨P, hP⟩ := lexP_cons n
  have hc := chain_all n hn
  rw [hP] at hc
  have hl : P.length < LL := by
    have h1 := permsN_len n (List.range n) (by simp)
    have h2 := congrArg List.length hP
    simp only [List.length_map, List.length_cons] at h2
    have h3 : n ^ n ≤ 6 ^ 6 := Nat.le_trans (Nat.pow_le_pow_left hn n) (Nat.pow_le_pow_right (by omega) hn)
    have : (lexP n).length ≤ n ^ n := h1
    unfold LL
    have : (6 : Nat) ^ 6 = 46656 := by decide
    omega
  rw [fold_chain step P _ LL s hc hl, ← hP, List.foldlM_map]

/-- The best so far, and one more order. -/
def updB (s : List Int × Int × Int) (o : List Nat) (v : Int) : List Int × Int × Int :=
  if s.2.2 = 0 ∨ v < s.2.1 then (ic o, v, 1) else if v = s.2.1 then (s.1, s.2.1, s.2.2 + 1) else s

/-- The best of some orders, its value, and how many there are. -/
def bestP (l : List impl_Job) (obj : Int) (P : List (List Nat)) : List Int × Int × Int := P.foldl (fun s (o : List Nat) => updB s o (val l o obj)) ([], 0, 0)

theorem copyInts_eq {l : List Int} (h : l.length ≤ 1000000) : x_impl_copyInts l = some l := by unfold x_impl_copyInts; rw [if_pos (fits_ok h (by omega))]

theorem l1Own_eq {l : List Int} (h : l.length ≤ 1000000) : x_spec_l1Own l = some l := by unfold x_spec_l1Own; rw [if_pos (fits_ok h (by omega))]

theorem updB_bd {s : List Int × Int × Int} {o : List Nat} {v : Int} {i : Nat} (h : 0 ≤ s.2.2 ∧ s.2.2 ≤ (i : Int)) : 0 ≤ (updB s o v).2.2 ∧ (updB s o v).2.2 ≤ ((i + 1 : Nat) : Int) := by
  unfold updB
  split
  · exact ⟨by show (0 : Int) ≤ 1; omega, by show (1 : Int) ≤ _; omega⟩
  · split
    · exact ⟨by show 0 ≤ s.2.2 + 1; omega, by show s.2.2 + 1 ≤ _; omega⟩
    · omega

theorem best_step {l : List impl_Job} (hg : good l) {o : List Nat} (ho : IsOrd l.length o) (obj : Int) (s : List Int × Int × Int) (hs : 0 ≤ s.2.2 ∧ s.2.2 ≤ 1000000) : x_impl_best_c1 l obj s (ic o) = some (updB s o (val l o obj)) := by
  obtain ⟨a, b, c⟩ := s
  simp only at hs
  have hn := hg.1
  have hlen : (ic o).length ≤ 1000000 := by rw [ic_len, ho.1]; omega
  unfold x_impl_best_c1 updB
  simp only
  rw [bind_some_of (valueOf_eq hg ho obj), copyInts_eq hlen]
  by_cases h1 : c = 0
  · simp [h1]
  · rw [if_neg h1]
    by_cases h2 : val l o obj < b
    · simp [h2]
    · rw [if_neg h2]
      have h3 : ¬ (c = 0 ∨ val l o obj < b) := by simp [h1, h2]
      rw [if_neg h3, add_i (by omega) (by omega)]
      split <;> rfl

theorem lexP_len6 {n : Nat} (hn : n ≤ 6) : (lexP n).length ≤ 46656 := by
  have h1 := permsN_len n (List.range n) (by simp)
  have h3 : n ^ n ≤ 6 ^ 6 := Nat.le_trans (Nat.pow_le_pow_left hn n) (Nat.pow_le_pow_right (by omega) hn)
  have : (6 : Nat) ^ 6 = 46656 := by decide
  have : (lexP n).length ≤ n ^ n := h1
  omega

theorem best_eq {l : List impl_Job} (hg : good l) (h6 : l.length ≤ 6) (obj : Int) : x_impl_best l obj = some (bestP l obj (lexP l.length)) := by
  unfold x_impl_best
  have h1 : x_impl_eachOrder (l.length : Int) (x_impl_best_c1 l obj) ([], 0, 0) = some (bestP l obj (lexP l.length)) := by
    rw [eachOrder_eq h6]
    have hb := lexP_len6 h6
    have key : ∀ (P : List (List Nat)) (i : Nat) (s : List Int × Int × Int), (∀ o ∈ P, IsOrd l.length o) → i + P.length ≤ 1000000 → 0 ≤ s.2.2 ∧ s.2.2 ≤ (i : Int) → P.foldlM (fun s (o : List Nat) => x_impl_best_c1 l obj s (ic o)) s = some (P.foldl (fun s (o : List Nat) => updB s o (val l o obj)) s) := by
      intro P
      induction P with
      | nil => intro i s _ _ _; rfl
      | cons o P ih =>
        intro i s hP hi hs
        simp only [List.length_cons] at hi
        rw [List.foldlM_cons, best_step hg (hP o (by simp)) obj s ⟨hs.1, by omega⟩]
        exact ih (i + 1) _ (fun p hp => hP p (by simp [hp])) (by omega) (updB_bd hs)
    exact key (lexP l.length) 0 ([], 0, 0) (fun o ho => mem_lexP.1 ho) (by omega) ⟨Int.le_refl 0, Int.le_refl 0⟩
  rw [bind_some_of h1]
end Gh
