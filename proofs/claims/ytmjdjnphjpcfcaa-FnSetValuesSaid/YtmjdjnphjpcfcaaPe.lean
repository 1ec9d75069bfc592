/- Plain laws: the reference finds the same best order; what a best order is. -/
import Derived.Test.YtmjdjnphjpcfcaaPd
namespace Gh
open Go
set_option linter.unusedSimpArgs false
set_option linter.unusedVariables false
set_option maxRecDepth 100000

def ofT (t : List Int × Int × Int) : spec_l2Search := ⟨t.1, t.2.1, t.2.2⟩

/-- The fold over orders. -/
def foldB (l : List impl_Job) (obj : Int) (s : List Int × Int × Int) (P : List (List Nat)) : List Int × Int × Int := P.foldl (fun s (o : List Nat) => updB s o (val l o obj)) s

theorem foldB_app (l : List impl_Job) (obj : Int) (s : List Int × Int × Int) (P Q : List (List Nat)) : foldB l obj s (P ++ Q) = foldB l obj (foldB l obj s P) Q := List.foldl_append

theorem foldB_bd (l : List impl_Job) (obj : Int) : ∀ (P : List (List Nat)) (s : List Int × Int × Int), 0 ≤ s.2.2 → 0 ≤ (foldB l obj s P).2.2 ∧ (foldB l obj s P).2.2 ≤ s.2.2 + P.length
  | [], s, h => by simp [foldB, h]
  | o :: P, s, h => by
    have h1 := updB_bd (s := s) (o := o) (v := val l o obj) (i := s.2.2.toNat) ⟨h, by omega⟩
    have h2 := foldB_bd l obj P (updB s o (val l o obj)) h1.1
    simp only [List.length_cons]
    show 0 ≤ (foldB l obj (updB s o (val l o obj)) P).2.2 ∧ (foldB l obj (updB s o (val l o obj)) P).2.2 ≤ _
    omega

/-- What is left for an order that has begun. -/
def rest (n : Nat) (p : List Nat) : List Nat := (List.range n).filter fun i => decide (i ∉ p)

theorem rest_snoc (n : Nat) (p : List Nat) (j : Nat) : rest n (p ++ [j]) = (rest n p).erase j := by
  have hn : (rest n p).Nodup := List.nodup_range.filter _
  rw [hn.erase_eq_filter]
  unfold rest
  rw [List.filter_filter]
  congr 1
  funext i
  by_cases h1 : i ∈ p <;> by_cases h2 : i = j <;> simp [h1, h2, bne]

theorem rest_len {n : Nat} {p : List Nat} (hp : p.Nodup) (hb : ∀ i ∈ p, i < n) : (rest n p).length + p.length = n := by
  have hn : (rest n p).Nodup := List.nodup_range.filter _
  have h1 : (rest n p ++ p).Nodup := List.nodup_append.2 ⟨hn, hp, fun a ha b hb' e => by
    subst e
    simp only [rest, List.mem_filter, decide_eq_true_eq] at ha
    exact ha.2 hb'⟩
  have h2 : (rest n p ++ p).Perm (List.range n) := (List.perm_ext_iff_of_nodup h1 List.nodup_range).2 fun i => by
    simp only [rest, List.mem_append, List.mem_filter, decide_eq_true_eq, List.mem_range]
    by_cases h : i ∈ p
    · simp [h, hb i h]
    · simp [h]
  have := h2.length_eq
  simpa using this

theorem foldl_if {σ : Type} (p : Nat → Bool) (g : σ → Nat → σ) : ∀ (l : List Nat) (s : σ), l.foldl (fun s j => if p j = true then g s j else s) s = (l.filter p).foldl g s
  | [], _ => rfl
  | a :: l, s => by
    rw [List.foldl_cons, foldl_if p g l, List.filter_cons]
    split <;> rfl

theorem foldB_flat (l : List impl_Job) (obj : Int) (f : Nat → List (List Nat)) : ∀ (m : List Nat) (s : List Int × Int × Int), m.foldl (fun s j => foldB l obj s (f j)) s = foldB l obj s (m.flatMap f)
  | [], _ => rfl
  | a :: m, s => by rw [List.foldl_cons, List.flatMap_cons, foldB_app, foldB_flat l obj f m]

theorem pow8_le {m : Nat} (hm : m ≤ 8) : m ^ m ≤ 8 ^ m := Nat.pow_le_pow_left hm m

theorem try_eq {l : List impl_Job} (hg : good l) (obj : Int) : ∀ (m : Nat) (p : List Nat) (d : Nat) (s : List Int × Int × Int), p.Nodup → (∀ i ∈ p, i < l.length) → p.length + m = l.length → m < d → 0 ≤ s.2.2 → s.2.2 + ((8 ^ m : Nat) : Int) ≤ 1000000000 →
    x_spec_l2Try d l (ic p) obj (ofT s) = some (ofT (foldB l obj s ((permsN m (rest l.length p)).map (p ++ ·)))) := by
  have hn := hg.1
  intro m
  induction m with
  | zero =>
    intro p d s hp hb hl hd h0 h1
    cases d with
    | zero => omega
    | succ d =>
      have hord : IsOrd l.length p := ⟨by omega, hp, hb⟩
      have hlen : (ic p).length ≤ 1000000 := by rw [ic_len]; omega
      obtain ⟨a, b, c⟩ := s
      simp only at h0 h1
      have hm : ((permsN 0 (rest l.length p)).map (p ++ ·)) = [p] := by simp [permsN]
      rw [hm]
      show x_spec_l2Try_b (x_spec_l2Try d) l (ic p) obj ⟨a, b, c⟩ = some (ofT (updB (a, b, c) p (val l p obj)))
      unfold x_spec_l2Try_b
      simp only
      rw [if_pos (by rw [ic_len]; omega), bind_some_of (l2Value_eq hg hord obj), l1Own_eq hlen]
      unfold updB
      simp only [Option.bind_some]
      by_cases k1 : c = 0
      · rw [if_pos k1, if_pos (.inl k1)]; rfl
      · rw [if_neg k1]
        by_cases k2 : val l p obj < b
        · rw [if_pos k2, if_pos (.inr k2)]; rfl
        · have h3 : ¬ (c = 0 ∨ val l p obj < b) := by simp [k1, k2]
          have h4 : addK .i64 c 1 = c + 1 := add_i (by omega) (by omega)
          rw [if_neg k2, if_neg h3, h4]
          split <;> rfl
  | succ m ih =>
    intro p d s hp hb hl hd h0 h1
    cases d with
    | zero => omega
    | succ d =>
      have h8 : (8 : Nat) ^ (m + 1) = 8 * 8 ^ m := by rw [Nat.pow_succ, Nat.mul_comm]
      have hm8 : m ≤ 8 := by omega
      simp only [x_spec_l2Try, x_spec_l2Try_b]
      rw [if_neg (by rw [ic_len]; omega)]
      have key := loop_fold (b := x_spec_l2Try_l0 (x_spec_l2Try d) [] 0 0 l (ic p) obj) (fun (s : List Int × Int × Int) i => (s.1, s.2.1, s.2.2, (i : Int)))
        (fun s j => if decide (j ∉ p) = true then foldB l obj s ((permsN m (rest l.length (p ++ [j]))).map ((p ++ [j]) ++ ·)) else s) (fun s => s) (List.range l.length)
        (fun i t => 0 ≤ t.2.2 ∧ t.2.2 ≤ s.2.2 + (i : Int) * ((8 ^ m : Nat) : Int)) (by
        rintro i hi t ⟨b1, b2⟩
        simp only [List.length_range] at hi
        simp only [List.getElem_range]
        have hplen : (ic p).length < 900000 := by rw [ic_len]; omega
        have hib : (i : Int) * ((8 ^ m : Nat) : Int) ≤ 7 * ((8 ^ m : Nat) : Int) := Int.mul_le_mul_of_nonneg_right (by omega) (by omega)
        have hs1 : ((i + 1 : Nat) : Int) * ((8 ^ m : Nat) : Int) = (i : Int) * ((8 ^ m : Nat) : Int) + ((8 ^ m : Nat) : Int) := by
          rw [show ((i + 1 : Nat) : Int) = (i : Int) + 1 from rfl, Int.add_mul, Int.one_mul]
        have hih : (0 : Int) ≤ (i : Int) * ((8 ^ m : Nat) : Int) := Int.mul_nonneg (by omega) (by omega)
        unfold x_spec_l2Try_l0
        simp only
        rw [if_pos (by omega), bind_some_of (l1Has_eq _ _ hplen), inc_i (by omega)]
        have hmem : ((i : Int) ∈ ic p) ↔ i ∈ p := by
          rw [ic_mem]
          constructor
          · rintro ⟨k, hk, e⟩; rwa [show i = k by omega]
          · intro h; exact ⟨i, h, rfl⟩
        by_cases hip : i ∈ p
        · have hi' : (i : Int) ∈ ic p := hmem.2 hip
          simp only [hi', decide_true, if_true, hip, not_true, decide_false, Bool.false_eq_true, if_false]
          exact ⟨by first | rfl | trivial, b1, by rw [hs1]; omega⟩
        · have hi' : (i : Int) ∉ ic p := fun h => hip (hmem.1 h)
          have hnd : (p ++ [i]).Nodup := List.nodup_append.2 ⟨hp, by simp, fun a ha b hb' => by
            have : b = i := by simpa using hb'
            subst this
            exact fun e => hip (e ▸ ha)⟩
          have hbd : ∀ k ∈ p ++ [i], k < l.length := fun k hk => by
            rcases List.mem_append.1 hk with h | h
            · exact hb k h
            · have : k = i := by simpa using h
              omega
          have hI := ih (p ++ [i]) d t hnd hbd (by simp; omega) (by omega) b1 (by omega)
          have hic : ic p ++ [(i : Int)] = ic (p ++ [i]) := by simp [ic]
          simp only [hi', decide_false, Bool.false_eq_true, if_false, hip, not_false_eq_true, decide_true, if_true]
          rw [l1Own_eq (by omega), Option.bind_some, bind_some_of (app_ok (by simp; omega) (by omega)), hic]
          have hI' : x_spec_l2Try d l (ic (p ++ [i])) obj ⟨t.1, t.2.1, t.2.2⟩ = some (ofT (foldB l obj t ((permsN m (rest l.length (p ++ [i]))).map ((p ++ [i]) ++ ·)))) := hI
          rw [bind_some_of hI']
          have hlen := permsN_len m (rest l.length (p ++ [i])) (by have := rest_len hnd hbd; simp at this; omega)
          have hfb := foldB_bd l obj ((permsN m (rest l.length (p ++ [i]))).map ((p ++ [i]) ++ ·)) t b1
          rw [List.length_map] at hfb
          have hp8 := pow8_le hm8
          refine ⟨by first | rfl | trivial, hfb.1, ?_⟩
          rw [hs1]
          have : (((permsN m (rest l.length (p ++ [i]))).length : Nat) : Int) ≤ ((8 ^ m : Nat) : Int) := by omega
          omega) (by
        rintro t _
        unfold x_spec_l2Try_l0
        simp only [List.length_range]
        rw [if_neg (by omega)]) (by simp; omega) s ⟨h0, by simp⟩
      have hk := key.1
      have hst : loopS (x_spec_l2Try_l0 (x_spec_l2Try d) [] 0 0 l (ic p) obj) LL ((ofT s).order, (ofT s).value, (ofT s).count, 0) = some (foldB l obj s ((permsN (m + 1) (rest l.length p)).map (p ++ ·))) := by
        refine hk.trans ?_
        rw [foldl_if (fun j => decide (j ∉ p)) (fun s j => foldB l obj s ((permsN m (rest l.length (p ++ [j]))).map ((p ++ [j]) ++ ·))), foldB_flat]
        congr 2
        simp only [permsN, List.map_flatMap, List.map_map]
        show (rest l.length p).flatMap _ = _
        refine congrArg (fun f => (rest l.length p).flatMap f) ?_
        funext j
        rw [rest_snoc]
        refine List.map_congr_left fun q _ => ?_
        simp
      rw [bind_some_of hst]
      rfl

theorem l2All_eq {l : List impl_Job} (hg : good l) (obj : Int) : x_spec_l2All l obj = some (ofT (bestP l obj (lexP l.length))) := by
  have hn := hg.1
  unfold x_spec_l2All
  have hr : rest l.length [] = List.range l.length := by simp [rest]
  have h8 : (8 : Nat) ^ l.length ≤ 8 ^ 8 := Nat.pow_le_pow_right (by omega) hn
  have h88 : (8 : Nat) ^ 8 = 16777216 := by decide
  have := try_eq hg obj l.length [] DD ([], 0, 0) List.nodup_nil (fun i hi => by cases hi) (by simp) (by unfold DD; omega) (Int.le_refl 0) (by show (0 : Int) + _ ≤ _; omega)
  rw [hr] at this
  have hm : ((permsN l.length (List.range l.length)).map fun x => [] ++ x) = lexP l.length := by simp [lexP]
  rw [hm] at this
  exact bind_some_of this

/-- What the fold finds. -/
theorem foldB_best (l : List impl_Job) (obj : Int) : ∀ (P : List (List Nat)) (s : List Int × Int × Int), 1 ≤ s.2.2 → 1 ≤ (foldB l obj s P).2.2 ∧ (foldB l obj s P).2.1 ≤ s.2.1 ∧ (∀ o ∈ P, (foldB l obj s P).2.1 ≤ val l o obj) ∧
    ((∃ o ∈ P, (foldB l obj s P).1 = ic o ∧ (foldB l obj s P).2.1 = val l o obj) ∨ ((foldB l obj s P).1 = s.1 ∧ (foldB l obj s P).2.1 = s.2.1))
  | [], s, h => ⟨h, Int.le_refl _, (fun o ho => absurd ho List.not_mem_nil), Or.inr ⟨rfl, rfl⟩⟩
  | o :: P, s, h => by
    show 1 ≤ (foldB l obj (updB s o (val l o obj)) P).2.2 ∧ (foldB l obj (updB s o (val l o obj)) P).2.1 ≤ s.2.1 ∧ (∀ q ∈ o :: P, (foldB l obj (updB s o (val l o obj)) P).2.1 ≤ val l q obj) ∧
      ((∃ q ∈ o :: P, (foldB l obj (updB s o (val l o obj)) P).1 = ic q ∧ (foldB l obj (updB s o (val l o obj)) P).2.1 = val l q obj) ∨ ((foldB l obj (updB s o (val l o obj)) P).1 = s.1 ∧ (foldB l obj (updB s o (val l o obj)) P).2.1 = s.2.1))
    have hu : 1 ≤ (updB s o (val l o obj)).2.2 ∧ (updB s o (val l o obj)).2.1 ≤ s.2.1 ∧ (updB s o (val l o obj)).2.1 ≤ val l o obj ∧
        (((updB s o (val l o obj)).1 = ic o ∧ (updB s o (val l o obj)).2.1 = val l o obj) ∨ ((updB s o (val l o obj)).1 = s.1 ∧ (updB s o (val l o obj)).2.1 = s.2.1)) := by
      unfold updB
      have h0 : ¬ s.2.2 = 0 := by omega
      by_cases k : val l o obj < s.2.1
      · rw [if_pos (.inr k)]; exact ⟨Int.le_refl _, Int.le_of_lt k, Int.le_refl _, .inl ⟨rfl, rfl⟩⟩
      · rw [if_neg (by simp [h0, k])]
        split
        · exact ⟨by show 1 ≤ s.2.2 + 1; omega, Int.le_refl _, by show s.2.1 ≤ _; omega, .inr ⟨rfl, rfl⟩⟩
        · exact ⟨h, Int.le_refl _, by omega, .inr ⟨rfl, rfl⟩⟩
    obtain ⟨a1, a2, a3, a4⟩ := foldB_best l obj P _ hu.1
    refine ⟨a1, by omega, fun q hq => ?_, ?_⟩
    · rcases List.mem_cons.1 hq with rfl | hq
      · omega
      · exact a3 q hq
    · rcases a4 with ⟨q, hq, h1, h2⟩ | ⟨h1, h2⟩
      · exact .inl ⟨q, by simp [hq], h1, h2⟩
      · rcases hu.2.2.2 with ⟨h3, h4⟩ | ⟨h3, h4⟩
        · exact .inl ⟨o, by simp, h1.trans h3, h2.trans h4⟩
        · exact .inr ⟨h1.trans h3, h2.trans h4⟩

theorem bestP_spec (l : List impl_Job) (obj : Int) : (∀ o, IsOrd l.length o → (bestP l obj (lexP l.length)).2.1 ≤ val l o obj) ∧ ∃ o, IsOrd l.length o ∧ (bestP l obj (lexP l.length)).1 = ic o ∧ (bestP l obj (lexP l.length)).2.1 = val l o obj := by
  obtain ⟨P, hP⟩ : ∃ P, lexP l.length = List.range l.length :: P := by
    obtain ⟨P, hP⟩ := lexP_cons l.length
    cases h : lexP l.length with
    | nil => rw [h] at hP; simp at hP
    | cons a Q =>
      rw [h] at hP
      simp only [List.map_cons, List.cons.injEq] at hP
      exact ⟨Q, by rw [ic_inj hP.1]⟩
  have hr : IsOrd l.length (List.range l.length) := mem_lexP.1 (by rw [hP]; simp)
  have hb : bestP l obj (lexP l.length) = foldB l obj (ic (List.range l.length), val l (List.range l.length) obj, 1) P := by
    rw [hP]
    show foldB l obj (updB ([], 0, 0) (List.range l.length) (val l (List.range l.length) obj)) P = _
    congr 1
  obtain ⟨a1, a2, a3, a4⟩ := foldB_best l obj P (ic (List.range l.length), val l (List.range l.length) obj, 1) (Int.le_refl 1)
  rw [← hb] at a1 a2 a3 a4
  refine ⟨fun o ho => ?_, ?_⟩
  · have := mem_lexP.2 ho
    rw [hP] at this
    rcases List.mem_cons.1 this with rfl | h
    · exact a2
    · exact a3 o h
  · rcases a4 with ⟨o, ho, h1, h2⟩ | ⟨h1, h2⟩
    · exact ⟨o, mem_lexP.1 (by rw [hP]; simp [ho]), h1, h2⟩
    · exact ⟨_, hr, h1, h2⟩
end Gh
