/- Plain laws: the values of sets, one from the smaller ones. -/
import Derived.Test.YtmjdjnphjpcfcaaRa
namespace Gh
open Go
set_option linter.unusedSimpArgs false
set_option linter.unusedVariables false
set_option maxRecDepth 100000

def minS (g : Nat → Int) (b : Int) (i : Nat) : Int := if b < 0 then g i else if g i < b then g i else b

theorem minS_fold (g : Nat → Int) : ∀ (m : List Nat) (b : Int), (∀ i ∈ m, 0 ≤ g i) → (0 ≤ b → m.foldl (minS g) b ≤ b) ∧ (∀ i ∈ m, m.foldl (minS g) b ≤ g i) ∧ (m.foldl (minS g) b = b ∨ ∃ i ∈ m, m.foldl (minS g) b = g i) ∧ (m ≠ [] ∨ 0 ≤ b → 0 ≤ m.foldl (minS g) b)
  | [], b, _ => by simp
  | a :: m, b, h => by
    have ha := h a (by simp)
    have hs : 0 ≤ minS g b a ∧ minS g b a ≤ g a ∧ (0 ≤ b → minS g b a ≤ b) ∧ (minS g b a = b ∨ minS g b a = g a) := by
      unfold minS
      by_cases h1 : b < 0
      · rw [if_pos h1]; omega
      · rw [if_neg h1]
        by_cases h2 : g a < b
        · rw [if_pos h2]; omega
        · rw [if_neg h2]; omega
    obtain ⟨k1, k2, k3, k4⟩ := minS_fold g m (minS g b a) fun i hi => h i (by simp [hi])
    rw [List.foldl_cons]
    have k1' := k1 hs.1
    refine ⟨fun h0 => by have := hs.2.2.1 h0; omega, fun i hi => ?_, ?_, fun _ => k4 (.inr hs.1)⟩
    · rcases List.mem_cons.1 hi with rfl | hi
      · omega
      · exact k2 i hi
    · rcases k3 with e | ⟨i, hi, e⟩
      · rcases hs.2.2.2 with e' | e'
        · exact .inl (e.trans e')
        · exact .inr ⟨a, by simp, e.trans e'⟩
      · exact .inr ⟨i, by simp [hi], e⟩

/-- The value of a set whose last job is that one. -/
def lastW (l : List impl_Job) (obj : Int) (vs : List Int) (c i : Nat) : Int := vs.getD (c - 2 ^ i) 0 + cst obj (jb l i) (tsum l (setOf l.length c))

def bstW (l : List impl_Job) (obj : Int) (vs : List Int) (c : Nat) : Int := (setOf l.length c).foldl (minS (lastW l obj vs c)) (-1)

/-- The values of the first sets. -/
def valsW (l : List impl_Job) (obj : Int) : Nat → List Int
  | 0 => []
  | k + 1 => valsW l obj k ++ [if k = 0 then 0 else bstW l obj (valsW l obj k) k]

theorem valsW_len (l : List impl_Job) (obj : Int) : ∀ k, (valsW l obj k).length = k
  | 0 => rfl
  | k + 1 => by simp [valsW, valsW_len l obj k]

/-- The value of a set. -/
def VW (l : List impl_Job) (obj : Int) (c : Nat) : Int := if c = 0 then 0 else bstW l obj (valsW l obj c) c

theorem valsW_at (l : List impl_Job) (obj : Int) : ∀ {k c : Nat}, c < k → (valsW l obj k)[c]? = some (VW l obj c)
  | 0, c, h => by omega
  | k + 1, c, h => by
    by_cases e : c = k
    · subst e
      simp only [valsW]
      rw [List.getElem?_append_right (by rw [valsW_len]; exact Nat.le_refl _), valsW_len]
      simp [VW]
    · simp only [valsW]
      rw [List.getElem?_append_left (by rw [valsW_len]; omega)]
      exact valsW_at l obj (by omega)

theorem valsW_getD (l : List impl_Job) (obj : Int) {k c : Nat} (h : c < k) : (valsW l obj k).getD c 0 = VW l obj c := by
  rw [List.getD_eq_getElem?_getD, valsW_at l obj h]; rfl

/-- What a set costs if that job is its last. -/
def lastV (l : List impl_Job) (obj : Int) (c i : Nat) : Int := VW l obj (c - 2 ^ i) + cst obj (jb l i) (tsum l (setOf l.length c))

theorem lastW_eq {l : List impl_Job} {obj : Int} (hn : l.length ≤ 6) {c i k : Nat} (hc : c < 2 ^ l.length) (hi : i ∈ setOf l.length c) (hk : c ≤ k) : lastW l obj (valsW l obj k) c i = lastV l obj c i := by
  have h := set_sub hn hc hi
  have hp : 0 < 2 ^ i := Nat.pow_pos (by decide)
  unfold lastW lastV
  rw [valsW_getD l obj (show c - 2 ^ i < k by omega)]

theorem foldl_congr_mem {σ α : Type} {f g : σ → α → σ} : ∀ {m : List α} {s : σ}, (∀ s, ∀ a ∈ m, f s a = g s a) → m.foldl f s = m.foldl g s
  | [], _, _ => rfl
  | a :: m, s, h => by
    rw [List.foldl_cons, List.foldl_cons, h s a (by simp), foldl_congr_mem fun s b hb => h s b (by simp [hb])]

theorem VW_eq {l : List impl_Job} {obj : Int} (hn : l.length ≤ 6) {c : Nat} (hc : c < 2 ^ l.length) (h0 : 0 < c) : VW l obj c = (setOf l.length c).foldl (minS (lastV l obj c)) (-1) := by
  unfold VW bstW
  rw [if_neg (by omega)]
  exact foldl_congr_mem fun s a ha => by unfold minS; rw [lastW_eq hn hc ha (Nat.le_refl _)]

theorem set_T {l : List impl_Job} (hg : good l) (c : Nat) : 0 ≤ tsum l (setOf l.length c) ∧ tsum l (setOf l.length c) ≤ 400 := by
  have h := tsum_bd hg (p := setOf l.length c) fun i hi => (mem_setOf.1 hi).1
  have h2 := setOf_len l.length c
  have := hg.1
  omega

/-- The values of sets: their bounds, and that they are least and attained. -/
theorem VW_spec {l : List impl_Job} (hg : good l) (hn : l.length ≤ 6) {obj : Int} (h1 : obj ≠ 1) (h4 : obj ≠ 4) : ∀ (c : Nat), c < 2 ^ l.length →
    (0 ≤ VW l obj c ∧ VW l obj c ≤ 50000 * ((setOf l.length c).length : Int)) ∧ (∀ i ∈ setOf l.length c, VW l obj c ≤ lastV l obj c i ∧ 0 ≤ lastV l obj c i ∧ lastV l obj c i ≤ 50000 * ((setOf l.length c).length : Int)) ∧ (0 < c → ∃ i ∈ setOf l.length c, VW l obj c = lastV l obj c i) := by
  intro c
  induction c using Nat.strongRecOn with
  | ind c ih =>
    intro hc
    by_cases h0 : c = 0
    · subst h0
      rw [setOf_zero]
      simp [VW]
    · have hcp : 0 < c := Nat.pos_of_ne_zero h0
      have hT := set_T hg c
      have hlast : ∀ i ∈ setOf l.length c, 0 ≤ lastV l obj c i ∧ lastV l obj c i ≤ 50000 * ((setOf l.length c).length : Int) := fun i hi => by
        have hs := set_sub hn hc hi
        have hp : 0 < 2 ^ i := Nat.pow_pos (by decide)
        obtain ⟨⟨b1, b2⟩, _⟩ := ih (c - 2 ^ i) (by omega) (by omega)
        have hcst := cst_bd (obj := obj) (jb_ok hg hs.2.2.2) h1 h4 (e := tsum l (setOf l.length c)) (by omega) (by omega)
        have hlen := List.length_erase_of_mem hi
        have hpos := List.length_pos_of_mem hi
        rw [hs.1, hlen] at b2
        unfold lastV
        omega
      have hne := setOf_pos hc hcp
      obtain ⟨f1, f2, f3, f4⟩ := minS_fold (lastV l obj c) (setOf l.length c) (-1) fun i hi => (hlast i hi).1
      rw [← VW_eq hn hc hcp] at f2 f3 f4
      have f4' := f4 (.inl hne)
      have hat : ∃ i ∈ setOf l.length c, VW l obj c = lastV l obj c i := by
        rcases f3 with e | h
        · omega
        · exact h
      refine ⟨⟨f4', ?_⟩, fun i hi => ⟨f2 i hi, hlast i hi⟩, fun _ => hat⟩
      obtain ⟨i, hi, e⟩ := hat
      rw [e]
      exact (hlast i hi).2

theorem V_bd {l : List impl_Job} (hg : good l) (hn : l.length ≤ 6) {obj : Int} (h1 : obj ≠ 1) (h4 : obj ≠ 4) {c : Nat} (hc : c < 2 ^ l.length) : 0 ≤ VW l obj c ∧ VW l obj c ≤ 300000 := by
  have h := (VW_spec hg hn h1 h4 c hc).1
  have := setOf_len l.length c
  omega

theorem bit0 (c i : Nat) (h : i ≤ 64) : andK .i64 (shrK .i64 (c : Int) (i : Int)) 1 = 0 ↔ ¬ bit c i = true := by
  rw [← bit_eq c i h, and_one]
  omega

/-- The time of a set, as the program's own law has it. -/
theorem l6Times_eq {l : List impl_Job} (hg : good l) (c : Nat) : x_spec_l6Times l (c : Int) = some (tsum l (setOf l.length c)) := by
  have hn := hg.1
  unfold x_spec_l6Times
  have key := loopS_inv (b := x_spec_l6Times_l0 l (c : Int)) (fun i (s : Int × Int) => s.2 = (i : Int) ∧ s.1 = tsum l (setOf i c)) (fun p => p = tsum l (setOf l.length c)) l.length (by
    rintro i ⟨s, z⟩ hi ⟨h1, h2⟩
    simp only at h1 h2
    subst h1 h2
    have t1 := tsum_bd hg (p := setOf i c) fun k hk => by have := (mem_setOf.1 hk).1; omega
    have t2 := setOf_len i c
    have t3 := jb_ok hg hi
    unfold jobOk at t3
    unfold x_spec_l6Times_l0
    simp only
    rw [if_pos (by omega), if_pos (by omega)]
    by_cases hb : bit c i = true
    · rw [if_pos ((bit_eq c i (by omega)).2 hb), bind_some_of (jb_ix hi), add_i (by omega) (by omega), inc_i (by omega)]
      exact .inl ⟨_, rfl, rfl, by rw [setOf_succ, if_pos hb, tsum_app]; simp [tsum]⟩
    · rw [if_neg (fun h => hb ((bit_eq c i (by omega)).1 h)), inc_i (by omega)]
      exact .inl ⟨_, rfl, rfl, by rw [setOf_succ, if_neg hb, List.append_nil]⟩) (by
    rintro ⟨s, z⟩ ⟨h1, h2⟩
    simp only at h1 h2
    subst h1 h2
    unfold x_spec_l6Times_l0
    simp only
    rw [if_neg (by omega)]
    exact ⟨_, rfl, rfl⟩) (LL_lt (by omega)) (0, 0) ⟨rfl, rfl⟩
  obtain ⟨p, e, rfl⟩ := key
  rw [bind_some_of e]

theorem l6Last_eq {l : List impl_Job} (hg : good l) (hn : l.length ≤ 6) {obj : Int} (h1 : obj ≠ 1) (h4 : obj ≠ 4) {c i k : Nat} (hc : c < 2 ^ l.length) (hi : i ∈ setOf l.length c) (hk : c ≤ k) :
    x_spec_l6Last l obj (valsW l obj k) (c : Int) (i : Int) = some (lastV l obj c i) := by
  have hs := set_sub hn hc hi
  have hp : 0 < 2 ^ i := Nat.pow_pos (by decide)
  have hT := set_T hg c
  have hb := V_bd hg hn h1 h4 (c := c - 2 ^ i) (by omega)
  have hcst := cst_bd (obj := obj) (jb_ok hg hs.2.2.2) h1 h4 (e := tsum l (setOf l.length c)) (by omega) (by omega)
  have hpow : 2 ^ l.length ≤ 256 := pow_lt hg.1
  unfold x_spec_l6Last
  have hsub : subK .i64 (c : Int) (shlK .i64 1 (i : Int)) = ((c - 2 ^ i : Nat) : Int) := by
    rw [shl_pow i (by omega), sub_i (by omega) (by omega)]
    omega
  have hix : ix (valsW l obj k) ((c - 2 ^ i : Nat) : Int) = some (VW l obj (c - 2 ^ i)) := by rw [ix_cast, valsW_at l obj (by omega)]
  rw [if_pos (by omega), hsub, bind_some_of hix, bind_some_of (jb_ix hs.2.2.2), bind_some_of (l6Times_eq hg c), bind_some_of (l2Cost_eq (jb_ok hg hs.2.2.2) (by omega) (by omega) h1 h4 0 false)]
  have e : addV 0 (jb l i) (tsum l (setOf l.length c)) obj false - 0 = cst obj (jb l i) (tsum l (setOf l.length c)) := by unfold cst; omega
  rw [e, add_i (by omega) (by omega)]
  rfl

/-- The program's own values of sets. -/
theorem l6Values_eq {l : List impl_Job} (hg : good l) (hn : l.length ≤ 6) {obj : Int} (h1 : obj ≠ 1) (h4 : obj ≠ 4) : x_spec_l6Values l obj = some (valsW l obj (2 ^ l.length)) := by
  have hpow : 2 ^ l.length ≤ 256 := pow_lt hg.1
  have hpos : 0 < 2 ^ l.length := Nat.pow_pos (by decide)
  unfold x_spec_l6Values
  have key := loopS_inv (b := x_spec_l6Values_l0 l obj) (fun k (s : List Int × Int) => s.2 = ((k + 1 : Nat) : Int) ∧ s.1 = valsW l obj (k + 1)) (fun p => p = valsW l obj (2 ^ l.length)) (2 ^ l.length - 1) (by
    rintro k ⟨s, z⟩ hk ⟨g1, g2⟩
    simp only at g1 g2
    subst g1 g2
    have hc : k + 1 < 2 ^ l.length := by omega
    have inner := loopS_inv (b := x_spec_l6Values_l1 (valsW l obj (k + 1)) l obj ((k + 1 : Nat) : Int)) (fun i (s : Int × Int) => s.2 = (i : Int) ∧ s.1 = (setOf i (k + 1)).foldl (minS (lastV l obj (k + 1))) (-1)) (fun p => p = VW l obj (k + 1)) l.length (by
      rintro i ⟨s, z⟩ hi ⟨g1, g2⟩
      simp only at g1 g2
      subst g1
      unfold x_spec_l6Values_l1
      simp only
      rw [if_pos (by omega), if_pos (by omega), inc_i (by omega)]
      by_cases hb : bit (k + 1) i = true
      · have hi' : i ∈ setOf l.length (k + 1) := mem_setOf.2 ⟨hi, hb⟩
        rw [if_neg (fun h => (bit0 (k + 1) i (by omega)).1 h hb), bind_some_of (l6Last_eq hg hn h1 h4 hc hi' (Nat.le_refl _))]
        have hst : (setOf (i + 1) (k + 1)).foldl (minS (lastV l obj (k + 1))) (-1) = minS (lastV l obj (k + 1)) s i := by
          rw [setOf_succ, if_pos hb, List.foldl_append, ← g2]; rfl
        rw [hst]
        unfold minS
        by_cases a1 : s < 0
        · rw [if_pos a1, if_pos a1]; exact .inl ⟨_, rfl, rfl, rfl⟩
        · rw [if_neg a1, if_neg a1]
          by_cases a2 : lastV l obj (k + 1) i < s
          · rw [if_pos a2, if_pos a2]; exact .inl ⟨_, rfl, rfl, rfl⟩
          · rw [if_neg a2, if_neg a2]; exact .inl ⟨_, rfl, rfl, rfl⟩
      · rw [if_pos ((bit0 (k + 1) i (by omega)).2 hb)]
        exact .inl ⟨_, rfl, rfl, by rw [setOf_succ, if_neg hb, List.append_nil]; exact g2⟩) (by
      rintro ⟨s, z⟩ ⟨g1, g2⟩
      simp only at g1 g2
      subst g1
      unfold x_spec_l6Values_l1
      simp only
      rw [if_neg (by omega)]
      exact ⟨_, rfl, by rw [VW_eq hn hc (by omega)]; exact g2⟩) (LL_lt (by omega)) (-1, 0) ⟨rfl, rfl⟩
    obtain ⟨p, e, rfl⟩ := inner
    unfold x_spec_l6Values_l0
    simp only
    rw [shl_pow _ (by omega), if_pos (by omega), bind_some_of e, bind_some_of (app_ok (by rw [valsW_len]; simp only [List.length_singleton]; omega) (by omega)), inc_i (by omega)]
    refine .inl ⟨_, rfl, rfl, ?_⟩
    show valsW l obj (k + 1) ++ [VW l obj (k + 1)] = valsW l obj (k + 1) ++ [if k + 1 = 0 then 0 else bstW l obj (valsW l obj (k + 1)) (k + 1)]
    rfl) (by
    rintro ⟨s, z⟩ ⟨g1, g2⟩
    simp only at g1 g2
    subst g1 g2
    unfold x_spec_l6Values_l0
    simp only
    rw [shl_pow _ (by omega), if_neg (by omega)]
    exact ⟨_, rfl, by rw [show 2 ^ l.length - 1 + 1 = 2 ^ l.length by omega]⟩) (LL_lt (by omega)) ([0], 1) ⟨rfl, rfl⟩
  obtain ⟨p, e, rfl⟩ := key
  rw [bind_some_of e]

/-- impl's values of sets. -/
theorem setValues_eq {l : List impl_Job} (hg : good l) (hn : l.length ≤ 6) {obj : Int} (h1 : obj ≠ 1) (h4 : obj ≠ 4) : x_impl_setValues l obj 0 = some (valsW l obj (2 ^ l.length)) := by
  have hpow : 2 ^ l.length ≤ 256 := pow_lt hg.1
  have hpos : 0 < 2 ^ l.length := Nat.pow_pos (by decide)
  unfold x_impl_setValues
  have inner : ∀ (c : Nat) (Z : List Int), 0 < c → c < 2 ^ l.length → loopS (x_impl_setValues_l1 l obj 0 (c : Int) (tsum l (setOf l.length c)) (ic (setOf l.length c)) ((ic (setOf l.length c)).length : Int)) LL (valsW l obj c ++ -1 :: Z, 0) = some (valsW l obj c ++ VW l obj c :: Z) := by
    intro c Z h0 hc
    have hlen := setOf_len l.length c
    have hT := set_T hg c
    have key := loopS_inv (b := x_impl_setValues_l1 l obj 0 (c : Int) (tsum l (setOf l.length c)) (ic (setOf l.length c)) ((ic (setOf l.length c)).length : Int))
      (fun k (s : List Int × Int) => s.2 = (k : Int) ∧ ∃ b, s.1 = valsW l obj c ++ b :: Z ∧ ((setOf l.length c).drop k).foldl (minS (lastV l obj c)) b = VW l obj c) (fun p => p = valsW l obj c ++ VW l obj c :: Z) (setOf l.length c).length (by
      rintro k ⟨s, z⟩ hk ⟨g1, b, g2, g3⟩
      simp only at g1 g2
      subst g1 g2
      have hi := List.getElem_mem hk
      have hs := set_sub hn hc hi
      have hp : 0 < 2 ^ (setOf l.length c)[k] := Nat.pow_pos (by decide)
      have hb := V_bd hg hn h1 h4 (c := c - 2 ^ (setOf l.length c)[k]) (by omega)
      rw [List.drop_eq_getElem_cons hk, List.foldl_cons] at g3
      have hix : ix (valsW l obj c ++ b :: Z) ((c - 2 ^ (setOf l.length c)[k] : Nat) : Int) = some (VW l obj (c - 2 ^ (setOf l.length c)[k])) := by
        rw [ix_cast, List.getElem?_append_left (by rw [valsW_len]; omega), valsW_at l obj (by omega)]
      have hixc : ix (valsW l obj c ++ b :: Z) (c : Int) = some b := by
        rw [ix_cast, List.getElem?_append_right (by rw [valsW_len]; exact Nat.le_refl _), valsW_len]
        simp
      have hput : ∀ x, put (valsW l obj c ++ b :: Z) (c : Int) x = some (valsW l obj c ++ x :: Z) := fun x => by
        rw [put_lt (by rw [List.length_append, valsW_len]; simp), List.set_append_right _ _ (by rw [valsW_len]; exact Nat.le_refl _), valsW_len]
        simp
      have hadd : addV (VW l obj (c - 2 ^ (setOf l.length c)[k])) (jb l (setOf l.length c)[k]) (tsum l (setOf l.length c)) obj false = lastV l obj c (setOf l.length c)[k] := addV_cst h1 h4 _ _ _ _
      unfold x_impl_setValues_l1
      simp only
      rw [if_pos (by rw [ic_len]; omega), bind_some_of (ic_get hk), if_pos (by omega), hs.2.2.1, bind_some_of hix, bind_some_of (jb_ix hs.2.2.2), bind_some_of (add_eq (jb_ok hg hs.2.2.2) (by omega) (by omega) (by omega) (by omega)), hadd, bind_some_of hixc, inc_i (by omega)]
      by_cases a1 : b < 0
      · rw [if_pos a1, bind_some_of (hput _)]
        refine .inl ⟨_, rfl, rfl, _, rfl, ?_⟩
        rw [← g3]; congr 1; unfold minS; rw [if_pos a1]
      · rw [if_neg a1]
        by_cases a2 : lastV l obj c (setOf l.length c)[k] < b
        · rw [if_pos a2, bind_some_of (hput _)]
          refine .inl ⟨_, rfl, rfl, _, rfl, ?_⟩
          rw [← g3]; congr 1; unfold minS; rw [if_neg a1, if_pos a2]
        · rw [if_neg a2]
          refine .inl ⟨_, rfl, rfl, _, rfl, ?_⟩
          rw [← g3]; congr 1; unfold minS; rw [if_neg a1, if_neg a2]) (by
      rintro ⟨s, z⟩ ⟨g1, b, g2, g3⟩
      simp only at g1 g2
      subst g1 g2
      unfold x_impl_setValues_l1
      simp only
      rw [if_neg (by rw [ic_len]; omega)]
      refine ⟨_, rfl, ?_⟩
      rw [List.drop_length, List.foldl_nil] at g3
      rw [g3]) (LL_lt (by omega)) (valsW l obj c ++ -1 :: Z, 0) ⟨rfl, -1, rfl, by rw [List.drop_zero, VW_eq hn hc h0]⟩
    obtain ⟨p, e, rfl⟩ := key
    exact e
  have key := loopS_inv (b := x_impl_setValues_l0 l obj 0) (fun k (s : List Int × Int) => s.2 = ((k + 1 : Nat) : Int) ∧ s.1 = valsW l obj (k + 1) ++ List.replicate (2 ^ l.length - (k + 1)) 0) (fun p => p = valsW l obj (2 ^ l.length)) (2 ^ l.length - 1) (by
    rintro k ⟨s, z⟩ hk ⟨g1, g2⟩
    simp only at g1 g2
    subst g1 g2
    have hc : k + 1 < 2 ^ l.length := by omega
    have hT := set_T hg (k + 1)
    obtain ⟨m, hm⟩ : ∃ m, 2 ^ l.length - (k + 1) = m + 1 := ⟨2 ^ l.length - (k + 1) - 1, by omega⟩
    rw [hm, List.replicate_succ]
    have hlen : (valsW l obj (k + 1) ++ 0 :: List.replicate m (0 : Int)).length = 2 ^ l.length := by
      rw [List.length_append, valsW_len, List.length_cons, List.length_replicate]; omega
    have hixc : ix (valsW l obj (k + 1) ++ 0 :: List.replicate m (0 : Int)) ((k + 1 : Nat) : Int) = some 0 := by
      rw [ix_cast, List.getElem?_append_right (by rw [valsW_len]; exact Nat.le_refl _), valsW_len]
      simp
    have hput : put (valsW l obj (k + 1) ++ 0 :: List.replicate m (0 : Int)) ((k + 1 : Nat) : Int) (-1) = some (valsW l obj (k + 1) ++ -1 :: List.replicate m (0 : Int)) := by
      rw [put_lt (by rw [hlen]; omega), List.set_append_right _ _ (by rw [valsW_len]; exact Nat.le_refl _), valsW_len]
      simp
    unfold x_impl_setValues_l0
    simp only
    rw [if_pos (by rw [hlen]; omega), bind_some_of (timeOf_eq hg hc), bind_some_of hixc, bind_some_of hput, bind_some_of (listOf_eq hg.1 hc), add_i (by omega) (by omega), Int.zero_add, bind_some_of (inner (k + 1) _ (by omega) hc), inc_i (by omega)]
    refine .inl ⟨_, rfl, rfl, ?_⟩
    have : 2 ^ l.length - (k + 1 + 1) = m := by omega
    rw [this]
    show _ = (valsW l obj (k + 1) ++ [VW l obj (k + 1)]) ++ _
    simp) (by
    rintro ⟨s, z⟩ ⟨g1, g2⟩
    simp only at g1 g2
    subst g1 g2
    have e1 : 2 ^ l.length - 1 + 1 = 2 ^ l.length := by omega
    unfold x_impl_setValues_l0
    simp only
    rw [e1, Nat.sub_self, List.replicate_zero, List.append_nil, if_neg (by rw [valsW_len]; omega)]
    exact ⟨_, rfl, rfl⟩) (LL_lt (by omega)) (List.replicate (2 ^ l.length) 0, 1) ⟨rfl, by
      obtain ⟨m, hm⟩ : ∃ m, 2 ^ l.length = m + 1 := ⟨2 ^ l.length - 1, by omega⟩
      show List.replicate (2 ^ l.length) (0 : Int) = valsW l obj 1 ++ List.replicate (2 ^ l.length - 1) 0
      rw [hm, Nat.add_sub_cancel, List.replicate_succ]
      rfl⟩
  obtain ⟨p, e, rfl⟩ := key
  rw [shl_pow _ (by omega), bind_some_of (mk_ok (by omega) (by omega)), bind_some_of e]
end Gh
