/- Plain laws: sets as numbers, the cost of an order part by part. -/
import Derived.Test.YtmjdjnphjpcfcaaQc
namespace Gh
open Go
set_option linter.unusedSimpArgs false
set_option linter.unusedVariables false
set_option maxRecDepth 100000

/-- What is true of small sets: taking one number out. -/
def setChk (n : Nat) : Bool := (List.range (2 ^ n)).all fun c => (setOf n c).all fun i => setOf n (c - 2 ^ i) == (setOf n c).erase i && decide (2 ^ i ≤ c) && andNotK .i64 (c : Int) (shlK .i64 1 (i : Int)) == ((c - 2 ^ i : Nat) : Int) && decide (i < n)

theorem setChk0 : setChk 0 = true := by kernel_rfl

theorem setChk1 : setChk 1 = true := by kernel_rfl

theorem setChk2 : setChk 2 = true := by kernel_rfl

theorem setChk3 : setChk 3 = true := by kernel_rfl

theorem setChk4 : setChk 4 = true := by kernel_rfl

theorem setChk5 : setChk 5 = true := by kernel_rfl

theorem setChk6 : setChk 6 = true := by kernel_rfl

theorem set_sub {n c i : Nat} (hn : n ≤ 6) (hc : c < 2 ^ n) (hi : i ∈ setOf n c) : setOf n (c - 2 ^ i) = (setOf n c).erase i ∧ 2 ^ i ≤ c ∧ andNotK .i64 (c : Int) (shlK .i64 1 (i : Int)) = ((c - 2 ^ i : Nat) : Int) ∧ i < n := by
  have h : setChk n = true := by
    rcases n with _ | _ | _ | _ | _ | _ | _ | n
    · exact setChk0
    · exact setChk1
    · exact setChk2
    · exact setChk3
    · exact setChk4
    · exact setChk5
    · exact setChk6
    · omega
  have h1 := List.all_eq_true.1 (List.all_eq_true.1 h c (List.mem_range.2 hc)) i hi
  simp only [Bool.and_eq_true, beq_iff_eq, decide_eq_true_eq] at h1
  exact ⟨h1.1.1.1, h1.1.1.2, h1.1.2, h1.2⟩

theorem mem_setOf {n c i : Nat} : i ∈ setOf n c ↔ i < n ∧ bit c i = true := by simp [setOf]

theorem setOf_succ (i c : Nat) : setOf (i + 1) c = setOf i c ++ (if bit c i = true then [i] else []) := by
  unfold setOf
  rw [List.range_succ, List.filter_append]
  by_cases h : bit c i = true <;> simp [h]

theorem setOf_high {c i : Nat} (hc : c < 2 ^ i) : ∀ {n : Nat}, i ≤ n → setOf n c = setOf i c
  | 0, h => by
    have : i = 0 := by omega
    subst this; rfl
  | n + 1, h => by
    by_cases e : i = n + 1
    · subst e; rfl
    · have hin : i ≤ n := by omega
      rw [setOf_succ, setOf_high hc hin]
      have : bit c n = false := Nat.testBit_lt_two_pow (Nat.lt_of_lt_of_le hc (Nat.pow_le_pow_right (by decide) hin))
      simp [this]

theorem setOf_zero (n : Nat) : setOf n 0 = [] := by
  rw [setOf_high (i := 0) (by decide) (Nat.zero_le _)]; rfl

theorem setOf_pos {n c : Nat} (hc : c < 2 ^ n) (h : 0 < c) : setOf n c ≠ [] := by
  intro e
  have : c = 0 := by
    apply Nat.eq_of_testBit_eq
    intro i
    rw [Nat.zero_testBit]
    by_cases hi : i < n
    · cases hb : c.testBit i with
      | false => rfl
      | true =>
        have : i ∈ setOf n c := mem_setOf.2 ⟨hi, hb⟩
        rw [e] at this
        cases this
    · exact Nat.testBit_lt_two_pow (Nat.lt_of_lt_of_le hc (Nat.pow_le_pow_right (by decide) (by omega)))
  omega

theorem pow_lt {n : Nat} (hn : n ≤ 8) : 2 ^ n ≤ 256 := Nat.pow_le_pow_right (by decide) hn (n := 2)

theorem shl_pow (n : Nat) (hn : n ≤ 60) : shlK .i64 1 (n : Int) = ((2 ^ n : Nat) : Int) := by
  have hb : 2 ^ n ≤ 2 ^ 60 := Nat.pow_le_pow_right (by decide) hn
  have hpos : 0 < 2 ^ n := Nat.pow_pos (by decide)
  unfold shlK
  have e : min (Int.toNat (n : Int)) IntKind.i64.bits = n := by
    have : IntKind.i64.bits = 64 := rfl
    rw [this, Int.toNat_natCast]; omega
  have e2 : (1 : Int) * 2 ^ n = ((2 ^ n : Nat) : Int) := by simp
  rw [e, e2]
  exact wrap_i64 (by omega) (by omega)

/-- A number's bits, as impl lists them. -/
theorem listOf_eq {n c : Nat} (hn : n ≤ 8) (hc : c < 2 ^ n) : x_impl_listOf (c : Int) = some (ic (setOf n c)) := by
  have h2 := pow_lt hn
  unfold x_impl_listOf
  have key := loopS_inv (b := x_impl_listOf_l0 (c : Int)) (fun i (s : List Int × Int) => s.2 = (i : Int) ∧ s.1 = ic (setOf i c)) (fun p => p = ic (setOf n c)) n (by
    rintro i ⟨s, z⟩ hi ⟨h1, h3⟩
    simp only at h1 h3
    subst h1 h3
    have hlen : (ic (setOf i c)).length ≤ i := by
      rw [ic_len]
      have := List.length_filter_le (bit c) (List.range i)
      simpa [setOf] using this
    unfold x_impl_listOf_l0
    simp only
    rw [if_pos (by omega), shr_nat c i (by omega)]
    by_cases hz : 0 < c / 2 ^ i
    · rw [if_pos (by generalize c / 2 ^ i = d at hz ⊢; omega), if_pos (by omega)]
      have hb := bit_eq c i (by omega)
      rw [shr_nat c i (by omega)] at hb
      by_cases hbit : bit c i = true
      · rw [if_pos (hb.2 hbit), bind_some_of (app_ok (by simp only [List.length_singleton]; omega) (by omega)), inc_i (by omega)]
        exact .inl ⟨_, rfl, rfl, by rw [setOf_succ, if_pos hbit, ic_app]; rfl⟩
      · rw [if_neg (fun h => hbit (hb.1 h)), inc_i (by omega)]
        exact .inl ⟨_, rfl, rfl, by rw [setOf_succ, if_neg hbit, List.append_nil]⟩
    · rw [if_neg (by generalize c / 2 ^ i = d at hz ⊢; omega)]
      refine .inr ⟨_, rfl, ?_⟩
      have : c < 2 ^ i := by
        have := Nat.div_eq_zero_iff.1 (Nat.eq_zero_of_not_pos hz)
        have hp : 0 < 2 ^ i := Nat.pow_pos (by decide)
        omega
      rw [setOf_high (n := n) this (by omega)]) (by
    rintro ⟨s, z⟩ ⟨h1, h3⟩
    simp only at h1 h3
    subst h1 h3
    unfold x_impl_listOf_l0
    simp only
    rw [if_pos (by omega), shr_nat c n (by omega), Nat.div_eq_of_lt hc, if_neg (by omega)]
    exact ⟨_, rfl, rfl⟩) (LL_lt (by omega)) ([], 0) ⟨rfl, rfl⟩
  obtain ⟨p, e, rfl⟩ := key
  rw [bind_some_of e]

theorem tsum_bd {l : List impl_Job} (hg : good l) : ∀ {p : List Nat}, (∀ i ∈ p, i < l.length) → 0 ≤ tsum l p ∧ tsum l p ≤ 50 * (p.length : Int)
  | [], _ => by simp [tsum]
  | a :: p, h => by
    have h1 := jb_ok hg (h a (by simp))
    have h2 := tsum_bd hg (p := p) fun i hi => h i (by simp [hi])
    unfold jobOk at h1
    rw [tsum_cons, List.length_cons]
    omega

theorem setOf_len (n c : Nat) : (setOf n c).length ≤ n := by
  have := List.length_filter_le (bit c) (List.range n)
  simpa [setOf] using this

/-- The time of a list of jobs: a loop over the list. -/
theorem time_loop {l : List impl_Job} (hg : good l) {p : List Nat} (hp : ∀ i ∈ p, i < l.length) (hl : p.length ≤ 1000) {b : Int × Int → Option (Ctl (Int × Int) Int)}
    (hs : ∀ (k : Nat) (h : k < p.length) (t : Int), -1000000 ≤ t → t ≤ 1000000 → b (t, (k : Int)) = some (.next (t + (jb l p[k]).Time, ((k + 1 : Nat) : Int)))) (hd : ∀ t, b (t, (p.length : Int)) = some (.done t)) : loopS b LL (0, 0) = some (tsum l p) := by
  have key := loopS_inv (b := b) (fun k (s : Int × Int) => s.2 = (k : Int) ∧ s.1 + tsum l (p.drop k) = tsum l p) (fun q => q = tsum l p) p.length (by
    rintro k ⟨s, z⟩ hk ⟨h1, h2⟩
    simp only at h1 h2
    subst h1
    rw [List.drop_eq_getElem_cons hk, tsum_cons] at h2
    have t1 := tsum_bd hg (p := p) hp
    have t2 := tsum_bd hg (p := p.drop (k + 1)) fun i hi => hp i (List.mem_of_mem_drop hi)
    have t3 := jb_ok hg (hp _ (List.getElem_mem hk))
    unfold jobOk at t3
    rw [List.length_drop] at t2
    exact .inl ⟨_, hs k hk s (by omega) (by omega), rfl, by simp only; omega⟩) (by
    rintro ⟨s, z⟩ ⟨h1, h2⟩
    simp only at h1 h2
    subst h1
    refine ⟨_, hd s, ?_⟩
    rw [List.drop_length] at h2
    simpa [tsum] using h2) (LL_lt (by omega)) (0, 0) ⟨rfl, by simp⟩
  obtain ⟨q, e, rfl⟩ := key
  exact e

theorem timeOf_eq {l : List impl_Job} (hg : good l) {c : Nat} (hc : c < 2 ^ l.length) : x_impl_timeOf l (c : Int) = some (tsum l (setOf l.length c)) := by
  have hn := hg.1
  have hlen := setOf_len l.length c
  unfold x_impl_timeOf
  rw [bind_some_of (listOf_eq hn hc), bind_some_of (time_loop hg (p := setOf l.length c) (fun i hi => (mem_setOf.1 hi).1) (by omega) (fun k h t h1 h2 => by
    have hk : (setOf l.length c)[k] < l.length := (mem_setOf.1 (List.getElem_mem h)).1
    have t3 := jb_ok hg hk
    unfold jobOk at t3
    unfold x_impl_timeOf_l0
    simp only
    rw [if_pos (by rw [ic_len]; omega), bind_some_of (ic_get h), bind_some_of (jb_ix hk), add_i (by omega) (by omega), inc_i (by omega)]) (fun t => by
    unfold x_impl_timeOf_l0
    simp only
    rw [if_neg (by rw [ic_len]; omega)]))]

/-- The cost of a job that ends then. -/
def cst (obj : Int) (j : impl_Job) (e : Int) : Int := addV 0 j e obj false

theorem addV_cst {obj : Int} (h1 : obj ≠ 1) (h4 : obj ≠ 4) (v : Int) (j : impl_Job) (e : Int) (b : Bool) : addV v j e obj b = v + cst obj j e := by
  unfold cst addV
  simp only [if_neg h1, if_neg h4]
  split
  · omega
  split
  · omega
  split
  · omega
  split
  · omega
  split
  · omega
  split <;> omega

theorem cst_bd {obj : Int} {j : impl_Job} (hj : jobOk j) (h1 : obj ≠ 1) (h4 : obj ≠ 4) {e : Int} (h0 : 0 ≤ e) (he : e ≤ 1000) : 0 ≤ cst obj j e ∧ cst obj j e ≤ 50000 := by
  have hj' := hj
  unfold jobOk at hj'
  have m1 := wmul_bd (w := j.Weight) (e := e) (by omega) (by omega) h0 he
  have hm : 0 ≤ max 0 (e - j.Due) ∧ max 0 (e - j.Due) ≤ 1000 := by rw [Int.max_def]; split <;> omega
  have m2 := wmul_bd (w := j.Weight) (e := max 0 (e - j.Due)) (by omega) (by omega) hm.1 hm.2
  unfold cst addV
  simp only [if_neg h1, if_neg h4]
  repeat' split
  all_goals omega

theorem cst_mono {obj : Int} {j : impl_Job} (hj : jobOk j) (h1 : obj ≠ 1) (h4 : obj ≠ 4) {e e' : Int} (h : e ≤ e') : cst obj j e ≤ cst obj j e' := by
  have hj' := hj
  unfold jobOk at hj'
  have m1 : j.Weight * e ≤ j.Weight * e' := Int.mul_le_mul_of_nonneg_left h (by omega)
  have hm : max 0 (e - j.Due) ≤ max 0 (e' - j.Due) := by omega
  have m2 : j.Weight * max 0 (e - j.Due) ≤ j.Weight * max 0 (e' - j.Due) := Int.mul_le_mul_of_nonneg_left hm (by omega)
  unfold cst addV
  simp only [if_neg h1, if_neg h4]
  by_cases h2 : obj = 2
  · simp only [if_pos h2]; omega
  by_cases h3 : obj = 3
  · simp only [if_neg h2, if_pos h3]; omega
  by_cases h5 : obj = 5
  · simp only [if_neg h2, if_neg h3, if_pos h5]; omega
  by_cases h6 : obj = 6
  · simp only [if_neg h2, if_neg h3, if_neg h5, if_pos h6]; omega
  simp only [if_neg h2, if_neg h3, if_neg h5, if_neg h6]
  by_cases a1 : e - j.Due ≤ 0
  · rw [if_pos a1]
    repeat' split
    all_goals omega
  · rw [if_neg a1, if_neg (show ¬ e' - j.Due ≤ 0 by omega)]
    exact Int.le_refl _

/-- The cost of an order that starts then. -/
def csumT (l : List impl_Job) (obj : Int) : Int → List Nat → Int
  | _, [] => 0
  | t, a :: o => cst obj (jb l a) (t + (jb l a).Time) + csumT l obj (t + (jb l a).Time) o

theorem csumT_app (l : List impl_Job) (obj : Int) : ∀ (p q : List Nat) (t : Int), csumT l obj t (p ++ q) = csumT l obj t p + csumT l obj (t + tsum l p) q
  | [], q, t => by simp [csumT, tsum]
  | a :: p, q, t => by
    simp only [List.cons_append, csumT, csumT_app l obj p q, tsum_cons]
    rw [show t + (jb l a).Time + tsum l p = t + ((jb l a).Time + tsum l p) by omega]
    omega

theorem csumT_snoc (l : List impl_Job) (obj : Int) (p : List Nat) (k : Nat) : csumT l obj 0 (p ++ [k]) = csumT l obj 0 p + cst obj (jb l k) (tsum l (p ++ [k])) := by
  rw [csumT_app, tsum_app]
  simp [csumT, tsum]

theorem csumT_mono {l : List impl_Job} (hg : good l) {obj : Int} (h1 : obj ≠ 1) (h4 : obj ≠ 4) : ∀ {o : List Nat} {t t' : Int}, (∀ i ∈ o, i < l.length) → t ≤ t' → csumT l obj t o ≤ csumT l obj t' o
  | [], _, _, _, _ => Int.le_refl _
  | a :: o, t, t', h, ht => by
    have m := cst_mono (jb_ok hg (h a (by simp))) h1 h4 (show t + (jb l a).Time ≤ t' + (jb l a).Time by omega)
    have ih := csumT_mono hg h1 h4 (o := o) (fun i hi => h i (by simp [hi])) (show t + (jb l a).Time ≤ t' + (jb l a).Time by omega)
    simp only [csumT]
    omega

/-- An order without one of its jobs costs no more. -/
theorem csumT_erase {l : List impl_Job} (hg : good l) {obj : Int} (h1 : obj ≠ 1) (h4 : obj ≠ 4) : ∀ {o : List Nat} {t : Int} (k : Nat), (∀ i ∈ o, i < l.length) → o.length ≤ 8 → 0 ≤ t → t + 50 * (o.length : Int) ≤ 1000 → csumT l obj t (o.erase k) ≤ csumT l obj t o
  | [], _, _, _, _, _, _ => by simp
  | a :: o, t, k, h, hl, h0, ht => by
    have ha := jb_ok hg (h a (by simp))
    have ha' := ha
    unfold jobOk at ha'
    simp only [List.length_cons] at hl ht
    by_cases e : a = k
    · subst e
      rw [List.erase_cons_head]
      have c1 := cst_bd ha h1 h4 (e := t + (jb l a).Time) (by omega) (by omega)
      have m := csumT_mono hg h1 h4 (o := o) (fun i hi => h i (by simp [hi])) (show t ≤ t + (jb l a).Time by omega)
      simp only [csumT]
      omega
    · rw [List.erase_cons_tail (by simpa using e)]
      have ih := csumT_erase hg h1 h4 (o := o) (t := t + (jb l a).Time) k (fun i hi => h i (by simp [hi])) (by omega) (by omega) (by omega)
      simp only [csumT]
      omega

/-- For plain jobs and sums the value is the cost. -/
theorem val_csum {l : List impl_Job} (h : Free l) {obj : Int} (h1 : obj ≠ 1) (h4 : obj ≠ 4) {o : List Nat} (ho : IsOrd l.length o) : val l o obj = csumT l obj 0 o := by
  have e1 : val l o obj = isum (fun i => cst obj (jb l i) ((endsA l o).getD i 0)) (List.range l.length) := by
    unfold val valE
    rw [foldl_sum _ (fun i => cst obj (jb l i) ((endsA l o).getD i 0)) _ 0 (fun v i _ => addV_cst h1 h4 _ _ _ _)]
    omega
  rw [e1, isum_perm _ ho.perm.symm]
  have key : ∀ (q p : List Nat), o = p ++ q → isum (fun i => cst obj (jb l i) ((endsA l o).getD i 0)) q = csumT l obj (tsum l p) q := by
    intro q
    induction q with
    | nil => intro p _; rfl
    | cons a q ih =>
      intro p e
      have ha : a < l.length := ho.2.2 a (by rw [e]; simp)
      have hq : a ∉ q := by
        have := ho.2.1
        rw [e] at this
        have := (List.nodup_append.1 this).2.1
        rw [List.nodup_cons] at this
        exact this.1
      have hend : (endsA l o).getD a 0 = tsum l p + (jb l a).Time := by
        rw [e, List.getD_eq_getElem?_getD, endsA_at ha hq, Option.getD_some, endT, endT_plain (fun i hi => h i (ho.2.2 i (by
          rw [e]
          rcases List.mem_append.1 hi with x | x
          · simp [x]
          · have : i = a := by simpa using x
            simp [this]))) 0 (Int.le_refl _), tsum_app]
        simp [tsum]
      simp only [isum, csumT]
      rw [hend, ih (p ++ [a]) (by rw [e]; simp), tsum_app]
      simp [tsum]
  exact key o [] rfl
end Gh
