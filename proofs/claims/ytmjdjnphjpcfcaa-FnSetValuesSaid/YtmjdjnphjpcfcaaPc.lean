/- Plain laws: the ends of an order and its values. -/
import Derived.Test.YtmjdjnphjpcfcaaPb
namespace Gh
open Go
set_option linter.unusedSimpArgs false
set_option linter.unusedVariables false

/-- A loop over a list that makes a state on. -/
theorem loop_fold {S P σ α : Type} {b : S → Option (Ctl S P)} (mk : σ → Nat → S) (g : σ → α → σ) (fin : σ → P) (l : List α) (I : Nat → σ → Prop)
    (hs : ∀ i (h : i < l.length) s, I i s → b (mk s i) = some (.next (mk (g s l[i]) (i + 1))) ∧ I (i + 1) (g s l[i])) (hd : ∀ s, I l.length s → b (mk s l.length) = some (.done (fin s)))
    (hl : l.length < 900000) (s : σ) (h0 : I 0 s) : loopS b LL (mk s 0) = some (fin (l.foldl g s)) ∧ I l.length (l.foldl g s) := by
  suffices H : ∀ (r : List α) (i L : Nat) (s : σ), l.drop i = r → i + r.length = l.length → r.length < L → I i s → loopS b L (mk s i) = some (fin (r.foldl g s)) ∧ I l.length (r.foldl g s) from
    H l 0 LL s rfl (by simp) (LL_lt (by omega)) h0
  intro r
  induction r with
  | nil =>
    intro i L s hr hi hL hI
    have : i = l.length := by simpa using hi
    subst this
    cases L with
    | zero => omega
    | succ L => exact ⟨by simp only [loopS, hd s hI, List.foldl_nil], hI⟩
  | cons a r ih =>
    intro i L s hr hi hL hI
    simp only [List.length_cons] at hi hL
    have hlt : i < l.length := by omega
    have ha : l[i] = a := by
      have := List.getElem_cons_drop (i := i) hlt
      rw [hr] at this
      exact (List.cons.inj this).1
    have hr' : l.drop (i + 1) = r := by
      have := List.getElem_cons_drop (i := i) hlt
      rw [hr] at this
      exact (List.cons.inj this).2
    obtain ⟨h1, h2⟩ := hs i hlt s hI
    rw [ha] at h1 h2
    cases L with
    | zero => omega
    | succ L =>
      simp only [loopS, h1, List.foldl_cons]
      exact ih (i + 1) L (g s a) hr' (by omega) (by omega) h2

/-- A job by its number. -/
def jb (l : List impl_Job) (i : Nat) : impl_Job := l.getD i ⟨0, 0, 0, 0⟩

theorem jb_lt {l : List impl_Job} {i : Nat} (h : i < l.length) : jb l i = l[i] := by simp [jb, h]

theorem jb_ix {l : List impl_Job} {i : Nat} (h : i < l.length) : ix l (i : Int) = some (jb l i) := by rw [jb_lt h]; exact ix_lt h

theorem jb_ok {l : List impl_Job} (hg : good l) {i : Nat} (h : i < l.length) : jobOk (jb l i) := by rw [jb_lt h]; exact hg.2 _ (List.getElem_mem h)

/-- When a job ends that begins at its release, at a time at the earliest. -/
def nextT (l : List impl_Job) (t : Int) (i : Nat) : Int := max t (jb l i).Release + (jb l i).Time

def stpE (l : List impl_Job) (s : List Int × Int) (i : Nat) : List Int × Int := (s.1.set i (nextT l s.2 i), nextT l s.2 i)

/-- The ends of all jobs. -/
def endsA (l : List impl_Job) (o : List Nat) : List Int := (o.foldl (stpE l) (List.replicate l.length 0, 0)).1

/-- When an order ends. -/
def endT (l : List impl_Job) (o : List Nat) : Int := o.foldl (nextT l) 0

theorem nextT_bd {l : List impl_Job} (hg : good l) {i : Nat} (h : i < l.length) {t : Int} {k : Nat} (h0 : 0 ≤ t) (h1 : t ≤ 500 + 50 * (k : Int)) : 1 ≤ nextT l t i ∧ nextT l t i ≤ 500 + 50 * ((k + 1 : Nat) : Int) := by
  have hj := jb_ok hg h
  unfold jobOk at hj
  unfold nextT
  rw [Int.max_def]
  split <;> omega

theorem fold_len (l : List impl_Job) : ∀ (o : List Nat) (s : List Int × Int), (o.foldl (stpE l) s).1.length = s.1.length
  | [], _ => rfl
  | i :: o, s => by rw [List.foldl_cons, fold_len l o]; simp [stpE]

theorem endsA_len (l : List impl_Job) (o : List Nat) : (endsA l o).length = l.length := by simp [endsA, fold_len]

theorem fold_snd (l : List impl_Job) : ∀ (o : List Nat) (s : List Int × Int), (o.foldl (stpE l) s).2 = o.foldl (nextT l) s.2
  | [], _ => rfl
  | i :: o, s => by rw [List.foldl_cons, List.foldl_cons, fold_snd l o]; rfl

theorem fold_get (l : List impl_Job) : ∀ (o : List Nat) (s : List Int × Int) (k : Nat), k ∉ o → (o.foldl (stpE l) s).1[k]? = s.1[k]?
  | [], _, _, _ => rfl
  | i :: o, s, k, h => by
    rw [List.foldl_cons, fold_get l o _ k (fun hk => h (by simp [hk]))]
    have : i ≠ k := fun e => h (by simp [e])
    simp [stpE, List.getElem?_set_ne this]

/-- A job's end is that of the order up to it. -/
theorem endsA_at {l : List impl_Job} {p q : List Nat} {k : Nat} (hk : k < l.length) (hq : k ∉ q) : (endsA l (p ++ k :: q))[k]? = some (endT l (p ++ [k])) := by
  unfold endsA
  rw [List.foldl_append, List.foldl_cons, fold_get l q _ k hq]
  have hl : k < (p.foldl (stpE l) (List.replicate l.length 0, 0)).1.length := by rw [fold_len]; simpa using hk
  simp only [stpE, List.getElem?_set_self hl, Option.some.injEq]
  rw [fold_snd, endT, List.foldl_append]
  rfl

theorem endsOf_eq {l : List impl_Job} (hg : good l) {o : List Nat} (ho : ∀ i ∈ o, i < l.length) (hl : o.length ≤ 1000) : x_impl_endsOf l (ic o) = some (endsA l o) := by
  unfold x_impl_endsOf
  have hn := hg.1
  rw [bind_some_of (mk_ok (by omega) (by omega))]
  have key := loop_fold (b := x_impl_endsOf_l0 l (ic o) ((ic o).length : Int)) (fun (s : List Int × Int) i => (s.1, s.2, (i : Int))) (stpE l) (fun s => s.1) o (fun i s => s.1.length = l.length ∧ 0 ≤ s.2 ∧ s.2 ≤ 500 + 50 * (i : Int)) (by
    rintro i hi ⟨out, t⟩ ⟨h1, h2, h3⟩
    simp only at h1 h2 h3
    have hk := ho o[i] (List.getElem_mem hi)
    have hb := nextT_bd hg hk h2 h3
    have hj := jb_ok hg hk
    unfold jobOk at hj
    have hm : mxK t (jb l o[i]).Release = max t (jb l o[i]).Release := mx_eq
    have hmb : 0 ≤ max t (jb l o[i]).Release ∧ max t (jb l o[i]).Release ≤ 500 + 50 * (i : Int) := by rw [Int.max_def]; split <;> omega
    have ha : addK .i64 (mxK t (jb l o[i]).Release) (jb l o[i]).Time = nextT l t o[i] := by rw [hm, add_i (by omega) (by omega)]; rfl
    refine ⟨?_, by simpa [stpE] using h1, by show 0 ≤ nextT l t o[i]; omega, by show nextT l t o[i] ≤ _; omega⟩
    unfold x_impl_endsOf_l0
    simp only
    rw [if_pos (by rw [ic_len]; omega), bind_some_of (ic_get hi), bind_some_of (jb_ix hk), bind_some_of (ix_lt (by omega)), ha, bind_some_of (put_lt (by omega) _), inc_i (by omega)]
    rfl) (by
    rintro ⟨out, t⟩ _
    unfold x_impl_endsOf_l0
    simp only
    rw [if_neg (by rw [ic_len]; omega)]) (by omega) (List.replicate l.length 0, 0) ⟨by simp, by simp, by simp⟩
  exact bind_some_of key.1

/-- The starts of all jobs, as the reference tells them. -/
def stepS (l : List impl_Job) (s : List Int × Int) (i : Nat) : List Int × Int := (s.1.set i (max s.2 (jb l i).Release), nextT l s.2 i)

def startsA (l : List impl_Job) (o : List Nat) : List Int := (o.foldl (stepS l) (List.replicate l.length 0, 0)).1

theorem foldS_len (l : List impl_Job) : ∀ (o : List Nat) (s : List Int × Int), (o.foldl (stepS l) s).1.length = s.1.length
  | [], _ => rfl
  | i :: o, s => by rw [List.foldl_cons, foldS_len l o]; simp [stepS]

theorem foldS_ge {l : List impl_Job} (hg : good l) : ∀ (o : List Nat) (s : List Int × Int), (∀ i ∈ o, i < l.length) → 0 ≤ s.2 → (∀ x ∈ s.1, 0 ≤ x ∧ x ≤ 1000000) → s.2 + 50 * (o.length : Int) ≤ 1000000 → 500 + 50 * (o.length : Int) ≤ 1000000 → ∀ x ∈ (o.foldl (stepS l) s).1, 0 ≤ x ∧ x ≤ 1000000 := by
  intro o
  induction o with
  | nil => intro s _ _ h _ _; exact h
  | cons i o ih =>
    intro s ho h0 hx hb hb'
    have hj := jb_ok hg (ho i (by simp))
    unfold jobOk at hj
    simp only [List.length_cons] at hb hb'
    rw [List.foldl_cons]
    by_cases hc : s.2 ≤ 500
    · have hn : nextT l s.2 i ≤ 550 ∧ 0 ≤ nextT l s.2 i := by unfold nextT; rw [Int.max_def]; split <;> omega
      refine ih _ (fun k hk => ho k (by simp [hk])) hn.2 ?_ (by show nextT l s.2 i + _ ≤ _; omega) (by omega)
      intro x hx'
      rcases List.mem_or_eq_of_mem_set hx' with h | rfl
      · exact hx x h
      · rw [Int.max_def]; split <;> omega
    · have hn : nextT l s.2 i ≤ s.2 + 50 ∧ 0 ≤ nextT l s.2 i := by unfold nextT; rw [Int.max_def]; split <;> omega
      refine ih _ (fun k hk => ho k (by simp [hk])) hn.2 ?_ (by show nextT l s.2 i + _ ≤ _; omega) (by omega)
      intro x hx'
      rcases List.mem_or_eq_of_mem_set hx' with h | rfl
      · exact hx x h
      · rw [Int.max_def]; split <;> omega

theorem l1Most_eq (a b : Int) : x_spec_l1Most a b = some (max a b) := by
  unfold x_spec_l1Most
  rw [Int.max_def]
  split <;> split <;> simp <;> omega

theorem l2Starts_eq {l : List impl_Job} (hg : good l) {o : List Nat} (ho : ∀ i ∈ o, i < l.length) (hl : o.length ≤ 1000) : x_spec_l2Starts l (ic o) = some (startsA l o) := by
  unfold x_spec_l2Starts
  have hn := hg.1
  rw [bind_some_of (mk_ok (by omega) (by omega))]
  have key := loop_fold (b := x_spec_l2Starts_l0 l (ic o)) (fun (s : List Int × Int) i => (s.1, s.2, (i : Int))) (stepS l) (fun s => s.1) o (fun i s => s.1.length = l.length ∧ 0 ≤ s.2 ∧ s.2 ≤ 500 + 50 * (i : Int)) (by
    rintro i hi ⟨out, t⟩ ⟨h1, h2, h3⟩
    simp only at h1 h2 h3
    have hk := ho o[i] (List.getElem_mem hi)
    have hb := nextT_bd hg hk h2 h3
    have hj := jb_ok hg hk
    unfold jobOk at hj
    have hmb : 0 ≤ max t (jb l o[i]).Release ∧ max t (jb l o[i]).Release ≤ 500 + 50 * (i : Int) := by rw [Int.max_def]; split <;> omega
    have ha : addK .i64 (max t (jb l o[i]).Release) (jb l o[i]).Time = nextT l t o[i] := by rw [add_i (by omega) (by omega)]; rfl
    refine ⟨?_, by simpa [stepS] using h1, by show 0 ≤ nextT l t o[i]; omega, by show nextT l t o[i] ≤ _; omega⟩
    unfold x_spec_l2Starts_l0
    simp only
    have hs : ix (out.set o[i] (max t (jb l o[i]).Release)) ((o[i] : Nat) : Int) = some (max t (jb l o[i]).Release) := by rw [ix_cast, List.getElem?_set_self (by omega)]
    rw [if_pos (by rw [ic_len]; omega), bind_some_of (ic_get hi), bind_some_of (jb_ix hk), bind_some_of (l1Most_eq _ _), bind_some_of (ix_lt (by omega)), bind_some_of (put_lt (by omega) _), bind_some_of hs, ha, inc_i (by omega)]
    rfl) (by
    rintro ⟨out, t⟩ _
    unfold x_spec_l2Starts_l0
    simp only
    rw [if_neg (by rw [ic_len]; omega)]) (by omega) (List.replicate l.length 0, 0) ⟨by simp, by simp, by simp⟩
  exact bind_some_of key.1

/-- Starts and ends, side by side. -/
theorem fold_rel (l : List impl_Job) : ∀ (o : List Nat) (s e : List Int × Int) (D : Nat → Prop), s.1.length = l.length → e.1.length = l.length → s.2 = e.2 → (∀ i ∈ o, i < l.length) →
    (∀ i, D i → e.1.getD i 0 = s.1.getD i 0 + (jb l i).Time) → ∀ i, (D i ∨ i ∈ o) → (o.foldl (stpE l) e).1.getD i 0 = (o.foldl (stepS l) s).1.getD i 0 + (jb l i).Time
  | [], s, e, D, _, _, _, _, h, i, hi => h i (by simpa using hi)
  | k :: o, s, e, D, hs, he, ht, ho, h, i, hi => by
    rw [List.foldl_cons, List.foldl_cons]
    have hk : k < l.length := ho k (by simp)
    refine fold_rel l o _ _ (fun i => D i ∨ i = k) (by simpa [stepS] using hs) (by simpa [stpE] using he) (by simp [stepS, stpE, ht]) (fun i hi => ho i (by simp [hi])) ?_ i ?_
    · intro i hi
      by_cases e' : i = k
      · subst e'
        simp only [stpE, stepS, List.getD_eq_getElem?_getD, List.getElem?_set_self (show i < e.1.length by omega), List.getElem?_set_self (show i < s.1.length by omega), Option.getD_some, nextT, ht]
      · have hd : D i := hi.resolve_right e'
        have hne : k ≠ i := fun x => e' x.symm
        have := h i hd
        simpa only [stpE, stepS, List.getD_eq_getElem?_getD, List.getElem?_set_ne hne] using this
    · rcases hi with hi | hi
      · exact .inl (.inl hi)
      · rcases List.mem_cons.1 hi with rfl | hi
        · exact .inl (.inr rfl)
        · exact .inr hi

theorem l2Ends_eq {l : List impl_Job} (hg : good l) {o : List Nat} (ho : IsOrd l.length o) : x_spec_l2Ends l (ic o) = some (endsA l o) := by
  have hn := hg.1
  have hol : o.length ≤ 1000 := by have := ho.1; omega
  unfold x_spec_l2Ends
  rw [bind_some_of (l2Starts_eq hg ho.2.2 hol)]
  have hsl : (startsA l o).length = l.length := by simp [startsA, foldS_len]
  have hsb : ∀ x ∈ startsA l o, 0 ≤ x ∧ x ≤ 1000000 := foldS_ge hg o _ ho.2.2 (Int.le_refl 0) (fun x hx => by
    have := List.eq_of_mem_replicate hx; omega) (by show (0 : Int) + _ ≤ _; omega) (by omega)
  have key := loop_fold (b := x_spec_l2Ends_l0 l) (fun (s : List Int) i => (s, (i : Int))) (fun s i => s.set i (s.getD i 0 + (jb l i).Time)) (fun s => s) (List.range l.length)
    (fun i s => s.length = l.length ∧ (∀ k, i ≤ k → s[k]? = (startsA l o)[k]?) ∧ ∀ k, k < i → s.getD k 0 = (startsA l o).getD k 0 + (jb l k).Time) (by
    rintro i hi s ⟨h1, h2, h3⟩
    simp only [List.length_range] at hi
    simp only [List.getElem_range]
    have hx := hsb ((startsA l o)[i]'(by omega)) (List.getElem_mem _)
    have hg' : s[i]? = some ((startsA l o)[i]'(by omega)) := by rw [h2 i (Nat.le_refl _)]; exact List.getElem?_eq_getElem _
    have hd : s.getD i 0 = (startsA l o)[i]'(by omega) := by rw [List.getD_eq_getElem?_getD, hg']; rfl
    have hj := jb_ok hg hi
    unfold jobOk at hj
    refine ⟨?_, by simpa using h1, fun k hk => ?_, fun k hk => ?_⟩
    · unfold x_spec_l2Ends_l0
      simp only
      rw [if_pos (by omega), bind_some_of ((ix_cast s i).trans hg'), bind_some_of (jb_ix hi), add_i (by omega) (by omega), bind_some_of (put_lt (by omega) _), inc_i (by omega), hd]
    · rw [List.getElem?_set_ne (by omega)]; exact h2 k (by omega)
    · by_cases e : k = i
      · subst e
        rw [List.getD_eq_getElem?_getD, List.getElem?_set_self (by omega), Option.getD_some, hd]
        congr 1
        simp [List.getD_eq_getElem?_getD, show k < (startsA l o).length by omega]
      · rw [List.getD_eq_getElem?_getD, List.getElem?_set_ne (fun x => e x.symm)]
        have := h3 k (by omega)
        rwa [List.getD_eq_getElem?_getD] at this) (by
    rintro s ⟨h1, _⟩
    unfold x_spec_l2Ends_l0
    simp only [List.length_range]
    rw [if_neg (by omega)]) (by simp; omega) (startsA l o) ⟨hsl, fun k _ => rfl, fun k hk => absurd hk (Nat.not_lt_zero _)⟩
  have h1 := key.1
  have h2 := key.2
  simp only [List.length_range] at h2
  have hfin : ((List.range l.length).foldl (fun s i => s.set i (s.getD i 0 + (jb l i).Time)) (startsA l o)) = endsA l o := by
    generalize (List.range l.length).foldl (fun s i => s.set i (s.getD i 0 + (jb l i).Time)) (startsA l o) = r at h2
    refine List.ext_getElem (by rw [h2.1, endsA_len]) fun i hi hi' => ?_
    have hil : i < l.length := by omega
    have e1 := h2.2.2 i hil
    have e2 := fold_rel l o (List.replicate l.length 0, 0) (List.replicate l.length 0, 0) (fun _ => False) (by simp) (by simp) rfl ho.2.2 (fun _ h => h.elim) i (.inr (ho.all hil))
    have e3 : (endsA l o).getD i 0 = (startsA l o).getD i 0 + (jb l i).Time := e2
    rw [← e1] at e3
    simpa [List.getD_eq_getElem?_getD, hi, hi'] using e3.symm
  rw [hfin] at h1
  exact bind_some_of h1

/-- What a job with an end adds to a value. -/
def addV (v : Int) (j : impl_Job) (e obj : Int) (first : Bool) : Int :=
  if obj = 1 then max v e else if obj = 2 then v + e else if obj = 3 then v + j.Weight * e else if obj = 4 then (if first then e - j.Due else max v (e - j.Due))
  else if obj = 5 then v + max 0 (e - j.Due) else if obj = 6 then v + j.Weight * max 0 (e - j.Due) else if e - j.Due ≤ 0 then v else if obj = 7 then v + 1 else v + j.Weight

/-- The value of ends. -/
def valE (l : List impl_Job) (es : List Int) (obj : Int) : Int := (List.range l.length).foldl (fun v i => addV v (jb l i) (es.getD i 0) obj (decide (i = 0))) 0

/-- The value of an order. -/
def val (l : List impl_Job) (o : List Nat) (obj : Int) : Int := valE l (endsA l o) obj

theorem wmul_bd {w e : Int} (h1 : 0 ≤ w) (h2 : w ≤ 50) (h3 : 0 ≤ e) (h4 : e ≤ 1000) : 0 ≤ w * e ∧ w * e ≤ 50000 := by
  constructor
  · exact Int.mul_nonneg h1 h3
  · have := Int.mul_le_mul h2 h4 h3 (by omega); simpa using this

theorem addV_bd {v : Int} {j : impl_Job} (hj : jobOk j) {e obj : Int} {b : Bool} {i : Nat} (h0 : 0 ≤ e) (h1 : e ≤ 1000) (hv1 : -1000 ≤ v) (hv2 : v ≤ 1000 + 50000 * (i : Int)) : -1000 ≤ addV v j e obj b ∧ addV v j e obj b ≤ 1000 + 50000 * ((i + 1 : Nat) : Int) := by
  unfold jobOk at hj
  have m1 := wmul_bd (w := j.Weight) (e := e) (by omega) (by omega) h0 h1
  have hm : 0 ≤ max 0 (e - j.Due) ∧ max 0 (e - j.Due) ≤ 1000 := by rw [Int.max_def]; split <;> omega
  have m2 := wmul_bd (w := j.Weight) (e := max 0 (e - j.Due)) (by omega) (by omega) hm.1 hm.2
  have a1 : max v e ≤ 1000 + 50000 * (i : Int) ∧ -1000 ≤ max v e := by rw [Int.max_def]; split <;> omega
  have a2 : max v (e - j.Due) ≤ 1000 + 50000 * (i : Int) ∧ -1000 ≤ max v (e - j.Due) := by rw [Int.max_def]; split <;> omega
  unfold addV
  repeat' split
  all_goals omega

theorem add_eq {v : Int} {j : impl_Job} (hj : jobOk j) {e obj : Int} {b : Bool} (h0 : 0 ≤ e) (h1 : e ≤ 1000) (hv1 : -1000 ≤ v) (hv2 : v ≤ 1000000000) : x_impl_add v j e obj b = some (addV v j e obj b) := by
  have hj' := hj
  unfold jobOk at hj'
  have m1 := wmul_bd (w := j.Weight) (e := e) (by omega) (by omega) h0 h1
  have hm : 0 ≤ max 0 (e - j.Due) ∧ max 0 (e - j.Due) ≤ 1000 := by rw [Int.max_def]; split <;> omega
  have m2 := wmul_bd (w := j.Weight) (e := max 0 (e - j.Due)) (by omega) (by omega) hm.1 hm.2
  have e1 : subK .i64 e j.Due = e - j.Due := sub_i (by omega) (by omega)
  have e2 : mulK .i64 j.Weight e = j.Weight * e := mul_i (by omega) (by omega)
  have e3 : mulK .i64 j.Weight (max 0 (e - j.Due)) = j.Weight * max 0 (e - j.Due) := mul_i (by omega) (by omega)
  have e4 : addK .i64 v e = v + e := add_i (by omega) (by omega)
  have e5 : addK .i64 v (j.Weight * e) = v + j.Weight * e := add_i (by omega) (by omega)
  have e6 : addK .i64 v (max 0 (e - j.Due)) = v + max 0 (e - j.Due) := add_i (by omega) (by omega)
  have e7 : addK .i64 v (j.Weight * max 0 (e - j.Due)) = v + j.Weight * max 0 (e - j.Due) := add_i (by omega) (by omega)
  have e8 : addK .i64 v 1 = v + 1 := add_i (by omega) (by omega)
  have e9 : addK .i64 v j.Weight = v + j.Weight := add_i (by omega) (by omega)
  unfold x_impl_add addV
  simp only [e1, e2, mx_eq, e3, e4, e5, e6, e7, e8, e9]
  repeat' split
  all_goals rfl

theorem valueOfEnds_eq {l : List impl_Job} (hg : good l) {es : List Int} (hel : es.length = l.length) (heb : ∀ x ∈ es, 0 ≤ x ∧ x ≤ 1000) (obj : Int) : x_impl_valueOfEnds l es obj = some (valE l es obj) := by
  have hn := hg.1
  unfold x_impl_valueOfEnds
  have key := loop_fold (b := x_impl_valueOfEnds_l0 es obj l (l.length : Int)) (fun (s : Int) i => (s, (i : Int))) (fun v i => addV v (jb l i) (es.getD i 0) obj (decide (i = 0))) (fun s => s) (List.range l.length)
    (fun i v => -1000 ≤ v ∧ v ≤ 1000 + 50000 * (i : Int)) (by
    rintro i hi v ⟨h1, h2⟩
    simp only [List.length_range] at hi
    simp only [List.getElem_range]
    have hx := heb (es[i]'(by omega)) (List.getElem_mem _)
    have hd : es.getD i 0 = es[i]'(by omega) := by simp [List.getD_eq_getElem?_getD, show i < es.length by omega]
    have hb := addV_bd (obj := obj) (b := decide (i = 0)) (jb_ok hg hi) hx.1 hx.2 h1 h2
    refine ⟨?_, by rw [hd]; exact hb⟩
    unfold x_impl_valueOfEnds_l0
    simp only
    have hdec : decide ((i : Int) = 0) = decide (i = 0) := by simp
    rw [if_pos (by omega), bind_some_of (jb_ix hi), bind_some_of (ix_lt (by omega)), hdec, bind_some_of (add_eq (jb_ok hg hi) hx.1 hx.2 h1 (by omega)), inc_i (by omega), hd]) (by
    rintro v _
    unfold x_impl_valueOfEnds_l0
    simp only [List.length_range]
    rw [if_neg (by omega)]) (by simp; omega) 0 ⟨by omega, by omega⟩
  exact bind_some_of key.1

theorem fold_bd {l : List impl_Job} (hg : good l) : ∀ (o : List Nat) (s : List Int × Int) (k : Nat), (∀ i ∈ o, i < l.length) → 0 ≤ s.2 → s.2 ≤ 500 + 50 * (k : Int) → (∀ x ∈ s.1, 0 ≤ x ∧ x ≤ 500 + 50 * (k : Int)) → ∀ x ∈ (o.foldl (stpE l) s).1, 0 ≤ x ∧ x ≤ 500 + 50 * ((k + o.length : Nat) : Int) := by
  intro o
  induction o with
  | nil => intro s k _ _ _ h; simpa using h
  | cons i o ih =>
    intro s k ho h0 h1 hx
    have hb := nextT_bd hg (ho i (by simp)) h0 h1
    rw [List.foldl_cons]
    have := ih (stpE l s i) (k + 1) (fun a ha => ho a (by simp [ha])) (by show 0 ≤ nextT l s.2 i; omega) (by show nextT l s.2 i ≤ _; omega) (fun x hx' => by
      rcases List.mem_or_eq_of_mem_set hx' with h | rfl
      · have := hx x h; omega
      · omega)
    intro x hx'
    have := this x hx'
    simp only [List.length_cons]
    omega

theorem endsA_bd {l : List impl_Job} (hg : good l) {o : List Nat} (ho : ∀ i ∈ o, i < l.length) (hol : o.length ≤ 10) : ∀ x ∈ endsA l o, 0 ≤ x ∧ x ≤ 1000 := by
  intro x hx
  have := fold_bd hg o (List.replicate l.length 0, 0) 0 ho (Int.le_refl 0) (by show (0 : Int) ≤ _; omega) (fun x hx => by have := List.eq_of_mem_replicate hx; omega) x hx
  omega

theorem valueOf_eq {l : List impl_Job} (hg : good l) {o : List Nat} (ho : IsOrd l.length o) (obj : Int) : x_impl_valueOf l (ic o) obj = some (val l o obj) := by
  have hn := hg.1
  have hol : o.length ≤ 10 := by have := ho.1; omega
  unfold x_impl_valueOf
  rw [bind_some_of (endsOf_eq hg ho.2.2 (by omega)), bind_some_of (valueOfEnds_eq hg (endsA_len _ _) (endsA_bd hg ho.2.2 hol) obj)]
  rfl

theorem l2Cost_eq {j : impl_Job} (hj : jobOk j) {e : Int} (h0 : 0 ≤ e) (h1 : e ≤ 1000) {obj : Int} (ho1 : obj ≠ 1) (ho4 : obj ≠ 4) (v : Int) (b : Bool) : x_spec_l2Cost j e obj = some (addV v j e obj b - v) := by
  have hj' := hj
  unfold jobOk at hj'
  have m1 := wmul_bd (w := j.Weight) (e := e) (by omega) (by omega) h0 h1
  have hm : 0 ≤ max 0 (e - j.Due) ∧ max 0 (e - j.Due) ≤ 1000 := by rw [Int.max_def]; split <;> omega
  have m2 := wmul_bd (w := j.Weight) (e := max 0 (e - j.Due)) (by omega) (by omega) hm.1 hm.2
  have e1 : subK .i64 e j.Due = e - j.Due := sub_i (by omega) (by omega)
  have e2 : mulK .i64 j.Weight e = j.Weight * e := mul_i (by omega) (by omega)
  have hc : max (e - j.Due) 0 = max 0 (e - j.Due) := Int.max_comm _ _
  have e3 : mulK .i64 j.Weight (max 0 (e - j.Due)) = j.Weight * max 0 (e - j.Due) := mul_i (by omega) (by omega)
  have hz : max 0 (e - j.Due) = 0 ↔ e - j.Due ≤ 0 := by rw [Int.max_def]; split <;> omega
  unfold x_spec_l2Cost addV
  rw [e1, bind_some_of (l1Most_eq _ _), hc, e2, e3]
  simp only [if_neg ho1, if_neg ho4, hz]
  repeat' split
  all_goals (congr 1; omega)

theorem l2Of_eq {l : List impl_Job} (hg : good l) {es : List Int} (hel : es.length = l.length) (heb : ∀ x ∈ es, 0 ≤ x ∧ x ≤ 1000) (obj : Int) : x_spec_l2Of l es obj = some (valE l es obj) := by
  have hn := hg.1
  unfold x_spec_l2Of
  have key := loop_fold (b := x_spec_l2Of_l0 l es obj) (fun (s : Int) i => (s, (i : Int))) (fun v i => addV v (jb l i) (es.getD i 0) obj (decide (i = 0))) (fun s => s) (List.range l.length)
    (fun i v => -1000 ≤ v ∧ v ≤ 1000 + 50000 * (i : Int) ∧ (i = 0 → v = 0)) (by
    rintro i hi v ⟨h1, h2, h3⟩
    simp only [List.length_range] at hi
    simp only [List.getElem_range]
    have hx := heb (es[i]'(by omega)) (List.getElem_mem _)
    have hd : es.getD i 0 = es[i]'(by omega) := by simp [List.getD_eq_getElem?_getD, show i < es.length by omega]
    have hj := jb_ok hg hi
    have hb := addV_bd (obj := obj) (b := decide (i = 0)) hj hx.1 hx.2 h1 h2
    rw [hd]
    refine ⟨?_, hb.1, hb.2, fun h => absurd h (by omega)⟩
    have hj' := hj
    unfold jobOk at hj'
    have e1 : subK .i64 (es[i]'(by omega)) (jb l i).Due = es[i]'(by omega) - (jb l i).Due := sub_i (by omega) (by omega)
    unfold x_spec_l2Of_l0 x_spec_l2Greatest
    simp only
    rw [if_pos (by omega), inc_i (by omega)]
    by_cases k1 : obj = 1
    · subst k1
      simp only [if_true, Option.bind_some, ix_lt (show i < es.length by omega), show ¬ (1 : Int) = 4 by omega, if_false, addV]
      by_cases hi0 : i = 0
      · subst hi0
        have := h3 rfl
        subst this
        have : max (0 : Int) es[0] = es[0] := by rw [Int.max_def]; split <;> omega
        simp [this]
      · rw [if_neg (by omega)]
        rw [Int.max_def]
        by_cases hlt : v < es[i]
        · rw [if_pos hlt, if_pos (by omega)]
        · rw [if_neg hlt]
          by_cases hle : v ≤ es[i]
          · rw [if_pos hle, show v = es[i] by omega]
          · rw [if_neg hle]
    · by_cases k4 : obj = 4
      · subst k4
        simp only [if_neg k1, decide_true, if_true, Option.bind_some, ix_lt (show i < es.length by omega), jb_ix hi, addV, e1, show ¬ (4 : Int) = 2 by omega, show ¬ (4 : Int) = 3 by omega, if_false]
        by_cases hi0 : i = 0
        · subst hi0; simp
        · rw [if_neg (by omega), Int.max_def]
          have hz : ¬ (decide (i = 0) = true) := by simpa using hi0
          rw [if_neg hz]
          by_cases hlt : v < es[i] - (jb l i).Due
          · rw [if_pos hlt, if_pos (by omega)]
          · rw [if_neg hlt]
            by_cases hle : v ≤ es[i] - (jb l i).Due
            · rw [if_pos hle, show v = es[i] - (jb l i).Due by omega]
            · rw [if_neg hle]
      · rw [if_neg k1]
        simp only [Option.bind_some, decide_eq_true_eq]
        rw [if_neg k4, bind_some_of (jb_ix hi), bind_some_of (ix_lt (by omega)), bind_some_of (l2Cost_eq hj hx.1 hx.2 k1 k4 v (decide (i = 0)))]
        rw [add_i (by omega) (by omega)]
        congr 3
        omega) (by
    rintro v _
    unfold x_spec_l2Of_l0
    simp only [List.length_range]
    rw [if_neg (by omega)]) (by simp; omega) 0 ⟨by omega, by omega, fun _ => rfl⟩
  exact bind_some_of key.1

theorem l2Value_eq {l : List impl_Job} (hg : good l) {o : List Nat} (ho : IsOrd l.length o) (obj : Int) : x_spec_l2Value l (ic o) obj = some (val l o obj) := by
  have hn := hg.1
  have hol : o.length ≤ 10 := by have := ho.1; omega
  unfold x_spec_l2Value
  rw [bind_some_of (l2Ends_eq hg ho), bind_some_of (l2Of_eq hg (endsA_len _ _) (endsA_bd hg ho.2.2 hol) obj)]
  rfl
end Gh
