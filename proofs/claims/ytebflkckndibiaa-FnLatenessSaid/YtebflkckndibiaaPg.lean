/- Plain laws: due order has the least greatest lateness; the law of lateness. -/
import Derived.Test.YtebflkckndibiaaPf
namespace Gh
open Go
set_option linter.unusedSimpArgs false
set_option linter.unusedVariables false
set_option maxRecDepth 100000

/-- A job's lateness in an order. -/
def lateA (l : List impl_Job) (o : List Nat) (i : Nat) : Int := (endsA l o).getD i 0 - (jb l i).Due

theorem fold_late (l : List impl_Job) (es : List Int) : ∀ m, 0 < m → (∀ i, i < m → es.getD i 0 - (jb l i).Due ≤ (List.range m).foldl (fun v i => addV v (jb l i) (es.getD i 0) 4 (decide (i = 0))) 0) ∧
    ∃ i, i < m ∧ (List.range m).foldl (fun v i => addV v (jb l i) (es.getD i 0) 4 (decide (i = 0))) 0 = es.getD i 0 - (jb l i).Due
  | 0, h => absurd h (by omega)
  | m + 1, _ => by
    rw [List.range_succ, List.foldl_append]
    simp only [List.foldl_cons, List.foldl_nil]
    by_cases hm : m = 0
    · subst hm
      have : addV ((List.range 0).foldl (fun v i => addV v (jb l i) (es.getD i 0) 4 (decide (i = 0))) 0) (jb l 0) (es.getD 0 0) 4 (decide (0 = 0)) = es.getD 0 0 - (jb l 0).Due := by simp [addV]
      rw [this]
      exact ⟨fun i hi => by rw [show i = 0 by omega]; exact Int.le_refl _, 0, by omega, rfl⟩
    · obtain ⟨h1, k, hk, h2⟩ := fold_late l es m (by omega)
      have hs : ∀ v, addV v (jb l m) (es.getD m 0) 4 (decide (m = 0)) = max v (es.getD m 0 - (jb l m).Due) := fun v => by simp [addV, hm]
      rw [hs]
      refine ⟨fun i hi => ?_, ?_⟩
      · by_cases e : i = m
        · subst e; exact Int.le_max_right _ _
        · exact Int.le_trans (h1 i (by omega)) (Int.le_max_left _ _)
      · rw [Int.max_def]
        split
        · exact ⟨m, by omega, rfl⟩
        · exact ⟨k, by omega, h2⟩

theorem val_late (l : List impl_Job) (o : List Nat) (hn : 0 < l.length) : (∀ i, i < l.length → lateA l o i ≤ val l o 4) ∧ ∃ i, i < l.length ∧ val l o 4 = lateA l o i := fold_late l (endsA l o) l.length hn
theorem val_nil {l : List impl_Job} (o : List Nat) (obj : Int) (h : l.length = 0) : val l o obj = 0 := by
  unfold val valE
  rw [h]
  rfl

/-- The sum of the times of some jobs. -/
def tsum (l : List impl_Job) (p : List Nat) : Int := (p.map fun i => (jb l i).Time).sum

theorem tsum_app (l : List impl_Job) (p q : List Nat) : tsum l (p ++ q) = tsum l p + tsum l q := by simp [tsum]
theorem tsum_cons (l : List impl_Job) (a : Nat) (p : List Nat) : tsum l (a :: p) = (jb l a).Time + tsum l p := by simp [tsum]
theorem tsum_nonneg {l : List impl_Job} : ∀ {p : List Nat}, (∀ i ∈ p, 0 ≤ (jb l i).Time) → 0 ≤ tsum l p
  | [], _ => by simp [tsum]
  | a :: p, h => by
    rw [tsum_cons]
    have h1 := h a (by simp)
    have h2 := tsum_nonneg (l := l) (p := p) fun i hi => h i (by simp [hi])
    omega
theorem tsum_perm {l : List impl_Job} {p q : List Nat} (h : p.Perm q) : tsum l p = tsum l q := by
  induction h with
  | nil => rfl
  | cons a _ ih => rw [tsum_cons, tsum_cons, ih]
  | swap a b p => simp only [tsum_cons]; omega
  | trans _ _ h1 h2 => rw [h1, h2]

theorem tsum_sub {l : List impl_Job} : ∀ (p q : List Nat), p.Nodup → (∀ i ∈ p, i ∈ q) → (∀ i ∈ q, 0 ≤ (jb l i).Time) → tsum l p ≤ tsum l q
  | [], q, _, _, h => tsum_nonneg h
  | a :: p, q, hn, hs, h => by
    rw [List.nodup_cons] at hn
    have ha : a ∈ q := hs a (by simp)
    rw [tsum_perm (List.perm_cons_erase ha), tsum_cons, tsum_cons]
    have := tsum_sub p (q.erase a) hn.2 (fun i hi => (List.mem_erase_of_ne (fun (e : i = a) => hn.1 (e ▸ hi))).2 (hs i (by simp [hi]))) (fun i hi => h i (List.mem_of_mem_erase hi))
    omega

theorem endT_plain {l : List impl_Job} : ∀ {p : List Nat}, (∀ i ∈ p, (jb l i).Release = 0 ∧ 0 ≤ (jb l i).Time) → ∀ t, 0 ≤ t → p.foldl (nextT l) t = t + tsum l p
  | [], _, t, _ => by simp [tsum]
  | a :: p, h, t, ht => by
    obtain ⟨h1, h2⟩ := h a (by simp)
    have hx : nextT l t a = t + (jb l a).Time := by unfold nextT; rw [h1, Int.max_def]; split <;> omega
    rw [List.foldl_cons, hx, endT_plain (fun i hi => h i (by simp [hi])) _ (by omega), tsum_cons]
    omega

theorem plain_jb {l : List impl_Job} (h : plain l) {i : Nat} (hi : i < l.length) : (jb l i).Release = 0 ∧ 0 ≤ (jb l i).Time := by
  have h1 := jb_ok h.1 hi
  unfold jobOk at h1
  refine ⟨?_, by omega⟩
  rw [jb_lt hi]
  exact h.2 _ (List.getElem_mem hi)

/-- Jobs without releases and of no negative time, whatever their dates. -/
def Free (l : List impl_Job) : Prop := ∀ i, i < l.length → (jb l i).Release = 0 ∧ 0 ≤ (jb l i).Time

theorem late_at {l : List impl_Job} (h : Free l) {o p q : List Nat} {k : Nat} (ho : IsOrd l.length o) (e : o = p ++ k :: q) : lateA l o k = tsum l (p ++ [k]) - (jb l k).Due := by
  subst e
  have hk : k < l.length := ho.2.2 k (by simp)
  have hq : k ∉ q := by
    have := (List.nodup_append.1 ho.2.1).2.1
    rw [List.nodup_cons] at this
    exact this.1
  unfold lateA
  rw [List.getD_eq_getElem?_getD, endsA_at hk hq, Option.getD_some, endT, endT_plain (fun i hi => h i (ho.2.2 i (by
    rcases List.mem_append.1 hi with h | h
    · simp [h]
    · have : i = k := by simpa using h
      simp [this]))) 0 (Int.le_refl 0)]
  omega

/-- The last element of a list that has a property. -/
theorem last_split {P : Nat → Prop} : ∀ {o : List Nat}, (∃ i ∈ o, P i) → ∃ p k q, o = p ++ k :: q ∧ P k ∧ ∀ i ∈ q, ¬ P i
  | [], h => by obtain ⟨i, hi, _⟩ := h; cases hi
  | a :: o, h => by
    by_cases hx : ∃ i ∈ o, P i
    · obtain ⟨p, k, q, e, h1, h2⟩ := last_split hx
      exact ⟨a :: p, k, q, by rw [e]; rfl, h1, h2⟩
    · obtain ⟨i, hi, hp⟩ := h
      rcases List.mem_cons.1 hi with rfl | hi
      · exact ⟨[], i, o, rfl, hp, fun k hk hpk => hx ⟨k, hk, hpk⟩⟩
      · exact absurd ⟨i, hi, hp⟩ hx

/-- Due order has the least greatest lateness. -/
theorem edd {l : List impl_Job} (h : Free l) {r : List Nat} (hr : IsOrd l.length r) (hs : r.Pairwise fun a b => (jb l a).Due ≤ (jb l b).Due) {o : List Nat} (ho : IsOrd l.length o) : val l r 4 ≤ val l o 4 := by
  by_cases hn : l.length = 0
  · rw [val_nil r 4 hn, val_nil o 4 hn]; exact Int.le_refl _
  · obtain ⟨_, c, hc, e⟩ := val_late l r (by omega)
    obtain ⟨p, q, er⟩ := List.append_of_mem (hr.all hc)
    rw [e, late_at h hr er]
    obtain ⟨a, k, b, eo, hk, hb⟩ := last_split (P := fun i => i ∈ p ++ [c]) (o := o) ⟨c, ho.all hc, by simp⟩
    have hkl : k < l.length := ho.2.2 k (by rw [eo]; simp)
    have h1 := (val_late l o (by omega)).1 k hkl
    rw [late_at h ho eo] at h1
    have hnd : (p ++ [c]).Nodup := by
      have := hr.2.1
      rw [er, show p ++ c :: q = (p ++ [c]) ++ q by simp] at this
      exact (List.nodup_append.1 this).1
    have h2 : tsum l (p ++ [c]) ≤ tsum l (a ++ [k]) := tsum_sub _ _ hnd (fun i hi => by
      have hil : i < l.length := hr.2.2 i (by
        rw [er]
        rcases List.mem_append.1 hi with x | x
        · simp [x]
        · have : i = c := by simpa using x
          simp [this])
      have hio := ho.all hil
      rw [eo] at hio
      rcases List.mem_append.1 hio with x | x
      · simp [x]
      · rcases List.mem_cons.1 x with x | x
        · simp [x]
        · exact absurd hi (hb i x)) (fun i hi => (h i (ho.2.2 i (by
          rw [eo]
          rcases List.mem_append.1 hi with x | x
          · simp [x]
          · have : i = k := by simpa using x
            simp [this]))).2)
    have h3 : (jb l k).Due ≤ (jb l c).Due := by
      rcases List.mem_append.1 hk with x | x
      · rw [er] at hs
        exact (List.pairwise_append.1 hs).2.2 k x c (by simp)
      · have : k = c := by simpa using x
        rw [this]; exact Int.le_refl _
    omega

/-- All jobs of an order are timely. -/
def timely (l : List impl_Job) (r : List Nat) : Prop := ∀ p k q, r = p ++ k :: q → tsum l (p ++ [k]) ≤ (jb l k).Due

theorem timely_late {l : List impl_Job} (h : Free l) {r : List Nat} (hr : IsOrd l.length r) (hn : 0 < l.length) : timely l r ↔ val l r 4 ≤ 0 := by
  obtain ⟨h1, c, hc, e⟩ := val_late l r hn
  constructor
  · intro ht
    obtain ⟨p, q, er⟩ := List.append_of_mem (hr.all hc)
    rw [e, late_at h hr er]
    have := ht p c q er
    omega
  · intro hv p k q er
    have hk : k < l.length := hr.2.2 k (by rw [er]; simp)
    have h2 := h1 k hk
    rw [late_at h hr er] at h2
    omega

/-- A loop that adds times and looks at dates. -/
theorem timely_loop {l : List impl_Job} {r : List Nat} (hb : ∀ i ∈ r, i < l.length) (ht : ∀ i, i < l.length → 0 ≤ (jb l i).Time ∧ (jb l i).Time ≤ 50) (hl : r.length < 900000)
    {b : Int × Int → Option (Ctl (Int × Int) (Unit ⊕ Bool))} (hs : ∀ (t : Int) (i : Nat) (h : i < r.length), b (t, (i : Int)) = if (jb l r[i]).Due < addK .i64 t (jb l r[i]).Time then some (.done (.inr false)) else some (.next (addK .i64 t (jb l r[i]).Time, addK .i64 (i : Int) 1)))
    (hd : ∀ t, b (t, (r.length : Int)) = some (.done (.inl ()))) : ∃ p, loopS b LL (0, 0) = some p ∧ ((p = .inl () ∧ timely l r) ∨ (p = .inr false ∧ ¬ timely l r)) := by
  have hbound : ∀ i, i ≤ r.length → 0 ≤ tsum l (r.take i) ∧ tsum l (r.take i) ≤ 50 * (i : Int) := by
    intro i
    induction i with
    | zero => intro _; simp [tsum]
    | succ i ih =>
      intro hi
      have h1 := ih (by omega)
      have h2 := ht _ (hb _ (List.getElem_mem (show i < r.length by omega)))
      have e : tsum l (r.take (i + 1)) = tsum l (r.take i) + (jb l (r[i]'(by omega))).Time := by
        rw [List.take_add_one, List.getElem?_eq_getElem (by omega), tsum_app]
        simp [tsum]
      rw [e]
      omega
  have hnext : ∀ i (hi : i < r.length), tsum l (r.take (i + 1)) = tsum l (r.take i) + (jb l r[i]).Time := fun i hi => by
    rw [List.take_add_one, List.getElem?_eq_getElem hi, tsum_app]
    simp [tsum]
  refine loopS_inv (fun i (s : Int × Int) => s = (tsum l (r.take i), (i : Int)) ∧ ∀ k, (hk : k < r.length) → k < i → tsum l (r.take (k + 1)) ≤ (jb l r[k]).Due) _ r.length ?_ ?_ (LL_lt (by omega)) (0, 0) ⟨by simp [tsum], fun k _ h => absurd h (Nat.not_lt_zero _)⟩
  · rintro i s hi ⟨rfl, hp⟩
    have b1 := hbound i (by omega)
    have b2 := ht _ (hb _ (List.getElem_mem hi))
    have e1 : addK .i64 (tsum l (r.take i)) (jb l r[i]).Time = tsum l (r.take (i + 1)) := by rw [add_i (by omega) (by omega), hnext i hi]
    have e2 : addK .i64 (i : Int) 1 = ((i + 1 : Nat) : Int) := inc_i (by omega)
    rw [hs _ _ hi, e1, e2]
    by_cases k1 : (jb l r[i]).Due < tsum l (r.take (i + 1))
    · refine .inr ⟨_, if_pos k1, .inr ⟨rfl, fun h => ?_⟩⟩
      have h3 := h (r.take i) r[i] (r.drop (i + 1)) (by rw [List.getElem_cons_drop, List.take_append_drop])
      have h4 : r.take i ++ [r[i]] = r.take (i + 1) := by rw [List.take_add_one, List.getElem?_eq_getElem hi]; rfl
      rw [h4] at h3
      omega
    · refine .inl ⟨_, if_neg k1, rfl, fun k hk hki => ?_⟩
      by_cases e : k = i
      · subst e; omega
      · exact hp k hk (by omega)
  · rintro s ⟨rfl, hp⟩
    refine ⟨_, hd _, .inl ⟨rfl, fun p k q e => ?_⟩⟩
    have hlen : p.length < r.length := by rw [e]; simp
    have h3 := hp p.length hlen hlen
    have h4 : r.take (p.length + 1) = p ++ [k] := by rw [e, show p ++ k :: q = (p ++ [k]) ++ q by simp, List.take_left' (by simp)]
    have h5 : r[p.length] = k := by simp only [e]; rw [List.getElem_append_right (Nat.le_refl _)]; simp
    rw [h4, h5] at h3
    exact h3

theorem onTime_eq {l : List impl_Job} {p : List Nat} (hp : p.Pairwise (· < ·)) (hb : ∀ i ∈ p, i < l.length) (hpl : p.length < 400000) (ht : ∀ i, i < l.length → 0 ≤ (jb l i).Time ∧ (jb l i).Time ≤ 50) :
    ∃ r b, r.Perm p ∧ r.Pairwise (fun a b => (jb l a).Due ≤ (jb l b).Due) ∧ x_impl_onTime l (ic p) = some b ∧ (b = true ↔ timely l r) := by
  obtain ⟨r', e1, h1, h2⟩ := sortedBy_spec (list := ic p) (less := x_impl_onTime_c1 l) (lt := fun x y => decide ((jb l x.toNat).Due < (jb l y.toNat).Due)) (fun x hx y hy => by
    obtain ⟨i, hi, rfl⟩ := ic_mem.1 hx
    obtain ⟨k, hk, rfl⟩ := ic_mem.1 hy
    unfold x_impl_onTime_c1
    rw [bind_some_of (jb_ix (hb i hi)), bind_some_of (jb_ix (hb k hk))]
    simp only [Int.toNat_natCast]) (by rw [ic_len]; omega) (fun x y => (jb l x.toNat).Due ≤ (jb l y.toNat).Due) (fun a b c => Int.le_trans) (by
    unfold ic
    rw [List.pairwise_map]
    refine hp.imp fun {y x} _ => ⟨fun h => Int.le_of_lt (of_decide_eq_true h), fun h => Int.not_lt.1 (of_decide_eq_false h)⟩)
  obtain ⟨r, rfl, hr⟩ := ic_perm h1
  have hrb : ∀ i ∈ r, i < l.length := fun i hi => hb i (hr.mem_iff.1 hi)
  have hrl : r.length < 900000 := by rw [hr.length_eq]; omega
  obtain ⟨q, e2, h3⟩ := timely_loop (l := l) (r := r) hrb ht hrl (b := x_impl_onTime_l0 l (ic r) ((ic r).length : Int)) (fun t i hi => by
    unfold x_impl_onTime_l0
    simp only
    rw [if_pos (by rw [ic_len]; omega), bind_some_of (ic_get hi), bind_some_of (jb_ix (hrb _ (List.getElem_mem hi)))]) (fun t => by
    unfold x_impl_onTime_l0
    simp only
    rw [if_neg (by rw [ic_len]; omega)])
  have hpw : r.Pairwise (fun a b => (jb l a).Due ≤ (jb l b).Due) := (ic_pairwise h2).imp fun h => by simpa using h
  unfold x_impl_onTime
  rw [bind_some_of e1, bind_some_of e2]
  rcases h3 with ⟨rfl, h3⟩ | ⟨rfl, h3⟩
  · exact ⟨r, true, hr, hpw, rfl, by simp [h3]⟩
  · exact ⟨r, false, hr, hpw, rfl, by simp [h3]⟩

theorem l6Timely_eq {l : List impl_Job} {p : List Nat} (hp : p.Nodup) (hb : ∀ i ∈ p, i < l.length) (hpl : p.length < 400000) (ht : ∀ i, i < l.length → 0 ≤ (jb l i).Time ∧ (jb l i).Time ≤ 50) :
    ∃ r b, r.Perm p ∧ r.Pairwise (soon l) ∧ x_spec_l6Timely l (ic p) = some b ∧ (b = true ↔ timely l r) := by
  obtain ⟨r, e1, hr, h2⟩ := l6Due_eq hp hb hpl
  have hrb : ∀ i ∈ r, i < l.length := fun i hi => hb i (hr.mem_iff.1 hi)
  have hrl : r.length < 900000 := by rw [hr.length_eq]; omega
  obtain ⟨q, e2, h3⟩ := timely_loop (l := l) (r := r) hrb ht hrl (b := x_spec_l6Timely_l0 l (ic r)) (fun t i hi => by
    unfold x_spec_l6Timely_l0
    simp only
    rw [if_pos (by rw [ic_len]; omega), bind_some_of (ic_get hi), bind_some_of (jb_ix (hrb _ (List.getElem_mem hi)))]) (fun t => by
    unfold x_spec_l6Timely_l0
    simp only
    rw [if_neg (by rw [ic_len]; omega)])
  unfold x_spec_l6Timely
  rw [bind_some_of e1, bind_some_of e2]
  rcases h3 with ⟨rfl, h3⟩ | ⟨rfl, h3⟩
  · exact ⟨r, true, hr, h2, rfl, by simp [h3]⟩
  · exact ⟨r, false, hr, h2, rfl, by simp [h3]⟩

/-- Jobs with later dates. -/
def later (f : impl_Job → impl_Job) (l : List impl_Job) : List impl_Job := l.map f

theorem impl_later {l : List impl_Job} (hg : good l) {delay : Int} (h0 : 0 ≤ delay) (h1 : delay ≤ 400) :
    loopS (x_impl_TimelyAfter_l0 l delay (l.length : Int)) LL (l, 0) = some (l.map fun j => ⟨j.Time, j.Weight, j.Release, j.Due + delay⟩) := by
  have hn := hg.1
  have key := loop_fold (b := x_impl_TimelyAfter_l0 l delay (l.length : Int)) (fun (s : List impl_Job) i => (s, (i : Int))) (fun s (i : Nat) => s.set i ⟨(jb l i).Time, (jb l i).Weight, (jb l i).Release, (jb l i).Due + delay⟩) (fun s => s) (List.range l.length)
    (fun i s => s = (l.take i).map (fun j => ⟨j.Time, j.Weight, j.Release, j.Due + delay⟩) ++ l.drop i) (by
    rintro i hi s rfl
    simp only [List.length_range] at hi
    simp only [List.getElem_range]
    have hj := jb_ok hg hi
    unfold jobOk at hj
    have hlen : ((l.take i).map (fun j => impl_Job.mk j.Time j.Weight j.Release (j.Due + delay))).length = i := by rw [List.length_map, List.length_take]; omega
    have hget : ix ((l.take i).map (fun j => impl_Job.mk j.Time j.Weight j.Release (j.Due + delay)) ++ l.drop i) (i : Int) = some (jb l i) := by
      rw [ix_cast, List.getElem?_append_right (by omega), hlen, Nat.sub_self, List.getElem?_drop, Nat.add_zero, List.getElem?_eq_getElem hi, jb_lt hi]
    have hput : put ((l.take i).map (fun j => impl_Job.mk j.Time j.Weight j.Release (j.Due + delay)) ++ l.drop i) (i : Int) ⟨(jb l i).Time, (jb l i).Weight, (jb l i).Release, addK .i64 (jb l i).Due delay⟩ = some (((l.take i).map (fun j => impl_Job.mk j.Time j.Weight j.Release (j.Due + delay)) ++ l.drop i).set i ⟨(jb l i).Time, (jb l i).Weight, (jb l i).Release, (jb l i).Due + delay⟩) := by
      rw [add_i (by omega) (by omega)]
      exact put_lt (by rw [List.length_append, hlen, List.length_drop]; omega) _
    refine ⟨?_, ?_⟩
    · unfold x_impl_TimelyAfter_l0
      simp only
      rw [if_pos (by omega), bind_some_of hget, bind_some_of hput, inc_i (by omega)]
    · rw [List.set_append_right _ _ (by omega), hlen, Nat.sub_self, ← List.getElem_cons_drop hi, List.set_cons_zero, List.take_add_one, List.getElem?_eq_getElem hi, List.map_append, List.append_assoc, jb_lt hi]
      rfl) (by
    rintro s _
    unfold x_impl_TimelyAfter_l0
    simp only [List.length_range]
    rw [if_neg (by omega)]) (by simp; omega) l (by simp)
  have h2 := key.2
  simp only [List.length_range] at h2
  rw [h2] at key
  have h3 := key.1
  rw [List.take_length, List.drop_length, List.append_nil] at h3
  exact h3

theorem spec_later {l : List impl_Job} (hg : good l) {delay : Int} (h0 : 0 ≤ delay) (h1 : delay ≤ 400) :
    loopS (x_spec_TimelyAfter_l0 l delay) LL ([], 0) = some (l.map fun j => ⟨j.Time, 0, 0, j.Due + delay⟩) := by
  have hn := hg.1
  have key := loop_fold (b := x_spec_TimelyAfter_l0 l delay) (fun (s : List impl_Job) i => (s, (i : Int))) (fun s (i : Nat) => s ++ [⟨(jb l i).Time, 0, 0, (jb l i).Due + delay⟩]) (fun s => s) (List.range l.length)
    (fun i s => s = (l.take i).map (fun j => ⟨j.Time, 0, 0, j.Due + delay⟩)) (by
    rintro i hi s rfl
    simp only [List.length_range] at hi
    simp only [List.getElem_range]
    have hj := jb_ok hg hi
    unfold jobOk at hj
    refine ⟨?_, ?_⟩
    · unfold x_spec_TimelyAfter_l0
      simp only
      rw [if_pos (by omega), bind_some_of (jb_ix hi), add_i (by omega) (by omega), bind_some_of (app_ok (by simp only [List.length_map, List.length_take, List.length_cons, List.length_nil]; omega) (by omega)), inc_i (by omega)]
    · rw [List.take_add_one, List.getElem?_eq_getElem hi, List.map_append, jb_lt hi]
      rfl) (by
    rintro s _
    unfold x_spec_TimelyAfter_l0
    simp only [List.length_range]
    rw [if_neg (by omega)]) (by simp; omega) [] (by simp)
  have h2 := key.2
  simp only [List.length_range] at h2
  rw [h2] at key
  have h3 := key.1
  rw [List.take_length] at h3
  exact h3

/-- Jobs whose dates have been moved. -/
theorem moved {l m : List impl_Job} (hl : m.length = l.length) {delay : Int} (hm : ∀ i, i < l.length → (jb m i).Time = (jb l i).Time ∧ (jb m i).Release = (jb l i).Release ∧ (jb m i).Due = (jb l i).Due + delay) (hf : Free l) (hn : 0 < l.length) {o : List Nat} (ho : IsOrd l.length o) :
    Free m ∧ val m o 4 = val l o 4 - delay := by
  have hfm : Free m := fun i hi => by
    have h1 := hm i (by omega)
    have h2 := hf i (by omega)
    rw [h1.1, h1.2.1]; exact h2
  refine ⟨hfm, ?_⟩
  have hom : IsOrd m.length o := by rw [hl]; exact ho
  have hts : ∀ p : List Nat, (∀ i ∈ p, i < l.length) → tsum m p = tsum l p := fun p hp => by
    unfold tsum
    exact congrArg List.sum (List.map_congr_left fun i hi => (hm i (hp i hi)).1)
  have hlate : ∀ i, i < l.length → lateA m o i = lateA l o i - delay := fun i hi => by
    obtain ⟨p, q, e⟩ := List.append_of_mem (ho.all hi)
    rw [late_at hfm hom e, late_at hf ho e, (hm i hi).2.2, hts _ (fun k hk => ho.2.2 k (by
      rw [e]
      rcases List.mem_append.1 hk with x | x
      · simp [x]
      · have : k = i := by simpa using x
        simp [this]))]
    omega
  obtain ⟨a1, c, hc, a2⟩ := val_late l o hn
  obtain ⟨b1, d, hd, b2⟩ := val_late m o (by omega)
  have e1 := b1 c (by omega)
  have e2 := a1 d (by omega)
  rw [hlate c hc] at e1
  rw [hlate d (by omega)] at b2
  omega

theorem free_of_plain {l : List impl_Job} (h : plain l) : Free l := fun i hi => plain_jb h hi

theorem jb_map {l : List impl_Job} {f : impl_Job → impl_Job} {i : Nat} (hi : i < l.length) : jb (l.map f) i = f (jb l i) := by
  rw [jb_lt (by simpa using hi), jb_lt hi, List.getElem_map]

theorem soon_due {l : List impl_Job} {r : List Nat} (h : r.Pairwise (soon l)) : r.Pairwise fun a b => (jb l a).Due ≤ (jb l b).Due := h.imp fun h => by unfold soon at h; omega

theorem edd_eq {l : List impl_Job} (h : Free l) {r s : List Nat} (hr : IsOrd l.length r) (hs : IsOrd l.length s) (h1 : r.Pairwise fun a b => (jb l a).Due ≤ (jb l b).Due) (h2 : s.Pairwise fun a b => (jb l a).Due ≤ (jb l b).Due) : val l r 4 = val l s 4 := by
  have := edd h hr h1 hs
  have := edd h hs h2 hr
  omega

/-- Both tell whether all jobs are timely after a delay, and that is so exactly from the least greatest lateness on. -/
theorem TimelyAfter_eq {l : List impl_Job} (hl : l.length < 400000) (delay : Int) : ∃ b ok, x_impl_TimelyAfter l delay = some (b, ok) ∧ x_spec_TimelyAfter l delay = some (b, ok) ∧
    (ok = true → plain l ∧ 0 ≤ delay) ∧ (ok = true → ∀ r, IsOrd l.length r → r.Pairwise (fun a b => (jb l a).Due ≤ (jb l b).Due) → (b = true ↔ val l r 4 ≤ delay)) := by
  unfold x_impl_TimelyAfter x_spec_TimelyAfter
  rw [bind_some_of (IsPlain_eq l (by omega)), bind_some_of (l6Good_eq l (by omega)), within_eq, l1In_eq]
  simp only [Option.bind_some, decide_eq_true_eq]
  by_cases hp : plain l
  · rw [if_pos hp, if_pos hp]
    by_cases hd : 0 ≤ delay ∧ delay ≤ 400
    · rw [if_pos hd, if_pos hd]
      have hn := hp.1.1
      have hf := free_of_plain hp
      rw [if_pos (fits_ok (by omega) (by omega)), bind_some_of (impl_later hp.1 hd.1 hd.2), bind_some_of (spec_later hp.1 hd.1 hd.2), bind_some_of (numbersTo_eq _ (by omega))]
      have hm1 : ∀ i, i < l.length → (jb (l.map fun j => impl_Job.mk j.Time j.Weight j.Release (j.Due + delay)) i).Time = (jb l i).Time ∧ (jb (l.map fun j => impl_Job.mk j.Time j.Weight j.Release (j.Due + delay)) i).Release = (jb l i).Release ∧ (jb (l.map fun j => impl_Job.mk j.Time j.Weight j.Release (j.Due + delay)) i).Due = (jb l i).Due + delay := fun i hi => by rw [jb_map hi]; exact ⟨rfl, rfl, rfl⟩
      have hm2 : ∀ i, i < l.length → (jb (l.map fun j => impl_Job.mk j.Time 0 0 (j.Due + delay)) i).Time = (jb l i).Time ∧ (jb (l.map fun j => impl_Job.mk j.Time 0 0 (j.Due + delay)) i).Release = (jb l i).Release ∧ (jb (l.map fun j => impl_Job.mk j.Time 0 0 (j.Due + delay)) i).Due = (jb l i).Due + delay := fun i hi => by rw [jb_map hi]; exact ⟨rfl, (hf i hi).1.symm, rfl⟩
      have htm : ∀ (m : List impl_Job), m.length = l.length → (∀ i, i < l.length → (jb m i).Time = (jb l i).Time) → ∀ i, i < m.length → 0 ≤ (jb m i).Time ∧ (jb m i).Time ≤ 50 := fun m hml h i hi => by
        have h1 := h i (by omega)
        have h2 := jb_ok hp.1 (show i < l.length by omega)
        unfold jobOk at h2
        omega
      obtain ⟨r1, b1, p1, s1, e1, t1⟩ := onTime_eq (l := l.map fun j => impl_Job.mk j.Time j.Weight j.Release (j.Due + delay)) (p := List.range l.length) (range_sorted _) (fun i hi => by simpa using hi) (by simp; omega) (htm _ (by simp) fun i hi => (hm1 i hi).1)
      obtain ⟨r2, b2, p2, s2, e2, t2⟩ := l6Timely_eq (l := l.map fun j => impl_Job.mk j.Time 0 0 (j.Due + delay)) (p := List.range l.length) List.nodup_range (fun i hi => by simpa using hi) (by simp; omega) (htm _ (by simp) fun i hi => (hm2 i hi).1)
      have hall : x_spec_l6All (l.map fun j => impl_Job.mk j.Time 0 0 (j.Due + delay)) = some (ic (List.range l.length)) := by rw [l6All_eq _ (by simp; omega), List.length_map]
      rw [bind_some_of e1, bind_some_of hall, bind_some_of e2]
      have o1 := IsOrd.of_perm p1
      have o2 := IsOrd.of_perm p2
      have d1 : r1.Pairwise fun a b => (jb l a).Due ≤ (jb l b).Due := List.Pairwise.imp_of_mem (fun {a b} ha hb h => by
        rw [(hm1 a (o1.2.2 a ha)).2.2, (hm1 b (o1.2.2 b hb)).2.2] at h; omega) s1
      have d2 : r2.Pairwise fun a b => (jb l a).Due ≤ (jb l b).Due := List.Pairwise.imp_of_mem (fun {a b} ha hb h => by
        have h := h
        rw [(hm2 a (o2.2.2 a ha)).2.2, (hm2 b (o2.2.2 b hb)).2.2] at h; omega) (soon_due s2)
      have hsame : b1 = b2 ∧ ∀ r, IsOrd l.length r → r.Pairwise (fun a b => (jb l a).Due ≤ (jb l b).Due) → (b1 = true ↔ val l r 4 ≤ delay) := by
        by_cases hz : l.length = 0
        · have q1 : r1 = [] := List.length_eq_zero_iff.1 (by rw [o1.1, hz])
          have q2 : r2 = [] := List.length_eq_zero_iff.1 (by rw [o2.1, hz])
          have n1 : ∀ m, timely m [] := fun m p k q e => by simp at e
          have c1 : b1 = true := t1.2 (by rw [q1]; exact n1 _)
          have c2 : b2 = true := t2.2 (by rw [q2]; exact n1 _)
          exact ⟨by rw [c1, c2], fun r _ _ => by rw [c1, val_nil r 4 hz]; simp [hd.1]⟩
        · obtain ⟨f1, v1⟩ := moved (m := l.map fun j => impl_Job.mk j.Time j.Weight j.Release (j.Due + delay)) (by simp) hm1 hf (by omega) o1
          obtain ⟨f2, v2⟩ := moved (m := l.map fun j => impl_Job.mk j.Time 0 0 (j.Due + delay)) (by simp) hm2 hf (by omega) o2
          have c1 := t1.trans (timely_late f1 (by simpa using o1) (by simp; omega))
          have c2 := t2.trans (timely_late f2 (by simpa using o2) (by simp; omega))
          rw [v1] at c1
          rw [v2] at c2
          have hv := edd_eq hf o1 o2 d1 d2
          refine ⟨?_, fun r hr hs => ?_⟩
          · rw [Bool.eq_iff_iff, c1, c2, hv]
          · rw [c1, edd_eq hf hr o1 hs d1]; omega
      obtain ⟨rfl, hb⟩ := hsame
      exact ⟨b1, true, rfl, rfl, fun _ => ⟨hp, hd.1⟩, fun _ => hb⟩
    · rw [if_neg hd, if_neg hd]; exact ⟨false, false, rfl, rfl, fun h => (by cases h), fun h => (by cases h)⟩
  · rw [if_neg hp, if_neg hp]; exact ⟨false, false, rfl, rfl, fun h => (by cases h), fun h => (by cases h)⟩

theorem isValued_ok {l : List impl_Job} (hg : good l) {o : List Nat} (ho : IsOrd l.length o) {obj : Int} (h1 : 1 ≤ obj) (h8 : obj ≤ 8) : x_impl_isValued l (ic o) obj = some true := by
  have hn := hg.1
  unfold x_impl_isValued x_impl_isScheduled x_impl_isObjective
  obtain ⟨b, e, hb⟩ := isOrder_eq l.length (by omega) (ic o) (by rw [ic_len, ho.1]; omega)
  have hbt : b = true := hb.2 ⟨o, rfl, ho⟩
  subst hbt
  simp only [IsJobs_eq, hg, decide_true, Option.bind_some, if_true, e, within_eq]
  simp [h1, h8]

theorem plainJobs_ok {m : Nat} {c : spec_l1Cur} (h : CK (m + 302) c) (most : Nat) (hm : most ≤ 9) : ∃ r c', x_spec_l1Cur_plainJobs c (most : Int) = some (r, c') ∧ CK m c' ∧ (r.length ≤ most ∨ r.length = 9) := by
  obtain ⟨b, c1, e1, h1⟩ := one_ok (m := m + 300) h 16
  obtain ⟨r, c2, e2, h2, h3⟩ := someJobs_ok (m := m) h1 b most hm
  exact ⟨r, c2, by unfold x_spec_l1Cur_plainJobs; rw [bind_some_of e1, bind_some_of e2], h2, h3⟩

theorem l6Latest_eq {l : List impl_Job} (hg : good l) : ∃ r, IsOrd l.length r ∧ r.Pairwise (soon l) ∧ x_spec_l6Latest l = some (val l r 4) := by
  have hn := hg.1
  obtain ⟨r, e, h1, h2⟩ := l6Due_eq (l := l) (p := List.range l.length) List.nodup_range (fun i hi => by simpa using hi) (by simp; omega)
  have ho := IsOrd.of_perm h1
  refine ⟨r, ho, h2, ?_⟩
  unfold x_spec_l6Latest
  rw [bind_some_of (l6All_eq l (by omega)), bind_some_of e, bind_some_of (l2Value_eq hg ho 4)]

theorem DrawTimelyAfter_ok {code : List Int} (hc : ∀ z ∈ code, 0 ≤ z ∧ z < 256) : ∃ l d, x_spec_DrawTimelyAfter code = some (l, d) ∧ (l.length ≤ 6 ∨ l.length = 9) := by
  have h0 : CK 400 ⟨code, 0, 0⟩ := ⟨hc, by show (0 : Int) ≤ 0; omega, by show (0 : Int) + _ < _; omega⟩
  obtain ⟨l, c1, e1, h1, hl⟩ := plainJobs_ok (m := 98) h0 6 (by omega)
  obtain ⟨d, c2, e2, h2, _⟩ := among_ok (m := 96) h1 [0, 1, 3, 9, 400, 401, (-1)] (by simp)
  unfold x_spec_DrawTimelyAfter
  have e1' : x_spec_l1Cur_plainJobs ⟨code, 0, 0⟩ 6 = some (l, c1) := e1
  rw [bind_some_of e1', bind_some_of e2, bind_some_of (l6Good_eq l (by omega))]
  simp only [decide_eq_true_eq]
  split
  · rename_i hp
    obtain ⟨b, c3, e3, h3⟩ := one_ok (m := 94) h2 2
    rw [bind_some_of e3]
    split
    · obtain ⟨r, _, _, e4⟩ := l6Latest_eq hp.1
      obtain ⟨x, c4, e5, h4, _⟩ := pick_ok (m := 92) h3 2
      obtain ⟨y, c5, e6, h5, _⟩ := pick_ok (m := 90) h4 2
      rw [bind_some_of e4, bind_some_of e5, bind_some_of e6]
      exact ⟨_, _, rfl, hl⟩
    · exact ⟨_, _, rfl, hl⟩
  · exact ⟨_, _, rfl, hl⟩

/-- The law. -/
theorem lateness_true {code : List Int} (hc : ∀ z ∈ code, 0 ≤ z ∧ z < 256) : x_laws_FnLateness code = some true := by
  unfold x_laws_FnLateness x_laws_rBig
  rw [Option.bind_some]
  by_cases hbig : decide (65536 < (code.length : Int)) = true
  · rw [if_pos hbig]
  · rw [if_neg hbig]
    obtain ⟨l, d, e0, hl⟩ := DrawTimelyAfter_ok hc
    obtain ⟨b, ok, e1, e2, h1, h2⟩ := TimelyAfter_eq (l := l) (by omega) d
    rw [bind_some_of e0, bind_some_of e1, bind_some_of e2, if_pos rfl, if_pos rfl]
    unfold x_impl_EarliestLatest x_spec_EarliestLatest
    rw [bind_some_of (IsPlain_eq l (by omega)), bind_some_of (l6Good_eq l (by omega))]
    by_cases hp : plain l
    · have hg := hp.1
      have hn := hg.1
      have h6 : l.length ≤ 6 := by omega
      obtain ⟨r, e3, p3, s3⟩ := inDueOrder_eq (l := l) (p := List.range l.length) List.nodup_range (fun i hi => by simpa using hi) (by simp; omega)
      have ho := IsOrd.of_perm p3
      obtain ⟨r', ho', s4, e4⟩ := l6Latest_eq hg
      have hr : r' = r := sorted_unique (fun a b => soon_asymm) (ho'.perm.trans ho.perm.symm) s4 s3
      subst hr
      have hbest := bestP_spec l 4
      have hmin : (bestP l 4 (lexP l.length)).2.1 = val l r' 4 := by
        obtain ⟨o, oo, _, ov⟩ := hbest.2
        have a1 := hbest.1 r' ho
        have a2 := edd (free_of_plain hp) ho (soon_due s3) oo
        omega
      have hobj : x_impl_isObjective 4 = some true := by unfold x_impl_isObjective; rw [within_eq]; rfl
      have hobj2 : x_spec_l2Objective 4 = some true := by unfold x_spec_l2Objective; rw [l1In_eq]; rfl
      have hrb : x_laws_rBest l 4 = some (val l r' 4, true) := by
        unfold x_laws_rBest x_impl_BestValue x_spec_BestValue x_spec_l2Best
        simp only [IsJobs_eq, l2Good_eq l (show l.length < 900000 by omega), hg, decide_true, Option.bind_some, if_true, hobj, hobj2, best_eq hg h6, l2All_eq hg, ofT, hmin]
      have hdue : x_impl_DueOrder l = some (ic r', true) := by
        unfold x_impl_DueOrder
        simp only [IsPlain_eq l (show l.length < 900000 by omega), hp, decide_true, Option.bind_some, if_true, numbersTo_eq l.length (show l.length < 900000 by omega), e3]
      have hval : x_impl_ValueOf l (ic r') 4 = some (val l r' 4, true) := by
        unfold x_impl_ValueOf
        simp only [isValued_ok hg ho (show (1 : Int) ≤ 4 by omega) (show (4 : Int) ≤ 8 by omega), Option.bind_some, if_true, valueOf_eq hg ho]
      simp only [hp, decide_true, if_true, numbersTo_eq l.length (show l.length < 900000 by omega), Option.bind_some, e3, valueOf_eq hg ho, e4, hrb, hdue, hval]
      cases ok with
      | false => rfl
      | true =>
        have h3 := h2 rfl r' ho (soon_due s3)
        have h4 : b = decide (val l r' 4 ≤ d) := by rw [Bool.eq_iff_iff, h3, decide_eq_true_eq]
        simp [h4]
    · simp only [hp, decide_false, Bool.false_eq_true, if_false, Option.bind_some, if_true]
      cases ok with
      | false => rfl
      | true => exact absurd (h1 rfl).1 hp

end Gh
