/- Plain laws: ruled orders are best; what an order loses. -/
import Derived.Test.YtebflkckndibiaaQb
namespace Gh
open Go
set_option linter.unusedSimpArgs false
set_option linter.unusedVariables false
set_option maxRecDepth 100000

/-- What a job adds for each unit of time: one, or its weight. -/
def wt (obj : Int) (j : impl_Job) : Int := if obj = 2 then 1 else j.Weight

/-- What a job costs another one that is behind it. -/
def pcost (l : List impl_Job) (obj : Int) (a b : Nat) : Int := (jb l a).Time * wt obj (jb l b)

theorem gap_pcost {l : List impl_Job} {obj : Int} (ho : obj = 2 ∨ obj = 3) (a b : Nat) : gap obj (jb l a) (jb l b) = pcost l obj a b - pcost l obj b a := by
  unfold gap pcost wt
  rcases ho with rfl | rfl <;> simp

def isum {α : Type} (f : α → Int) : List α → Int
  | [] => 0
  | a :: l => f a + isum f l

theorem isum_app {α : Type} (f : α → Int) : ∀ (l m : List α), isum f (l ++ m) = isum f l + isum f m
  | [], m => by simp [isum]
  | a :: l, m => by simp only [List.cons_append, isum, isum_app f l m]; omega

theorem isum_perm {α : Type} (f : α → Int) {l m : List α} (h : l.Perm m) : isum f l = isum f m := by
  induction h with
  | nil => rfl
  | cons a _ ih => simp only [isum, ih]
  | swap a b p => simp only [isum]; omega
  | trans _ _ h1 h2 => rw [h1, h2]

theorem isum_congr {α : Type} {f g : α → Int} : ∀ {l : List α}, (∀ a ∈ l, f a = g a) → isum f l = isum g l
  | [], _ => rfl
  | a :: l, h => by simp only [isum]; rw [h a (by simp), isum_congr fun b hb => h b (by simp [hb])]

theorem isum_add {α : Type} (f g : α → Int) : ∀ (l : List α), isum (fun a => f a + g a) l = isum f l + isum g l
  | [] => rfl
  | a :: l => by simp only [isum, isum_add f g l]; omega

theorem isum_mul {α : Type} (c : Int) (f : α → Int) : ∀ (l : List α), isum (fun a => c * f a) l = c * isum f l
  | [] => by simp [isum]
  | a :: l => by simp only [isum, isum_mul c f l, Int.mul_add]

theorem isum_nonneg {α : Type} {f : α → Int} : ∀ {l : List α}, (∀ a ∈ l, 0 ≤ f a) → 0 ≤ isum f l
  | [], _ => Int.le_refl 0
  | a :: l, h => by
    have h1 := h a (by simp)
    have h2 := isum_nonneg (l := l) fun b hb => h b (by simp [hb])
    simp only [isum]
    omega

theorem isum_zero {α : Type} {f : α → Int} : ∀ {l : List α}, (∀ a ∈ l, 0 ≤ f a) → isum f l = 0 → ∀ a ∈ l, f a = 0
  | [], _, _ => fun a ha => by cases ha
  | a :: l, h, e => by
    have h1 := h a (by simp)
    have h2 := isum_nonneg (l := l) fun b hb => h b (by simp [hb])
    simp only [isum] at e
    intro b hb
    rcases List.mem_cons.1 hb with rfl | hb
    · omega
    · exact isum_zero (fun c hc => h c (by simp [hc])) (by omega) b hb

theorem isum_const0 {α : Type} {f : α → Int} : ∀ {l : List α}, (∀ a ∈ l, f a = 0) → isum f l = 0
  | [], _ => rfl
  | a :: l, h => by simp only [isum]; rw [h a (by simp), isum_const0 fun b hb => h b (by simp [hb])]; rfl

/-- A sum over all pairs in order. -/
def psum (f : Nat → Nat → Int) : List Nat → Int
  | [] => 0
  | a :: o => isum (f a) o + psum f o

theorem psum_add (f g : Nat → Nat → Int) : ∀ o, psum (fun a b => f a b + g a b) o = psum f o + psum g o
  | [] => rfl
  | a :: o => by simp only [psum, isum_add, psum_add f g o]; omega

theorem psum_congr {f g : Nat → Nat → Int} : ∀ {o : List Nat}, (∀ a ∈ o, ∀ b ∈ o, f a b = g a b) → psum f o = psum g o
  | [], _ => rfl
  | a :: o, h => by
    simp only [psum]
    rw [isum_congr (fun b hb => h a (by simp) b (by simp [hb])), psum_congr fun c hc b hb => h c (by simp [hc]) b (by simp [hb])]

theorem psum_perm {f : Nat → Nat → Int} (hs : ∀ a b, f a b = f b a) {o p : List Nat} (h : o.Perm p) : psum f o = psum f p := by
  induction h with
  | nil => rfl
  | cons a h ih => simp only [psum, ih, isum_perm _ h]
  | swap a b p => simp only [psum, isum, hs a b]; omega
  | trans _ _ h1 h2 => rw [h1, h2]

theorem psum_nonneg {f : Nat → Nat → Int} : ∀ {o : List Nat}, (∀ a ∈ o, ∀ b ∈ o, 0 ≤ f a b) → 0 ≤ psum f o
  | [], _ => Int.le_refl 0
  | a :: o, h => by
    have h1 := isum_nonneg (f := f a) (l := o) fun b hb => h a (by simp) b (by simp [hb])
    have h2 := psum_nonneg (f := f) (o := o) fun c hc b hb => h c (by simp [hc]) b (by simp [hb])
    simp only [psum]
    omega

theorem psum_zero {f : Nat → Nat → Int} : ∀ {o : List Nat}, (∀ a ∈ o, ∀ b ∈ o, 0 ≤ f a b) → (psum f o = 0 ↔ o.Pairwise fun a b => f a b = 0)
  | [], _ => by simp [psum]
  | a :: o, h => by
    have h1 := isum_nonneg (f := f a) (l := o) fun b hb => h a (by simp) b (by simp [hb])
    have h2 := psum_nonneg (f := f) (o := o) fun c hc b hb => h c (by simp [hc]) b (by simp [hb])
    have ih := psum_zero (f := f) (o := o) fun c hc b hb => h c (by simp [hc]) b (by simp [hb])
    rw [List.pairwise_cons, ← ih]
    simp only [psum]
    constructor
    · intro e
      exact ⟨isum_zero (fun b hb => h a (by simp) b (by simp [hb])) (by omega), by omega⟩
    · rintro ⟨e1, e2⟩
      rw [isum_const0 e1, e2]; rfl

/-- What an order loses against the best ones. -/
def lossO (l : List impl_Job) (obj : Int) (o : List Nat) : Int := psum (fun a b => max 0 (gap obj (jb l a) (jb l b))) o

/-- What all orders cost. -/
def baseO (l : List impl_Job) (obj : Int) (o : List Nat) : Int := isum (fun a => pcost l obj a a) o + psum (fun a b => min (pcost l obj a b) (pcost l obj b a)) o

theorem base_perm {l : List impl_Job} {obj : Int} {o p : List Nat} (h : o.Perm p) : baseO l obj o = baseO l obj p := by
  unfold baseO
  rw [isum_perm _ h, psum_perm (fun a b => Int.min_comm _ _) h]

theorem loss_nonneg (l : List impl_Job) (obj : Int) (o : List Nat) : 0 ≤ lossO l obj o := psum_nonneg fun a _ b _ => Int.le_max_left _ _

theorem loss_zero {l : List impl_Job} {obj : Int} {o : List Nat} : lossO l obj o = 0 ↔ o.Pairwise fun a b => gap obj (jb l a) (jb l b) ≤ 0 := by
  unfold lossO
  rw [psum_zero fun a _ b _ => Int.le_max_left _ _]
  constructor <;> intro h <;> refine h.imp fun h => ?_
  · rw [Int.max_def] at h; split at h <;> omega
  · rw [Int.max_def]; split <;> omega

theorem foldl_sum (g : Int → Nat → Int) (f : Nat → Int) : ∀ (o : List Nat) (v : Int), (∀ v, ∀ i ∈ o, g v i = v + f i) → o.foldl g v = v + isum f o
  | [], v, _ => by simp [isum]
  | a :: o, v, h => by
    rw [List.foldl_cons, foldl_sum g f o _ (fun v i hi => h v i (by simp [hi])), h v a (by simp)]
    simp only [isum]
    omega

/-- The value of an order, for the sums of ends. -/
theorem val_pairs {l : List impl_Job} (h : Free l) {obj : Int} (hobj : obj = 2 ∨ obj = 3) {o : List Nat} (ho : IsOrd l.length o) : val l o obj = isum (fun a => pcost l obj a a) o + psum (pcost l obj) o := by
  have h1 : val l o obj = isum (fun i => wt obj (jb l i) * (endsA l o).getD i 0) (List.range l.length) := by
    unfold val valE
    rw [foldl_sum _ (fun i => wt obj (jb l i) * (endsA l o).getD i 0) _ 0 (fun v i _ => by rcases hobj with rfl | rfl <;> simp [addV, wt])]
    omega
  rw [h1, isum_perm _ ho.perm.symm]
  have key : ∀ (q p : List Nat), o = p ++ q → isum (fun i => wt obj (jb l i) * (endsA l o).getD i 0) q = tsum l p * isum (fun i => wt obj (jb l i)) q + isum (fun a => pcost l obj a a) q + psum (pcost l obj) q := by
    intro q
    induction q with
    | nil => intro p _; simp [isum, psum]
    | cons a q ih =>
      intro p e
      have ha : a < l.length := ho.2.2 a (by rw [e]; simp)
      have hq : a ∉ q := by
        have := ho.2.1
        rw [e] at this
        have := (List.nodup_append.1 this).2.1
        rw [List.nodup_cons] at this
        exact this.1
      have hend : (endsA l o).getD a 0 = tsum l p + (jb l a).Time := by
        rw [e, List.getD_eq_getElem?_getD, endsA_at ha hq, Option.getD_some, endT, endT_plain (fun i hi => h i (ho.2.2 i (by
          rw [e]
          rcases List.mem_append.1 hi with x | x
          · simp [x]
          · have : i = a := by simpa using x
            simp [this]))) 0 (Int.le_refl 0), tsum_app, tsum_cons]
        simp [tsum]
      have h2 := ih (p ++ [a]) (by rw [e]; simp)
      have h3 : tsum l (p ++ [a]) = tsum l p + (jb l a).Time := by rw [tsum_app, tsum_cons]; simp [tsum]
      have h4 : isum (pcost l obj a) q = (jb l a).Time * isum (fun i => wt obj (jb l i)) q := isum_mul (jb l a).Time (fun i => wt obj (jb l i)) q
      simp only [isum, psum, hend, h2, h3, h4, pcost, Int.add_mul, Int.mul_add]
      rw [Int.mul_comm (wt obj (jb l a)) (tsum l p), Int.mul_comm (wt obj (jb l a)) (jb l a).Time]
      omega
  have := key o [] rfl
  rw [this]
  simp [tsum]

theorem val_loss {l : List impl_Job} (h : Free l) {obj : Int} (hobj : obj = 2 ∨ obj = 3) {o : List Nat} (ho : IsOrd l.length o) : val l o obj = baseO l obj o + lossO l obj o := by
  rw [val_pairs h hobj ho]
  unfold baseO lossO
  have : psum (pcost l obj) o = psum (fun a b => min (pcost l obj a b) (pcost l obj b a) + max 0 (gap obj (jb l a) (jb l b))) o := psum_congr fun a _ b _ => by
    rw [gap_pcost hobj, Int.min_def, Int.max_def]
    split <;> split <;> omega
  rw [this, psum_add]
  omega

/-- When orders end: the first objective. -/
theorem fold_end (l : List impl_Job) (es : List Int) : ∀ m, (∀ i, i < m → es.getD i 0 ≤ (List.range m).foldl (fun v i => addV v (jb l i) (es.getD i 0) 1 (decide (i = 0))) 0) ∧ 0 ≤ (List.range m).foldl (fun v i => addV v (jb l i) (es.getD i 0) 1 (decide (i = 0))) 0 ∧
    ((List.range m).foldl (fun v i => addV v (jb l i) (es.getD i 0) 1 (decide (i = 0))) 0 = 0 ∨ ∃ i, i < m ∧ (List.range m).foldl (fun v i => addV v (jb l i) (es.getD i 0) 1 (decide (i = 0))) 0 = es.getD i 0)
  | 0 => ⟨fun i hi => absurd hi (Nat.not_lt_zero _), Int.le_refl 0, .inl rfl⟩
  | m + 1 => by
    obtain ⟨h1, h2, h3⟩ := fold_end l es m
    rw [List.range_succ, List.foldl_append]
    simp only [List.foldl_cons, List.foldl_nil]
    have hs : ∀ v, addV v (jb l m) (es.getD m 0) 1 (decide (m = 0)) = max v (es.getD m 0) := fun v => by simp [addV]
    rw [hs]
    refine ⟨fun i hi => ?_, Int.le_trans h2 (Int.le_max_left _ _), ?_⟩
    · by_cases e : i = m
      · subst e; exact Int.le_max_right _ _
      · exact Int.le_trans (h1 i (by omega)) (Int.le_max_left _ _)
    · rw [Int.max_def]
      split
      · exact .inr ⟨m, by omega, rfl⟩
      · rcases h3 with h | ⟨i, hi, h⟩
        · exact .inl h
        · exact .inr ⟨i, by omega, h⟩

theorem nextT_ge {l : List impl_Job} {t : Int} {i : Nat} (h : 0 ≤ (jb l i).Time) : t + (jb l i).Time ≤ nextT l t i ∧ (jb l i).Release + (jb l i).Time ≤ nextT l t i := by
  unfold nextT
  rw [Int.max_def]
  split <;> omega

theorem endF_ge {l : List impl_Job} : ∀ (o : List Nat) (t : Int), (∀ i ∈ o, 0 ≤ (jb l i).Time) → t + tsum l o ≤ o.foldl (nextT l) t
  | [], t, _ => by simp [tsum]
  | a :: o, t, h => by
    have h1 := (nextT_ge (l := l) (t := t) (h a (by simp))).1
    have h2 := endF_ge o (nextT l t a) fun i hi => h i (by simp [hi])
    rw [List.foldl_cons, tsum_cons]
    omega

/-- An order ends no earlier than the times of jobs that are all released from some time on. -/
theorem endF_set {l : List impl_Job} {ρ : Int} (A : Nat → Bool) (hA : ∀ i, A i = true → ρ ≤ (jb l i).Release) : ∀ (o : List Nat) (t : Int), (∀ i ∈ o, 0 ≤ (jb l i).Time) → (∃ i ∈ o, A i = true) → ρ + tsum l (o.filter A) ≤ o.foldl (nextT l) t
  | [], t, _, h => by obtain ⟨i, hi, _⟩ := h; cases hi
  | a :: o, t, h, hex => by
    have h0 := h a (by simp)
    have h1 := nextT_ge (l := l) (t := t) h0
    rw [List.foldl_cons, List.filter_cons]
    have hsub : tsum l (o.filter A) ≤ tsum l o := by
      clear hex h1 h0
      induction o with
      | nil => simp [tsum]
      | cons b o ih =>
        have hb := h b (by simp)
        have := ih fun i hi => h i (by rcases List.mem_cons.1 hi with rfl | hi <;> simp_all)
        rw [List.filter_cons]
        split
        · rw [tsum_cons, tsum_cons]; omega
        · rw [tsum_cons]; omega
    cases ha : A a with
    | true =>
      rw [if_pos rfl, tsum_cons]
      have h2 := endF_ge o (nextT l t a) fun i hi => h i (by simp [hi])
      have := hA a ha
      omega
    | false =>
      rw [if_neg (by simp)]
      refine endF_set A hA o (nextT l t a) (fun i hi => h i (by simp [hi])) ?_
      obtain ⟨i, hi, hi'⟩ := hex
      rcases List.mem_cons.1 hi with rfl | hi
      · rw [ha] at hi'; cases hi'
      · exact ⟨i, hi, hi'⟩

/-- Where an order's end comes from: no break at all, or the last break. -/
theorem endF_from {l : List impl_Job} : ∀ (o : List Nat) (t : Int), o.foldl (nextT l) t = t + tsum l o ∨ ∃ p k q, o = p ++ k :: q ∧ o.foldl (nextT l) t = (jb l k).Release + tsum l (k :: q)
  | [], t => .inl (by simp [tsum])
  | a :: o, t => by
    rw [List.foldl_cons]
    rcases endF_from o (nextT l t a) with e | ⟨p, k, q, e1, e2⟩
    · by_cases h : t ≤ (jb l a).Release
      · refine .inr ⟨[], a, o, rfl, ?_⟩
        have : nextT l t a = (jb l a).Release + (jb l a).Time := by unfold nextT; rw [Int.max_def]; split <;> omega
        rw [e, this, tsum_cons]; omega
      · refine .inl ?_
        have : nextT l t a = t + (jb l a).Time := by unfold nextT; rw [Int.max_def]; split <;> omega
        rw [e, this, tsum_cons]; omega
    · exact .inr ⟨a :: p, k, q, by rw [e1]; rfl, e2⟩

theorem good_time {l : List impl_Job} (hg : good l) {i : Nat} (h : i < l.length) : 0 ≤ (jb l i).Time ∧ 0 ≤ (jb l i).Release := by
  have := jb_ok hg h
  unfold jobOk at this
  omega

theorem val_end {l : List impl_Job} (hg : good l) {o : List Nat} (ho : IsOrd l.length o) : val l o 1 = endT l o := by
  obtain ⟨h1, h2, h3⟩ := fold_end l (endsA l o) l.length
  have hmono : ∀ (p q : List Nat), (∀ i ∈ q, 0 ≤ (jb l i).Time) → p.foldl (nextT l) 0 ≤ (p ++ q).foldl (nextT l) 0 := fun p q hq => by
    rw [List.foldl_append]
    have := endF_ge q (p.foldl (nextT l) 0) hq
    have := tsum_nonneg (l := l) (p := q) hq
    omega
  have hat : ∀ i, i < l.length → (endsA l o).getD i 0 ≤ endT l o := fun i hi => by
    obtain ⟨p, q, e⟩ := List.append_of_mem (ho.all hi)
    have hq : i ∉ q := by
      have := ho.2.1
      rw [e] at this
      have := (List.nodup_append.1 this).2.1
      rw [List.nodup_cons] at this
      exact this.1
    rw [e, List.getD_eq_getElem?_getD, endsA_at hi hq, Option.getD_some]
    unfold endT
    have := hmono (p ++ [i]) q fun k hk => (good_time hg (ho.2.2 k (by rw [e]; simp [hk]))).1
    rw [show p ++ i :: q = (p ++ [i]) ++ q by simp]
    exact this
  have hle : val l o 1 ≤ endT l o := by
    rcases h3 with h | ⟨i, hi, h⟩
    · show valE l (endsA l o) 1 ≤ _
      unfold valE
      rw [h]
      unfold endT
      have h4 := endF_ge (l := l) o 0 fun i hi => (good_time hg (ho.2.2 i hi)).1
      have h5 := tsum_nonneg (l := l) (p := o) fun i hi => (good_time hg (ho.2.2 i hi)).1
      omega
    · show valE l (endsA l o) 1 ≤ _
      unfold valE
      rw [h]
      exact hat i hi
  have hge : endT l o ≤ val l o 1 := by
    by_cases hz : o = []
    · subst hz
      show (0 : Int) ≤ valE l (endsA l []) 1
      exact h2
    · have hlast := List.dropLast_concat_getLast hz
      have hm : o.getLast hz < l.length := ho.2.2 _ (List.getLast_mem hz)
      have := h1 _ hm
      have e : (endsA l o).getD (o.getLast hz) 0 = endT l o := by
        have e1 := endsA_at (l := l) (p := o.dropLast) (q := []) hm (by simp)
        rw [hlast] at e1
        rw [List.getD_eq_getElem?_getD, e1, Option.getD_some]
      rw [e] at this
      exact this
  omega

/-- Jobs by their releases end the earliest. -/
theorem end_best {l : List impl_Job} (hg : good l) {r : List Nat} (hr : IsOrd l.length r) (hs : r.Pairwise fun a b => (jb l a).Release ≤ (jb l b).Release) {o : List Nat} (ho : IsOrd l.length o) : val l r 1 ≤ val l o 1 := by
  rw [val_end hg hr, val_end hg ho]
  have htime : ∀ i ∈ o, 0 ≤ (jb l i).Time := fun i hi => (good_time hg (ho.2.2 i hi)).1
  unfold endT
  rcases endF_from (l := l) r 0 with e | ⟨p, k, q, e1, e2⟩
  · rw [e, tsum_perm (hr.perm.trans ho.perm.symm)]
    exact endF_ge o 0 htime
  · rw [e2]
    have hnd : (k :: q).Nodup := by
      have := hr.2.1
      rw [e1] at this
      exact (List.nodup_append.1 this).2.1
    have hsort : ∀ i ∈ k :: q, (jb l k).Release ≤ (jb l i).Release := fun i hi => by
      rw [e1] at hs
      have h1 := (List.pairwise_append.1 hs).2.1
      rcases List.mem_cons.1 hi with rfl | hi
      · exact Int.le_refl _
      · exact (List.pairwise_cons.1 h1).1 i hi
    have hmem : ∀ i ∈ k :: q, i ∈ o := fun i hi => ho.all (hr.2.2 i (by rw [e1]; exact List.mem_append_right _ hi))
    have hset := endF_set (l := l) (ρ := (jb l k).Release) (fun i => decide (i ∈ k :: q)) (fun i hi => hsort i (of_decide_eq_true hi)) o 0 htime ⟨k, hmem k (by simp), by simp⟩
    have hsub : tsum l (k :: q) ≤ tsum l (o.filter fun i => decide (i ∈ k :: q)) := tsum_sub _ _ hnd (fun i hi => List.mem_filter.2 ⟨hmem i hi, by simpa using hi⟩) (fun i hi => htime i (List.mem_filter.1 hi).1)
    omega

/-- A ruled order is best. -/
theorem ruled_best {l : List impl_Job} {obj : Int} (h : ruled l obj) {r : List Nat} (hr : IsOrd l.length r) (hs : r.Pairwise fun a b => gap obj (jb l a) (jb l b) ≤ 0) {o : List Nat} (ho : IsOrd l.length o) : val l r obj ≤ val l o obj := by
  rcases h.2 with rfl | ⟨hb, hp⟩
  · exact end_best h.1 hr (hs.imp fun h => by simp only [gap, if_true] at h; omega) ho
  · have hf : Free l := free_of_plain ⟨h.1, hp⟩
    have h3 : obj = 2 ∨ obj = 3 ∨ obj = 4 := by omega
    rcases h3 with h3 | h3 | h3
    · have e1 := val_loss hf (.inl h3) hr
      have e2 := val_loss hf (.inl h3) ho
      have e3 := base_perm (l := l) (obj := obj) (hr.perm.trans ho.perm.symm)
      have e4 := loss_zero.2 hs
      have e5 := loss_nonneg l obj o
      omega
    · have e1 := val_loss hf (.inr h3) hr
      have e2 := val_loss hf (.inr h3) ho
      have e3 := base_perm (l := l) (obj := obj) (hr.perm.trans ho.perm.symm)
      have e4 := loss_zero.2 hs
      have e5 := loss_nonneg l obj o
      omega
    · subst h3
      exact edd hf hr (hs.imp fun h => by simp [gap] at h; omega) ho
end Gh
