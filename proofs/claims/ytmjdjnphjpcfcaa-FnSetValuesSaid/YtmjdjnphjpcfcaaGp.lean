/- A region under any order that its edges allow: it leaves what the ghost's run in text order leaves. -/
import Derived.Test.YtmjdjnphjpcfcaaGn
namespace Gh
set_option linter.unusedVariables false
set_option linter.unusedSimpArgs false
open Go

section
variable {α : Type}

/-- The writes of the operations of 'S', laid over one another in text order. -/
def fold (W : Nat → Nat → Option α) (S : Nat → Bool) (f0 : Nat → α) : Nat → Nat → α
  | 0 => f0
  | j + 1 => if S j then ov (W j) (fold W S f0 j) else fold W S f0 j

theorem fold_congr {W : Nat → Nat → Option α} {S S' : Nat → Bool} {f0 : Nat → α} : ∀ (m : Nat), (∀ i, i < m → S i = S' i) → fold W S f0 m = fold W S' f0 m
  | 0, _ => rfl
  | m + 1, h => by simp only [fold, h m (Nat.lt_succ_self m), fold_congr m fun i hi => h i (Nat.lt_succ_of_lt hi)]

def addS (S : Nat → Bool) (j : Nat) : Nat → Bool := fun i => i == j || S i

theorem fold_set {W : Nat → Nat → Option α} {S : Nat → Bool} {f0 : Nat → α} {j : Nat} (hj : S j = false) : ∀ (n : Nat), j < n → (∀ i, j < i → i < n → S i = true → ∀ id, W i id = none ∨ W j id = none) →
    fold W (addS S j) f0 n = ov (W j) (fold W S f0 n)
  | 0, h, _ => absurd h (Nat.not_lt_zero _)
  | n + 1, h, hd => by
    by_cases e : n = j
    · subst e
      have h1 : fold W (addS S n) f0 n = fold W S f0 n := fold_congr n fun i hi => by
        unfold addS; rw [beq_false_of_ne (by omega)]; rfl
      simp only [fold, h1, hj, Bool.false_eq_true, if_false]
      simp [addS]
    · have ih := fold_set (W := W) (f0 := f0) hj n (by omega) fun i h1 h2 h3 => hd i h1 (by omega) h3
      have h1 : addS S j n = S n := by unfold addS; rw [beq_false_of_ne e]; rfl
      simp only [fold, h1, ih]
      cases hn : S n with
      | false => simp
      | true =>
        simp only [if_true]
        funext id
        unfold ov
        rcases hd n (by omega) (by omega) hn id with h2 | h2 <;> rw [h2] <;> simp

theorem fold_agree {W : Nat → Nat → Option α} {S : Nat → Bool} {f0 : Nat → α} {j id : Nat} : ∀ (n : Nat), j ≤ n → (∀ i, i < j → S i = false → W i id = none) → (∀ i, j ≤ i → i < n → S i = true → W i id = none) →
    fold W S f0 n id = fold W (fun _ => true) f0 j id := by
  have low : ∀ m, (∀ i, i < m → S i = false → W i id = none) → fold W S f0 m id = fold W (fun _ => true) f0 m id := by
    intro m
    induction m with
    | zero => intro _; rfl
    | succ m ih =>
      intro h
      have ih := ih fun i hi => h i (by omega)
      simp only [fold, if_true]
      cases hm : S m with
      | true => simp only [if_true]; unfold ov; rw [ih]
      | false =>
        have := h m (by omega) hm
        simp only [Bool.false_eq_true, if_false]
        unfold ov
        rw [ih, this]
        rfl
  intro n
  induction n with
  | zero => intro h h1 _; have : j = 0 := by omega
            subst this; rfl
  | succ n ih =>
    intro h h1 h2
    by_cases e : j = n + 1
    · subst e; exact low _ h1
    · have ih := ih (by omega) h1 fun i a b c => h2 i a (by omega) c
      simp only [fold]
      cases hn : S n with
      | false => simpa using ih
      | true =>
        have := h2 n (by omega) (by omega) hn
        simp only [if_true]
        unfold ov
        rw [this]
        exact ih

theorem fold_all {W : Nat → Nat → Option α} {f : Nat → Nat → α} : ∀ (n : Nat), (∀ i, i < n → f (i + 1) = ov (W i) (f i)) → fold W (fun _ => true) (f 0) n = f n
  | 0, _ => rfl
  | n + 1, h => by
    simp only [fold, if_true]
    rw [fold_all n fun i hi => h i (by omega), h n (by omega)]

end

theorem meets_spec : ∀ {xs l : List Nat}, meets xs l = false → ∀ x, x ∈ xs → x ∉ l
  | [], _, _, x, hx => by cases hx
  | y :: ys, l, h, x, hx => by
    simp only [meets, Bool.or_eq_false_iff] at h
    rcases List.mem_cons.1 hx with rfl | hx
    · simpa using h.1
    · exact meets_spec h.2 x hx

/-- Neither writes what the other touches. -/
def Foot.free (f g : Foot) : Prop := f = .inert ∨ g = .inert ∨ ∃ r1 w1 r2 w2, f = .touch r1 w1 ∧ g = .touch r2 w2 ∧ (∀ x, x ∈ w1 → x ∉ r2 ++ w2) ∧ ∀ x, x ∈ w2 → x ∉ r1 ++ w1

theorem Foot.free.symm {f g : Foot} (h : f.free g) : g.free f := by
  rcases h with h | h | ⟨r1, w1, r2, w2, h1, h2, h3, h4⟩
  · exact .inr (.inl h)
  · exact .inl h
  · exact .inr (.inr ⟨r2, w2, r1, w1, h2, h1, h4, h3⟩)

theorem clash_free {f g : Foot} (h : f.clash g = false) : f.free g := by
  cases f <;> cases g <;> simp only [Foot.clash, Bool.or_eq_false_iff, reduceCtorEq] at h <;> first
    | exact .inl rfl
    | exact .inr (.inl rfl)
    | skip
  rename_i r1 w1 r2 w2
  have h1 := meets_spec h.1
  have h2 := meets_spec h.2
  refine .inr (.inr ⟨_, _, _, _, rfl, rfl, h1, fun x hx hy => ?_⟩)
  rcases List.mem_append.1 hy with hy | hy
  · exact h2 x hx hy
  · exact h1 x hy (List.mem_append_right _ hx)

theorem free_none {f g : Foot} (h : f.free g) (H : List Blk) : (∀ rd wr, g = .touch rd wr → ∀ id, id ∈ rd ++ wr → f.W H id = none) ∧ (g = .all → f = .inert) := by
  rcases h with rfl | rfl | ⟨r1, w1, r2, w2, rfl, rfl, h3, h4⟩
  · exact ⟨fun _ _ _ _ _ => rfl, fun _ => rfl⟩
  · exact ⟨fun _ _ h => (by cases h), fun h => (by cases h)⟩
  · refine ⟨fun rd wr h id hid => ?_, fun h => (by cases h)⟩
    cases h
    simp only [Foot.W]
    rw [if_neg fun hw => h3 id hw hid]

theorem free_disj {f g : Foot} (h : f.free g) (H H' : List Blk) (id : Nat) : f.W H id = none ∨ g.W H' id = none := by
  rcases h with rfl | rfl | ⟨r1, w1, r2, w2, rfl, rfl, h3, h4⟩
  · exact .inl rfl
  · exact .inr rfl
  · simp only [Foot.W]
    by_cases h : id ∈ w1
    · right; rw [if_neg fun hw => h3 id h (List.mem_append_right _ hw)]
    · left; rw [if_neg h]

/-- Neither turns a slot that the other looks at or turns. -/
def apartG (g g' : GOper) : Bool :=
  (match g.dst with | some d => !g'.tms.contains d && g'.dst != some d | none => true) && (match g'.dst with | some d => !g.tms.contains d | none => true)

theorem apartG_spec {g g' : GOper} (h : apartG g g' = true) : (∀ d, g.dst = some d → d ∉ g'.tms ∧ g'.dst ≠ some d) ∧ ∀ d, g'.dst = some d → d ∉ g.tms ∧ g.dst ≠ some d := by
  simp only [apartG, Bool.and_eq_true] at h
  refine ⟨fun d hd => ?_, fun d hd => ?_⟩
  · have := h.1; rw [hd] at this; simpa using this
  · have h2 := h.2; rw [hd] at h2
    refine ⟨by simpa using h2, fun he => ?_⟩
    have := h.1; rw [he] at this; simp [hd] at this

theorem apartG_symm {g g' : GOper} (h : apartG g g' = true) : apartG g' g = true := by
  obtain ⟨h1, h2⟩ := apartG_spec h
  simp only [apartG, Bool.and_eq_true]
  constructor
  · cases hd : g'.dst with
    | none => rfl
    | some d => have := h2 d hd; simp [this.1, this.2]
  · cases hd : g.dst with
    | none => rfl
    | some d => have := h1 d hd; simp [this.1]

/-- The slots that an operation turns. -/
def Wt (g : GOper) (T' : Tm) : Nat → Option V := fun m => if g.dst = some m then some (look T' m) else none

theorem Wt_seq {g : GOper} {T T' : Tm} {v : V} (h : T' = bindD g.dst v T) : look T' = ov (Wt g T') (look T) := by
  funext m
  unfold ov Wt
  by_cases hd : g.dst = some m
  · rw [if_pos hd]; rfl
  · rw [if_neg hd]
    simp only [Option.getD_none]
    rw [h]
    unfold bindD
    cases hg : g.dst with
    | none => rfl
    | some d =>
      simp only [look]
      rw [if_neg]
      intro e; exact hd (by rw [hg, e])

structure StR (C : Ctx) (s : St) (a : Act) (w : World) (N : Nat) : Prop where
  sr : SR C
  heap : w.heap = C.heap
  h : C.h = hp s.H
  used : C.used = fun x => x < s.ng
  tr : TR C s.T a
  size : a.tmps.size = N
  defers : a.defers = []

structure Seq (sh : Nat → Bool) (cl : Callee) (gs : List GOper) (s : Nat → St) (ft : Nat → Foot) : Prop where
  step : ∀ i g, gs[i]? = some g → goper sh cl g (s i) = some (s (i + 1), ft i)

section
variable {P : Program} {tab : Tab} {cl : Callee} {sh : Nat → Bool} {ops : Array Oper} {N : Nat} {gs : List GOper} {s : Nat → St} {ft : Nat → Foot}

def gAt (gs : List GOper) (i : Nat) : GOper := gs.getD i default
def Wh (s : Nat → St) (ft : Nat → Foot) : Nat → Nat → Option (Option Blk) := fun i => (ft i).W (s (i + 1)).H
def Wtm (gs : List GOper) (s : Nat → St) : Nat → Nat → Option V := fun i => Wt (gAt gs i) (s (i + 1)).T

def usedS (gs : List GOper) (s : Nat → St) (S : Nat → Bool) : Nat → Prop := fun x => x < (s 0).ng ∨ ∃ i, i < gs.length ∧ S i = true ∧ (s i).ng ≤ x ∧ x < (s (i + 1)).ng

structure Inv (gs : List GOper) (s : Nat → St) (ft : Nat → Foot) (N : Nat) (C0 : Ctx) (w0 : World) (S : Nat → Bool) (C : Ctx) (a : Act) (w : World) : Prop where
  sr : SR C
  heap : w.heap = C.heap
  h : C.h = fold (Wh s ft) S (hp (s 0).H) gs.length
  used : C.used = usedS gs s S
  tr : ∀ m, VR C (fold (Wtm gs s) S (look (s 0).T) gs.length m) (a.tmps.getD m Go.undef)
  size : a.tmps.size = N
  defers : a.defers = []
  evo : Evo C0 C
  same : Same w0 w

theorem gAt_of {i : Nat} {g : GOper} (h : gs[i]? = some g) : gAt gs i = g := by
  unfold gAt; rw [List.getD_eq_getElem?_getD, h]; rfl

theorem Seq.at (q : Seq sh cl gs s ft) {i : Nat} (hi : i < gs.length) : goper sh cl (gAt gs i) (s i) = some (s (i + 1), ft i) := by
  have h := List.getElem?_eq_getElem hi
  rw [gAt_of h]
  exact q.step i _ h

theorem Seq.mono (q : Seq sh cl gs s ft) (hcl : CallOK P cl) : ∀ {k i : Nat}, i ≤ k → k ≤ gs.length → (s i).ng ≤ (s k).ng := by
  intro k
  induction k with
  | zero => intro i h _; have : i = 0 := by omega
            subst this; exact Nat.le_refl _
  | succ k ih =>
    intro i h hk
    by_cases e : i = k + 1
    · subst e; exact Nat.le_refl _
    · exact Nat.le_trans (ih (by omega) (by omega)) (goper_seq hcl (q.at (by omega))).1

theorem Seq.h (q : Seq sh cl gs s ft) (hcl : CallOK P cl) {j : Nat} (hj : j ≤ gs.length) : fold (Wh s ft) (fun _ => true) (hp (s 0).H) j = hp (s j).H :=
  fold_all (f := fun i => hp (s i).H) j fun i hi => (goper_seq hcl (q.at (by omega))).2.1

theorem Seq.t (q : Seq sh cl gs s ft) (hcl : CallOK P cl) {j : Nat} (hj : j ≤ gs.length) : fold (Wtm gs s) (fun _ => true) (look (s 0).T) j = look (s j).T :=
  fold_all (f := fun i => look (s i).T) j fun i hi => by
    obtain ⟨_, _, _, v, hv⟩ := goper_seq hcl (q.at (i := i) (by omega))
    exact Wt_seq hv

theorem Seq.cover (q : Seq sh cl gs s ft) (hcl : CallOK P cl) : ∀ {j : Nat}, j ≤ gs.length → ∀ x, x < (s j).ng → x < (s 0).ng ∨ ∃ i, i < j ∧ (s i).ng ≤ x ∧ x < (s (i + 1)).ng := by
  intro j
  induction j with
  | zero => intro _ x hx; exact .inl hx
  | succ j ih =>
    intro hj x hx
    by_cases h : x < (s j).ng
    · rcases ih (by omega) x h with h | ⟨i, h1, h2⟩
      · exact .inl h
      · exact .inr ⟨i, by omega, h2⟩
    · exact .inr ⟨j, by omega, by omega, hx⟩

theorem put_getD {a : Act} {d : Option Nat} {r : Value} {m : Nat} (hd : ∀ k, d = some k → k < a.tmps.size) : (a.put d r).tmps.getD m Go.undef = if d = some m then r else a.tmps.getD m Go.undef := by
  cases d with
  | none => simp [Act.put]
  | some k =>
    simp only [Act.put, Option.some.injEq]
    by_cases h : k = m
    · subst h
      have := hd k rfl
      simp [Array.getD_eq_getD_getElem?, this]
    · simp [h, Array.getD_eq_getD_getElem?, Array.getElem?_setIfInBounds_ne h]

theorem put_size (a : Act) (d : Option Nat) (r : Value) : (a.put d r).tmps.size = a.tmps.size := by cases d <;> simp [Act.put]
theorem put_defers (a : Act) (d : Option Nat) (r : Value) : (a.put d r).defers = a.defers := by cases d <;> rfl

theorem inv_step (hTab : TabOK P tab) (hcl : CallOK P cl) (q : Seq sh cl gs s ft) {C0 : Ctx} {w0 : World} {S : Nat → Bool} {C : Ctx} {a : Act} {w : World} (I : Inv gs s ft N C0 w0 S C a w)
    {j : Nat} {g : GOper} (hg : gs[j]? = some g) {o : Oper} (hc : chkOper tab ops N o g = true) (hS : S j = false)
    (hA : ∀ i, i < gs.length → i ≠ j → (i < j → S i = false) → (j < i → S i = true) → apartG (gAt gs i) g = true ∧ (ft i).free (ft j))
    {K : Act → World → Prop} {Q : Exit → Act → World → Prop} (hK : ∀ C' a' w', Inv gs s ft N C0 w0 (addS S j) C' a' w' → K a' w') :
    if Region.wanted o (yielded ops a.tmps) then o.wp P a w K Q else K (a.put o.dst Go.undef) w := by
  have hj : j < gs.length := (List.getElem?_eq_some_iff.1 hg).1
  have hgj := gAt_of hg
  have hstep := q.step j g hg
  have hdN : ∀ k, g.dst = some k → k < a.tmps.size := fun k hk => by
    have hd : dstOK N o.dst g.dst = true := by simp only [chkOper, Bool.and_eq_true] at hc; exact hc.1.1
    rw [I.size]
    unfold dstOK at hd
    split at hd
    · rename_i h1 h2; rw [h2] at hk; cases hk
    · rename_i h1 h2
      simp only [Bool.and_eq_true, beq_iff_eq, decide_eq_true_eq] at hd
      rw [h2] at hk; cases hk
      rw [← hd.1]; exact hd.2
    · cases hd
  have hWh : ∀ i, i < gs.length → i ≠ j → (i < j → S i = false) → (j < i → S i = true) → (∀ rd wr, ft j = .touch rd wr → ∀ id, id ∈ rd ++ wr → Wh s ft i id = none) ∧ (ft j = .all → ft i = .inert) :=
    fun i h1 h2 h3 h4 => free_none (hA i h1 h2 h3 h4).2 _
  have hgm := fun (i : Nat) (hi : i < gs.length) => goper_seq hcl (q.at hi)
  refine goper_ok hTab hcl hc hstep I.sr I.heap (fun m hm => ?_) ?_ (fun x h1 h2 hu => ?_) (fun v C' r w' hT' S' E' hw' hh' hu' hv' hsame => ?_)
  · -- the slots that it looks at
    have := I.tr m
    rw [fold_agree (j := j) gs.length (by omega) (fun i h1 h2 => ?_) (fun i h1 h2 h3 => ?_), q.t hcl (by omega)] at this
    · exact this
    · have h := apartG_spec (hA i (by omega) (by omega) (fun _ => h2) (fun h => by omega)).1
      unfold Wtm Wt
      rw [if_neg fun hd => (h.1 m hd).1 hm]
    · have hne : i ≠ j := fun e => by rw [e, hS] at h3; cases h3
      have h := apartG_spec (hA i h2 hne (fun h => by omega) (fun _ => h3)).1
      unfold Wtm Wt
      rw [if_neg fun hd => (h.1 m hd).1 hm]
  · -- the memory that it touches
    have agree : ∀ id, (∀ i, i < gs.length → i ≠ j → (i < j → S i = false) → (j < i → S i = true) → Wh s ft i id = none) → C.h id = hp (s j).H id := fun id hno => by
      rw [I.h, fold_agree (j := j) gs.length (by omega) (fun i h1 h2 => hno i (by omega) (by omega) (fun _ => h2) (fun h => by omega)) (fun i h1 h2 h3 => hno i h2 (fun e => by rw [e, hS] at h3; cases h3) (fun h => by omega) (fun _ => h3)), q.h hcl (by omega)]
    cases hf : ft j with
    | inert => trivial
    | touch rd wr => exact fun id hid => agree id fun i h1 h2 h3 h4 => (hWh i h1 h2 h3 h4).1 rd wr hf id hid
    | all =>
      refine ⟨funext fun id => agree id fun i h1 h2 h3 h4 => ?_, ?_⟩
      · unfold Wh; rw [(hWh i h1 h2 h3 h4).2 hf]; rfl
      · rw [I.used]
        funext x
        apply propext
        have still : ∀ i, i < gs.length → i ≠ j → (i < j → S i = false) → (j < i → S i = true) → (s (i + 1)).ng = (s i).ng := fun i h1 h2 h3 h4 => (hgm i h1).2.2.1 ((hWh i h1 h2 h3 h4).2 hf)
        constructor
        · rintro (h | ⟨i, h1, h2, h3, h4⟩)
          · exact Nat.lt_of_lt_of_le h (q.mono hcl (Nat.zero_le _) (by omega))
          · by_cases hlt : i < j
            · exact Nat.lt_of_lt_of_le h4 (q.mono hcl hlt (by omega))
            · have hne : i ≠ j := fun e => by rw [e, hS] at h2; cases h2
              have := still i h1 hne (fun h => by omega) (fun _ => h2)
              omega
        · intro hx
          rcases q.cover hcl (j := j) (by omega) x hx with h | ⟨i, h1, h2, h3⟩
          · exact .inl h
          · cases hSi : S i with
            | true => exact .inr ⟨i, by omega, hSi, h2, h3⟩
            | false =>
              have := still i (by omega) (by omega) (fun _ => hSi) (fun h => by omega)
              omega
  · rw [I.used] at hu
    rcases hu with h | ⟨i, h3, h4, h5, h6⟩
    · have := q.mono hcl (Nat.zero_le j) (by omega); omega
    · have hne : i ≠ j := fun e => by rw [e, hS] at h4; cases h4
      by_cases hlt : i < j
      · have := q.mono hcl (i := i + 1) (k := j) hlt (by omega); omega
      · have := q.mono hcl (i := j + 1) (k := i) (by omega) (by omega); omega
  · refine hK C' (a.put g.dst r) w' ⟨S', hw', ?_, ?_, fun m => ?_, by rw [put_size, I.size], by rw [put_defers, I.defers], I.evo.trans E', I.same.trans hsame⟩
    · rw [hh', I.h]
      exact (fold_set (W := Wh s ft) (f0 := hp (s 0).H) hS gs.length hj fun i h1 h2 h3 id => free_disj (hA i h2 (by omega) (fun h => by omega) (fun _ => h3)).2 _ _ id).symm
    · rw [hu', I.used]
      funext x
      apply propext
      unfold usedF usedS addS
      constructor
      · rintro ((h | ⟨i, h1, h2, h3⟩) | h)
        · exact .inl h
        · exact .inr ⟨i, h1, by rw [h2]; simp, h3⟩
        · exact .inr ⟨j, hj, by simp, h⟩
      · rintro (h | ⟨i, h1, h2, h3⟩)
        · exact .inl (.inl h)
        · by_cases e : i = j
          · subst e; exact .inr h3
          · rw [beq_false_of_ne e] at h2
            exact .inl (.inr ⟨i, h1, by simpa using h2, h3⟩)
    · rw [fold_set hS gs.length hj (fun i h1 h2 h3 id => ?_)]
      · unfold ov Wtm Wt
        rw [hgj, put_getD hdN]
        by_cases hd : g.dst = some m
        · rw [if_pos hd, if_pos hd]
          have : look (s (j + 1)).T m = v := by rw [hT', hd]; simp [bindD, look]
          simpa [this] using hv'
        · rw [if_neg hd, if_neg hd]
          exact (I.tr m).mono I.sr E'
      · have h := apartG_spec (hA i h2 (by omega) (fun h => by omega) (fun _ => h3)).1
        unfold Wtm Wt
        rw [hgj]
        by_cases hd : (gAt gs i).dst = some id
        · right; rw [if_neg (h.1 id hd).2]
        · left; rw [if_neg hd]

theorem gops_seq : ∀ {gs : List GOper} {s0 s' : St} {fs : List Foot}, gops sh cl gs s0 = some (s', fs) → ∃ s : Nat → St, s 0 = s0 ∧ s gs.length = s' ∧ fs.length = gs.length ∧ Seq sh cl gs s (fun i => fs.getD i .inert)
  | [], s0, s', fs, h => by
    simp only [gops, Option.some.injEq, Prod.mk.injEq] at h
    obtain ⟨rfl, rfl⟩ := h
    exact ⟨fun _ => s0, rfl, rfl, rfl, ⟨fun i g hg => by simp at hg⟩⟩
  | g :: gs, s0, s', fs, h => by
    simp only [gops, Option.bind_eq_some_iff, Option.map_eq_some_iff, Prod.mk.injEq] at h
    obtain ⟨⟨s1, f1⟩, h1, ⟨s2, fs2⟩, h2, rfl, rfl⟩ := h
    obtain ⟨t, t0, t1, t2, t3⟩ := gops_seq h2
    refine ⟨fun i => match i with | 0 => s0 | i + 1 => t i, rfl, t1, by simp [t2], ⟨fun i g' hg => ?_⟩⟩
    cases i with
    | zero => simp at hg; subst hg; simpa [t0] using h1
    | succ i => simpa using t3.step i g' (by simpa using hg)

theorem clashes_spec : ∀ {un : List (Nat × Nat)} {fs : List Foot}, clashes fs un = false → ∀ i j, (i, j) ∈ un → ((fs.getD i .inert).free (fs.getD j .inert))
  | [], _, _, i, j, h => by cases h
  | (x, y) :: un, fs, hc, i, j, h => by
    simp only [clashes, Bool.or_eq_false_iff] at hc
    rcases List.mem_cons.1 h with h | h
    · cases h
      have h1 := hc.1
      split at h1
      · rename_i a b e1 e2
        simp only [List.getD_eq_getElem?_getD, e1, e2, Option.getD_some]
        exact clash_free h1
      · cases h1
    · exact clashes_spec hc.2 i j h

/-- Operations that touch no memory, whatever their operands. -/
def GOp.still : GOp → Bool
  | .mv _ | .nilck _ | .pick _ _ _ | .build _ _ | .bin _ _ _ _ | .un _ _ | .conv _ _ | .mkfn _ _ | .slice _ _ _ _ | .faddr _ _ | .field _ _ _ _ | .iaddr _ _ _ | .iaddrA _ _ _ _ | .index _ _ _ _ _ | .ext _ _ | .len _ | .mx _ | .mn _ => true
  | .bsl own _ _ _ _ => !own
  | _ => false

/-- Operations that write nothing. -/
def GOp.quiet : GOp → Bool
  | .load _ _ _ => true
  | _ => false

theorem still_inert {g : GOper} {s s' : St} {f : Foot} (hg : g.op.still = true) (h : goper sh cl g s = some (s', f)) : f = .inert := by
  unfold goper at h
  simp only [Option.bind_eq_some_iff] at h
  obtain ⟨wd, _, h⟩ := h
  cases wd with
  | false => simp only [Option.some.injEq, Prod.mk.injEq] at h; exact h.2.symm
  | true =>
    simp only at h
    obtain ⟨d, op, gd⟩ := g
    simp only at h hg
    cases op <;> simp only [GOp.still, Bool.false_eq_true, Bool.not_eq_true'] at hg <;> simp only [Option.map_eq_some_iff, Prod.mk.injEq] at h <;> obtain ⟨_, _, _, rfl⟩ := h <;> first | rfl | (subst hg; rfl)

theorem quiet_foot {g : GOper} {s s' : St} {f : Foot} (hg : g.op.quiet = true) (h : goper sh cl g s = some (s', f)) : f = .inert ∨ ∃ rd, f = .touch rd [] := by
  unfold goper at h
  simp only [Option.bind_eq_some_iff] at h
  obtain ⟨wd, _, h⟩ := h
  cases wd with
  | false => simp only [Option.some.injEq, Prod.mk.injEq] at h; exact .inl h.2.symm
  | true =>
    simp only at h
    obtain ⟨d, op, gd⟩ := g
    simp only at h hg
    cases op <;> simp only [GOp.quiet, Bool.false_eq_true] at hg
    simp only [Option.map_eq_some_iff, Prod.mk.injEq] at h
    obtain ⟨⟨v, u⟩, h1, _, rfl⟩ := h
    have hu : u = .no := by
      rcases gop_foot h1 with ⟨_, h⟩ | ⟨rd, h⟩
      · exact h
      · simp only [gop] at h1
        split at h1
        · simp only [Option.bind_eq_some_iff, Option.map_eq_some_iff, Prod.mk.injEq] at h1
          obtain ⟨_, _, _, _, _, _, _, rfl⟩ := h1; rfl
        · simp only [Option.map_eq_some_iff, Prod.mk.injEq] at h1
          obtain ⟨_, _, _, rfl⟩ := h1; rfl
        · cases h1
    subst hu
    rcases gop_foot h1 with ⟨h, _⟩ | ⟨rd, h⟩
    · rw [h]; exact .inl rfl
    · rw [h]; exact .inr ⟨rd, by simp [Foot.ext, wrOf, Up.heap]⟩

theorem quiet_free {g g' : GOper} {s s' t t' : St} {f f' : Foot} (hg : g.op.quiet = true) (hg' : g'.op.quiet = true) (h : goper sh cl g s = some (s', f)) (h' : goper sh cl g' t = some (t', f')) : f.free f' := by
  rcases quiet_foot hg h with rfl | ⟨r1, rfl⟩
  · exact .inl rfl
  · rcases quiet_foot hg' h' with rfl | ⟨r2, rfl⟩
    · exact .inr (.inl rfl)
    · exact .inr (.inr ⟨_, _, _, _, rfl, rfl, (fun x h => by cases h), (fun x h => by cases h)⟩)

end
end Gh
