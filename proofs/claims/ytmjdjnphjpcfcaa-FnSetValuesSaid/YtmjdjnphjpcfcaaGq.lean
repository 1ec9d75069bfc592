/- Regions: the static look, and the ghost's run of a region told of the machine's. -/
import Derived.Test.YtmjdjnphjpcfcaaGp
namespace Gh
set_option linter.unusedVariables false
set_option linter.unusedSimpArgs false
open Go

/-- The operations that come before, as bits. -/
def ancMask (acc : List Nat) : List Edge → Nat
  | [] => 0
  | e :: es => if Region.binds .any e then (2 ^ e.on ||| acc.getD e.on 0) ||| ancMask acc es else ancMask acc es

def ancGo : List Nat → List Oper → List Nat
  | acc, [] => acc
  | acc, o :: os => ancGo (acc ++ [ancMask acc o.after.toList]) os

/-- The edges lead to what stands before. -/
def backOK : Nat → List Oper → Bool
  | _, [] => true
  | i, o :: os => (o.after.toList.all fun e => !Region.binds .any e || decide (e.on < i)) && backOK (i + 1) os

def pairOK (un : List (Nat × Nat)) (m : Nat) (j : Nat) (g : GOper) : Nat → List GOper → Bool
  | _, [] => true
  | i, g' :: gs => if i < j then (m.testBit i || (apartG g' g && (g'.op.still || g.op.still || (g'.op.quiet && g.op.quiet) || un.contains (i, j)))) && pairOK un m j g (i + 1) gs else true

def pairsOK (un : List (Nat × Nat)) (all : List GOper) : Nat → List Nat → List GOper → Bool
  | _, _, [] => true
  | j, m :: ms, g :: gs => pairOK un m j g 0 all && pairsOK un all (j + 1) ms gs
  | _, [], _ :: _ => false

def opersOK (tab : Tab) (ops : Array Oper) (N : Nat) : List Oper → List GOper → Bool
  | [], [] => true
  | o :: os, g :: gs => chkOper tab ops N o g && opersOK tab ops N os gs
  | _, _ => false

def chkRegion (tab : Tab) (N : Nat) (ops : Array Oper) (draw : Bool) (gs : List GOper) (un : List (Nat × Nat)) : Bool :=
  opersOK tab ops N ops.toList gs && (!draw || (backOK 0 ops.toList && pairsOK un gs 0 (ancGo [] ops.toList) gs))

theorem opersOK_spec {tab : Tab} {ops : Array Oper} {N : Nat} : ∀ {os : List Oper} {gs : List GOper}, opersOK tab ops N os gs = true → os.length = gs.length ∧ ∀ (i : Nat) o g, os[i]? = some o → gs[i]? = some g → chkOper tab ops N o g = true
  | [], [], _ => ⟨rfl, fun i o g h => by simp at h⟩
  | o :: os, g :: gs, h => by
    simp only [opersOK, Bool.and_eq_true] at h
    obtain ⟨h1, h2⟩ := opersOK_spec h.2
    refine ⟨by simp [h1], fun i o' g' ho hg => ?_⟩
    cases i with
    | zero => simp at ho hg; subst ho; subst hg; exact h.1
    | succ i => exact h2 i o' g' (by simpa using ho) (by simpa using hg)
  | [], _ :: _, h => by simp [opersOK] at h
  | _ :: _, [], h => by simp [opersOK] at h

theorem backOK_spec : ∀ {os : List Oper} {k : Nat}, backOK k os = true → ∀ i o, os[i]? = some o → ∀ e, e ∈ o.after → Region.binds .any e = true → e.on < k + i
  | [], _, _, i, o, h, _, _, _ => by simp at h
  | x :: os, k, hb, i, o, h, e, he, hbe => by
    simp only [backOK, Bool.and_eq_true, List.all_eq_true] at hb
    cases i with
    | zero =>
      simp at h; subst h
      have := hb.1 e (Array.mem_toList_iff.2 he)
      simpa [hbe] using this
    | succ i =>
      have := backOK_spec hb.2 i o (by simpa using h) e he hbe
      omega

/-- What is done is closed under the edges. -/
def Closed (ops : List Oper) (S : Nat → Bool) : Prop := ∀ i o, ops[i]? = some o → S i = true → ∀ e, e ∈ o.after → Region.binds .any e = true → S e.on = true

theorem ancMask_spec {acc : List Nat} {S : Nat → Bool} (ha : ∀ i k, S i = true → (acc.getD i 0).testBit k = true → S k = true) : ∀ {es : List Edge}, (∀ e, e ∈ es → Region.binds .any e = true → S e.on = true) → ∀ k, (ancMask acc es).testBit k = true → S k = true
  | [], _, k, h => by simp [ancMask] at h
  | e :: es, he, k, h => by
    simp only [ancMask] at h
    split at h
    · rename_i hb
      simp only [Nat.testBit_or, Bool.or_eq_true] at h
      have hS := he e (by simp) hb
      rcases h with (h | h) | h
      · rw [Nat.testBit_two_pow] at h
        have : e.on = k := by simpa using h
        rw [← this]; exact hS
      · exact ha _ _ hS h
      · exact ancMask_spec ha (fun e' h' => he e' (by simp [h'])) k h
    · exact ancMask_spec ha (fun e' h' => he e' (by simp [h'])) k h

theorem ancGo_spec {S : Nat → Bool} : ∀ (os pre : List Oper) (acc : List Nat), acc.length = pre.length → Closed (pre ++ os) S →
    (∀ i o, pre[i]? = some o → (∀ e, e ∈ o.after → Region.binds .any e = true → S e.on = true) → ∀ k, (acc.getD i 0).testBit k = true → S k = true) →
    (ancGo acc os).length = (pre ++ os).length ∧ ∀ i o, (pre ++ os)[i]? = some o → (∀ e, e ∈ o.after → Region.binds .any e = true → S e.on = true) → ∀ k, ((ancGo acc os).getD i 0).testBit k = true → S k = true
  | [], pre, acc, hl, _, h => by simpa [ancGo, hl] using h
  | o :: os, pre, acc, hl, hcl, h => by
    have h1 := ancGo_spec os (pre ++ [o]) (acc ++ [ancMask acc o.after.toList]) (by simp [hl]) (by simpa using hcl) (fun i o' ho he k hk => by
      by_cases hi : i < pre.length
      · rw [List.getElem?_append_left hi] at ho
        rw [List.getD_eq_getElem?_getD, List.getElem?_append_left (by omega), ← List.getD_eq_getElem?_getD] at hk
        exact h i o' ho he k hk
      · have hieq : i = pre.length := by
          have := (List.getElem?_eq_some_iff.1 ho).1
          simp at this; omega
        subst hieq
        simp at ho
        subst ho
        rw [List.getD_eq_getElem?_getD, List.getElem?_append_right (by omega)] at hk
        simp [hl] at hk
        refine ancMask_spec (S := S) (fun i k hi hk => ?_) (fun e hm hb => he e (Array.mem_toList_iff.1 hm) hb) k hk
        by_cases hlt : i < pre.length
        · have hpi := List.getElem?_eq_getElem hlt
          refine h i _ hpi (hcl i _ (by rw [List.getElem?_append_left hlt]; exact hpi) hi) k hk
        · rw [List.getD_eq_getElem?_getD, List.getElem?_eq_none (by omega)] at hk
          simp at hk)
    simpa [ancGo] using h1

theorem anc_ok {ops : List Oper} {S : Nat → Bool} (hcl : Closed ops S) {i : Nat} {o : Oper} (ho : ops[i]? = some o) (he : ∀ e, e ∈ o.after → Region.binds .any e = true → S e.on = true) : ∀ k, ((ancGo [] ops).getD i 0).testBit k = true → S k = true :=
  (ancGo_spec ops [] [] rfl (by simpa using hcl) (fun i o h => by simp at h)).2 i o (by simpa using ho) he

theorem pairOK_spec {un : List (Nat × Nat)} {m j : Nat} {g : GOper} : ∀ {gs : List GOper} {k : Nat}, pairOK un m j g k gs = true → ∀ i g', gs[i]? = some g' → k + i < j → m.testBit (k + i) = true ∨ (apartG g' g = true ∧ (g'.op.still = true ∨ g.op.still = true ∨ (g'.op.quiet = true ∧ g.op.quiet = true) ∨ (k + i, j) ∈ un))
  | [], _, _, i, g', h, _ => by simp at h
  | x :: gs, k, hp, i, g', h, hlt => by
    simp only [pairOK] at hp
    rw [if_pos (by omega)] at hp
    simp only [Bool.and_eq_true, Bool.or_eq_true] at hp
    cases i with
    | zero =>
      simp at h; subst h
      rcases hp.1 with h1 | ⟨h1, h2⟩
      · exact .inl (by simpa using h1)
      · refine .inr ⟨h1, ?_⟩
        rcases h2 with ((h2 | h2) | h2) | h2
        · exact .inl h2
        · exact .inr (.inl h2)
        · exact .inr (.inr (.inl h2))
        · exact .inr (.inr (.inr (by simpa using h2)))
    | succ i =>
      have := pairOK_spec hp.2 i g' (by simpa using h) (by omega)
      rwa [show k + 1 + i = k + (i + 1) by omega] at this

theorem pairsOK_spec {un : List (Nat × Nat)} {all : List GOper} : ∀ {gs : List GOper} {ms : List Nat} {j0 : Nat}, pairsOK un all j0 ms gs = true → ∀ j g, gs[j]? = some g → ∀ i g', all[i]? = some g' → i < j0 + j → (ms.getD j 0).testBit i = true ∨ (apartG g' g = true ∧ (g'.op.still = true ∨ g.op.still = true ∨ (g'.op.quiet = true ∧ g.op.quiet = true) ∨ (i, j0 + j) ∈ un))
  | [], _, _, _, j, g, h, _, _, _, _ => by simp at h
  | x :: gs, [], _, hp, _, _, _, _, _, _, _ => by simp [pairsOK] at hp
  | x :: gs, m :: ms, j0, hp, j, g, h, i, g', hi, hlt => by
    simp only [pairsOK, Bool.and_eq_true] at hp
    cases j with
    | zero =>
      simp at h; subst h
      have := pairOK_spec hp.1 i g' hi (by omega)
      simpa using this
    | succ j =>
      have := pairsOK_spec hp.2 j g (by simpa using h) i g' hi (by omega)
      rw [show j0 + 1 + j = j0 + (j + 1) by omega] at this
      simpa using this

section
variable {P : Program} {tab : Tab} {cl : Callee} {sh : Nat → Bool} {ops : Array Oper} {N : Nat} {gs : List GOper} {s : Nat → St} {ft : Nat → Foot}

theorem Inv.init {C : Ctx} {a : Act} {w : World} (I : StR C (s 0) a w N) : Inv gs s ft N C w (fun _ => false) C a w where
  sr := I.sr
  heap := I.heap
  h := by
    have : ∀ m, fold (Wh s ft) (fun _ => false) (hp (s 0).H) m = hp (s 0).H := fun m => by induction m with | zero => rfl | succ m ih => simp [fold, ih]
    rw [this]; exact I.h
  used := by
    rw [I.used]; funext x; unfold usedS; apply propext; constructor
    · exact .inl
    · rintro (h | ⟨_, _, h, _⟩)
      · exact h
      · cases h
  tr := fun m => by
    have : ∀ k, fold (Wtm gs s) (fun _ => false) (look (s 0).T) k = look (s 0).T := fun k => by induction k with | zero => rfl | succ m ih => simp [fold, ih]
    rw [this]; exact I.tr m
  size := I.size
  defers := I.defers
  evo := .refl C
  same := .rfl' w

theorem Inv.final (hcl : CallOK P cl) (q : Seq sh cl gs s ft) {C0 C : Ctx} {w0 w : World} {a : Act} {S : Nat → Bool} (I : Inv gs s ft N C0 w0 S C a w) (hS : ∀ i, i < gs.length → S i = true) : StR C (s gs.length) a w N where
  sr := I.sr
  heap := I.heap
  h := by rw [I.h, fold_congr gs.length (S' := fun _ => true) hS]; exact q.h hcl (Nat.le_refl _)
  used := by
    rw [I.used]; funext x; unfold usedS; apply propext; constructor
    · rintro (h | ⟨i, h1, h2, h3, h4⟩)
      · exact Nat.lt_of_lt_of_le h (q.mono hcl (Nat.zero_le _) (Nat.le_refl _))
      · exact Nat.lt_of_lt_of_le h4 (q.mono hcl h1 (Nat.le_refl _))
    · intro h
      rcases q.cover hcl (Nat.le_refl _) x h with h | ⟨i, h1, h2⟩
      · exact .inl h
      · exact .inr ⟨i, h1, hS i h1, h2⟩
  tr := fun m => by
    have := I.tr m
    rw [fold_congr gs.length (S' := fun _ => true) hS, q.t hcl (Nat.le_refl _)] at this
    exact this
  size := I.size
  defers := I.defers

/-- A region in text order. -/
theorem seq_region (hTab : TabOK P tab) (hcl : CallOK P cl) (q : Seq sh cl gs s ft) (hlen : ops.size = gs.length) (hops : ∀ (i : Nat) o g, ops[i]? = some o → gs[i]? = some g → chkOper tab ops N o g = true) {C0 : Ctx} {w0 : World} {Q : Exit → Act → World → Prop}
    (hQ : ∀ C a w, StR C (s gs.length) a w N → Evo C0 C → Same w0 w → Q .normal a w) :
    ∀ (k j : Nat), j + k = gs.length → ∀ (C : Ctx) (a : Act) (w : World), Inv gs s ft N C0 w0 (fun i => decide (i < j)) C a w → wpOps P ops Q (List.range' j k) a w
  | 0, j, hk, C, a, w, I => by
    simp only [List.range'_zero, wpOps]
    exact hQ C a w (I.final hcl q fun i hi => by simp; omega) I.evo I.same
  | k + 1, j, hk, C, a, w, I => by
    have hj : j < gs.length := by omega
    have ho := Array.getElem?_eq_getElem (xs := ops) (i := j) (by omega)
    have hg := List.getElem?_eq_getElem hj
    rw [List.range'_succ]
    simp only [wpOps, ho]
    have hadd : addS (fun i => decide (i < j)) j = fun i => decide (i < j + 1) := by
      funext i; unfold addS; by_cases e : i = j
      · subst e; simp
      · rw [beq_false_of_ne e]; simp; omega
    have := inv_step (ops := ops) (Q := Q) (K := wpOps P ops Q (List.range' (j + 1) k)) hTab hcl q I hg (hops j _ _ ho hg) (by simp) (fun i h1 h2 h3 h4 => by
      by_cases hlt : i < j
      · have := h3 hlt; simp at this; omega
      · have := h4 (by omega); simp at this; omega) (fun C' a' w' I' => seq_region hTab hcl q hlen hops hQ k (j + 1) (by omega) C' a' w' (by rw [← hadd]; exact I'))
    split
    · rename_i hw; rw [if_pos hw] at this; exact .inl this
    · rename_i hw; rw [if_neg hw] at this; exact this

/-- A region in any order. -/
theorem any_region (hTab : TabOK P tab) (hcl : CallOK P cl) (q : Seq sh cl gs s ft) (hlen : ops.size = gs.length) (hops : ∀ (i : Nat) o g, ops[i]? = some o → gs[i]? = some g → chkOper tab ops N o g = true)
    (hback : backOK 0 ops.toList = true) {un : List (Nat × Nat)} (hpairs : pairsOK un gs 0 (ancGo [] ops.toList) gs = true) (hun : ∀ i j, (i, j) ∈ un → (ft i).free (ft j)) {C0 : Ctx} {w0 : World} {Q : Exit → Act → World → Prop}
    (hQ : ∀ C a w, StR C (s gs.length) a w N → Evo C0 C → Same w0 w → Q .normal a w) :
    ∀ (fuel : Nat) (listed : Array Bool), listed.size = ops.size → (List.range ops.size).countP (fun i => !listed.getD i true) ≤ fuel → Closed ops.toList (fun i => listed.getD i false) → ∀ (C : Ctx) (a : Act) (w : World), Inv gs s ft N C0 w0 (fun i => listed.getD i false) C a w →
      wpAny P .any ops Q fuel listed a w := by
  -- nothing ready: all is done
  have hdone : ∀ (listed : Array Bool), listed.size = ops.size → Region.ready .any ops listed = [] → ∀ i, i < gs.length → listed.getD i false = true := by
    intro listed hls hr i
    induction i using Nat.strongRecOn with
    | _ i ih =>
      intro hi
      cases hb : listed.getD i false with
      | true => rfl
      | false =>
        exfalso
        have hio := Array.getElem?_eq_getElem (xs := ops) (i := i) (by omega)
        have : i ∈ Region.ready .any ops listed := by
          rw [mem_ready]
          refine ⟨?_, _, hio, fun e he hbe => ih e.on ?_ ?_⟩
          · rw [Array.getD_eq_getD_getElem?, Array.getElem?_eq_getElem (by omega)] at hb ⊢
            simpa using hb
          · have := backOK_spec hback i _ (by simp) e he hbe; omega
          · have := backOK_spec hback i _ (by simp) e he hbe; omega
        rw [hr] at this
        cases this
  have hfin : ∀ (listed : Array Bool), listed.size = ops.size → ∀ (C : Ctx) (a : Act) (w : World), Inv gs s ft N C0 w0 (fun i => listed.getD i false) C a w → Region.ready .any ops listed = [] → Q .normal a w :=
    fun listed hls C a w I hr => hQ C a w (I.final hcl q (hdone listed hls hr)) I.evo I.same
  intro fuel
  induction fuel with
  | zero =>
    intro listed hls hcnt _ C a w I
    have hr : Region.ready .any ops listed = [] := by
      apply List.eq_nil_iff_forall_not_mem.2
      intro j hj
      rw [mem_ready] at hj
      obtain ⟨h1, o, h2, _⟩ := hj
      have h0 : (List.range ops.size).countP (fun i => !listed.getD i true) = 0 := by omega
      rw [List.countP_eq_zero] at h0
      have := h0 j (List.mem_range.2 (Array.getElem?_eq_some_iff.1 h2).1)
      rw [h1] at this
      simp at this
    exact ⟨hr, hfin listed hls C a w I hr⟩
  | succ fuel ih =>
    intro listed hls hcnt hclosed C a w I
    refine ⟨hfin listed hls C a w I, fun j hj => ?_⟩
    rw [mem_ready] at hj
    obtain ⟨h1, o, ho, hpre⟩ := hj
    have hjlt : j < ops.size := (Array.getElem?_eq_some_iff.1 ho).1
    have hg := List.getElem?_eq_getElem (l := gs) (i := j) (by omega)
    have hSj : listed.getD j false = false := by
      rw [Array.getD_eq_getD_getElem?, Array.getElem?_eq_getElem (by omega)] at h1 ⊢
      simpa using h1
    have hset : (fun i => (listed.setIfInBounds j true).getD i false) = addS (fun i => listed.getD i false) j := by
      funext i
      unfold addS
      by_cases e : i = j
      · subst e
        simp [Array.getD_eq_getD_getElem?, hls, hjlt]
      · rw [beq_false_of_ne e]
        simp [Array.getD_eq_getD_getElem?, Array.getElem?_setIfInBounds_ne (Ne.symm e)]
    have hanc : ∀ {S : Nat → Bool}, Closed ops.toList S → ∀ {i : Nat} {o : Oper}, ops[i]? = some o → (∀ e, e ∈ o.after → Region.binds .any e = true → S e.on = true) → ∀ k, ((ancGo [] ops.toList).getD i 0).testBit k = true → S k = true :=
      fun hc i o ho he => anc_ok hc (by simpa using ho) he
    have step := inv_step (ops := ops) (Q := Q) (K := wpAny P .any ops Q fuel (listed.setIfInBounds j true)) hTab hcl q I hg (hops j _ _ ho hg) hSj (fun i hi hne h3 h4 => by
      have hgi := List.getElem?_eq_getElem hi
      rw [gAt_of hgi]
      have fin : ∀ {x y : Nat} {gx gy : GOper}, gs[x]? = some gx → gs[y]? = some gy → (apartG gx gy = true ∧ (gx.op.still = true ∨ gy.op.still = true ∨ (gx.op.quiet = true ∧ gy.op.quiet = true) ∨ (x, y) ∈ un)) → apartG gx gy = true ∧ (ft x).free (ft y) := by
        rintro x y gx gy hx hy ⟨ha, hb⟩
        refine ⟨ha, ?_⟩
        rcases hb with hb | hb | ⟨hb1, hb2⟩ | hb
        · exact .inl (still_inert hb (q.step x gx hx))
        · exact .inr (.inl (still_inert hb (q.step y gy hy)))
        · exact quiet_free hb1 hb2 (q.step x gx hx) (q.step y gy hy)
        · exact hun x y hb
      by_cases hlt : i < j
      · have := pairsOK_spec hpairs j _ hg i _ hgi (by omega)
        rw [Nat.zero_add] at this
        rcases this with h | h
        · have := hanc hclosed ho hpre i h
          have h3' := h3 hlt
          rw [h3'] at this; cases this
        · exact fin hgi hg h
      · have := pairsOK_spec hpairs i _ hgi j _ hg (by omega)
        rw [Nat.zero_add] at this
        have hoi := Array.getElem?_eq_getElem (xs := ops) (i := i) (by omega)
        rcases this with h | h
        · have := hanc hclosed hoi (hclosed i _ (by simp) (h4 (by omega))) j h
          rw [hSj] at this; cases this
        · have := fin hg hgi h
          exact ⟨apartG_symm this.1, this.2.symm⟩) (fun C' a' w' I' => by
        refine ih (listed.setIfInBounds j true) (by simp [hls]) ?_ ?_ C' a' w' (by rw [hset]; exact I')
        · have hlt : (List.range ops.size).countP (fun i => !(listed.setIfInBounds j true).getD i true) < (List.range ops.size).countP (fun i => !listed.getD i true) := by
            have hsub : ∀ i, (!(listed.setIfInBounds j true).getD i true) = true → (!listed.getD i true) = true := by
              intro i hi
              by_cases e : i = j
              · subst e; rw [h1]; rfl
              · rwa [getD_set_ne true (Ne.symm e)] at hi
            have hj1 : (!listed.getD j true) = true := by rw [h1]; rfl
            have hj2 : (!(listed.setIfInBounds j true).getD j true) = false := by simp [Array.getD_eq_getD_getElem?, hls, hjlt]
            have gen : ∀ (l : List Nat), l.countP (fun i => !(listed.setIfInBounds j true).getD i true) ≤ l.countP (fun i => !listed.getD i true) ∧ (j ∈ l → l.countP (fun i => !(listed.setIfInBounds j true).getD i true) < l.countP (fun i => !listed.getD i true)) := by
              intro l
              induction l with
              | nil => exact ⟨Nat.le_refl _, fun h => by cases h⟩
              | cons x l ihl =>
                simp only [List.countP_cons]
                constructor
                · by_cases hx : (!(listed.setIfInBounds j true).getD x true) = true
                  · rw [if_pos hx, if_pos (hsub x hx)]; omega
                  · rw [if_neg hx]; split <;> omega
                · intro hm
                  rcases List.mem_cons.1 hm with rfl | hm
                  · rw [if_neg (by rw [hj2]; simp), if_pos hj1]; omega
                  · have := ihl.2 hm
                    by_cases hx : (!(listed.setIfInBounds j true).getD x true) = true
                    · rw [if_pos hx, if_pos (hsub x hx)]; omega
                    · rw [if_neg hx]; split <;> omega
            exact (gen _).2 (List.mem_range.2 hjlt)
          omega
        · intro i oi hoi hi e he hb
          rw [hset] at hi ⊢
          have hi' : (i == j || listed.getD i false) = true := hi
          show (e.on == j || listed.getD e.on false) = true
          simp only [Bool.or_eq_true] at hi' ⊢
          right
          rcases hi' with hi' | hi'
          · have : i = j := by simpa using hi'
            subst this
            have : oi = o := by
              have h2 : ops[i]? = some oi := by simpa using hoi
              rw [ho] at h2; cases h2; rfl
            subst this
            exact hpre e he hb
          · exact hclosed i oi hoi hi' e he hb)
    unfold wpOp
    simp only [ho]
    split
    · rename_i hw; rw [if_pos hw] at step; exact .inl step
    · rename_i hw; rw [if_neg hw] at step; exact step

theorem TR.mask {C : Ctx} {T : Tm} {a : Act} (h : TR C T a) (kp : Option (List Nat)) : TR C (maskT kp T) a := by
  cases kp with
  | none => exact h
  | some l =>
    intro n
    simp only [maskT]
    rw [look_keepT]
    split
    · exact h n
    · exact .undef _

theorem StR.mask {C : Ctx} {s : St} {a : Act} {w : World} (I : StR C s a w N) (kp : Option (List Nat)) : StR C ⟨maskT kp s.T, s.H, s.ng⟩ a w N :=
  ⟨I.sr, I.heap, I.h, I.used, I.tr.mask kp, I.size, I.defers⟩

theorem region_ok (hTab : TabOK P tab) (hcl : CallOK P cl) (hmix : P.follows .mixedOrders = true) {id : Nat} {draw : Bool} {un : List (Nat × Nat)} {kp : Option (List Nat)} (hc : chkRegion tab N ops draw gs un = true) {s0 s1 : St} (h : gregion sh cl gs un kp s0 = some s1)
    {C : Ctx} {a : Act} {w : World} (I : StR C s0 a w N) {Q : Exit → Act → World → Prop} (hQ : ∀ C' a' w', StR C' s1 a' w' N → Evo C C' → Same w w' → Q .normal a' w') : (Code.region id ops draw).wp P Q a w := by
  simp only [chkRegion, Bool.and_eq_true, Bool.or_eq_true, Bool.not_eq_true'] at hc
  obtain ⟨hc1, hc2⟩ := hc
  obtain ⟨hlen, hops⟩ := opersOK_spec hc1
  simp only [gregion, Option.bind_eq_some_iff] at h
  obtain ⟨⟨s', fs⟩, h1, h2⟩ := h
  have hcla : clashes fs un = false ∧ s1 = ⟨maskT kp s'.T, s'.H, s'.ng⟩ := by
    simp only at h2
    split at h2
    · cases h2
    · rename_i hcl; simp only [Option.some.injEq] at h2; exact ⟨by simpa using hcl, h2.symm⟩
  obtain ⟨hcla, rfl⟩ := hcla
  obtain ⟨t, t0, t1, _, q⟩ := gops_seq h1
  subst t0
  subst t1
  have hlen' : ops.size = gs.length := by simpa using hlen
  have hops' : ∀ (i : Nat) o g, ops[i]? = some o → gs[i]? = some g → chkOper tab ops N o g = true := fun i o g ho hg => hops i o g (by simpa using ho) hg
  cases draw with
  | false =>
    refine wp_region ?_
    rw [List.range_eq_range']
    exact seq_region hTab hcl q hlen' hops' (fun C' a' w' I' e o => hQ C' a' w' (I'.mask kp) e o) ops.size 0 (by omega) C a w (by
      have : (fun i => decide (i < 0)) = fun _ : Nat => false := by funext i; simp
      rw [this]
      exact Inv.init I)
  | true =>
    have hc2 := hc2.resolve_left (by simp)
    refine wp_region_any hmix ?_
    have I' : StR C (t 0) a { w with drawn := w.drawn + 1 } N := ⟨I.sr, I.heap, I.h, I.used, I.tr, I.size, I.defers⟩
    have hrep : (fun i => (Array.replicate ops.size false).getD i false) = fun _ : Nat => false := by
      funext i
      rw [Array.getD_eq_getD_getElem?, Array.getElem?_replicate]
      split <;> rfl
    refine any_region (w0 := { w with drawn := w.drawn + 1 }) hTab hcl q hlen' hops' hc2.1 hc2.2 (fun i j hij => clashes_spec hcla i j hij) (fun C' a' w' I'' e o => hQ C' a' w' (I''.mask kp) e ⟨o.1, o.2.1, o.2.2⟩) ops.size _ (by simp) ?_ ?_ C a _ (by rw [hrep]; exact Inv.init I')
    · have := List.countP_le_length (p := fun i => !(Array.replicate ops.size false).getD i true) (l := List.range ops.size)
      simpa using this
    · intro i o _ hi
      rw [hrep] at hi
      cases hi

end
end Gh
