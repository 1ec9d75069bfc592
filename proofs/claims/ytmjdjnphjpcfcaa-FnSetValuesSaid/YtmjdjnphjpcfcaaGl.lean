/- Calls: a call's answer, told in plain values. -/
import Derived.Test.YtmjdjnphjpcfcaaGk
namespace Gh
set_option linter.unusedVariables false
set_option linter.unusedSimpArgs false
open Go

theorem Same.rfl' (w : World) : Same w w := ⟨rfl, rfl, rfl⟩
theorem Same.trans {a b c : World} (x : Same a b) (y : Same b c) : Same a c := ⟨y.1.trans x.1, y.2.1.trans x.2.1, y.2.2.trans x.2.2⟩

/-- Every call that the ghost answers comes back so. -/
structure CallOK (P : Program) (cl : Callee) : Prop where
  fn : ∀ {f args H ng v H' ng'}, cl f args H ng = some (v, H', ng') → ∃ fn c, P.funcs[f]? = some fn ∧ (fn.name == "runtime.NumGoroutine") = false ∧ fn.body = some c
  mono : ∀ {f args H ng v H' ng'}, cl f args H ng = some (v, H', ng') → ng ≤ ng'
  run : ∀ f args H ng v H' ng', cl f args H ng = some (v, H', ng') → ∀ (C : Ctx) (w : World) (rargs : Array Value), SR C → w.heap = C.heap → C.h = hp H → (C.used = fun x => x < ng) →
    rargs.size = args.length → (∀ (i : Nat) x, args[i]? = some x → VR C x (rargs.getD i Go.undef)) →
    Calls P f rargs w fun e w' => ∃ r C', e = .returned r ∧ SR C' ∧ w'.heap = C'.heap ∧ C'.h = hp H' ∧ (C'.used = fun x => x < ng') ∧ Evo C C' ∧ VR C' v r ∧ Same w w'

def Foot.pre (C : Ctx) (H : List Blk) (ng : Nat) : Foot → Prop
  | .inert => True
  | .touch rd _ => ∀ id, id ∈ rd → C.h id = hp H id
  | .all => C.h = hp H ∧ C.used = fun x => x < ng

def Foot.post (C C' : Ctx) (H H' : List Blk) (ng ng' : Nat) : Foot → Prop
  | .all => C'.h = hp H' ∧ C'.used = fun x => x < ng'
  | _ => C'.h = pushF C.h H.length H' ∧ C'.used = usedF C.used ng ng'

theorem pureC_exp {h : Hp} {n0 : Nat} : ∀ {d : Nat} {v v' : V}, v.pureC = true → expC h n0 d v = some v' → v' = v := by
  intro d v v' hs he
  cases v <;> simp [V.pureC] at hs <;> cases d <;> simp [expC] at he <;> exact he.symm

theorem pureCs_get {l : List V} (hl : pureCs l = true) : ∀ (j : Nat) v, l[j]? = some v → v.pureC = true := by
  induction l with
  | nil => intro j v hj; simp at hj
  | cons a l ih =>
    intro j v hj
    simp only [pureCs, Bool.and_eq_true] at hl
    cases j with
    | zero => simp at hj; subst hj; exact hl.1
    | succ j => exact ih hl.2 j v (by simpa using hj)

theorem fars_get {l : List V} (hl : fars l = true) : ∀ (j : Nat) v, l[j]? = some v → v.far = true := by
  induction l with
  | nil => intro j v hj; simp at hj
  | cons a l ih =>
    intro j v hj
    simp only [fars, Bool.and_eq_true] at hl
    cases j with
    | zero => simp at hj; subst hj; exact hl.1
    | succ j => exact ih hl.2 j v (by simpa using hj)

theorem mapMV_same {f : V → Option V} : ∀ {l m : List V}, (∀ v ∈ l, ∀ v', f v = some v' → v' = v) → mapMV f l = some m → m = l
  | [], m, _, h => by simp [mapMV] at h; exact h
  | a :: l, m, hf, h => by
    simp only [mapMV, Option.bind_eq_some_iff, Option.map_eq_some_iff] at h
    obtain ⟨b, h1, bs, h2, rfl⟩ := h
    rw [hf a (by simp) b h1, mapMV_same (fun v hv => hf v (by simp [hv])) h2]

theorem expV_nagg {h : Hp} {n0 : Nat} {v v' : V} (he : expV h n0 v = some v') (hn : ∀ cs, v ≠ .agg cs) : expC h n0 expDepth v = some v' := by
  cases v <;> first | exact he | exact absurd rfl (hn _) | (simp [expV] at he)

theorem far_nagg {v : V} (h : v.far = true) (hn : ∀ cs, v ≠ .agg cs) : v.pureC = true := by
  cases v <;> first | exact h | exact absurd rfl (hn _)

theorem far_exp {h : Hp} {n0 : Nat} {v v' : V} (hf : v.far = true) (he : expV h n0 v = some v') : v' = v := by
  by_cases ha : ∃ cs, v = .agg cs
  · obtain ⟨cs, rfl⟩ := ha
    simp only [expV, Option.map_eq_some_iff] at he
    obtain ⟨m, h1, rfl⟩ := he
    rw [mapMV_same (fun v hv v' h => pureC_exp (by obtain ⟨i, hi⟩ := List.mem_iff_getElem?.1 hv; exact pureCs_get hf i v hi) h) h1]
  · have hn : ∀ cs, v ≠ .agg cs := fun cs e => ha ⟨cs, e⟩
    exact pureC_exp (far_nagg hf hn) (expV_nagg he hn)

theorem VR.farV {C K : Ctx} (hP : ∀ b, C.Pr b → K.Pr b ∧ ∀ o, cellAt K.heap b o = cellAt C.heap b o) {v : V} {r : Value} (h : VR C v r) (hv : v.far = true) : VR K v r := by
  by_cases ha : ∃ cs, v = .agg cs
  · obtain ⟨cs, rfl⟩ := ha
    cases h with
    | agg _ rs hs hv' => exact .agg cs rs hs fun i x hx => (hv' i x hx).far hP (pureCs_get hv i x hx)
  · exact h.far hP (far_nagg hv fun cs e => ha ⟨cs, e⟩)

theorem hget_congr {h h' : Hp} {id g : Nat} (e : h' id = h id) : hget h' id g = hget h id g := by unfold hget; rw [e]

theorem mapMV_congr {α β : Type} {f g : α → Option β} : ∀ {l : List α}, (∀ a ∈ l, f a = g a) → mapMV f l = mapMV g l
  | [], _ => rfl
  | a :: l, h => by
    simp only [mapMV]
    rw [h a (by simp), mapMV_congr (fun x hx => h x (by simp [hx]))]

theorem expC_congr {h h' : Hp} (n0 : Nat) : ∀ (d : Nat) (v : V), (∀ id, id ∈ idsC h d v → h' id = h id) → expC h' n0 d v = expC h n0 d v := by
  intro d
  induction d with
  | zero => intro v _; cases v <;> rfl
  | succ d ih =>
    intro v hv
    cases v <;> try rfl
    rename_i id g sz off len
    have h1 : h' id = h id := hv id (by simp [idsC])
    simp only [expC]
    split
    · rw [hget_congr h1]
      cases hb : hget h id g with
      | none => rfl
      | some b =>
        simp only [Option.bind_some]
        have : mapMV (mapMV (expC h' n0 d)) ((b.rows.drop off).take len) = mapMV (mapMV (expC h n0 d)) ((b.rows.drop off).take len) :=
          mapMV_congr fun r hr => mapMV_congr fun x hx => ih x fun i hi => hv i (by
            simp only [idsC, hb, List.mem_cons, List.mem_flatMap]
            exact .inr ⟨r, List.mem_of_mem_drop (List.mem_of_mem_take hr), x, hx, hi⟩)
        rw [this]
    · rfl

theorem expV_congr {h h' : Hp} (n0 : Nat) (v : V) (hv : ∀ id, id ∈ idsV h v → h' id = h id) : expV h' n0 v = expV h n0 v := by
  by_cases ha : ∃ cs, v = .agg cs
  · obtain ⟨cs, rfl⟩ := ha
    simp only [expV]
    rw [mapMV_congr fun x hx => expC_congr n0 _ x fun id hi => hv id (by simp only [idsV, List.mem_flatMap]; exact ⟨x, hx, hi⟩)]
  · cases v <;> first | exact absurd ⟨_, rfl⟩ ha | exact expC_congr n0 _ _ hv | rfl

theorem idsVs_sub {h : Hp} {l : List V} {v : V} (hv : v ∈ l) {id : Nat} (hi : id ∈ idsV h v) : id ∈ idsVs h l := by
  induction l with
  | nil => cases hv
  | cons a l ih =>
    simp only [idsVs, List.mem_append]
    rcases List.mem_cons.1 hv with rfl | h'
    · exact .inl hi
    · exact .inr (ih h')

theorem expV_ok {C K : Ctx} (S : SR C) (hK : K.heap = C.heap) (hfs : ∀ b, C.Pr b → K.Pr b) (hP : ∀ id b p tot, C.h id = some b → C.loc id = .at p tot → K.Pr p)
    {v v' : V} {r : Value} (h : expV C.h 0 v = some v') (hv : VR C v r) : VR K v' r := by
  have hc : ∀ (d : Nat) (v v' : V) (r : Value), expC C.h 0 d v = some v' → VR C v r → VR K v' r := fun d v v' r h1 h2 =>
    (expC_ok S 0 hK (fun rows r hv => hv.far (fun b hb => ⟨hfs b hb, fun o => by rw [hK]⟩) rfl) (fun id b p tot _ h1 h2 => hP id b p tot h1 h2) d v v' r h1 h2).1
  by_cases ha : ∃ cs, v = .agg cs
  · obtain ⟨cs, rfl⟩ := ha
    simp only [expV, Option.map_eq_some_iff] at h
    obtain ⟨m, h1, rfl⟩ := h
    obtain ⟨k1, k2⟩ := mapMV_get h1
    cases hv with
    | agg _ rs hs hv' =>
      refine .agg m rs (by rw [hs, k1]) fun i x hx => ?_
      obtain ⟨a, a1, a2⟩ := k2 i x hx
      exact hc _ a x _ a2 (hv' i a a1)
  · exact hc _ v v' r (expV_nagg h fun cs e => ha ⟨cs, e⟩) hv

theorem freshCs_get {h : Hp} {n0 : Nat} : ∀ {l : List V}, freshCs h n0 l = true → ∀ v ∈ l, freshC h n0 v = true
  | [], _, v, hv => by cases hv
  | a :: l, hl, v, hv => by
    simp only [freshCs, Bool.and_eq_true] at hl
    rcases List.mem_cons.1 hv with rfl | h'
    · exact hl.1
    · exact freshCs_get hl.2 v h'

theorem freshTs_get {h : Hp} {n0 : Nat} : ∀ {l : List V}, freshV.freshTs h n0 l = true → ∀ v ∈ l, goodV (fun v => freshC h n0 v = true) v
  | [], _, v, hv => by cases hv
  | a :: l, hl, v, hv => by
    have : goodV (fun v => freshC h n0 v = true) a ∧ freshV.freshTs h n0 l = true := by
      unfold freshV.freshTs at hl
      split at hl
      · cases ‹_ = []›
      · rename_i cs l' e
        simp only [List.cons.injEq] at e
        obtain ⟨rfl, rfl⟩ := e
        simp only [Bool.and_eq_true] at hl
        exact ⟨fun v hv => freshCs_get hl.1 v hv, hl.2⟩
      · rename_i v' l' hn e
        simp only [List.cons.injEq] at e
        obtain ⟨rfl, rfl⟩ := e
        simp only [Bool.and_eq_true] at hl
        refine ⟨?_, hl.2⟩
        unfold goodV
        split
        · exact absurd rfl (hn _)
        · exact hl.1
    rcases List.mem_cons.1 hv with rfl | h'
    · exact this.1
    · exact freshTs_get this.2 v h'

theorem freshV_get {h : Hp} {n0 : Nat} {v : V} (hv : freshV h n0 v = true) : goodR (fun v => freshC h n0 v = true) v := by
  cases v <;> first
    | (intro x hx; exact freshCs_get hv x hx)
    | (intro x hx; exact freshTs_get hv x hx)
    | exact hv

theorem good_true (G : V → Prop) (hG : ∀ v, G v) (v : V) : goodR G v := by
  have h1 : ∀ v, goodV G v := fun v => by unfold goodV; split <;> first | (intro x _; exact hG x) | exact hG _
  unfold goodR; split <;> first | (intro x _; exact h1 x) | exact h1 _

theorem good_imp {G G' : V → Prop} (hG : ∀ v, G v → G' v) {v : V} (h : goodR G v) : goodR G' v := by
  have h1 : ∀ v, goodV G v → goodV G' v := fun v h => by
    cases v <;> first | (intro x hx; exact hG x (h x hx)) | exact hG _ h
  by_cases ha : ∃ vs, v = .tup vs
  · obtain ⟨vs, rfl⟩ := ha
    intro x hx
    exact h1 x (h x hx)
  · have e : ∀ G, goodR G v = goodV G v := fun G => by cases v <;> first | rfl | exact absurd ⟨_, rfl⟩ ha
    rw [e] at h ⊢
    exact h1 _ h

theorem outC_same {h : Hp} {n0 : Nat} {st st' : St3} {v v' : V} (e : outC false h n0 st v = some (v', st')) : st' = st := by
  unfold outC at e
  split at e
  case h_1 =>
    split at e
    · simp only [Option.some.injEq, Prod.mk.injEq] at e; exact e.2.symm
    · simp only [Bool.false_eq_true, if_false, Option.map_eq_some_iff, Prod.mk.injEq] at e; obtain ⟨_, _, _, h⟩ := e; exact h.symm
  all_goals first
    | (simp only [Option.some.injEq, Prod.mk.injEq] at e; exact e.2.symm)
    | cases e

/-- Results handed on from a callee's context 'C1' to one of its caller's, 'K0'. -/
theorem hand_ok {own : Bool} {C1 B K0 : Ctx} (S : SR C1) (SK : SR K0) (E : Evo B K0) {n0 : Nat} {L0 : List Blk} {g0 : Nat} (hK : K0.heap = C1.heap)
    (hos : ∀ id g sz off len r, id < n0 → VR C1 (.os id g sz off len) r → VR K0 (.os id g sz off len) r)
    (hP : own = false → ∀ id b p tot, n0 ≤ id → C1.h id = some b → b.fz = false → C1.loc id = .at p tot → K0.Pr p)
    (hnm : own = true → ∀ id b p tot, n0 ≤ id → C1.h id = some b → b.fz = false → C1.loc id = .at p tot → (∀ i b' t', K0.h i = some b' → K0.loc i = .at p t' → False) ∧ ¬ K0.Pr p)
    (hown : ∀ id b p tot, n0 ≤ id → C1.h id = some b → b.fz = false → C1.loc id = .at p tot → B.heap.size ≤ p ∨ B.owns p)
    {v v' : V} {st' : St3} {r : Value} (e : outR own C1.h n0 (L0, [], g0) v = some (v', st'))
    (hG : (∀ b, C1.Pr b → K0.Pr b) ∨ goodR (fun v => freshC C1.h n0 v = true) v) (hfree : ∀ g, g0 ≤ g → g < st'.2.2 → ¬ K0.used g) (hv : VR C1 v r) :
    ∃ K', SR K' ∧ Evo B K' ∧ K'.heap = C1.heap ∧ K'.h = pushF K0.h L0.length st'.1 ∧ K'.used = usedF K0.used g0 st'.2.2 ∧ VR K' v' r := by
  cases own with
  | false =>
    have hst : st' = (L0, [], g0) ∧ ∃ K', (st' = (L0, [], g0) ∧ K' = K0) ∧ Evm K0 K' ∧ VR K' v' r := by
      rcases hG with h | h
      · obtain ⟨K', h1, h2, h3⟩ := outR_ok (step_exp S n0 st'.2.2 (L0, [], g0) hK hos (hP rfl) (fun _ => True) (.inl h)) (fun st K h => by rw [h.2]; exact ⟨SK, hK⟩) ⟨rfl, rfl⟩ e (good_true _ (fun _ => trivial) v) hv (Nat.le_refl _)
        exact ⟨h1.1, K', h1, h2, h3⟩
      · obtain ⟨K', h1, h2, h3⟩ := outR_ok (step_exp S n0 st'.2.2 (L0, [], g0) hK hos (hP rfl) (fun v => freshC C1.h n0 v = true) (.inr fun _ h => h)) (fun st K h => by rw [h.2]; exact ⟨SK, hK⟩) ⟨rfl, rfl⟩ e h hv (Nat.le_refl _)
        exact ⟨h1.1, K', h1, h2, h3⟩
    obtain ⟨rfl, K', ⟨_, rfl⟩, _, h3⟩ := hst
    exact ⟨K', SK, E, hK, by rw [pushF_none], by rw [usedF_none], h3⟩
  | true =>
    have I0 : OutI C1 B n0 K0.h K0.used L0.length g0 (∀ b, C1.Pr b → K0.Pr b) (L0, [], g0) K0 :=
      ⟨SK, E, hK, by rw [pushF_none], by rw [usedF_none], Nat.le_refl _, Nat.le_refl _, fun id b p tot h1 h2 h3 h4 _ => hnm rfl id b p tot h1 h2 h3 h4, hos,
        fun h rows r hv => hv.far (fun b hb => ⟨h b hb, fun o => by rw [hK]⟩) rfl⟩
    obtain ⟨K', I, _, h3⟩ := outR_ok (step_own (gend := st'.2.2) S hfree hown (∀ b, C1.Pr b → K0.Pr b)) (fun st K h => ⟨h.sr, h.heap⟩) I0 e
      (hG.elim (fun h => good_true _ (fun _ => .inl h) v) (fun h => good_imp (fun _ h => .inr h) h)) hv (Nat.le_refl _)
    exact ⟨K', I.sr, I.evo, I.heap, I.h, I.used, h3⟩

/-- A callee that sees its arguments alone. -/
theorem pure_in {C : Ctx} {A : Nat → Prop} (hA : ∀ b, A b → b < C.heap.size) : SR ⟨C.heap, A, fun _ => none, C.loc, fun x => x < 0⟩ :=
  ⟨hA, fun id b h => (by cases h), fun id b h => (by cases h), fun id b h => (by cases h), fun id id' b b' p t t' h => (by cases h)⟩

theorem hp_nil : hp [] = fun _ => none := by funext id; simp [hp]

/-- A pure call, its arguments told. 'X': what the caller holds when its results come. -/
theorem pure_ok {P : Program} {cl : Callee} (hcl : CallOK P cl) {C X : Ctx} (S : SR C) (SX : SR X) (hX : X.heap = C.heap) {A : Nat → Prop} (hA : ∀ b, A b → b < C.heap.size) {w : World} (hw : w.heap = C.heap)
    {own : Bool} {f : Nat} {as : List V} {v1 : V} {H1 : List Blk} {ng1 : Nat} (h : cl f as [] 0 = some (v1, H1, ng1)) {L0 : List Blk} {g0 : Nat} {v' : V} {st' : St3} (e : outR own (hp H1) 0 (L0, [], g0) v1 = some (v', st'))
    {rargs : Array Value} (hs : rargs.size = as.length) (hv : ∀ (i : Nat) x, as[i]? = some x → VR ⟨C.heap, A, fun _ => none, C.loc, fun x => x < 0⟩ x (rargs.getD i Go.undef))
    (hG : (∀ b, A b → X.Pr b) ∨ freshV (hp H1) 0 v1 = true) (hfree : ∀ g, g0 ≤ g → g < st'.2.2 → ¬ X.used g) :
    Calls P f rargs w fun e w' => ∃ r K', e = .returned r ∧ SR K' ∧ Evo X K' ∧ w'.heap = K'.heap ∧ K'.h = pushF X.h L0.length st'.1 ∧ K'.used = usedF X.used g0 st'.2.2 ∧ VR K' v' r ∧ Same w w' := by
  refine Calls.mono (hcl.run f as [] 0 v1 H1 ng1 h _ w rargs (pure_in hA) hw hp_nil.symm rfl hs hv) fun e' w' hh => ?_
  obtain ⟨r, C1, he, S1, hw1, hh1, hu1, E1, hv1, hsame⟩ := hh
  have hold : ∀ k, k < C.heap.size → C1.heap[k]? = C.heap[k]? := fun k hk => E1.old k hk (by rintro ⟨_, _, _, h, _⟩; cases h)
  have hsize : C.heap.size ≤ C1.heap.size := E1.size
  have hown : ∀ p, C1.owns p → C.heap.size ≤ p := fun p hp => (E1.own p hp).elim id (by rintro ⟨_, _, _, h, _⟩; cases h)
  obtain ⟨SK, EK⟩ := SX.grow (heap' := C1.heap) (fun b => C.heap.size ≤ b ∧ b < C1.heap.size ∧ (C1.Pr b ∨ (own = false ∧ C1.owns b))) (by rw [hX]; exact hsize) (fun k hk => by rw [hX]; exact hold k (by rw [← hX]; exact hk)) (fun q hq => ⟨by rw [hX]; exact hq.1, hq.2.1⟩)
  rw [← hh1] at e hG
  obtain ⟨K', k1, k2, k3, k4, k5, k6⟩ := hand_ok (own := own) (B := X) S1 SK EK (n0 := 0) rfl (fun id _ _ _ _ _ h => absurd h (Nat.not_lt_zero _))
    (fun ho id b p tot _ h2 h3 h4 => .inr ⟨hown p ⟨id, b, tot, h2, h3, h4⟩, (S1.owned ⟨id, b, tot, h2, h3, h4⟩).2, .inr ⟨ho, id, b, tot, h2, h3, h4⟩⟩)
    (fun ho id b p tot _ h2 h3 h4 => by
      have hge := hown p ⟨id, b, tot, h2, h3, h4⟩
      have hnp := (S1.owned ⟨id, b, tot, h2, h3, h4⟩).1
      refine ⟨fun i b' t' hi hl => ?_, fun hk => ?_⟩
      · have h5 := SX.blk i b' hi
        unfold BlkR at h5
        have hl' : X.loc i = .at p t' := hl
        rw [hl'] at h5
        obtain ⟨_, _, cs, t, h6, _⟩ := h5
        have := (Array.getElem?_eq_some_iff.1 h6).1
        rw [hX] at this
        omega
      · rcases hk with hk | ⟨_, _, hk⟩
        · have := SX.pr p hk
          rw [hX] at this
          omega
        · rcases hk with hk | hk
          · exact hnp hk
          · rw [hk.1] at ho; cases ho)
    (fun id b p tot _ h2 h3 h4 => .inl (by rw [hX]; exact hown p ⟨id, b, tot, h2, h3, h4⟩)) e
    (hG.elim (fun h => .inl fun b hb => by
      rcases E1.prnew b hb with h1 | h1 | ⟨_, _, _, h1, _⟩
      · exact .inl (h b h1)
      · exact .inr ⟨h1, S1.pr b hb, .inl hb⟩
      · cases h1) (fun h => .inr (freshV_get h))) hfree hv1
  exact ⟨r, K', he, k1, k2, by rw [hw1, k3], k4, k5, k6, hsame⟩

theorem take_hp (H : List Blk) (n : Nat) : (fun id => if id < n then hp H id else none) = hp (H.take n) := by
  funext id
  unfold hp
  rw [List.getElem?_take]

theorem gcall_ok {P : Program} {cl : Callee} (hcl : CallOK P cl) {C : Ctx} (S : SR C) {w : World} (hw : w.heap = C.heap) {sh : Nat → Bool} {own : Bool} {f : Nat} {args : List V} {H H' : List Blk} {ng ng' : Nat} {v : V} {ft : Foot}
    (h : gcall sh cl own f args H ng = some (v, H', ng', ft)) {rargs : Array Value} (hs : rargs.size = args.length) (hv : ∀ (i : Nat) x, args[i]? = some x → VR C x (rargs.getD i Go.undef))
    (hpre : ft.pre C H ng) (hfree : ∀ g, ng ≤ g → g < ng' → ¬ C.used g) :
    Calls P f rargs w fun e w' => ∃ r C', e = .returned r ∧ SR C' ∧ Evo C C' ∧ w'.heap = C'.heap ∧ ft.post C C' H H' ng ng' ∧ VR C' v r ∧ Same w w' := by
  unfold gcall at h
  split at h
  · -- it shares the ghost heap
    simp only [Option.bind_eq_some_iff, Option.map_eq_some_iff, Prod.mk.injEq] at h
    obtain ⟨⟨v1, H1, ng1⟩, h1, ⟨v2, H2, ids2, ng2⟩, h2, rfl, rfl, rfl, rfl⟩ := h
    simp only at h2 hfree
    obtain ⟨hp1, hp2⟩ := hpre
    refine Calls.mono (hcl.run f args H ng v1 H1 ng1 h1 C w rargs S hw hp1 hp2 hs hv) fun e w' hh => ?_
    obtain ⟨r, C1, he, S1, hw1, hh1, hu1, E1, hv1, hsame⟩ := hh
    obtain ⟨SK, EK⟩ := S1.drop H.length (fun p => own = false ∧ ∃ id b tot, H.length ≤ id ∧ C1.h id = some b ∧ C1.loc id = .at p tot) (fun p hp => hp.2)
    rw [← hh1] at h2
    have mo := outR_mono h2
    obtain ⟨K', k1, k2, k3, k4, k5, k6⟩ := hand_ok (own := own) (B := C1) S1 SK EK (n0 := H.length) rfl (fun id g sz off len r _ h => h.mono S1 EK)
      (fun ho id b p tot h1 h2 h3 h4 => .inr ⟨ho, id, b, tot, h1, h2, h4⟩)
      (fun ho id b p tot h1 h2 h3 h4 => by
        refine ⟨fun i b' t' hi hl => ?_, fun hk => ?_⟩
        · simp only at hi hl
          split at hi
          · have := S1.inj id i b b' p tot t' h2 hi h4 hl h3
            omega
          · cases hi
        · rcases hk with hk | hk
          · exact (S1.owned ⟨id, b, tot, h2, h3, h4⟩).1 hk
          · rw [hk.1] at ho; cases ho)
      (fun id b p tot _ h2 h3 h4 => .inr ⟨id, b, tot, h2, h3, h4⟩) h2 (.inl fun b hb => .inl hb) (fun g hg1 _ hg => by
        have hg' : C1.used g := hg
        rw [hu1] at hg'
        have : g < ng1 := hg'
        omega) hv1
    refine ⟨r, K', he, k1, E1.trans k2, by rw [hw1, k3], ⟨?_, ?_⟩, k6, hsame⟩
    · rw [k4]
      simp only
      rw [hh1, take_hp]
      exact pushF_hp _ _ mo.2.1 mo.2.2
    · rw [k5]
      simp only
      rw [hu1]
      exact usedF_lt _ _ mo.1
  · simp only [Option.bind_eq_some_iff] at h
    obtain ⟨as, has, ⟨v1, H1, ng1⟩, h1, h⟩ := h
    obtain ⟨a1, a2⟩ := mapMV_get has
    split at h
    · -- nothing of the ghost heap is seen
      rename_i hfar
      simp only [Option.map_eq_some_iff, Prod.mk.injEq] at h
      obtain ⟨⟨v2, H2, ids2, ng2⟩, h2, rfl, rfl, rfl, rfl⟩ := h
      simp only at h2 hfree hpre ⊢
      refine Calls.mono (pure_ok hcl S S rfl (A := C.Pr) S.pr hw h1 h2 (by rw [hs, a1]) (fun i x hx => ?_) (.inl fun _ h => h) hfree) fun e w' hh => ?_
      · obtain ⟨a, b1, b2⟩ := a2 i x hx
        rw [far_exp (fars_get hfar i a b1) b2]
        exact (hv i a b1).farV (C := C) (K := ⟨C.heap, C.Pr, fun _ => none, C.loc, fun x => x < 0⟩) (fun b hb => ⟨hb, fun _ => rfl⟩) (fars_get hfar i a b1)
      · obtain ⟨r, K', he, k1, k2, k3, k4, k5, k6, k7⟩ := hh
        refine ⟨r, K', he, k1, k2, k3, ?_, k6, k7⟩
        split <;> exact ⟨k4, k5⟩
    · have hlt : ∀ i bi q tq, C.h i = some bi → C.loc i = .at q tq → q < C.heap.size := by
        intro i bi q tq h1 h2
        have h3 := S.blk i bi h1
        unfold BlkR at h3
        rw [h2] at h3
        obtain ⟨_, _, cs, t, h6, _⟩ := h3
        exact (Array.getElem?_eq_some_iff.1 h6).1
      have hA : ∀ b, (C.Pr b ∨ ∃ i bi tot, True ∧ C.h i = some bi ∧ C.loc i = .at b tot) → b < C.heap.size := by
        rintro b (hb | ⟨i, bi, tot, _, h1, h2⟩)
        · exact S.pr b hb
        · exact hlt i bi b tot h1 h2
      split at h
      · -- its results are all its own
        rename_i hfr
        simp only [Option.map_eq_some_iff, Prod.mk.injEq] at h
        obtain ⟨⟨v2, H2, ids2, ng2⟩, h2, rfl, rfl, rfl, rfl⟩ := h
        simp only at h2 hfree hpre ⊢
        refine Calls.mono (pure_ok hcl S S rfl (A := fun b => C.Pr b ∨ ∃ i bi tot, True ∧ C.h i = some bi ∧ C.loc i = .at b tot) hA hw h1 h2 (by rw [hs, a1]) (fun i x hx => ?_) (.inr hfr) hfree) fun e w' hh => ?_
        · obtain ⟨a, b1, b2⟩ := a2 i x hx
          rw [← expV_congr 0 a (fun id hi => hpre id (idsVs_sub (List.mem_of_getElem? b1) hi))] at b2
          exact expV_ok S (K := ⟨C.heap, _, fun _ => none, C.loc, fun x => x < 0⟩) rfl (fun b hb => .inl hb) (fun id b p tot q1 q2 => .inr ⟨id, b, tot, trivial, q1, q2⟩) b2 (hv i a b1)
        · obtain ⟨r, K', he, k1, k2, k3, k4, k5, k6, k7⟩ := hh
          exact ⟨r, K', he, k1, k2, k3, ⟨k4, k5⟩, k6, k7⟩
      · simp only [Option.map_eq_some_iff, Prod.mk.injEq] at h
        obtain ⟨⟨v2, H2, ids2, ng2⟩, h2, rfl, rfl, rfl, rfl⟩ := h
        simp only at h2 hfree
        obtain ⟨hp1, hp2⟩ := hpre
        have mo := outR_mono h2
        have hlen : (frzAll H).length = H.length := by simp [frzAll]
        obtain ⟨SX, EX⟩ := S.freeze (fun _ => True) (h' := hp (frzAll H)) (fun i => ⟨fun h => absurd trivial h, fun _ => by rw [hp1]; simp [hp, frzAll]⟩)
        refine Calls.mono (pure_ok hcl S SX rfl (A := fun b => C.Pr b ∨ ∃ i bi tot, True ∧ C.h i = some bi ∧ C.loc i = .at b tot) hA hw h1 h2 (by rw [hs, a1]) (fun i x hx => ?_) (.inl fun _ h => h) hfree) fun e w' hh => ?_
        · obtain ⟨a, b1, b2⟩ := a2 i x hx
          rw [← hp1] at b2
          exact expV_ok S (K := ⟨C.heap, _, fun _ => none, C.loc, fun x => x < 0⟩) rfl (fun b hb => .inl hb) (fun id b p tot q1 q2 => .inr ⟨id, b, tot, trivial, q1, q2⟩) b2 (hv i a b1)
        · obtain ⟨r, K', he, k1, k2, k3, k4, k5, k6, k7⟩ := hh
          refine ⟨r, K', he, k1, EX.trans k2, k3, ⟨?_, ?_⟩, k6, k7⟩
          · rw [k4]
            simp only
            exact pushF_hp _ _ mo.2.1 mo.2.2
          · rw [k5]
            simp only
            rw [hp2]
            exact usedF_lt _ _ mo.1

/-- What a call leaves of its caller's blocks. -/
theorem gcall_mono {P : Program} {cl : Callee} (hcl : CallOK P cl) {sh : Nat → Bool} {own : Bool} {f : Nat} {args : List V} {H H' : List Blk} {ng ng' : Nat} {v : V} {ft : Foot}
    (h : gcall sh cl own f args H ng = some (v, H', ng', ft)) : ng ≤ ng' ∧ (ft = .all ∨ (H.length ≤ H'.length ∧ (∀ i, i < H.length → H'[i]? = H[i]?) ∧ ((ft = .inert ∧ H'.length = H.length ∧ ng' = ng) ∨ ∃ rd, ft = .touch rd []))) ∧
    ∃ fn c, P.funcs[f]? = some fn ∧ (fn.name == "runtime.NumGoroutine") = false ∧ fn.body = some c := by
  unfold gcall at h
  split at h
  · simp only [Option.bind_eq_some_iff, Option.map_eq_some_iff, Prod.mk.injEq] at h
    obtain ⟨⟨v1, H1, ng1⟩, h1, ⟨v2, H2, ids2, ng2⟩, h2, rfl, rfl, rfl, rfl⟩ := h
    have m1 := hcl.mono h1
    have m2 := (outR_mono h2).1
    simp only at m2 ⊢
    exact ⟨Nat.le_trans m1 m2, .inl trivial, hcl.fn h1⟩
  · simp only [Option.bind_eq_some_iff] at h
    obtain ⟨as, has, ⟨v1, H1, ng1⟩, h1, h⟩ := h
    split at h
    · simp only [Option.map_eq_some_iff, Prod.mk.injEq] at h
      obtain ⟨⟨v2, H2, ids2, ng2⟩, h2, rfl, rfl, rfl, rfl⟩ := h
      have m2 := outR_mono h2
      simp only at m2 ⊢
      refine ⟨m2.1, .inr ⟨m2.2.1, m2.2.2, ?_⟩, hcl.fn h1⟩
      split
      · rename_i hh; exact .inl ⟨rfl, hh⟩
      · exact .inr ⟨_, rfl⟩
    · split at h
      · simp only [Option.map_eq_some_iff, Prod.mk.injEq] at h
        obtain ⟨⟨v2, H2, ids2, ng2⟩, h2, rfl, rfl, rfl, rfl⟩ := h
        have m2 := outR_mono h2
        simp only at m2 ⊢
        exact ⟨m2.1, .inr ⟨m2.2.1, m2.2.2, .inr ⟨_, rfl⟩⟩, hcl.fn h1⟩
      · simp only [Option.map_eq_some_iff, Prod.mk.injEq] at h
        obtain ⟨⟨v2, H2, ids2, ng2⟩, h2, rfl, rfl, rfl, rfl⟩ := h
        have m2 := outR_mono h2
        simp only at m2 ⊢
        exact ⟨m2.1, .inl trivial, hcl.fn h1⟩

end Gh
