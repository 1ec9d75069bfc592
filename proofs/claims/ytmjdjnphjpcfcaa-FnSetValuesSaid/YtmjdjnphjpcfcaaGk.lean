/- Calls: a result handed to the caller. -/
import Derived.Test.YtmjdjnphjpcfcaaGj
namespace Gh
set_option linter.unusedVariables false
set_option linter.unusedSimpArgs false
open Go

/-- Blocks pushed behind the first 'm' ones. -/
def pushF (hb : Hp) (m : Nat) (L : List Blk) : Hp := fun id => if m ≤ id ∧ id < L.length then L[id]? else hb id

theorem pushF_none (hb : Hp) (L : List Blk) : pushF hb L.length L = hb := by
  funext id; unfold pushF; rw [if_neg (by omega)]

theorem pushF_snoc (hb : Hp) (m : Nat) (L : List Blk) (b : Blk) (h : m ≤ L.length) : pushF hb m (L ++ [b]) = upd (pushF hb m L) L.length b := by
  funext id
  unfold pushF upd
  simp only [List.length_append, List.length_singleton]
  by_cases h1 : id = L.length
  · subst h1; rw [if_pos (by omega), if_pos rfl]; simp
  · rw [if_neg h1]
    by_cases h2 : m ≤ id ∧ id < L.length
    · rw [if_pos (by omega), if_pos h2, List.getElem?_append_left h2.2]
    · rw [if_neg (by omega), if_neg h2]

theorem pushF_hp (L0 L : List Blk) (h : L0.length ≤ L.length) (hp0 : ∀ i, i < L0.length → L[i]? = L0[i]?) : pushF (hp L0) L0.length L = hp L := by
  funext id
  unfold pushF hp
  by_cases h1 : L0.length ≤ id ∧ id < L.length
  · rw [if_pos h1]
  · rw [if_neg h1]
    by_cases h2 : id < L0.length
    · exact (hp0 id h2).symm
    · rw [List.getElem?_eq_none (by omega), List.getElem?_eq_none (by omega)]

def usedF (ub : Nat → Prop) (g0 g : Nat) : Nat → Prop := fun x => ub x ∨ (g0 ≤ x ∧ x < g)

theorem usedF_none (ub : Nat → Prop) (g : Nat) : usedF ub g g = ub := by
  funext x; unfold usedF; apply propext; constructor
  · rintro (h | h)
    · exact h
    · omega
  · exact .inl

theorem usedF_snoc (ub : Nat → Prop) (g0 g : Nat) (h : g0 ≤ g) : usedF ub g0 (g + 1) = addU (usedF ub g0 g) g := by
  funext x; unfold usedF addU; apply propext; constructor
  · rintro (h | h)
    · exact .inl (.inl h)
    · by_cases e : x = g
      · exact .inr e
      · exact .inl (.inr (by omega))
  · rintro ((h | h) | h)
    · exact .inl h
    · exact .inr (by omega)
    · exact .inr (by omega)

theorem usedF_lt (g0 g : Nat) (h : g0 ≤ g) : usedF (fun x => x < g0) g0 g = fun x => x < g := by
  funext x; unfold usedF; apply propext; constructor
  · rintro (h | h) <;> omega
  · intro h; by_cases e : x < g0
    · exact .inl e
    · exact .inr (by omega)

abbrev St3 := List Blk × List Nat × Nat

theorem outC_mono {own : Bool} {h : Hp} {n0 : Nat} {st st' : St3} {v v' : V} (e : outC own h n0 st v = some (v', st')) : st.2.2 ≤ st'.2.2 ∧ st.1.length ≤ st'.1.length ∧ ∀ i, i < st.1.length → st'.1[i]? = st.1[i]? := by
  unfold outC at e
  split at e
  case h_1 =>
    split at e
    · simp only [Option.some.injEq, Prod.mk.injEq] at e; obtain ⟨_, rfl⟩ := e; exact ⟨Nat.le_refl _, Nat.le_refl _, fun _ _ => rfl⟩
    · split at e
      · simp only [Option.bind_eq_some_iff, Option.ite_none_right_eq_some, Option.some.injEq, Prod.mk.injEq] at e
        obtain ⟨b, _, _, _, rfl⟩ := e
        exact ⟨Nat.le_succ _, by simp, fun i hi => by simp [List.getElem?_append_left hi]⟩
      · simp only [Option.map_eq_some_iff, Prod.mk.injEq] at e; obtain ⟨_, _, _, rfl⟩ := e; exact ⟨Nat.le_refl _, Nat.le_refl _, fun _ _ => rfl⟩
  all_goals first
    | (simp only [Option.some.injEq, Prod.mk.injEq] at e; obtain ⟨_, rfl⟩ := e; exact ⟨Nat.le_refl _, Nat.le_refl _, fun _ _ => rfl⟩)
    | cases e

theorem mono_trans {a b c : St3} (h1 : a.2.2 ≤ b.2.2 ∧ a.1.length ≤ b.1.length ∧ ∀ i, i < a.1.length → b.1[i]? = a.1[i]?) (h2 : b.2.2 ≤ c.2.2 ∧ b.1.length ≤ c.1.length ∧ ∀ i, i < b.1.length → c.1[i]? = b.1[i]?) :
    a.2.2 ≤ c.2.2 ∧ a.1.length ≤ c.1.length ∧ ∀ i, i < a.1.length → c.1[i]? = a.1[i]? :=
  ⟨by omega, by omega, fun i hi => (h2.2.2 i (by omega)).trans (h1.2.2 i hi)⟩

theorem outCs_mono {own : Bool} {h : Hp} {n0 : Nat} : ∀ {l : List V} {st st' : St3} {l' : List V}, outCs own h n0 st l = some (l', st') → st.2.2 ≤ st'.2.2 ∧ st.1.length ≤ st'.1.length ∧ ∀ i, i < st.1.length → st'.1[i]? = st.1[i]?
  | [], st, st', l', e => by simp only [outCs, Option.some.injEq, Prod.mk.injEq] at e; obtain ⟨_, rfl⟩ := e; exact ⟨Nat.le_refl _, Nat.le_refl _, fun _ _ => rfl⟩
  | v :: l, st, st', l', e => by
    simp only [outCs, Option.bind_eq_some_iff, Option.map_eq_some_iff, Prod.mk.injEq] at e
    obtain ⟨⟨v1, st1⟩, h1, ⟨l1, st2⟩, h2, _, rfl⟩ := e
    exact mono_trans (outC_mono h1) (outCs_mono h2)

theorem outV_mono {own : Bool} {h : Hp} {n0 : Nat} {st st' : St3} {v v' : V} (e : outV own h n0 st v = some (v', st')) : st.2.2 ≤ st'.2.2 ∧ st.1.length ≤ st'.1.length ∧ ∀ i, i < st.1.length → st'.1[i]? = st.1[i]? := by
  unfold outV at e
  split at e
  · simp only [Option.map_eq_some_iff, Prod.mk.injEq] at e
    obtain ⟨⟨l1, st1⟩, h1, _, rfl⟩ := e
    exact outCs_mono h1
  · exact outC_mono e

theorem outVs_mono {own : Bool} {h : Hp} {n0 : Nat} : ∀ {l : List V} {st st' : St3} {l' : List V}, outVs own h n0 st l = some (l', st') → st.2.2 ≤ st'.2.2 ∧ st.1.length ≤ st'.1.length ∧ ∀ i, i < st.1.length → st'.1[i]? = st.1[i]?
  | [], st, st', l', e => by simp only [outVs, Option.some.injEq, Prod.mk.injEq] at e; obtain ⟨_, rfl⟩ := e; exact ⟨Nat.le_refl _, Nat.le_refl _, fun _ _ => rfl⟩
  | v :: l, st, st', l', e => by
    simp only [outVs, Option.bind_eq_some_iff, Option.map_eq_some_iff, Prod.mk.injEq] at e
    obtain ⟨⟨v1, st1⟩, h1, ⟨l1, st2⟩, h2, _, rfl⟩ := e
    exact mono_trans (outV_mono h1) (outVs_mono h2)

theorem outR_mono {own : Bool} {h : Hp} {n0 : Nat} {st st' : St3} {v v' : V} (e : outR own h n0 st v = some (v', st')) : st.2.2 ≤ st'.2.2 ∧ st.1.length ≤ st'.1.length ∧ ∀ i, i < st.1.length → st'.1[i]? = st.1[i]? := by
  unfold outR at e
  split at e
  · simp only [Option.map_eq_some_iff, Prod.mk.injEq] at e
    obtain ⟨⟨l1, st1⟩, h1, _, rfl⟩ := e
    exact outVs_mono h1
  · exact outV_mono e

/-- Cell by cell. -/
def StepOK (own : Bool) (C1 : Ctx) (n0 gend : Nat) (Inv : St3 → Ctx → Prop) (G : V → Prop) : Prop :=
  ∀ (st : St3) (K : Ctx) (v v' : V) (st' : St3) (r : Value), Inv st K → outC own C1.h n0 st v = some (v', st') → G v → VR C1 v r → st'.2.2 ≤ gend → ∃ K', Inv st' K' ∧ Evm K K' ∧ VR K' v' r

theorem Evm.refl (C : Ctx) : Evm C C := (Evo.refl C).m

theorem Evm.trans {A B C : Ctx} (_SA : SR A) (x : Evm A B) (y : Evm B C) (ho : ∀ b, b < A.heap.size → B.owns b → A.owns b ∨ C.heap[b]? = B.heap[b]?) : Evm A C where
  size := Nat.le_trans x.size y.size
  old := fun b hb hn => by
    by_cases h : B.owns b
    · rcases ho b hb h with h' | h'
      · exact absurd h' hn
      · rw [h', x.old b hb hn]
    · rw [y.old b (Nat.lt_of_lt_of_le hb x.size) h, x.old b hb hn]
  prsub := fun b h => y.prsub b (x.prsub b h)
  used := fun g h => y.used g (x.used g h)
  live := fun id c hc hu => by
    obtain ⟨b, hb, h1, h2, h3, h4⟩ := y.live id c hc (x.used _ hu)
    obtain ⟨a, ha, k1, k2, k3, k4⟩ := x.live id b hb (by rw [h1]; exact hu)
    exact ⟨a, ha, k1.trans h1, k2.trans h2, k3.trans h3, h4.trans k4⟩

section
variable {own : Bool} {C1 : Ctx} {n0 gend : Nat} {Inv : St3 → Ctx → Prop} {G : V → Prop}

theorem outCs_ok (hs : StepOK own C1 n0 gend Inv G) (hsr : ∀ st K, Inv st K → SR K ∧ K.heap = C1.heap) : ∀ (l : List V) (st : St3) (K : Ctx) (l' : List V) (st' : St3) (f : Nat → Value), Inv st K → outCs own C1.h n0 st l = some (l', st') → (∀ v ∈ l, G v) → (∀ (i : Nat) v, l[i]? = some v → VR C1 v (f i)) → st'.2.2 ≤ gend →
    ∃ K', Inv st' K' ∧ Evm K K' ∧ l'.length = l.length ∧ ∀ (i : Nat) v, l'[i]? = some v → VR K' v (f i)
  | [], st, K, l', st', f, hI, e, _, _, _ => by
    simp only [outCs, Option.some.injEq, Prod.mk.injEq] at e
    obtain ⟨rfl, rfl⟩ := e
    exact ⟨K, hI, .refl K, rfl, fun i v h => by simp at h⟩
  | v :: l, st, K, l', st', f, hI, e, hG, hv, hg => by
    simp only [outCs, Option.bind_eq_some_iff, Option.map_eq_some_iff, Prod.mk.injEq] at e
    obtain ⟨⟨v1, st1⟩, h1, ⟨l1, st2⟩, h2, rfl, rfl⟩ := e
    have m2 := outCs_mono h2
    obtain ⟨K1, i1, e1, r1⟩ := hs st K v v1 st1 (f 0) hI h1 (hG v (by simp)) (hv 0 v rfl) (Nat.le_trans m2.1 hg)
    obtain ⟨K2, i2, e2, k2, r2⟩ := outCs_ok hs hsr l st1 K1 l1 st2 (fun i => f (i + 1)) i1 h2 (fun x hx => hG x (by simp [hx])) (fun i x hx => hv (i + 1) x (by simpa using hx)) hg
    refine ⟨K2, i2, Evm.trans (hsr _ _ hI).1 e1 e2 (fun b _ _ => .inr (by rw [(hsr _ _ i2).2, (hsr _ _ i1).2])), by simp [k2], fun i x hx => ?_⟩
    cases i with
    | zero => simp at hx; subst hx; exact r1.monom (hsr _ _ i1).1 e2
    | succ i => exact r2 i x (by simpa using hx)

def goodV (G : V → Prop) : V → Prop
  | .agg cs => ∀ v ∈ cs, G v
  | v => G v

theorem outV_ok (hs : StepOK own C1 n0 gend Inv G) (hsr : ∀ st K, Inv st K → SR K ∧ K.heap = C1.heap) {st : St3} {K : Ctx} {v v' : V} {st' : St3} {r : Value} (hI : Inv st K) (e : outV own C1.h n0 st v = some (v', st')) (hG : goodV G v) (hv : VR C1 v r) (hg : st'.2.2 ≤ gend) :
    ∃ K', Inv st' K' ∧ Evm K K' ∧ VR K' v' r := by
  unfold outV at e
  split at e
  · simp only [Option.map_eq_some_iff, Prod.mk.injEq] at e
    obtain ⟨⟨l1, st1⟩, h1, rfl, rfl⟩ := e
    cases hv with
    | agg cs rs hs' hv' =>
    obtain ⟨K', i', e', k', r'⟩ := outCs_ok hs hsr _ st K l1 st1 (fun i => rs.getD i Go.undef) hI h1 hG hv' hg
    exact ⟨K', i', e', .agg l1 rs (by rw [hs', k']) r'⟩
  · have : G v := by unfold goodV at hG; split at hG <;> first | exact hG | (exfalso; simp_all)
    exact hs st K v v' st' r hI e this hv hg

theorem outVs_ok (hs : StepOK own C1 n0 gend Inv G) (hsr : ∀ st K, Inv st K → SR K ∧ K.heap = C1.heap) : ∀ (l : List V) (st : St3) (K : Ctx) (l' : List V) (st' : St3) (f : Nat → Value), Inv st K → outVs own C1.h n0 st l = some (l', st') → (∀ v ∈ l, goodV G v) → (∀ (i : Nat) v, l[i]? = some v → VR C1 v (f i)) → st'.2.2 ≤ gend →
    ∃ K', Inv st' K' ∧ Evm K K' ∧ l'.length = l.length ∧ ∀ (i : Nat) v, l'[i]? = some v → VR K' v (f i)
  | [], st, K, l', st', f, hI, e, _, _, _ => by
    simp only [outVs, Option.some.injEq, Prod.mk.injEq] at e
    obtain ⟨rfl, rfl⟩ := e
    exact ⟨K, hI, .refl K, rfl, fun i v h => by simp at h⟩
  | v :: l, st, K, l', st', f, hI, e, hG, hv, hg => by
    simp only [outVs, Option.bind_eq_some_iff, Option.map_eq_some_iff, Prod.mk.injEq] at e
    obtain ⟨⟨v1, st1⟩, h1, ⟨l1, st2⟩, h2, rfl, rfl⟩ := e
    have m2 := outVs_mono h2
    obtain ⟨K1, i1, e1, r1⟩ := outV_ok hs hsr hI h1 (hG v (by simp)) (hv 0 v rfl) (Nat.le_trans m2.1 hg)
    obtain ⟨K2, i2, e2, k2, r2⟩ := outVs_ok hs hsr l st1 K1 l1 st2 (fun i => f (i + 1)) i1 h2 (fun x hx => hG x (by simp [hx])) (fun i x hx => hv (i + 1) x (by simpa using hx)) hg
    refine ⟨K2, i2, Evm.trans (hsr _ _ hI).1 e1 e2 (fun b _ _ => .inr (by rw [(hsr _ _ i2).2, (hsr _ _ i1).2])), by simp [k2], fun i x hx => ?_⟩
    cases i with
    | zero => simp at hx; subst hx; exact r1.monom (hsr _ _ i1).1 e2
    | succ i => exact r2 i x (by simpa using hx)

def goodR (G : V → Prop) : V → Prop
  | .tup vs => ∀ v ∈ vs, goodV G v
  | v => goodV G v

theorem outR_ok (hs : StepOK own C1 n0 gend Inv G) (hsr : ∀ st K, Inv st K → SR K ∧ K.heap = C1.heap) {st : St3} {K : Ctx} {v v' : V} {st' : St3} {r : Value} (hI : Inv st K) (e : outR own C1.h n0 st v = some (v', st')) (hG : goodR G v) (hv : VR C1 v r) (hg : st'.2.2 ≤ gend) :
    ∃ K', Inv st' K' ∧ Evm K K' ∧ VR K' v' r := by
  unfold outR at e
  split at e
  · simp only [Option.map_eq_some_iff, Prod.mk.injEq] at e
    obtain ⟨⟨l1, st1⟩, h1, rfl, rfl⟩ := e
    cases hv with
    | tup cs rs hs' hv' =>
    obtain ⟨K', i', e', k', r'⟩ := outVs_ok hs hsr _ st K l1 st1 (fun i => rs.getD i Go.undef) hI h1 hG hv' hg
    exact ⟨K', i', e', .tup l1 rs (by rw [hs', k']) r'⟩
  · have : goodV G v := by unfold goodR at hG; split at hG <;> first | exact hG | (exfalso; simp_all)
    exact outV_ok hs hsr hI e this hv hg

end

/-- What is told by value: the context stays. -/
theorem step_exp {C1 K0 : Ctx} (S : SR C1) (n0 gend : Nat) (st0 : St3) (hK : K0.heap = C1.heap) (hos : ∀ id g sz off len r, id < n0 → VR C1 (.os id g sz off len) r → VR K0 (.os id g sz off len) r)
    (hP : ∀ id b p tot, n0 ≤ id → C1.h id = some b → b.fz = false → C1.loc id = .at p tot → K0.Pr p) (G : V → Prop) (hG : (∀ b, C1.Pr b → K0.Pr b) ∨ ∀ v, G v → freshC C1.h n0 v = true) :
    StepOK false C1 n0 gend (fun st K => st = st0 ∧ K = K0) G := by
  rintro st K v v' st' r ⟨rfl, rfl⟩ e hg hv _
  unfold outC at e
  split at e
  case h_1 =>
    split at e
    · rename_i id g sz off len hlt
      simp only [Option.some.injEq, Prod.mk.injEq] at e
      obtain ⟨rfl, rfl⟩ := e
      exact ⟨K, ⟨rfl, rfl⟩, .refl K, hos _ _ _ _ _ _ hlt hv⟩
    · simp only [Bool.false_eq_true, if_false, Option.map_eq_some_iff, Prod.mk.injEq] at e
      obtain ⟨x, hx, rfl, rfl⟩ := e
      refine ⟨K, ⟨rfl, rfl⟩, .refl K, ?_⟩
      rcases hG with h | h
      · refine (expC_ok S n0 hK (fun rows r hv => hv.far (fun b hb => ⟨h b hb, fun o => by rw [hK]⟩) rfl) (fun id b p tot hn hb hl => ?_) _ _ _ _ hx hv).1
        cases hz : b.fz with
        | false => exact hP id b p tot hn hb hz hl
        | true =>
          have hB := S.blk id b hb
          unfold BlkR at hB
          rw [hl] at hB
          exact h p (hB.2.1 hz)
      · exact exp_fresh S n0 hK hP (h _ hg) hx hv
  case h_5 =>
    simp only [Option.some.injEq, Prod.mk.injEq] at e
    obtain ⟨rfl, rfl⟩ := e
    refine ⟨K, ⟨rfl, rfl⟩, .refl K, ?_⟩
    rcases hG with h | h
    · exact hv.far (fun b hb => ⟨h b hb, fun o => by rw [hK]⟩) rfl
    · have := h _ hg; simp only [freshC, List.isEmpty_iff] at this; subst this; exact hv.fs_nil
  case h_6 => cases e
  all_goals
    simp only [Option.some.injEq, Prod.mk.injEq] at e
    obtain ⟨rfl, rfl⟩ := e
    refine ⟨K, ⟨rfl, rfl⟩, .refl K, ?_⟩
    cases hv
    first | exact .int _ _ | exact .bool _ | exact .nil

structure OutI (C1 B : Ctx) (n0 : Nat) (hb : Hp) (ub : Nat → Prop) (m g0 : Nat) (fsok : Prop) (st : St3) (K : Ctx) : Prop where
  sr : SR K
  evo : Evo B K
  heap : K.heap = C1.heap
  h : K.h = pushF hb m st.1
  used : K.used = usedF ub g0 st.2.2
  len : m ≤ st.1.length
  gen : g0 ≤ st.2.2
  nm : ∀ id b p tot, n0 ≤ id → C1.h id = some b → b.fz = false → C1.loc id = .at p tot → id ∉ st.2.1 → (∀ i b' t', K.h i = some b' → K.loc i = .at p t' → False) ∧ ¬ K.Pr p
  os : ∀ id g sz off len r, id < n0 → VR C1 (.os id g sz off len) r → VR K (.os id g sz off len) r
  fs : fsok → ∀ rows r, VR C1 (.fs rows) r → VR K (.fs rows) r

/-- What is moved. -/
theorem step_own {C1 B : Ctx} (S : SR C1) {n0 gend : Nat} {hb : Hp} {ub : Nat → Prop} {m g0 : Nat} (hfree : ∀ g, g0 ≤ g → g < gend → ¬ ub g)
    (hown : ∀ id b p tot, n0 ≤ id → C1.h id = some b → b.fz = false → C1.loc id = .at p tot → B.heap.size ≤ p ∨ B.owns p) (fsok : Prop) :
    StepOK true C1 n0 gend (OutI C1 B n0 hb ub m g0 fsok) (fun v => fsok ∨ freshC C1.h n0 v = true) := by
  intro st K v v' st' r I e hG hv hg
  unfold outC at e
  split at e
  case h_1 =>
    rename_i id g sz off len
    split at e
    · rename_i hlt
      simp only [Option.some.injEq, Prod.mk.injEq] at e
      obtain ⟨rfl, rfl⟩ := e
      exact ⟨K, I, .refl K, I.os _ _ _ _ _ _ hlt hv⟩
    · rename_i hge
      simp only [if_true, Option.bind_eq_some_iff, Option.ite_none_right_eq_some, Option.some.injEq, Prod.mk.injEq] at e
      obtain ⟨b, hbb, ⟨hf, rfl, hlen, hnot, hsc⟩, rfl, rfl⟩ := e
      obtain ⟨hb3, hb4⟩ := hget_iff hbb
      simp only at hg
      have hgen : ¬ K.used st.2.2 := by
        rw [I.used]
        rintro (h | h)
        · exact hfree _ I.gen (by omega) h
        · omega
      have hsc' := scalRows_get hsc
      cases hv with
      | os _ _ _ _ _ xa xc hxu hxle hxs hxl =>
      obtain ⟨q1, q2, q3⟩ := hxl b hb3 hb4
      have hB := S.blk id b hb3
      unfold BlkR at hB
      have hszs : ∀ (i : Nat) row, b.rows[i]? = some row → row.length = sz := fun i row hi => by rw [← q1]; exact S.szs id b hb3 i row hi
      rcases q3 (.inl rfl) with ⟨k1, k2, k3⟩ | ⟨p, tot, k1, k2, k3⟩
      · -- no memory: an empty slice
        rw [k1] at hB
        have hl0 : len = 0 := by rw [hlen, hB]; rfl
        subst hl0
        subst k2
        subst k3
        obtain ⟨S', E'⟩ := I.sr.placeNil st.1.length (b' := ⟨st.2.2, false, sz, b.rows⟩) (heap' := K.heap) (fun _ => False) (Nat.le_refl _) (fun k hk _ => rfl) (fun q hq => hq.elim) (us := addU K.used st.2.2) (fun x h => .inl h) (.inr rfl) hgen hB
        have hprr : ∀ x, (K.Pr x ∨ False) → K.Pr x := fun x h => h.elim (fun y => y) False.elim
        refine ⟨_, ⟨S', I.evo.trans E', I.heap, ?_, ?_, by simp; have := I.len; omega, by have := I.gen; show g0 ≤ st.2.2 + 1; omega, fun id' b' p' tot' h1 h2 h3 h4 h5 => ?_, fun _ _ _ _ _ _ hlt h => (I.os _ _ _ _ _ _ hlt h).mono I.sr E', fun hf rows r h => (I.fs hf rows r h).mono I.sr E'⟩, E'.m, ?_⟩
        · rw [pushF_snoc hb m st.1 _ I.len, I.h]
        · rw [usedF_snoc _ _ _ I.gen, I.used]
        · obtain ⟨n1, n2⟩ := I.nm id' b' p' tot' h1 h2 h3 h4 (fun hm => h5 (by simp [hm]))
          refine ⟨fun i bi ti hi hl => ?_, fun h => n2 (hprr _ h)⟩
          by_cases hid : i = st.1.length
          · subst hid; simp [updL] at hl
          · exact n1 i bi ti (by simpa [upd, hid] using hi) (by simpa [updL, hid] using hl)
        · refine .os _ _ sz 0 0 none 0 (.inr rfl) (Nat.le_refl _) (fun h => absurd h (Nat.lt_irrefl _)) fun blk hbk _ => ?_
          simp only [upd_same, Option.some.injEq] at hbk
          subst hbk
          exact ⟨rfl, by simp, fun _ => .inl ⟨by simp [updL_same], rfl, rfl⟩⟩
      · rw [k1] at hB
        obtain ⟨m1, _, cs, ct, m3, m4, m5, m6⟩ := hB
        obtain ⟨n1, n2⟩ := I.nm id b p tot (by omega) hb3 hf k1 hnot
        subst k2
        obtain ⟨S', E', M'⟩ := I.sr.adopt I.evo st.1.length (b' := ⟨st.2.2, false, sz, b.rows⟩) (p := p) (cs := cs) (t := ct) (by rw [I.heap]; exact m3) n2 n1 (hown id b p tot (by omega) hb3 hf k1) rfl hgen hszs (by rw [m4, ← q1]; exact m5) (fun i row j v hi hj => by
          obtain ⟨y1, x, y2, y3⟩ := m6 i row j v hi hj
          exact ⟨y1, x, by rw [← q1]; simpa using y2, y3.scal (hsc' i row j v hi hj)⟩)
        refine ⟨_, ⟨S', E', I.heap, ?_, ?_, by simp; have := I.len; omega, by have := I.gen; show g0 ≤ st.2.2 + 1; omega, fun id' b' p' tot' h1 h2 h3 h4 h5 => ?_, fun _ _ _ _ _ _ hlt h => (I.os _ _ _ _ _ _ hlt h).monom I.sr M', fun hf rows r h => (I.fs hf rows r h).monom I.sr M'⟩, M', ?_⟩
        · rw [pushF_snoc hb m st.1 _ I.len, I.h]
        · rw [usedF_snoc _ _ _ I.gen, I.used]
        · obtain ⟨n1', n2'⟩ := I.nm id' b' p' tot' h1 h2 h3 h4 (fun hm => h5 (by simp [hm]))
          refine ⟨fun i bi ti hi hl => ?_, n2'⟩
          by_cases hid : i = st.1.length
          · subst hid
            simp only [updL_same, Loc.at.injEq] at hl
            have := S.inj id id' b b' p tot tot' hb3 h2 k1 (by rw [hl.1]; exact h4) hf
            exact h5 (by simp [this])
          · exact n1' i bi ti (by simpa [upd, hid] using hi) (by simpa [updL, hid] using hl)
        · refine .os _ _ sz 0 len _ xc (.inr rfl) hxle hxs fun blk hbk _ => ?_
          simp only [upd_same, Option.some.injEq] at hbk
          subst hbk
          refine ⟨rfl, by simp [hlen], fun _ => .inr ⟨p, cs.size, by simp [updL_same], rfl, by rw [m4]; simpa using k3⟩⟩
  case h_5 =>
    simp only [Option.some.injEq, Prod.mk.injEq] at e
    obtain ⟨rfl, rfl⟩ := e
    rcases hG with hG | hG
    · exact ⟨K, I, .refl K, I.fs hG _ _ hv⟩
    · simp only [freshC, List.isEmpty_iff] at hG; subst hG; exact ⟨K, I, .refl K, hv.fs_nil⟩
  case h_6 => cases e
  all_goals
    simp only [Option.some.injEq, Prod.mk.injEq] at e
    obtain ⟨rfl, rfl⟩ := e
    refine ⟨K, I, .refl K, ?_⟩
    cases hv
    first | exact .int _ _ | exact .bool _ | exact .nil

end Gh
