/- How the relation's context turns: a block written, placed, frozen, exchanged. -/
import Derived.Test.YtmjdjnphjpcfcaaGb
namespace Gh
open Go

def upd (h : Hp) (id : Nat) (b : Blk) : Hp := fun i => if i = id then some b else h i
def updL (l : Nat → Loc) (id : Nat) (x : Loc) : Nat → Loc := fun i => if i = id then x else l i
def addP (p : Nat → Prop) (b : Nat) : Nat → Prop := fun x => p x ∨ x = b

theorem upd_same (h : Hp) (id : Nat) (b : Blk) : upd h id b id = some b := by simp [upd]
theorem upd_ne (h : Hp) {id i : Nat} (b : Blk) (hn : i ≠ id) : upd h id b i = h i := by simp [upd, hn]
theorem updL_same (h : Nat → Loc) (id : Nat) (b : Loc) : updL h id b id = b := by simp [updL]
theorem updL_ne (h : Nat → Loc) {id i : Nat} (b : Loc) (hn : i ≠ id) : updL h id b i = h i := by simp [updL, hn]

/-- A block that nothing has touched. -/
theorem BlkR.keep {C C' : Ctx} (S : SR C) (E : Evo C C') {id : Nat} {b : Blk} (h : BlkR C id b) (hl : C'.loc id = C.loc id)
    (hp : ∀ p tot, C.loc id = .at p tot → C'.heap[p]? = C.heap[p]? ∧ (b.fz = false → ¬ C.Pr p → ¬ C'.Pr p)) : BlkR C' id b := by
  unfold BlkR at *
  rw [hl]
  cases hloc : C.loc id with
  | nil => rw [hloc] at h; exact h
  | «at» p tot =>
    rw [hloc] at h
    obtain ⟨h1, h2, cs, t, h3, h4, h5, h6⟩ := h
    obtain ⟨k1, k2⟩ := hp p tot hloc
    exact ⟨fun hf => k2 hf (h1 hf), fun hf => E.prsub p (h2 hf), cs, t, k1.trans h3, h4, h5, fun i row j v hi hj => by
      obtain ⟨m1, r, m2, m3⟩ := h6 i row j v hi hj
      exact ⟨m1, r, m2, m3.mono S E⟩⟩

/-- A block of one's own, written: its rows turn; its generation stays, or is new. -/
theorem SR.write {C : Ctx} (S : SR C) {id : Nat} {b b' : Blk} {p tot : Nat} (hb : C.h id = some b) (hf : b.fz = false) (hl : C.loc id = .at p tot) {heap' : Array Obj} {cs' : Array Value} {t : TypeId}
    (hs : heap'.size = C.heap.size) (ho : ∀ k, k ≠ p → heap'[k]? = C.heap[k]?) (hp : heap'[p]? = some (.cells cs' t (0, 0))) (ht : cs'.size = tot)
    {us : Nat → Prop} (hus : ∀ g, C.used g → us g) (hg : us b'.gen) (hf' : b'.fz = false)
    (hgen : (b'.gen = b.gen ∧ b'.sz = b.sz ∧ b'.rows.length = b.rows.length) ∨ ¬ C.used b'.gen)
    (hsz : ∀ (i : Nat) row, b'.rows[i]? = some row → row.length = b'.sz) (hfit : b'.rows.length * b'.sz ≤ tot)
    (hrows : ∀ (i : Nat) row (j : Nat) v, b'.rows[i]? = some row → row[j]? = some v → v.okCell = true ∧ ∃ r, cs'[i * b'.sz + j]? = some r ∧ VR C v r) :
    SR ⟨heap', C.Pr, upd C.h id b', C.loc, us⟩ ∧ Evo C ⟨heap', C.Pr, upd C.h id b', C.loc, us⟩ := by
  have hown : C.owns p := ⟨id, b, tot, hb, hf, hl⟩
  have hnp := S.owned hown
  have E : Evo C ⟨heap', C.Pr, upd C.h id b', C.loc, us⟩ := by
    refine ⟨by simp [hs], fun k _ hn => ho k (fun e => hn (e ▸ hown)), fun _ h => h, fun _ h => .inl h, fun k hk => ?_, hus, fun i bi hi hu => ?_⟩
    · obtain ⟨i, bi, ti, h1, h2, h3⟩ := hk
      by_cases hid : i = id
      · subst hid
        simp only [hl, Loc.at.injEq] at h3
        exact .inr (h3.1 ▸ hown)
      · exact .inr ⟨i, bi, ti, by simpa [upd, hid] using h1, h2, h3⟩
    · by_cases hid : i = id
      · subst hid
        simp only [upd_same, Option.some.injEq] at hi
        subst hi
        rcases hgen with ⟨g1, g2, g3⟩ | g
        · exact ⟨b, hb, g1.symm, g2.symm, g3.symm, rfl⟩
        · exact absurd hu g
      · exact ⟨bi, by simpa [upd, hid] using hi, rfl, rfl, rfl, rfl⟩
  refine ⟨⟨fun k hk => by simpa [hs] using S.pr k hk, fun i bi hi => ?_, fun i bi hi => ?_, fun i bi hi => ?_, fun i i' bi bi' q t t' h1 h2 h3 h4 h5 => ?_⟩, E⟩
  · by_cases hid : i = id
    · subst hid; simp only [upd_same, Option.some.injEq] at hi; subst hi; exact hg
    · exact hus _ (S.gen i bi (by simpa [upd, hid] using hi))
  · by_cases hid : i = id
    · subst hid; simp only [upd_same, Option.some.injEq] at hi; subst hi; exact hsz
    · exact S.szs i bi (by simpa [upd, hid] using hi)
  · by_cases hid : i = id
    · subst hid
      simp only [upd_same, Option.some.injEq] at hi
      subst hi
      unfold BlkR
      simp only [hl]
      refine ⟨fun _ => hnp.1, (fun h => by rw [hf'] at h; cases h), cs', t, hp, ht, hfit, fun x row j v hx hj => ?_⟩
      obtain ⟨m1, r, m2, m3⟩ := hrows x row j v hx hj
      exact ⟨m1, r, m2, m3.mono S E⟩
    · have hi' : C.h i = some bi := by simpa [upd, hid] using hi
      refine (S.blk i bi hi').keep S E rfl fun q tq hq => ⟨ho q fun e => ?_, fun _ h => h⟩
      subst e
      exact hid (S.inj id i b bi q tot tq hb hi' hl hq hf).symm
  · have key : ∀ x bx, upd C.h id b' x = some bx → ∃ b0, C.h x = some b0 ∧ b0.fz = bx.fz := by
      intro x bx hx
      by_cases hid : x = id
      · subst hid; simp only [upd_same, Option.some.injEq] at hx; subst hx; exact ⟨b, hb, hf.trans hf'.symm⟩
      · exact ⟨bx, by simpa [upd, hid] using hx, rfl⟩
    obtain ⟨c1, e1, f1⟩ := key i bi h1
    obtain ⟨c2, e2, _⟩ := key i' bi' h2
    exact S.inj i i' c1 c2 q t t' e1 e2 h3 h4 (f1.trans h5)

/-- A block placed at a new row of the machine's heap, under a name whose old block (if there is one) is given up. -/
theorem SR.place {C : Ctx} (S : SR C) (id : Nat) {b' : Blk} {heap' : Array Obj} {cs' : Array Value} {t : TypeId}
    (hs : C.heap.size < heap'.size) (ho : ∀ k, k < C.heap.size → heap'[k]? = C.heap[k]?) (hp : heap'[C.heap.size]? = some (.cells cs' t (0, 0)))
    {us : Nat → Prop} (hus : ∀ g, C.used g → us g) (hg : us b'.gen) (hf' : b'.fz = false) (hgen : ¬ C.used b'.gen)
    (hsz : ∀ (i : Nat) row, b'.rows[i]? = some row → row.length = b'.sz) (hfit : b'.rows.length * b'.sz ≤ cs'.size)
    (hrows : ∀ (i : Nat) row (j : Nat) v, b'.rows[i]? = some row → row[j]? = some v → v.okCell = true ∧ ∃ r, cs'[i * b'.sz + j]? = some r ∧ VR C v r) :
    SR ⟨heap', C.Pr, upd C.h id b', updL C.loc id (.at C.heap.size cs'.size), us⟩ ∧ Evo C ⟨heap', C.Pr, upd C.h id b', updL C.loc id (.at C.heap.size cs'.size), us⟩ := by
  have hlt : ∀ i bi q tq, C.h i = some bi → C.loc i = .at q tq → q < C.heap.size := by
    intro i bi q tq h1 h2
    have h3 := S.blk i bi h1
    unfold BlkR at h3
    rw [h2] at h3
    obtain ⟨_, _, cs, t, h6, _⟩ := h3
    exact (Array.getElem?_eq_some_iff.1 h6).1
  have E : Evo C ⟨heap', C.Pr, upd C.h id b', updL C.loc id (.at C.heap.size cs'.size), us⟩ := by
    refine ⟨Nat.le_of_lt hs, fun k hk _ => ho k hk, fun _ h => h, fun _ h => .inl h, fun k hk => ?_, hus, fun i bi hi hu => ?_⟩
    · obtain ⟨i, bi, ti, h1, h2, h3⟩ := hk
      by_cases hid : i = id
      · subst hid
        simp only [updL_same, Loc.at.injEq] at h3
        exact .inl (by omega)
      · exact .inr ⟨i, bi, ti, by simpa [upd, hid] using h1, h2, by simpa [updL, hid] using h3⟩
    · by_cases hid : i = id
      · subst hid
        simp only [upd_same, Option.some.injEq] at hi
        subst hi
        exact absurd hu hgen
      · exact ⟨bi, by simpa [upd, hid] using hi, rfl, rfl, rfl, by simp [updL, hid]⟩
  refine ⟨⟨fun k hk => Nat.lt_trans (S.pr k hk) hs, fun i bi hi => ?_, fun i bi hi => ?_, fun i bi hi => ?_, fun i i' bi bi' q t t' h1 h2 h3 h4 h5 => ?_⟩, E⟩
  · by_cases hid : i = id
    · subst hid; simp only [upd_same, Option.some.injEq] at hi; subst hi; exact hg
    · exact hus _ (S.gen i bi (by simpa [upd, hid] using hi))
  · by_cases hid : i = id
    · subst hid; simp only [upd_same, Option.some.injEq] at hi; subst hi; exact hsz
    · exact S.szs i bi (by simpa [upd, hid] using hi)
  · by_cases hid : i = id
    · subst hid
      simp only [upd_same, Option.some.injEq] at hi
      subst hi
      unfold BlkR
      simp only [updL_same]
      refine ⟨fun _ h => absurd (S.pr _ h) (Nat.lt_irrefl _), (fun h => by rw [hf'] at h; cases h), cs', t, hp, rfl, hfit, fun x row j v hx hj => ?_⟩
      obtain ⟨m1, r, m2, m3⟩ := hrows x row j v hx hj
      exact ⟨m1, r, m2, m3.mono S E⟩
    · have hi' : C.h i = some bi := by simpa [upd, hid] using hi
      exact (S.blk i bi hi').keep S E (by simp [updL, hid]) fun q tq hq => ⟨ho q (hlt i bi q tq hi' hq), fun _ h => h⟩
  · by_cases hi1 : i = id <;> by_cases hi2 : i' = id
    · rw [hi1, hi2]
    · subst hi1
      simp only [updL_same, Loc.at.injEq] at h3
      have := hlt i' bi' q t' (by simpa [upd, hi2] using h2) (by simpa [updL, hi2] using h4)
      omega
    · subst hi2
      simp only [updL_same, Loc.at.injEq] at h4
      have := hlt i bi q t (by simpa [upd, hi1] using h1) (by simpa [updL, hi1] using h3)
      omega
    · exact S.inj i i' bi bi' q t t' (by simpa [upd, hi1] using h1) (by simpa [upd, hi2] using h2) (by simpa [updL, hi1] using h3) (by simpa [updL, hi2] using h4) h5

/-- An empty block without memory, under a name whose old block (if there is one) is given up; the old block's row, or a new one, may be frozen from now on. -/
theorem SR.placeNil {C : Ctx} (S : SR C) (id : Nat) {b' : Blk} {heap' : Array Obj} (Q : Nat → Prop)
    (hs : C.heap.size ≤ heap'.size) (ho : ∀ k, k < C.heap.size → ¬ (∃ b tot, C.h id = some b ∧ b.fz = false ∧ C.loc id = .at k tot) → heap'[k]? = C.heap[k]?)
    (hQ : ∀ q, Q q → q < heap'.size ∧ (C.heap.size ≤ q ∨ ∃ b tot, C.h id = some b ∧ b.fz = false ∧ C.loc id = .at q tot))
    {us : Nat → Prop} (hus : ∀ g, C.used g → us g) (hg : us b'.gen) (hgen : ¬ C.used b'.gen) (hr : b'.rows = []) :
    SR ⟨heap', fun x => C.Pr x ∨ Q x, upd C.h id b', updL C.loc id .nil, us⟩ ∧ Evo C ⟨heap', fun x => C.Pr x ∨ Q x, upd C.h id b', updL C.loc id .nil, us⟩ := by
  have hlt : ∀ i bi q tq, C.h i = some bi → C.loc i = .at q tq → q < C.heap.size := by
    intro i bi q tq h1 h2
    have h3 := S.blk i bi h1
    unfold BlkR at h3
    rw [h2] at h3
    obtain ⟨_, _, cs, t, h6, _⟩ := h3
    exact (Array.getElem?_eq_some_iff.1 h6).1
  have E : Evo C ⟨heap', fun x => C.Pr x ∨ Q x, upd C.h id b', updL C.loc id .nil, us⟩ := by
    refine ⟨hs, fun k hk hn => ho k hk fun ⟨b, tot, x1, x2, x3⟩ => hn ⟨id, b, tot, x1, x2, x3⟩, fun _ h => .inl h, fun k hk => ?_, fun k hk => ?_, hus, fun i bi hi hu => ?_⟩
    · rcases hk with h | h
      · exact .inl h
      · rcases (hQ k h).2 with h | ⟨b, tot, x1, x2, x3⟩
        · exact .inr (.inl h)
        · exact .inr (.inr ⟨id, b, tot, x1, x2, x3⟩)
    · obtain ⟨i, bi, ti, h1, h2, h3⟩ := hk
      by_cases hid : i = id
      · subst hid; simp [updL] at h3
      · exact .inr ⟨i, bi, ti, by simpa [upd, hid] using h1, h2, by simpa [updL, hid] using h3⟩
    · by_cases hid : i = id
      · subst hid
        simp only [upd_same, Option.some.injEq] at hi
        subst hi
        exact absurd hu hgen
      · exact ⟨bi, by simpa [upd, hid] using hi, rfl, rfl, rfl, by simp [updL, hid]⟩
  refine ⟨⟨fun k hk => ?_, fun i bi hi => ?_, fun i bi hi => ?_, fun i bi hi => ?_, fun i i' bi bi' q t t' h1 h2 h3 h4 h5 => ?_⟩, E⟩
  · rcases hk with h | h
    · exact Nat.lt_of_lt_of_le (S.pr k h) hs
    · exact (hQ k h).1
  · by_cases hid : i = id
    · subst hid; simp only [upd_same, Option.some.injEq] at hi; subst hi; exact hg
    · exact hus _ (S.gen i bi (by simpa [upd, hid] using hi))
  · by_cases hid : i = id
    · subst hid; simp only [upd_same, Option.some.injEq] at hi; subst hi; rw [hr]; intro x row hx; simp at hx
    · exact S.szs i bi (by simpa [upd, hid] using hi)
  · by_cases hid : i = id
    · subst hid
      simp only [upd_same, Option.some.injEq] at hi
      subst hi
      unfold BlkR
      simp only [updL_same]
      exact hr
    · have hi' : C.h i = some bi := by simpa [upd, hid] using hi
      refine (S.blk i bi hi').keep S E (by simp [updL, hid]) fun q tq hq => ⟨ho q (hlt i bi q tq hi' hq) fun ⟨b, tot, x1, x2, x3⟩ => hid (S.inj id i b bi q tot tq x1 hi' x3 hq x2).symm, fun hfz hn hk => ?_⟩
      rcases hk with h | h
      · exact hn h
      · rcases (hQ q h).2 with h | ⟨b, tot, x1, x2, x3⟩
        · have := hlt i bi q tq hi' hq; omega
        · exact hid (S.inj id i b bi q tot tq x1 hi' x3 hq x2).symm
  · have n1 : i ≠ id := by rintro rfl; simp [updL] at h3
    have n2 : i' ≠ id := by rintro rfl; simp [updL] at h4
    exact S.inj i i' bi bi' q t t' (by simpa [upd, n1] using h1) (by simpa [upd, n2] using h2) (by simpa [updL, n1] using h3) (by simpa [updL, n2] using h4) h5

/-- New rows of the machine's heap, some of them frozen at once. -/
theorem SR.grow {C : Ctx} (S : SR C) {heap' : Array Obj} (Q : Nat → Prop) (hs : C.heap.size ≤ heap'.size) (ho : ∀ k, k < C.heap.size → heap'[k]? = C.heap[k]?) (hQ : ∀ q, Q q → C.heap.size ≤ q ∧ q < heap'.size) :
    SR ⟨heap', fun x => C.Pr x ∨ Q x, C.h, C.loc, C.used⟩ ∧ Evo C ⟨heap', fun x => C.Pr x ∨ Q x, C.h, C.loc, C.used⟩ := by
  have E : Evo C ⟨heap', fun x => C.Pr x ∨ Q x, C.h, C.loc, C.used⟩ :=
    ⟨hs, fun k hk _ => ho k hk, fun _ h => .inl h, fun k hk => hk.elim .inl fun h => .inr (.inl (hQ k h).1), fun k hk => .inr hk, fun _ h => h, fun i bi hi _ => ⟨bi, hi, rfl, rfl, rfl, rfl⟩⟩
  refine ⟨⟨fun k hk => ?_, S.gen, S.szs, fun i bi hi => ?_, S.inj⟩, E⟩
  · rcases hk with h | h
    · exact Nat.lt_of_lt_of_le (S.pr k h) hs
    · exact (hQ k h).2
  · refine (S.blk i bi hi).keep S E rfl fun q tq hq => ?_
    have h3 := S.blk i bi hi
    unfold BlkR at h3
    rw [hq] at h3
    obtain ⟨_, _, cs, t, h6, _⟩ := h3
    have hlt := (Array.getElem?_eq_some_iff.1 h6).1
    exact ⟨ho q hlt, fun _ hn hk => hk.elim hn fun h => by have := (hQ q h).1; omega⟩

/-- Blocks frozen: those of 'F'. -/
theorem SR.freeze {C : Ctx} (S : SR C) (F : Nat → Prop) {h' : Hp} (hh : ∀ i, (¬ F i → h' i = C.h i) ∧ (F i → h' i = (C.h i).map fun b => ⟨b.gen, true, b.sz, b.rows⟩)) :
    SR ⟨C.heap, fun x => C.Pr x ∨ ∃ i b tot, F i ∧ C.h i = some b ∧ C.loc i = .at x tot, h', C.loc, C.used⟩ ∧
    Evo C ⟨C.heap, fun x => C.Pr x ∨ ∃ i b tot, F i ∧ C.h i = some b ∧ C.loc i = .at x tot, h', C.loc, C.used⟩ := by
  have back : ∀ i b', h' i = some b' → ∃ b, C.h i = some b ∧ b.gen = b'.gen ∧ b.sz = b'.sz ∧ b.rows = b'.rows ∧ (b'.fz = false → b.fz = false ∧ ¬ F i) ∧ (b'.fz = true → b.fz = true ∨ F i) := by
    intro i b' hi
    by_cases hF : F i
    · rw [(hh i).2 hF] at hi
      cases hc : C.h i with
      | none => rw [hc] at hi; simp at hi
      | some b =>
        rw [hc] at hi
        simp only [Option.map_some, Option.some.injEq] at hi
        subst hi
        exact ⟨b, rfl, rfl, rfl, rfl, fun h => (by cases h), fun _ => .inr hF⟩
    · rw [(hh i).1 hF] at hi
      exact ⟨b', hi, rfl, rfl, rfl, fun h => ⟨h, hF⟩, fun h => .inl h⟩
  have prlt : ∀ i b tot x, C.h i = some b → C.loc i = .at x tot → x < C.heap.size := by
    intro i b tot x h1 h2
    have h3 := S.blk i b h1
    unfold BlkR at h3
    rw [h2] at h3
    obtain ⟨_, _, cs, t, h6, _⟩ := h3
    exact (Array.getElem?_eq_some_iff.1 h6).1
  have E : Evo C ⟨C.heap, fun x => C.Pr x ∨ ∃ i b tot, F i ∧ C.h i = some b ∧ C.loc i = .at x tot, h', C.loc, C.used⟩ := by
    refine ⟨Nat.le_refl _, fun _ _ _ => rfl, fun _ h => .inl h, fun k hk => ?_, fun k hk => ?_, fun _ h => h, fun i bi hi _ => ?_⟩
    · rcases hk with h | ⟨i, b, tot, h1, h2, h3⟩
      · exact .inl h
      · cases hz : b.fz with
        | true =>
          have h4 := S.blk i b h2
          unfold BlkR at h4
          rw [h3] at h4
          exact .inl (h4.2.1 hz)
        | false => exact .inr (.inr ⟨i, b, tot, h2, hz, h3⟩)
    · obtain ⟨i, b', tot, h1, h2, h3⟩ := hk
      obtain ⟨b, k1, _, _, _, k2, _⟩ := back i b' h1
      exact .inr ⟨i, b, tot, k1, (k2 h2).1, h3⟩
    · obtain ⟨b, k1, k2, k3, k4, _, _⟩ := back i bi hi
      exact ⟨b, k1, k2, k3, by rw [k4], rfl⟩
  refine ⟨⟨fun k hk => ?_, fun i bi hi => ?_, fun i bi hi => ?_, fun i bi hi => ?_, fun i i' bi bi' q t t' h1 h2 h3 h4 h5 => ?_⟩, E⟩
  · rcases hk with h | ⟨i, b, tot, h1, h2, h3⟩
    · exact S.pr k h
    · exact prlt i b tot k h2 h3
  · obtain ⟨b, k1, k2, _⟩ := back i bi hi
    exact k2 ▸ S.gen i b k1
  · obtain ⟨b, k1, _, k3, k4, _⟩ := back i bi hi
    rw [← k3, ← k4]
    exact S.szs i b k1
  · obtain ⟨b, k1, _, k3, k4, k5, k6⟩ := back i bi hi
    have h3 := S.blk i b k1
    unfold BlkR at h3 ⊢
    cases hloc : C.loc i with
    | nil => rw [hloc] at h3; rw [← k4]; exact h3
    | «at» p tot =>
      rw [hloc] at h3
      obtain ⟨m1, m2, cs, t, m3, m4, m5, m6⟩ := h3
      rw [← k3, ← k4]
      refine ⟨fun hf hk => ?_, fun hf => ?_, cs, t, m3, m4, m5, fun x row j v hx hj => ?_⟩
      · rcases hk with h | ⟨i', b', tot', x1, x2, x3⟩
        · exact m1 (k5 hf).1 h
        · have := S.inj i i' b b' p tot tot' k1 x2 hloc x3 (k5 hf).1
          subst this
          exact (k5 hf).2 x1
      · rcases k6 hf with h | h
        · exact .inl (m2 h)
        · exact .inr ⟨i, b, tot, h, k1, hloc⟩
      · obtain ⟨y1, r, y2, y3⟩ := m6 x row j v hx hj
        exact ⟨y1, r, y2, y3.mono S E⟩
  · obtain ⟨b, k1, _, _, _, k5, _⟩ := back i bi h1
    obtain ⟨b2, j1, _⟩ := back i' bi' h2
    exact S.inj i i' b b2 q t t' k1 j1 h3 h4 (k5 h5).1

/-- A block that takes another one's name. -/
theorem SR.swap {C : Ctx} (S : SR C) {id id2 : Nat} {b2 : Blk} {g : Nat} (hne : id ≠ id2) (hb2 : C.h id2 = some b2) (hf : b2.fz = false) (hgen : ¬ C.used g) {us : Nat → Prop} (hus : ∀ x, C.used x → us x) (hg : us g) :
    SR ⟨C.heap, C.Pr, upd (upd C.h id ⟨g, false, b2.sz, b2.rows⟩) id2 ⟨g, false, b2.sz, []⟩, updL (updL C.loc id (C.loc id2)) id2 .nil, us⟩ ∧
    Evo C ⟨C.heap, C.Pr, upd (upd C.h id ⟨g, false, b2.sz, b2.rows⟩) id2 ⟨g, false, b2.sz, []⟩, updL (updL C.loc id (C.loc id2)) id2 .nil, us⟩ := by
  have E : Evo C ⟨C.heap, C.Pr, upd (upd C.h id ⟨g, false, b2.sz, b2.rows⟩) id2 ⟨g, false, b2.sz, []⟩, updL (updL C.loc id (C.loc id2)) id2 .nil, us⟩ := by
    refine ⟨Nat.le_refl _, fun _ _ _ => rfl, fun _ h => h, fun _ h => .inl h, fun k hk => ?_, hus, fun i bi hi hu => ?_⟩
    · obtain ⟨i, bi, ti, h1, h2, h3⟩ := hk
      by_cases e2 : i = id2
      · subst e2; simp [updL] at h3
      · by_cases e1 : i = id
        · subst e1
          exact .inr ⟨id2, b2, ti, hb2, hf, by simpa [updL, e2] using h3⟩
        · exact .inr ⟨i, bi, ti, by simpa [upd, e1, e2] using h1, h2, by simpa [updL, e1, e2] using h3⟩
    · by_cases e2 : i = id2
      · subst e2; simp only [upd_same, Option.some.injEq] at hi; subst hi; exact absurd hu hgen
      · by_cases e1 : i = id
        · subst e1
          have hi' : upd C.h i ⟨g, false, b2.sz, b2.rows⟩ i = some bi := by simpa [upd, e2] using hi
          simp only [upd_same, Option.some.injEq] at hi'
          subst hi'
          exact absurd hu hgen
        · exact ⟨bi, by simpa [upd, e1, e2] using hi, rfl, rfl, rfl, by simp [updL, e1, e2]⟩
  refine ⟨⟨S.pr, fun i bi hi => ?_, fun i bi hi => ?_, fun i bi hi => ?_, fun i i' bi bi' q t t' h1 h2 h3 h4 h5 => ?_⟩, E⟩
  · by_cases e2 : i = id2
    · subst e2; simp only [upd_same, Option.some.injEq] at hi; subst hi; exact hg
    · by_cases e1 : i = id
      · subst e1
        have hi' : upd C.h i ⟨g, false, b2.sz, b2.rows⟩ i = some bi := by simpa [upd, e2] using hi
        simp only [upd_same, Option.some.injEq] at hi'
        subst hi'; exact hg
      · exact hus _ (S.gen i bi (by simpa [upd, e1, e2] using hi))
  · by_cases e2 : i = id2
    · subst e2; simp only [upd_same, Option.some.injEq] at hi; subst hi; intro x row hx; simp at hx
    · by_cases e1 : i = id
      · subst e1
        have hi' : upd C.h i ⟨g, false, b2.sz, b2.rows⟩ i = some bi := by simpa [upd, e2] using hi
        simp only [upd_same, Option.some.injEq] at hi'
        subst hi'
        exact S.szs id2 b2 hb2
      · exact S.szs i bi (by simpa [upd, e1, e2] using hi)
  · by_cases e2 : i = id2
    · subst e2; simp only [upd_same, Option.some.injEq] at hi; subst hi
      unfold BlkR; simp only [updL_same]
    · by_cases e1 : i = id
      · subst e1
        have hi' : upd C.h i ⟨g, false, b2.sz, b2.rows⟩ i = some bi := by simpa [upd, e2] using hi
        simp only [upd_same, Option.some.injEq] at hi'
        subst hi'
        have h3 := S.blk id2 b2 hb2
        have hloc : updL (updL C.loc i (C.loc id2)) id2 .nil i = C.loc id2 := by simp [updL, e2]
        unfold BlkR at h3 ⊢
        simp only [hloc]
        cases hl : C.loc id2 with
        | nil => rw [hl] at h3; exact h3
        | «at» p tot =>
          rw [hl] at h3
          obtain ⟨m1, _, cs, t, m3, m4, m5, m6⟩ := h3
          refine ⟨fun _ => m1 hf, (fun h => by cases h), cs, t, m3, m4, m5, fun x row j v hx hj => ?_⟩
          obtain ⟨y1, r, y2, y3⟩ := m6 x row j v hx hj
          exact ⟨y1, r, y2, by rw [← hl]; exact y3.mono S E⟩
      · have hi' : C.h i = some bi := by simpa [upd, e1, e2] using hi
        exact (S.blk i bi hi').keep S E (by simp [updL, e1, e2]) fun q tq hq => ⟨rfl, fun _ h => h⟩
  · have n1 : i ≠ id2 := by rintro rfl; simp [updL] at h3
    have n2 : i' ≠ id2 := by rintro rfl; simp [updL] at h4
    have key : ∀ x bx q tx, x ≠ id2 → upd (upd C.h id ⟨g, false, b2.sz, b2.rows⟩) id2 ⟨g, false, b2.sz, []⟩ x = some bx → updL (updL C.loc id (C.loc id2)) id2 .nil x = .at q tx →
        ∃ y b0, C.h y = some b0 ∧ C.loc y = .at q tx ∧ b0.fz = bx.fz ∧ ((x = id ∧ y = id2) ∨ (x ≠ id ∧ y = x)) := by
      intro x bx q tx hx h1 h3
      by_cases e1 : x = id
      · subst e1
        have hi' : upd C.h x ⟨g, false, b2.sz, b2.rows⟩ x = some bx := by simpa [upd, hx] using h1
        simp only [upd_same, Option.some.injEq] at hi'
        subst hi'
        exact ⟨id2, b2, hb2, by simpa [updL, hx] using h3, hf, .inl ⟨rfl, rfl⟩⟩
      · exact ⟨x, bx, by simpa [upd, e1, hx] using h1, by simpa [updL, e1, hx] using h3, rfl, .inr ⟨e1, rfl⟩⟩
    obtain ⟨y, c, a1, a2, a3, a4⟩ := key i bi q t n1 h1 h3
    obtain ⟨y', c', a1', a2', a3', a4'⟩ := key i' bi' q t' n2 h2 h4
    have := S.inj y y' c c' q t t' a1 a1' a2 a2' (a3.trans h5)
    rcases a4 with ⟨x1, x2⟩ | ⟨x1, x2⟩ <;> rcases a4' with ⟨y1, y2⟩ | ⟨y1, y2⟩
    · rw [x1, y1]
    · exact absurd (this.symm.trans x2 ▸ y2) (fun e => n2 e.symm)
    · exact absurd (this.trans y2 ▸ x2) (fun e => n1 e.symm)
    · rw [← x2, ← y2, this]

end Gh
