/- Calls: what a callee leaves behind, told to its caller. -/
import Derived.Test.YtmjdjnphjpcfcaaGi
namespace Gh
set_option linter.unusedVariables false
set_option linter.unusedSimpArgs false
open Go

def Same (w w' : World) : Prop := w'.os = w.os ∧ w'.tape = w.tape ∧ w'.output = w.output

theorem VR.scal {C C' : Ctx} {v : V} {r : Value} (h : VR C v r) (hs : v.scal = true) : VR C' v r := by
  cases h <;> simp [V.scal] at hs
  · exact .int _ _
  · exact .bool _

theorem scalRows_get {rows : List (List V)} (h : scalRows rows = true) : ∀ (i : Nat) row (j : Nat) v, rows[i]? = some row → row[j]? = some v → v.scal = true := by
  have hc : ∀ (l : List V), scalCs l = true → ∀ (j : Nat) v, l[j]? = some v → v.scal = true := by
    intro l
    induction l with
    | nil => intro _ j v hj; simp at hj
    | cons a l ih =>
      intro hl j v hj
      simp only [scalCs, Bool.and_eq_true] at hl
      cases j with
      | zero => simp at hj; subst hj; exact hl.1
      | succ j => exact ih hl.2 j v (by simpa using hj)
  induction rows with
  | nil => intro i row j v hi; simp at hi
  | cons a l ih =>
    intro i row j v hi hj
    simp only [scalRows, Bool.and_eq_true] at h
    cases i with
    | zero => simp at hi; subst hi; exact hc _ h.1 j v hj
    | succ i => exact ih h.2 i row j v (by simpa using hi) hj

theorem mapMV_get {α β : Type} {f : α → Option β} : ∀ {l : List α} {m : List β}, mapMV f l = some m → m.length = l.length ∧ ∀ (i : Nat) b, m[i]? = some b → ∃ a, l[i]? = some a ∧ f a = some b
  | [], m, h => by simp [mapMV] at h; subst h; exact ⟨rfl, fun i b hb => by simp at hb⟩
  | a :: l, m, h => by
    simp only [mapMV, Option.bind_eq_some_iff, Option.map_eq_some_iff] at h
    obtain ⟨b, h1, bs, h2, rfl⟩ := h
    obtain ⟨k1, k2⟩ := mapMV_get h2
    refine ⟨by simp [k1], fun i c hc => ?_⟩
    cases i with
    | zero => simp at hc; subst hc; exact ⟨a, rfl, h1⟩
    | succ i => obtain ⟨x, x1, x2⟩ := k2 i c (by simpa using hc); exact ⟨x, by simpa using x1, x2⟩

/-- A window of one's own told by value. -/
theorem os_fs {C K : Ctx} (S : SR C) {id g sz off len : Nat} {r : Value} (hx : VR C (.os id g sz off len) r) {b : Blk} (hb : hget C.h id g = some b) (hfit : off + len ≤ b.rows.length) {rows : List (List V)} (hl : rows.length = len)
    (hr : ∀ (i : Nat) row, rows[i]? = some row → ∃ row0, b.rows[off + i]? = some row0 ∧ row.length = row0.length ∧ ∀ (j : Nat) v, row[j]? = some v → v.pureC = true ∧ ∃ v0, row0[j]? = some v0 ∧ ∀ x, VR C v0 x → VR K v x)
    (hK : K.heap = C.heap) (hP : ∀ p tot, C.loc id = .at p tot → K.Pr p) : VR K (.fs rows) r := by
  obtain ⟨hb3, hb4⟩ := hget_iff hb
  cases hx with
  | os _ _ _ _ _ xa xc hxu hxle hxs hxl =>
  obtain ⟨q1, q2, q3⟩ := hxl b hb3 hb4
  by_cases h0 : len = 0
  · have : rows = [] := List.eq_nil_of_length_eq_zero (by omega)
    subst this
    subst h0
    exact .fs [] xa xc 0 0 0 (fun _ _ => Go.undef) (Nat.zero_le _) (fun h => absurd rfl h) (fun i row h => by simp at h) (fun i row j v h => by simp at h) (fun i j h => by simp at h) (fun i row j v h => by simp at h)
  · have hB := S.blk id b hb3
    unfold BlkR at hB
    rcases q3 (.inr (by omega)) with ⟨k1, _, _⟩ | ⟨p, tot, k1, rfl, k3⟩
    · rw [k1] at hB; rw [hB] at hfit; simp at hfit; omega
    · rw [k1] at hB
      obtain ⟨m1, _, cs, ct, m3, m4, m5, m6⟩ := hB
      have hlen : ∀ (i : Nat) row, rows[i]? = some row → row.length = b.sz := fun i row hi => by
        obtain ⟨row0, y1, y2, _⟩ := hr i row hi
        rw [y2]; exact S.szs id b hb3 _ row0 y1
      have key : ∀ i j, i < rows.length → j < b.sz → ∃ row v, rows[i]? = some row ∧ row[j]? = some v := by
        intro i j hi hj
        have h1 := List.getElem?_eq_getElem hi
        have h2 := hlen i _ h1
        exact ⟨_, _, h1, List.getElem?_eq_getElem (by omega)⟩
      have cell : ∀ (i : Nat) row (j : Nat) v, rows[i]? = some row → row[j]? = some v → v.pureC = true ∧ ∃ x, cs[(off + i) * b.sz + j]? = some x ∧ VR K v x := by
        intro i row j v hi hj
        obtain ⟨row0, y1, y2, y3⟩ := hr i row hi
        obtain ⟨z1, v0, z2, z3⟩ := y3 j v hj
        obtain ⟨_, x, x1, x2⟩ := m6 _ row0 j v0 y1 z2
        exact ⟨z1, x, x1, z3 x x2⟩
      have hv := VR.fs (C := K) rows (some ⟨p, off * b.sz, none⟩) xc b.sz p (off * b.sz) (fun i j => cs.getD ((off + i) * b.sz + j) Go.undef) (by omega) (fun _ => rfl) hlen
        (fun i row j v hi hj => (cell i row j v hi hj).1) (fun i j hi hj => by
          obtain ⟨row, v, h1, h2⟩ := key i j hi hj
          obtain ⟨_, x, x1, _⟩ := cell i row j v h1 h2
          refine ⟨hP p tot k1, ?_⟩
          rw [hK, cellAt_of m3, ← Nat.add_mul, x1]
          simp [Array.getD_eq_getD_getElem?, x1]) (fun i row j v hi hj => by
          obtain ⟨_, x, x1, x2⟩ := cell i row j v hi hj
          simpa [Array.getD_eq_getD_getElem?, x1] using x2)
      rw [hl] at hv
      rw [← q1]
      exact hv

theorem win_get {rows : List (List V)} {off len i : Nat} {row : List V} (h : ((rows.drop off).take len)[i]? = some row) : rows[off + i]? = some row := by
  rw [List.getElem?_take] at h
  split at h
  · simpa using h
  · cases h

/-- A cell told by value. -/
theorem expC_ok {C K : Ctx} (S : SR C) (n0 : Nat) (hK : K.heap = C.heap) (hfs : ∀ rows r, VR C (.fs rows) r → VR K (.fs rows) r) (hP : ∀ id b p tot, n0 ≤ id → C.h id = some b → C.loc id = .at p tot → K.Pr p) :
    ∀ (d : Nat) (v v' : V) (r : Value), expC C.h n0 d v = some v' → VR C v r → VR K v' r ∧ v'.pureC = true := by
  intro d
  induction d with
  | zero =>
    intro v v' r h hv
    cases v <;> simp only [expC, Option.some.injEq, reduceCtorEq] at h
    · subst h; cases hv; exact ⟨.int _ _, rfl⟩
    · subst h; cases hv; exact ⟨.bool _, rfl⟩
    · subst h; cases hv; exact ⟨.nil, rfl⟩
    · subst h; exact ⟨hfs _ _ hv, rfl⟩
  | succ d ih =>
    intro v v' r h hv
    cases v <;> simp only [expC, Option.some.injEq, reduceCtorEq] at h
    · subst h; cases hv; exact ⟨.int _ _, rfl⟩
    · subst h; cases hv; exact ⟨.bool _, rfl⟩
    · subst h; cases hv; exact ⟨.nil, rfl⟩
    · subst h; exact ⟨hfs _ _ hv, rfl⟩
    · rename_i id g sz off len
      simp only [Option.ite_none_right_eq_some, Option.bind_eq_some_iff, Option.map_eq_some_iff] at h
      obtain ⟨hn, b, hb, hfit, rows, hrows, rfl⟩ := h
      obtain ⟨k1, k2⟩ := mapMV_get hrows
      refine ⟨os_fs S hv hb hfit (by rw [k1]; simp; omega) (fun i row hi => ?_) hK (fun p tot hp => hP id b p tot hn (hget_iff hb).1 hp), rfl⟩
      obtain ⟨row0, y1, y2⟩ := k2 i row hi
      obtain ⟨z1, z2⟩ := mapMV_get y2
      refine ⟨row0, win_get y1, z1, fun j v hj => ?_⟩
      obtain ⟨v0, x1, x2⟩ := z2 j v hj
      have hB := S.blk id b (hget_iff hb).1
      unfold BlkR at hB
      have hex : ∃ x0, VR C v0 x0 := by
        cases hloc : C.loc id with
        | nil => rw [hloc] at hB; have hw := win_get y1; rw [hB] at hw; simp at hw
        | «at» p tot =>
          rw [hloc] at hB
          obtain ⟨_, _, cs, ct, _, _, _, m6⟩ := hB
          obtain ⟨_, x0, _, x4⟩ := m6 _ row0 j v0 (win_get y1) x1
          exact ⟨x0, x4⟩
      obtain ⟨x0, hx0⟩ := hex
      exact ⟨(ih v0 v x0 x2 hx0).2, v0, x1, fun x hx => (ih v0 v x x2 hx).1⟩

theorem scal_exp {h : Hp} {n0 d : Nat} {v v' : V} (hs : v.scal = true) (he : expC h n0 d v = some v') : v' = v := by
  cases v <;> simp [V.scal] at hs <;> cases d <;> simp [expC] at he <;> exact he.symm

/-- A flat result told by value: nothing of the callee's other memory is needed. -/
theorem exp_fresh {C K : Ctx} (S : SR C) (n0 : Nat) (hK : K.heap = C.heap) (hP : ∀ id b p tot, n0 ≤ id → C.h id = some b → b.fz = false → C.loc id = .at p tot → K.Pr p) {d : Nat} {v v' : V} {r : Value} (hf : freshC C.h n0 v = true) (h : expC C.h n0 (d + 1) v = some v') (hv : VR C v r) : VR K v' r := by
  cases v <;> simp only [expC, Option.some.injEq, reduceCtorEq] at h <;> simp only [freshC, Bool.false_eq_true, reduceCtorEq] at hf
  · subst h; cases hv; exact .int _ _
  · subst h; cases hv; exact .bool _
  · subst h; cases hv; exact .nil
  · rename_i rows
    have : rows = [] := by simpa using hf
    subst this h
    exact hv.fs_nil
  · rename_i id g sz off len
    simp only [Option.ite_none_right_eq_some, Option.bind_eq_some_iff, Option.map_eq_some_iff] at h
    obtain ⟨hn, b, hb, hfit, rows, hrows, rfl⟩ := h
    simp only [hb, Bool.and_eq_true, Bool.not_eq_true'] at hf
    obtain ⟨k1, k2⟩ := mapMV_get hrows
    refine os_fs S hv hb hfit (by rw [k1]; simp; omega) (fun i row hi => ?_) hK (fun p tot hp => hP id b p tot hn (hget_iff hb).1 hf.2.1 hp)
    obtain ⟨row0, y1, y2⟩ := k2 i row hi
    obtain ⟨z1, z2⟩ := mapMV_get y2
    refine ⟨row0, win_get y1, z1, fun j v hj => ?_⟩
    obtain ⟨v0, x1, x2⟩ := z2 j v hj
    have hsc := scalRows_get hf.2.2 _ row0 j v0 (win_get y1) x1
    have := scal_exp hsc x2
    subst this
    refine ⟨?_, v, x1, fun x hx => hx.scal hsc⟩
    cases v <;> simp [V.scal] at hsc <;> rfl

/-- Blocks from 'n0' on given up; some of their rows are frozen. -/
theorem SR.drop {C : Ctx} (S : SR C) (n0 : Nat) (Q : Nat → Prop) (hQ : ∀ p, Q p → ∃ id b tot, n0 ≤ id ∧ C.h id = some b ∧ C.loc id = .at p tot) :
    SR ⟨C.heap, fun x => C.Pr x ∨ Q x, fun id => if id < n0 then C.h id else none, C.loc, C.used⟩ ∧ Evo C ⟨C.heap, fun x => C.Pr x ∨ Q x, fun id => if id < n0 then C.h id else none, C.loc, C.used⟩ := by
  have hback : ∀ id b, (if id < n0 then C.h id else none) = some b → id < n0 ∧ C.h id = some b := by
    intro id b h
    split at h
    · exact ⟨by assumption, h⟩
    · cases h
  have hlt : ∀ i bi q tq, C.h i = some bi → C.loc i = .at q tq → q < C.heap.size := by
    intro i bi q tq h1 h2
    have h3 := S.blk i bi h1
    unfold BlkR at h3
    rw [h2] at h3
    obtain ⟨_, _, cs, t, h6, _⟩ := h3
    exact (Array.getElem?_eq_some_iff.1 h6).1
  have E : Evo C ⟨C.heap, fun x => C.Pr x ∨ Q x, fun id => if id < n0 then C.h id else none, C.loc, C.used⟩ := by
    refine ⟨Nat.le_refl _, fun _ _ _ => rfl, fun _ h => .inl h, fun k hk => ?_, fun k hk => ?_, fun _ h => h, fun i b hi _ => ⟨b, (hback i b hi).2, rfl, rfl, rfl, rfl⟩⟩
    · rcases hk with h | h
      · exact .inl h
      · obtain ⟨id, b, tot, _, h2, h3⟩ := hQ k h
        cases hz : b.fz with
        | true =>
          have h4 := S.blk id b h2
          unfold BlkR at h4
          rw [h3] at h4
          exact .inl (h4.2.1 hz)
        | false => exact .inr (.inr ⟨id, b, tot, h2, hz, h3⟩)
    · obtain ⟨id, b, tot, h1, h2, h3⟩ := hk
      exact .inr ⟨id, b, tot, (hback id b h1).2, h2, h3⟩
  refine ⟨⟨fun k hk => ?_, fun i b hi => S.gen i b (hback i b hi).2, fun i b hi => S.szs i b (hback i b hi).2, fun i b hi => ?_, fun i i' b b' q t t' h1 h2 h3 h4 h5 => S.inj i i' b b' q t t' (hback i b h1).2 (hback i' b' h2).2 h3 h4 h5⟩, E⟩
  · rcases hk with h | h
    · exact S.pr k h
    · obtain ⟨id, b, tot, _, h2, h3⟩ := hQ k h
      exact hlt id b k tot h2 h3
  · obtain ⟨h1, h2⟩ := hback i b hi
    refine (S.blk i b h2).keep S E rfl fun p tot hp => ⟨rfl, fun hf hn hk => ?_⟩
    rcases hk with h | h
    · exact hn h
    · obtain ⟨id, b', tot', k1, k2, k3⟩ := hQ p h
      have := S.inj i id b b' p tot tot' h2 k2 hp k3 hf
      omega

/-- A row of a callee's that is its caller's own from now on. 'B': what the caller held before the call. -/
theorem SR.adopt {B C : Ctx} (S : SR C) (E : Evo B C) (id : Nat) {b' : Blk} {p : Nat} {cs : Array Value} {t : TypeId} (hp : C.heap[p]? = some (.cells cs t (0, 0))) (hn : ¬ C.Pr p) (hd : ∀ i b tot, C.h i = some b → C.loc i = .at p tot → False)
    (hb : B.heap.size ≤ p ∨ B.owns p) (hf : b'.fz = false) (hg : ¬ C.used b'.gen) (hsz : ∀ (i : Nat) row, b'.rows[i]? = some row → row.length = b'.sz) (hfit : b'.rows.length * b'.sz ≤ cs.size) (hr : RowsAt C b'.sz b'.rows cs.toList) :
    SR ⟨C.heap, C.Pr, upd C.h id b', updL C.loc id (.at p cs.size), addU C.used b'.gen⟩ ∧ Evo B ⟨C.heap, C.Pr, upd C.h id b', updL C.loc id (.at p cs.size), addU C.used b'.gen⟩ ∧ Evm C ⟨C.heap, C.Pr, upd C.h id b', updL C.loc id (.at p cs.size), addU C.used b'.gen⟩ := by
  have M : Evm C ⟨C.heap, C.Pr, upd C.h id b', updL C.loc id (.at p cs.size), addU C.used b'.gen⟩ := by
    refine ⟨Nat.le_refl _, fun _ _ _ => rfl, fun _ h => h, fun _ h => .inl h, fun i bi hi hu => ?_⟩
    by_cases hid : i = id
    · subst hid
      simp only [upd_same, Option.some.injEq] at hi
      subst hi
      exact absurd hu hg
    · exact ⟨bi, by simpa [upd, hid] using hi, rfl, rfl, rfl, by simp [updL, hid]⟩
  have own : ∀ q, Ctx.owns ⟨C.heap, C.Pr, upd C.h id b', updL C.loc id (.at p cs.size), addU C.used b'.gen⟩ q → q = p ∨ C.owns q := by
    rintro q ⟨i, bi, ti, h1, h2, h3⟩
    by_cases hid : i = id
    · subst hid
      simp only [updL_same, Loc.at.injEq] at h3
      exact .inl h3.1.symm
    · exact .inr ⟨i, bi, ti, by simpa [upd, hid] using h1, h2, by simpa [updL, hid] using h3⟩
  have E' : Evo B ⟨C.heap, C.Pr, upd C.h id b', updL C.loc id (.at p cs.size), addU C.used b'.gen⟩ := by
    refine ⟨E.size, E.old, E.prsub, E.prnew, fun q hq => ?_, fun g h => .inl (E.used g h), fun i bi hi hu => ?_⟩
    · rcases own q hq with rfl | h
      · exact hb
      · exact E.own q h
    · by_cases hid : i = id
      · subst hid
        simp only [upd_same, Option.some.injEq] at hi
        subst hi
        exact absurd (E.used _ hu) hg
      · obtain ⟨b0, k1, k2, k3, k4, k5⟩ := E.live i bi (by simpa [upd, hid] using hi) hu
        exact ⟨b0, k1, k2, k3, k4, by simpa [updL, hid] using k5⟩
  have keepm : ∀ i bi, C.h i = some bi → i ≠ id → BlkR ⟨C.heap, C.Pr, upd C.h id b', updL C.loc id (.at p cs.size), addU C.used b'.gen⟩ i bi := by
    intro i bi hi hid
    have h3 := S.blk i bi hi
    unfold BlkR at h3 ⊢
    have hloc : updL C.loc id (.at p cs.size) i = C.loc i := by simp [updL, hid]
    simp only [hloc]
    cases hl : C.loc i with
    | nil => rw [hl] at h3; exact h3
    | «at» q tot =>
      rw [hl] at h3
      obtain ⟨m1, m2, cs', t', m3, m4, m5, m6⟩ := h3
      refine ⟨m1, m2, cs', t', m3, m4, m5, fun x row j v hx hj => ?_⟩
      obtain ⟨y1, r, y2, y3⟩ := m6 x row j v hx hj
      exact ⟨y1, r, y2, y3.monom S M⟩
  refine ⟨⟨S.pr, fun i bi hi => ?_, fun i bi hi => ?_, fun i bi hi => ?_, fun i i' bi bi' q t t' h1 h2 h3 h4 h5 => ?_⟩, E', M⟩
  · by_cases hid : i = id
    · subst hid; simp only [upd_same, Option.some.injEq] at hi; subst hi; exact .inr rfl
    · exact .inl (S.gen i bi (by simpa [upd, hid] using hi))
  · by_cases hid : i = id
    · subst hid; simp only [upd_same, Option.some.injEq] at hi; subst hi; exact hsz
    · exact S.szs i bi (by simpa [upd, hid] using hi)
  · by_cases hid : i = id
    · subst hid
      simp only [upd_same, Option.some.injEq] at hi
      subst hi
      unfold BlkR
      simp only [updL_same]
      refine ⟨fun _ => hn, fun h => (by rw [hf] at h; cases h), cs, t, hp, rfl, hfit, fun x row j v hx hj => ?_⟩
      obtain ⟨y1, r, y2, y3⟩ := hr x row j v hx hj
      exact ⟨y1, r, by simpa using y2, y3.monom S M⟩
    · exact keepm i bi (by simpa [upd, hid] using hi) hid
  · by_cases e1 : i = id <;> by_cases e2 : i' = id
    · rw [e1, e2]
    · subst e1
      simp only [updL_same, Loc.at.injEq] at h3
      exact (hd i' bi' t' (by simpa [upd, e2] using h2) (by rw [h3.1]; simpa [updL, e2] using h4)).elim
    · subst e2
      simp only [updL_same, Loc.at.injEq] at h4
      exact (hd i bi t (by simpa [upd, e1] using h1) (by rw [h4.1]; simpa [updL, e1] using h3)).elim
    · exact S.inj i i' bi bi' q t t' (by simpa [upd, e1] using h1) (by simpa [upd, e2] using h2) (by simpa [updL, e1] using h3) (by simpa [updL, e2] using h4) h5

end Gh
