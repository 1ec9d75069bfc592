/- The types' table; what the machine's operations on memory give, told in plain values. -/
import Derived.Test.YtmjdjnphjpcfcaaGc
namespace Gh
set_option linter.unusedVariables false
set_option linter.unusedSimpArgs false
open Go

inductive TD where
  | slice (e : Nat)
  | array (n e : Nat)
  | struct (fs : List (Nat × Nat × Nat))
  | int (k : IntKind)
  | bool
  | other

structure TI where
  d : TD
  size : Nat
  bytes : Nat
  zero : List V
  eqok : Bool

def TI.ag (t : TI) : Bool := match t.d with
  | .struct _ => true
  | .array _ _ => true
  | _ => false

def constV : V → Option Value
  | .int k n => some (.int k n)
  | .bool b => some (.bool b)
  | .nil => some (.slice none 0 0)
  | .fs [] => some (.slice none 0 0)
  | .fn f [] => some (.func (.func f) #[] #[])
  | _ => none

def TD.ok (P : Program) (t : TypeId) : TD → Prop
  | .slice e => P.underlying t = some (.slice e)
  | .array n e => P.underlying t = some (.array n e)
  | .struct fs => ∃ F, P.underlying t = some (.struct F) ∧ F.toList.mapM (fun f => (P.info? f.type).map fun i => (f.offset, i.size)) = some (fs.map fun x => (x.1, x.2.1)) ∧
      ∀ (i : Nat) off sz ft, fs[i]? = some (off, sz, ft) → ∃ f, F[i]? = some f ∧ f.offset = off ∧ f.type = ft
  | .int k => P.underlying t = some (.int k)
  | .bool => P.underlying t = some .bool
  | .other => ∃ d, P.underlying t = some d ∧ (∀ F, d ≠ .struct F) ∧ ∀ n e, d ≠ .array n e

/-- '==' at a type of structs or arrays is '==' cell by cell. -/
def EqAt (P : Program) (t : TypeId) (n : Nat) : Prop :=
  P.eqGuardType P.depth t = false ∧ ∀ (xs ys : List V) (rx ry : Array Value) (b : Bool) (w : World), rx.size = xs.length → ry.size = ys.length →
    (∀ (i : Nat) v, xs[i]? = some v → constV v = some (rx.getD i Go.undef)) → (∀ (i : Nat) v, ys[i]? = some v → constV v = some (ry.getD i Go.undef)) →
    intsN xs n = true → eqCells xs ys = some b → (Op.equal t (.agg rx) (.agg ry)).run P w = .ok b w

structure TIOK (P : Program) (t : TypeId) (ti : TI) : Prop where
  info : ∃ i z, P.info? t = some i ∧ i.size = ti.size ∧ i.bytes = ti.bytes ∧ i.zero = some z ∧ z.cells.size = ti.size ∧ (ti.zero ≠ [] → z.cells.toList.map some = ti.zero.map constV)
  d : ti.d.ok P t
  eq : ti.eqok = true → EqAt P t ti.size

abbrev Tab := Nat → Option TI
def TabOK (P : Program) (tab : Tab) : Prop := ∀ t ti, tab t = some ti → TIOK P t ti

theorem VR.const {C : Ctx} {v : V} {r : Value} (h : constV v = some r) : VR C v r := by
  unfold constV at h
  split at h <;> simp only [Option.some.injEq, reduceCtorEq] at h <;> subst h
  · exact .int _ _
  · exact .bool _
  · exact .nil
  · exact VR.nil_fs _
  · exact .fn _ [] #[] rfl (fun i v h => by simp at h)

section
variable {P : Program} {t : TypeId} {ti : TI} {w : World}

theorem TIOK.run_size (h : TIOK P t ti) : (Go.sizeOf t).run P w = .ok ti.size w := by
  obtain ⟨i, z, h1, h2, _⟩ := h.info
  simp [Go.sizeOf, typeInfo, h1, h2]

theorem TIOK.run_agg (h : TIOK P t ti) : (isAgg t).run P w = .ok ti.ag w := by
  have hd := h.d
  unfold isAgg TI.ag
  cases hdd : ti.d <;> simp only [hdd, TD.ok] at hd
  case struct fs => obtain ⟨F, h1, _⟩ := hd; simp [run_underlying h1]
  case other =>
    obtain ⟨d, h1, h2, h3⟩ := hd
    simp only [Sem.run_bind, run_underlying h1, Result.andThen_ok]
    cases d <;> first | rfl | exact absurd rfl (h2 _) | exact absurd rfl (h3 _ _)
  all_goals simp [run_underlying hd]

theorem choose_list {α β : Type} (l : List α) (R : Nat → α → β → Prop) (h : ∀ (j : Nat) a, l[j]? = some a → ∃ b, R j a b) :
    ∃ m : List β, m.length = l.length ∧ ∀ (j : Nat) a, l[j]? = some a → ∃ b, m[j]? = some b ∧ R j a b := by
  induction l generalizing R with
  | nil => exact ⟨[], rfl, fun j a ha => by simp at ha⟩
  | cons a l ih =>
    obtain ⟨b, hb⟩ := h 0 a rfl
    obtain ⟨m, hm, hr⟩ := ih (fun j a b => R (j + 1) a b) (fun j x hx => h (j + 1) x (by simpa using hx))
    refine ⟨b :: m, by simp [hm], fun j x hx => ?_⟩
    cases j with
    | zero => simp at hx; subst hx; exact ⟨b, rfl, hb⟩
    | succ j => obtain ⟨c, hc, hr'⟩ := hr j x (by simpa using hx); exact ⟨c, by simpa using hc, hr'⟩

theorem list_all {α β : Type} {l : List α} {m : List β} {R : Nat → α → β → Prop} (hl : m.length = l.length) (h : ∀ (j : Nat) a, l[j]? = some a → ∃ b, m[j]? = some b ∧ R j a b) :
    ∀ (j : Nat) b, m[j]? = some b → ∃ a, l[j]? = some a ∧ R j a b := by
  intro j b hb
  have hj : j < l.length := by rw [← hl]; exact (List.getElem?_eq_some_iff.1 hb).1
  obtain ⟨b', hb', hr⟩ := h j l[j] (List.getElem?_eq_getElem hj)
  rw [hb] at hb'
  cases hb'
  exact ⟨l[j], List.getElem?_eq_getElem hj, hr⟩

theorem addr_add (b o j : Nat) : (⟨b, o, none⟩ : Addr).add j = ⟨b, o + j, none⟩ := by
  unfold Addr.add; split <;> simp_all

/-- A variable read, whose cells are known. -/
theorem run_loadVar {C : Ctx} (hT : TIOK P t ti) (hw : w.heap = C.heap) {b o : Nat} {vs : List V} {v : V} (hc : ∀ (j : Nat) x, vs[j]? = some x → ∃ r, cellAt C.heap b (o + j) = some r ∧ VR C x r) (hm : mkVal ti.ag ti.size vs = some v) :
    ∃ r, (loadVar t ⟨b, o, none⟩).run P w = .ok r w ∧ VR C v r := by
  unfold mkVal at hm
  unfold loadVar
  cases hag : ti.ag with
  | true =>
    rw [hag] at hm
    simp only [if_true, Option.ite_none_right_eq_some, Option.some.injEq] at hm
    obtain ⟨hlen, rfl⟩ := hm
    obtain ⟨m, hml, hmr⟩ := choose_list vs _ hc
    have hall := list_all hml hmr
    have hr := run_loadCells_list (P := P) w ⟨b, o, none⟩ m (fun j r hj => by
      obtain ⟨a, _, h1, _⟩ := hall j r hj
      rw [addr_add, cell_eq, hw]; exact h1)
    refine ⟨.agg m.toArray, ?_, .agg vs _ (by simpa using hml) fun i x hx => ?_⟩
    · simp [hT.run_agg, hag, hT.run_size, ← hlen, ← hml, hr]
    · obtain ⟨r, h1, h2, h3⟩ := hmr i x hx
      simpa [Array.getD_eq_getD_getElem?, h1] using h3
  | false =>
    rw [hag] at hm
    simp only [Bool.false_eq_true, if_false] at hm
    cases vs with
    | nil => simp at hm
    | cons a l =>
      cases l with
      | cons _ _ => simp at hm
      | nil =>
        simp only [Option.some.injEq] at hm
        subst hm
        obtain ⟨r, h1, h2⟩ := hc 0 a rfl
        refine ⟨r, ?_, h2⟩
        have : w.cell? ⟨b, o, none⟩ = some r := by rw [cell_eq, hw]; simpa using h1
        simp [hT.run_agg, hag, this]

/-- Cells that hold rows. -/
def RowsAt (C : Ctx) (sz : Nat) (rows : List (List V)) (L : List Value) : Prop :=
  ∀ (i : Nat) row (j : Nat) v, rows[i]? = some row → row[j]? = some v → v.okCell = true ∧ ∃ r, L[i * sz + j]? = some r ∧ VR C v r

theorem rowsSz_iff {sz : Nat} {rows : List (List V)} (h : rowsSz sz rows = true) : ∀ (i : Nat) row, rows[i]? = some row → row.length = sz := by
  induction rows with
  | nil => intro i row hi; simp at hi
  | cons r l ih =>
    simp only [rowsSz, Bool.and_eq_true, beq_iff_eq] at h
    intro i row hi
    cases i with
    | zero => simp at hi; subst hi; exact h.1
    | succ i => exact ih h.2 i row (by simpa using hi)

/-- Rows that lie at an address, as one list of cells. -/
theorem rows_list {C : Ctx} {sz b o : Nat} (rows : List (List V)) (hsz : ∀ (i : Nat) row, rows[i]? = some row → row.length = sz)
    (hc : ∀ (i : Nat) row (j : Nat) v, rows[i]? = some row → row[j]? = some v → v.okCell = true ∧ ∃ r, cellAt C.heap b (o + i * sz + j) = some r ∧ VR C v r) :
    ∃ L : List Value, L.length = rows.length * sz ∧ (∀ (k : Nat) r, L[k]? = some r → cellAt C.heap b (o + k) = some r ∧ r.oneCell' = true) ∧ RowsAt C sz rows L := by
  induction rows generalizing o with
  | nil => exact ⟨[], by simp, fun k r h => by simp at h, fun i row j v h => by simp at h⟩
  | cons row rows ih =>
    have h0 : row.length = sz := hsz 0 row rfl
    obtain ⟨m, hml, hmr⟩ := choose_list row _ (fun j v hj => (hc 0 row j v rfl hj).2)
    have hall := list_all hml hmr
    obtain ⟨L, hL, hLc, hLr⟩ := ih (o := o + sz) (fun i r hi => hsz (i + 1) r (by simpa using hi)) (fun i r j v hi hj => by
      obtain ⟨h1, x, h2, h3⟩ := hc (i + 1) r j v (by simpa using hi) hj
      exact ⟨h1, x, by rw [← h2]; congr 1; rw [Nat.add_mul]; omega, h3⟩)
    refine ⟨m ++ L, ?_, fun k r hk => ?_, fun i r j v hi hj => ?_⟩
    · rw [List.length_append, hL, hml, h0, List.length_cons, Nat.add_mul]; omega
    · by_cases hk' : k < m.length
      · rw [List.getElem?_append_left hk'] at hk
        obtain ⟨a, ha, h1, h2⟩ := hall k r hk
        exact ⟨by simpa using h1, h2.oneCell (hc 0 row k a rfl ha).1⟩
      · rw [List.getElem?_append_right (by omega)] at hk
        obtain ⟨h1, h2⟩ := hLc _ r hk
        refine ⟨?_, h2⟩
        rw [← h1]; congr 1; omega
    · cases i with
      | zero =>
        simp only [List.getElem?_cons_zero, Option.some.injEq] at hi
        subst hi
        obtain ⟨x, h1, h2, h3⟩ := hmr j v hj
        have hj' : j < m.length := by rw [hml]; exact (List.getElem?_eq_some_iff.1 hj).1
        exact ⟨(hc 0 row j v rfl hj).1, x, by simp only [Nat.zero_mul, Nat.zero_add]; rw [List.getElem?_append_left hj']; exact h1, h3⟩
      | succ i =>
        obtain ⟨h1, x, h2, h3⟩ := hLr i r j v (by simpa using hi) hj
        refine ⟨h1, x, ?_, h3⟩
        have : m.length ≤ (i + 1) * sz + j := by rw [hml, h0, Nat.add_mul]; omega
        rw [List.getElem?_append_right this, ← h2]
        congr 1
        rw [hml, h0, Nat.add_mul]; omega

theorem RowsAt.append {C : Ctx} {sz : Nat} {r1 r2 : List (List V)} {L1 L2 : List Value} (h1 : RowsAt C sz r1 L1) (h2 : RowsAt C sz r2 L2) (hl : L1.length = r1.length * sz) (hs : ∀ (i : Nat) row, r1[i]? = some row → row.length = sz) (L3 : List Value) :
    RowsAt C sz (r1 ++ r2) (L1 ++ L2 ++ L3) := by
  intro i row j v hi hj
  by_cases hi' : i < r1.length
  · rw [List.getElem?_append_left hi'] at hi
    obtain ⟨k1, r, k2, k3⟩ := h1 i row j v hi hj
    refine ⟨k1, r, ?_, k3⟩
    have hlt : i * sz + j < L1.length := (List.getElem?_eq_some_iff.1 k2).1
    rw [List.append_assoc, List.getElem?_append_left hlt]; exact k2
  · rw [List.getElem?_append_right (by omega)] at hi
    obtain ⟨k1, r, k2, k3⟩ := h2 _ row j v hi hj
    refine ⟨k1, r, ?_, k3⟩
    have hlt := (List.getElem?_eq_some_iff.1 k2).1
    have e : i * sz = r1.length * sz + (i - r1.length) * sz := by rw [← Nat.add_mul]; congr 1; omega
    rw [List.append_assoc, List.getElem?_append_right (by rw [hl, e]; omega), List.getElem?_append_left (by rw [hl, e]; omega), ← k2]
    congr 1
    rw [hl, e]; omega

theorem RowsAt.nil (C : Ctx) (sz : Nat) (L : List Value) : RowsAt C sz [] L := fun i row j v h => by simp at h

/-- The rows that a slice's value leads to. -/
theorem slice_rows {C : Ctx} (S : SR C) {v : V} {r : Value} (h : VR C v r) {rows : List (List V)} (hr : rowsOf C.h v = some rows) {sz : Nat} (hs : rowsSz sz rows = true) :
    ∃ a c L, r = .slice a rows.length c ∧ rows.length ≤ c ∧ L.length = rows.length * sz ∧ RowsAt C sz rows L ∧ (∀ (k : Nat) x, L[k]? = some x → x.oneCell' = true) ∧
      (L = [] ∨ ∃ b o, a = some ⟨b, o, none⟩ ∧ ∀ (k : Nat) x, L[k]? = some x → cellAt C.heap b (o + k) = some x) := by
  have hsz := rowsSz_iff hs
  cases h with
  | nil =>
    simp only [rowsOf, Option.some.injEq] at hr
    subst hr
    exact ⟨none, 0, [], rfl, Nat.le_refl _, by simp, RowsAt.nil C sz [], fun k x h => by simp at h, .inl rfl⟩
  | fs rows' a c sz' b o f hle ha hsz' hok hc hv =>
    simp only [rowsOf, Option.some.injEq] at hr
    subst hr
    by_cases hnil : rows' = []
    · subst hnil
      exact ⟨a, c, [], rfl, hle, by simp, RowsAt.nil C sz [], fun k x h => by simp at h, .inl rfl⟩
    · have e : sz' = sz := by
        cases rows' with
        | nil => exact absurd rfl hnil
        | cons r l => rw [← hsz 0 r rfl, ← hsz' 0 r rfl]
      subst e
      obtain ⟨L, h1, h2, h3⟩ := rows_list (C := C) (sz := sz') (b := b) (o := o) rows' hsz' (fun i row j v hi hj => by
        have hj' : j < sz' := by rw [← hsz' i row hi]; exact (List.getElem?_eq_some_iff.1 hj).1
        exact ⟨V.pureC_ok (hok i row j v hi hj), _, (hc i j (List.getElem?_eq_some_iff.1 hi).1 hj').2, hv i row j v hi hj⟩)
      exact ⟨a, c, L, rfl, hle, h1, h3, fun k x hk => (h2 k x hk).2, .inr ⟨b, o, ha hnil, fun k x hk => (h2 k x hk).1⟩⟩
  | os id g sz' off len a c hu hle _ hl =>
    simp only [rowsOf, hget] at hr
    cases hb : C.h id with
    | none => simp [hb] at hr
    | some blk =>
      simp only [hb] at hr
      by_cases hg : blk.gen = g
      · simp only [hg, if_true, Option.bind_some, Option.ite_none_right_eq_some, Option.some.injEq] at hr
        obtain ⟨hfit, rfl⟩ := hr
        obtain ⟨k1, k2, k3⟩ := hl blk hb hg
        have hlen : ((blk.rows.drop off).take len).length = len := by simp; omega
        have hget : ∀ (i : Nat) row, ((blk.rows.drop off).take len)[i]? = some row → blk.rows[off + i]? = some row := by
          intro i row hi
          rw [List.getElem?_take] at hi
          split at hi
          · simpa using hi
          · cases hi
        by_cases h0 : len = 0
        · subst h0
          exact ⟨a, c, [], by simp, by simp, by simp, (by simpa using RowsAt.nil C sz []), fun k x h => by simp at h, .inl rfl⟩
        · have hB := S.blk id blk hb
          unfold BlkR at hB
          rcases k3 (.inr (by omega)) with ⟨q1, _, _⟩ | ⟨p, tot, q1, q2, q3⟩
          · rw [q1] at hB
            simp [hB] at hfit; omega
          · rw [q1] at hB
            obtain ⟨_, _, cs, t, m3, m4, m5, m6⟩ := hB
            have hblksz : blk.sz = sz := by
              have hx : off < blk.rows.length := by omega
              have e1 := S.szs id blk hb off blk.rows[off] (List.getElem?_eq_getElem hx)
              have e2 := hsz 0 blk.rows[off] (by rw [List.getElem?_take, if_pos (by omega)]; simp [hx])
              omega
            obtain ⟨L, h1, h2, h3⟩ := rows_list (C := C) (sz := sz) (b := p) (o := off * sz) ((blk.rows.drop off).take len) hsz (fun i row j v hi hj => by
              obtain ⟨y1, r, y2, y3⟩ := m6 (off + i) row j v (hget i row hi) hj
              refine ⟨y1, r, ?_, y3⟩
              rw [cellAt_of m3, ← y2, hblksz, Nat.add_mul])
            refine ⟨a, c, L, by rw [hlen], by rw [hlen]; exact hle, h1, h3, fun k x hk => (h2 k x hk).2, .inr ⟨p, off * sz, ?_, fun k x hk => (h2 k x hk).1⟩⟩
            rw [q2, ← k1, hblksz]
      · simp [hg] at hr
  | _ => simp [rowsOf] at hr

theorem slice_first {C : Ctx} (hw : w.heap = C.heap) {a : Option Addr} {n c sz : Nat} {L : List Value} (hl : L.length = n * sz)
    (h : L = [] ∨ ∃ b o, a = some ⟨b, o, none⟩ ∧ ∀ (k : Nat) x, L[k]? = some x → cellAt C.heap b (o + k) = some x) (m : Nat) (hm : m ≤ n) :
    (Builtin.firstCells sz m (.slice a n c)).run P w = .ok (L.take (m * sz)).toArray w := by
  have hml : m * sz ≤ n * sz := Nat.mul_le_mul_right _ hm
  have hlen : (L.take (m * sz)).length = m * sz := by rw [List.length_take, hl]; omega
  rcases h with rfl | ⟨b, o, rfl, hc⟩
  · have h0 : m * sz = 0 := by simp at hl; omega
    cases a with
    | none => simp [Builtin.firstCells]
    | some x => simp [Builtin.firstCells, h0, loadCells, loadCellsFrom]
  · refine run_firstCells_some (P := P) w sz m ⟨b, o, none⟩ n c _ hlen fun j v hj => ?_
    rw [addr_add, cell_eq, hw]
    refine hc j v ?_
    rw [List.getElem?_take] at hj
    split at hj
    · exact hj
    · cases hj

end
end Gh
