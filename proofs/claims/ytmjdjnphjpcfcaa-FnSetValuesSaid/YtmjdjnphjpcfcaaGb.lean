/- The relation between plain values and the machine's, and how it lives on. -/
import Derived.Test.YtmjdjnphjpcfcaaGa
import Derived.Laws.Append
import Derived.Laws.CopyRow
import Derived.Laws.MakeOwn
import Derived.Below
namespace Gh
open Go

inductive Loc where
  | nil
  | at (b tot : Nat)

structure Ctx where
  heap : Array Obj
  Pr : Nat → Prop
  h : Hp
  loc : Nat → Loc
  used : Nat → Prop

def cellAt (heap : Array Obj) (b o : Nat) : Option Value :=
  match heap[b]? with
  | some (.cells c _ _) => c[o]?
  | _ => none

theorem cell_eq (w : World) (b o : Nat) : w.cell? ⟨b, o, none⟩ = cellAt w.heap b o := by
  unfold World.cell? cellAt
  split <;> rename_i h <;> simp_all

theorem cellAt_of {heap : Array Obj} {b : Nat} {cs : Array Value} {t : TypeId} {fr : Nat × Nat} (h : heap[b]? = some (.cells cs t fr)) (o : Nat) : cellAt heap b o = cs[o]? := by
  simp [cellAt, h]

theorem cellAt_congr {heap heap' : Array Obj} {b : Nat} (h : heap'[b]? = heap[b]?) (o : Nat) : cellAt heap' b o = cellAt heap b o := by
  simp [cellAt, h]

inductive VR (C : Ctx) : V → Value → Prop where
  | int (k : IntKind) (n : Int) : VR C (.int k n) (.int k n)
  | bool (b : Bool) : VR C (.bool b) (.bool b)
  | nil : VR C .nil (.slice none 0 0)
  | undef (r : Value) : VR C .undef r
  | fs (rows : List (List V)) (a : Option Addr) (c sz b o : Nat) (f : Nat → Nat → Value) (hle : rows.length ≤ c) (ha : rows ≠ [] → a = some ⟨b, o, none⟩)
      (hsz : ∀ (i : Nat) row, rows[i]? = some row → row.length = sz) (hok : ∀ (i : Nat) row (j : Nat) v, rows[i]? = some row → row[j]? = some v → v.pureC = true)
      (hc : ∀ i j, i < rows.length → j < sz → C.Pr b ∧ cellAt C.heap b (o + i * sz + j) = some (f i j))
      (hv : ∀ (i : Nat) row (j : Nat) v, rows[i]? = some row → row[j]? = some v → VR C v (f i j)) : VR C (.fs rows) (.slice a rows.length c)
  | os (id g sz off len : Nat) (a : Option Addr) (c : Nat) (hu : C.used g) (hle : len ≤ c) (hs : 0 < len → a.isSome = true)
      (hl : ∀ blk, C.h id = some blk → blk.gen = g → blk.sz = sz ∧ off + len ≤ blk.rows.length ∧
        ((off = 0 ∨ 0 < len) → (C.loc id = .nil ∧ a = none ∧ c = 0) ∨ ∃ b tot, C.loc id = .at b tot ∧ a = some ⟨b, off * sz, none⟩ ∧ (off + c) * sz ≤ tot)) : VR C (.os id g sz off len) (.slice a len c)
  | agg (cs : List V) (rs : Array Value) (hs : rs.size = cs.length) (hv : ∀ (i : Nat) v, cs[i]? = some v → VR C v (rs.getD i Go.undef)) : VR C (.agg cs) (.agg rs)
  | tup (cs : List V) (rs : Array Value) (hs : rs.size = cs.length) (hv : ∀ (i : Nat) v, cs[i]? = some v → VR C v (rs.getD i Go.undef)) : VR C (.tup cs) (.tuple rs)
  | ptr (id g row off : Nat) (a : Addr) (hu : C.used g) (hl : ∀ blk, C.h id = some blk → blk.gen = g → row < blk.rows.length ∧ ∃ b tot, C.loc id = .at b tot ∧ a = ⟨b, row * blk.sz + off, none⟩) : VR C (.ptr id g row off) (.pointer (some a))
  | fp (row : List V) (off b o : Nat) (f : Nat → Value) (hc : ∀ (j : Nat) v, row[j]? = some v → C.Pr b ∧ cellAt C.heap b (o + j) = some (f j)) (hv : ∀ (j : Nat) v, row[j]? = some v → VR C v (f j)) : VR C (.fp row off) (.pointer (some ⟨b, o + off, none⟩))
  | fn (f : Nat) (cs : List V) (rs : Array Value) (hs : rs.size = cs.length) (hv : ∀ (i : Nat) v, cs[i]? = some v → VR C v (rs.getD i Go.undef)) : VR C (.fn f cs) (.func (.func f) #[] rs)

/-- An empty slice leads nowhere. -/
theorem VR.fs_nil {C K : Ctx} {r : Value} (h : VR C (.fs []) r) : VR K (.fs []) r := by
  cases h
  exact .fs [] _ _ 0 0 0 (fun _ _ => Go.undef) (by assumption) (fun h => absurd rfl h) (fun i row h => by simp at h) (fun i row j v h => by simp at h) (fun i j h => by simp at h) (fun i row j v h => by simp at h)

theorem VR.nil_fs (C : Ctx) : VR C (.fs []) (.slice none 0 0) :=
  .fs [] none 0 0 0 0 (fun _ _ => Go.undef) (Nat.le_refl _) (fun h => absurd rfl h) (fun i row h => by simp at h) (fun i row j v h => by simp at h) (fun i j h => by simp at h) (fun i row j v h => by simp at h)

/-- A block that may be written. -/
def Ctx.owns (C : Ctx) (b : Nat) : Prop := ∃ id blk tot, C.h id = some blk ∧ blk.fz = false ∧ C.loc id = .at b tot

def BlkR (C : Ctx) (id : Nat) (b : Blk) : Prop :=
  match C.loc id with
  | .nil => b.rows = []
  | .at p tot => (b.fz = false → ¬ C.Pr p) ∧ (b.fz = true → C.Pr p) ∧ ∃ cs t, C.heap[p]? = some (.cells cs t (0, 0)) ∧ cs.size = tot ∧ b.rows.length * b.sz ≤ tot ∧
      ∀ (i : Nat) row (j : Nat) v, b.rows[i]? = some row → row[j]? = some v → v.okCell = true ∧ ∃ r, cs[i * b.sz + j]? = some r ∧ VR C v r

structure SR (C : Ctx) : Prop where
  pr : ∀ b, C.Pr b → b < C.heap.size
  gen : ∀ id b, C.h id = some b → C.used b.gen
  szs : ∀ id b, C.h id = some b → ∀ (i : Nat) row, b.rows[i]? = some row → row.length = b.sz
  blk : ∀ id b, C.h id = some b → BlkR C id b
  inj : ∀ id id' b b' p t t', C.h id = some b → C.h id' = some b' → C.loc id = .at p t → C.loc id' = .at p t' → b.fz = false → id = id'

/-- What a value's relation needs to live on. -/
structure Evm (C C' : Ctx) : Prop where
  size : C.heap.size ≤ C'.heap.size
  old : ∀ b, b < C.heap.size → ¬ C.owns b → C'.heap[b]? = C.heap[b]?
  prsub : ∀ b, C.Pr b → C'.Pr b
  used : ∀ g, C.used g → C'.used g
  live : ∀ id blk', C'.h id = some blk' → C.used blk'.gen → ∃ blk, C.h id = some blk ∧ blk.gen = blk'.gen ∧ blk.sz = blk'.sz ∧ blk.rows.length = blk'.rows.length ∧ C'.loc id = C.loc id

structure Evo (C C' : Ctx) : Prop where
  size : C.heap.size ≤ C'.heap.size
  old : ∀ b, b < C.heap.size → ¬ C.owns b → C'.heap[b]? = C.heap[b]?
  prsub : ∀ b, C.Pr b → C'.Pr b
  prnew : ∀ b, C'.Pr b → C.Pr b ∨ C.heap.size ≤ b ∨ C.owns b
  own : ∀ b, C'.owns b → C.heap.size ≤ b ∨ C.owns b
  used : ∀ g, C.used g → C'.used g
  live : ∀ id blk', C'.h id = some blk' → C.used blk'.gen → ∃ blk, C.h id = some blk ∧ blk.gen = blk'.gen ∧ blk.sz = blk'.sz ∧ blk.rows.length = blk'.rows.length ∧ C'.loc id = C.loc id

theorem Evo.m {C C' : Ctx} (E : Evo C C') : Evm C C' := ⟨E.size, E.old, E.prsub, E.used, E.live⟩

theorem Evo.refl (C : Ctx) : Evo C C :=
  ⟨Nat.le_refl _, fun _ _ _ => rfl, fun _ h => h, fun _ h => .inl h, fun _ h => .inr h, fun _ h => h, fun _ b h _ => ⟨b, h, rfl, rfl, rfl, rfl⟩⟩

theorem Evo.trans {A B C : Ctx} (x : Evo A B) (y : Evo B C) : Evo A C where
  size := Nat.le_trans x.size y.size
  old := fun b hb hn => by
    rw [y.old b (Nat.lt_of_lt_of_le hb x.size) (fun ho => (x.own b ho).elim (fun h => by omega) hn), x.old b hb hn]
  prsub := fun b h => y.prsub b (x.prsub b h)
  prnew := fun b h => by
    rcases y.prnew b h with h | h | h
    · exact x.prnew b h
    · exact .inr (.inl (Nat.le_trans x.size h))
    · exact .inr (x.own b h)
  own := fun b h => by
    rcases y.own b h with h | h
    · exact .inl (Nat.le_trans x.size h)
    · exact x.own b h
  used := fun g h => y.used g (x.used g h)
  live := fun id c hc hu => by
    obtain ⟨b, hb, h1, h2, h3, h4⟩ := y.live id c hc (x.used _ hu)
    obtain ⟨a, ha, k1, k2, k3, k4⟩ := x.live id b hb (by rw [h1]; exact hu)
    exact ⟨a, ha, k1.trans h1, k2.trans h2, k3.trans h3, h4.trans k4⟩

theorem SR.owned {C : Ctx} (S : SR C) {b : Nat} (h : C.owns b) : ¬ C.Pr b ∧ b < C.heap.size := by
  obtain ⟨id, blk, tot, h1, h2, h3⟩ := h
  have h4 := S.blk id blk h1
  unfold BlkR at h4
  rw [h3] at h4
  obtain ⟨h5, _, cs, t, h6, _⟩ := h4
  exact ⟨h5 h2, (Array.getElem?_eq_some_iff.1 h6).1⟩

theorem Evm.pr {C C' : Ctx} (S : SR C) (E : Evm C C') {b : Nat} (h : C.Pr b) : C'.Pr b ∧ ∀ o, cellAt C'.heap b o = cellAt C.heap b o :=
  ⟨E.prsub b h, fun o => cellAt_congr (E.old b (S.pr b h) fun ho => (S.owned ho).1 h) o⟩

theorem VR.monom {C C' : Ctx} (S : SR C) (E : Evm C C') {v : V} {r : Value} (h : VR C v r) : VR C' v r := by
  induction h with
  | int k n => exact .int k n
  | bool b => exact .bool b
  | nil => exact .nil
  | undef r => exact .undef r
  | fs rows a c sz b o f hle ha hsz hok hc _ ih =>
    exact .fs rows a c sz b o f hle ha hsz hok (fun i j hi hj => by obtain ⟨h1, h2⟩ := hc i j hi hj; obtain ⟨h3, h4⟩ := E.pr S h1; exact ⟨h3, (h4 _).trans h2⟩) ih
  | os id g sz off len a c hu hle hs hl =>
    refine .os id g sz off len a c (E.used g hu) hle hs fun blk hb hg => ?_
    obtain ⟨b0, h1, h2, h3, h4, h5⟩ := E.live id blk hb (by rw [hg]; exact hu)
    obtain ⟨k1, k2, k3⟩ := hl b0 h1 (h2.trans hg)
    rw [← h3, ← h4, h5]
    exact ⟨k1, k2, k3⟩
  | agg cs rs hs _ ih => exact .agg cs rs hs ih
  | tup cs rs hs _ ih => exact .tup cs rs hs ih
  | ptr id g row off a hu hl =>
    refine .ptr id g row off a (E.used g hu) fun blk hb hg => ?_
    obtain ⟨b0, h1, h2, h3, h4, h5⟩ := E.live id blk hb (by rw [hg]; exact hu)
    obtain ⟨k1, k2⟩ := hl b0 h1 (h2.trans hg)
    rw [← h3, ← h4, h5]
    exact ⟨k1, k2⟩
  | fp row off b o f hc _ ih =>
    exact .fp row off b o f (fun j v hj => by obtain ⟨h1, h2⟩ := hc j v hj; obtain ⟨h3, h4⟩ := E.pr S h1; exact ⟨h3, (h4 _).trans h2⟩) ih
  | fn f cs rs hs _ ih => exact .fn f cs rs hs ih

theorem VR.mono {C C' : Ctx} (S : SR C) (E : Evo C C') {v : V} {r : Value} (h : VR C v r) : VR C' v r := h.monom S E.m

theorem V.pureC_ok {v : V} (h : v.pureC = true) : v.okCell = true := by
  cases v <;> first | rfl | (simp [V.pureC] at h)

theorem VR.oneCell {C : Ctx} {v : V} {r : Value} (h : VR C v r) (hv : v.okCell = true) : r.oneCell' = true := by
  cases h <;> simp [V.okCell] at hv <;> rfl

theorem VR.cells {C : Ctx} {v : V} {r : Value} (h : VR C v r) (hu : okCells v.cells = true) : r.cells.size = v.cells.length ∧ ∀ (i : Nat) x, v.cells[i]? = some x → VR C x (r.cells.getD i Go.undef) := by
  cases h
  case agg cs rs hs hv => exact ⟨hs, hv⟩
  case undef => simp [V.cells, okCells, V.okCell] at hu
  case tup => simp [V.cells, okCells, V.okCell] at hu
  all_goals
    refine ⟨rfl, fun i x hx => ?_⟩
    cases i with
    | zero =>
      simp only [V.cells, List.getElem?_cons_zero, Option.some.injEq] at hx
      subst hx
      first
        | exact .int _ _
        | exact .bool _
        | exact .nil
        | (apply VR.fs <;> assumption)
        | (apply VR.os <;> assumption)
        | (apply VR.ptr <;> assumption)
        | (apply VR.fp <;> assumption)
        | (apply VR.fn <;> assumption)
    | succ i => simp [V.cells] at hx

theorem okCells_mem {l : List V} (h : okCells l = true) : ∀ (i : Nat) x, l[i]? = some x → x.okCell = true := by
  induction l with
  | nil => intro i x hx; simp at hx
  | cons a l ih =>
    intro i x hx
    simp only [okCells, Bool.and_eq_true] at h
    cases i with
    | zero => simp at hx; subst hx; exact h.1
    | succ i => exact ih h.2 i x (by simpa using hx)

theorem pureRows_get {rows : List (List V)} (h : pureRows rows = true) : ∀ (i : Nat) row (j : Nat) v, rows[i]? = some row → row[j]? = some v → v.pureC = true := by
  have hc : ∀ (l : List V), pureCs l = true → ∀ (j : Nat) v, l[j]? = some v → v.pureC = true := by
    intro l
    induction l with
    | nil => intro _ j v hj; simp at hj
    | cons a l ih =>
      intro hl j v hj
      simp only [pureCs, Bool.and_eq_true] at hl
      cases j with
      | zero => simp at hj; subst hj; exact hl.1
      | succ j => exact ih hl.2 j v (by simpa using hj)
  induction rows with
  | nil => intro i row j v hi; simp at hi
  | cons a l ih =>
    intro i row j v hi hj
    simp only [pureRows, Bool.and_eq_true] at h
    cases i with
    | zero => simp at hi; subst hi; exact hc _ h.1 j v hj
    | succ i => exact ih h.2 i row j v (by simpa using hi) hj

/-- What is told by value needs its memory alone. -/
theorem VR.far {C K : Ctx} (hP : ∀ b, C.Pr b → K.Pr b ∧ ∀ o, cellAt K.heap b o = cellAt C.heap b o) {v : V} {r : Value} (h : VR C v r) (hv : v.pureC = true) : VR K v r := by
  induction h with
  | int k n => exact .int k n
  | bool b => exact .bool b
  | nil => exact .nil
  | fs rows a c sz b o f hle ha hsz hok hc _ ih =>
    exact .fs rows a c sz b o f hle ha hsz hok (fun i j hi hj => by obtain ⟨h1, h2⟩ := hc i j hi hj; obtain ⟨h3, h4⟩ := hP b h1; exact ⟨h3, (h4 _).trans h2⟩) (fun i row j v hi hj => ih i row j v hi hj (hok i row j v hi hj))
  | _ => simp [V.pureC] at hv

end Gh
