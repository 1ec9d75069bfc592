/- The machine's operations that make and write memory, told in plain values. -/
import Derived.Test.YtmjdjnphjpcfcaaGd
namespace Gh
open Go

def CellsAt (C : Ctx) (vs : List V) (L : List Value) : Prop := L.length = vs.length ∧ ∀ (j : Nat) v, vs[j]? = some v → ∃ r, L[j]? = some r ∧ VR C v r

theorem VR.cellsAt {C : Ctx} {v : V} {r : Value} (h : VR C v r) (hu : okCells v.cells = true) : CellsAt C v.cells r.cells.toList := by
  obtain ⟨h1, h2⟩ := h.cells hu
  refine ⟨by simpa using h1, fun j x hj => ?_⟩
  have hlt : j < r.cells.size := by rw [h1]; exact (List.getElem?_eq_some_iff.1 hj).1
  have := h2 j x hj
  refine ⟨r.cells[j], by simp [hlt], ?_⟩
  simpa [Array.getD, hlt] using this

theorem CellsAt.rows {C : Ctx} {p : List V} {L : List Value} (h : CellsAt C p L) (hu : okCells p = true) {sz : Nat} (_hs : p.length = sz) : RowsAt C sz [p] L := by
  intro i row j v hi hj
  cases i with
  | succ i => simp at hi
  | zero =>
    simp only [List.getElem?_cons_zero, Option.some.injEq] at hi
    subst hi
    obtain ⟨r, h1, h2⟩ := h.2 j v hj
    exact ⟨okCells_mem hu j v hj, r, by simpa using h1, h2⟩

def addU (us : Nat → Prop) (g : Nat) : Nat → Prop := fun x => us x ∨ x = g

/-- What a value's computation gives: its run, and the context behind it. -/
def FinV (P : Program) (C : Ctx) (w : World) (s : Sem Value) (v : V) (h' : Hp) (us : Nat → Prop) : Prop :=
  ∃ r w' C', s.run P w = .ok r w' ∧ SR C' ∧ w'.heap = C'.heap ∧ C'.h = h' ∧ C'.used = us ∧ Evo C C' ∧ VR C' v r ∧ w'.os = w.os ∧ w'.tape = w.tape ∧ w'.output = w.output

theorem FinV.still {P : Program} {C : Ctx} {w : World} {s : Sem Value} {v : V} {r : Value} (S : SR C) (hw : w.heap = C.heap) (h : s.run P w = .ok r w) (hv : VR C v r) : FinV P C w s v C.h C.used :=
  ⟨r, w, C, h, S, hw, rfl, rfl, .refl C, hv, rfl, rfl, rfl⟩

/-- The context alone turns. -/
theorem FinV.turn {P : Program} {C C' : Ctx} {w : World} {s : Sem Value} {v : V} {r : Value} (S : SR C') (E : Evo C C') (hh : C'.heap = C.heap) (hw : w.heap = C.heap) (h : s.run P w = .ok r w) (hv : VR C' v r) : FinV P C w s v C'.h C'.used :=
  ⟨r, w, C', h, S, hw.trans hh.symm, rfl, rfl, E, hv, rfl, rfl, rfl⟩

section
variable {P : Program} {C : Ctx} {w : World}

/-- A new block of one's own. -/
theorem FinV.place (S : SR C) (hw : w.heap = C.heap) {s : Sem Value} {r : Value} {w' : World} {cs : Array Value} {t : TypeId} {v : V} (id : Nat) (rows : List (List V)) (g sz : Nat)
    (hs : s.run P w = .ok r w') (hp : w'.heap = w.heap.push (.cells cs t)) (hsame : w'.os = w.os ∧ w'.tape = w.tape ∧ w'.output = w.output)
    (hg : ¬ C.used g) (hsz : ∀ (i : Nat) row, rows[i]? = some row → row.length = sz) (hfit : rows.length * sz ≤ cs.size) (hr : RowsAt C sz rows cs.toList)
    (hv : ∀ C' : Ctx, C'.used g → C'.h = upd C.h id ⟨g, false, sz, rows⟩ → C'.loc id = .at w.heap.size cs.size → VR C' v r) : FinV P C w s v (upd C.h id ⟨g, false, sz, rows⟩) (addU C.used g) := by
  have hsize : w'.heap.size = C.heap.size + 1 := by rw [hp, hw]; simp
  obtain ⟨S', E'⟩ := S.place id (b' := ⟨g, false, sz, rows⟩) (heap' := w'.heap) (cs' := cs) (t := t) (us := addU C.used g) (by omega) (fun k hk => by rw [hp, hw, Array.getElem?_push, if_neg (by omega)])
    (by rw [hp, hw]; simp) (fun x hx => .inl hx) (.inr rfl) rfl hg hsz hfit (fun i row j x hi hj => by
      obtain ⟨h1, q, h2, h3⟩ := hr i row j x hi hj
      exact ⟨h1, q, by simpa using h2, h3⟩)
  refine ⟨r, w', _, hs, S', rfl, rfl, rfl, E', ?_, hsame⟩
  exact hv _ (.inr rfl) rfl (by simp [updL_same, hw])

theorem vr_os_new {C' : Ctx} {id g sz len : Nat} {rows : List (List V)} {n c tot : Nat} (hu : C'.used g) {h : Hp} (hh : C'.h = upd h id ⟨g, false, sz, rows⟩) (hl : C'.loc id = .at n tot) (hlen : len ≤ rows.length) (hc : len ≤ c) (htot : c * sz ≤ tot) :
    VR C' (.os id g sz 0 len) (.slice (some ⟨n, 0, none⟩) len c) := by
  refine .os id g sz 0 len _ c hu hc (fun _ => rfl) fun blk hb _ => ?_
  rw [hh, upd_same] at hb
  simp only [Option.some.injEq] at hb
  subst hb
  exact ⟨rfl, by simpa using hlen, fun _ => .inr ⟨n, tot, hl, by simp, by simpa using htot⟩⟩

/-- 'new', or a variable boxed. -/
theorem fin_newVar (S : SR C) (hw : w.heap = C.heap) {t : TypeId} {rv : Value} {p : List V} (hp : CellsAt C p rv.cells.toList) (hok : okCells p = true) {nid g : Nat} (hg : ¬ C.used g) :
    FinV P C w (do pure (.pointer (some (← newVar t rv)))) (.ptr nid g 0 0) (upd C.h nid ⟨g, false, p.length, [p]⟩) (addU C.used g) := by
  refine FinV.place S hw (cs := rv.cells) (t := t) (r := .pointer (some ⟨w.heap.size, 0, none⟩)) (w' := { w with heap := w.heap.push (.cells rv.cells t) }) nid [p] g p.length (by simp [newVar, newRow]) rfl ⟨rfl, rfl, rfl⟩ hg ?_ ?_ (hp.rows hok rfl) ?_
  · intro i row hi
    cases i with
    | zero => simp at hi; rw [← hi]
    | succ i => simp at hi
  · have := hp.1
    simp at this
    simp [this]
  · intro C' hu hh hl
    refine .ptr nid g 0 0 _ hu fun blk hb _ => ?_
    rw [hh, upd_same] at hb
    simp only [Option.some.injEq] at hb
    subst hb
    exact ⟨by simp, w.heap.size, _, hl, by simp⟩

theorem zeroAt {t : TypeId} {ti : TI} (h : TIOK P t ti) (hz : ti.zero ≠ []) : ∃ z, (∀ w, (zeroValue t).run P w = .ok z w) ∧ CellsAt C ti.zero z.cells.toList ∧ okCells ti.zero = true ∧ ti.zero.length = ti.size ∧ z.cells.size = ti.size := by
  obtain ⟨i, z, h1, h2, h3, h4, h6, h5'⟩ := h.info
  have h5 := h5' hz
  have hzl : ti.zero.length = ti.size := by have := congrArg List.length h5; simp at this; omega
  refine ⟨z, fun w => by simp [zeroValue, typeInfo, h1, h4], ?_, ?_, hzl, h6⟩
  · have hl : z.cells.toList.length = ti.zero.length := by have := congrArg List.length h5; simpa using this
    refine ⟨hl, fun j v hj => ?_⟩
    have hj' : j < z.cells.toList.length := by rw [hl]; exact (List.getElem?_eq_some_iff.1 hj).1
    have := congrArg (·[j]?) h5
    simp only [List.getElem?_map, hj, Option.map_some, List.getElem?_eq_getElem hj', Option.some.injEq] at this
    exact ⟨_, List.getElem?_eq_getElem hj', VR.const this.symm⟩
  · have : ∀ (l : List V) (m : List Value), m.map some = l.map constV → okCells l = true := by
      intro l
      induction l with
      | nil => intro m _; rfl
      | cons a l ih =>
        intro m hm
        cases m with
        | nil => simp at hm
        | cons b m =>
          simp only [List.map_cons, List.cons.injEq] at hm
          simp only [okCells, Bool.and_eq_true]
          refine ⟨?_, ih m hm.2⟩
          cases a <;> first | rfl | (simp [constV] at hm)
    exact this _ _ h5

theorem fin_alloc (S : SR C) (hw : w.heap = C.heap) {t : TypeId} {ti : TI} (hT : TIOK P t ti) (hz : ti.zero ≠ []) {nid g : Nat} (hg : ¬ C.used g) :
    FinV P C w (Instr.alloc t true (.tuple #[])) (.ptr nid g 0 0) (upd C.h nid ⟨g, false, ti.zero.length, [ti.zero]⟩) (addU C.used g) := by
  obtain ⟨z, h1, h2, h3, _, _⟩ := zeroAt (P := P) (C := C) hT hz
  have h4 := fin_newVar (P := P) S hw (t := t) h2 h3 (nid := nid) hg
  obtain ⟨r, w', C', k1, rest⟩ := h4
  exact ⟨r, w', C', by simpa [Instr.alloc, h1] using k1, rest⟩

theorem fin_box (S : SR C) (hw : w.heap = C.heap) {t : TypeId} {v : V} {rv : Value} (hv : VR C v rv) (hok : okCells v.cells = true) {nid g : Nat} (hg : ¬ C.used g) :
    FinV P C w (Instr.box t rv) (.ptr nid g 0 0) (upd C.h nid ⟨g, false, v.cells.length, [v.cells]⟩) (addU C.used g) :=
  fin_newVar (P := P) S hw (t := t) (hv.cellsAt hok) hok (nid := nid) hg

/-- Cells set one by one. -/
theorem foldl_set (off : Nat) : ∀ (l : List Value) (k : Nat) (cs : Array Value), off + k + l.length ≤ cs.size →
    ((l.zipIdx k).foldl (fun cs x => cs.setIfInBounds (off + x.2) x.1) cs).toList = cs.toList.take (off + k) ++ l ++ cs.toList.drop (off + k + l.length)
  | [], k, cs, _ => by simp
  | v :: l, k, cs, h => by
    simp only [List.length_cons] at h
    simp only [List.zipIdx_cons, List.foldl_cons]
    rw [foldl_set off l (k + 1) _ (by simp; omega)]
    have := list_seg_step cs.toList (off + k) v l (by simp; omega)
    simpa [Array.toList_setIfInBounds, Nat.add_assoc] using this

theorem fill_step (place : Nat → Option (Nat × Nat)) (cells : Array Value) (i : Nat) (v : Value) (rest : List (Nat × Value)) (off size : Nat) (hp : place i = some (off, size)) (hs : v.cells.size = size) (hf : off + size ≤ cells.size) :
    ∃ cells' : Array Value, Instr.fill place cells ((i, v) :: rest) = Instr.fill place cells' rest ∧ cells'.toList = cells.toList.take off ++ v.cells.toList ++ cells.toList.drop (off + size) := by
  refine ⟨v.cells.zipIdx.foldl (fun cs x => cs.setIfInBounds (off + x.2) x.1) cells, ?_, ?_⟩
  · conv => lhs; unfold Instr.fill
    have h2 : (decide (v.cells.size ≠ size) || decide (off + v.cells.size > cells.size)) = false := by simp; omega
    simp only [hp, h2]
    rfl
  · rw [← Array.foldl_toList, Array.toList_zipIdx, foldl_set off v.cells.toList 0 cells (by simp; omega)]
    simp [hs]

/-- Parts of a literal: where they go, and what they are. -/
def PartsR (C : Ctx) (T : Tm) (place : Nat → Option (Nat × Nat)) : List (Nat × Nat × A) → List (Nat × Value) → Prop
  | [], [] => True
  | (off, sz, x) :: ps, (i, r) :: qs => place i = some (off, sz) ∧ VR C (x.ev T) r ∧ PartsR C T place ps qs
  | _, _ => False

theorem fillG_ok {T : Tm} {place : Nat → Option (Nat × Nat)} : ∀ (ps : List (Nat × Nat × A)) (qs : List (Nat × Value)) (cs : List V) (L : Array Value) (vs : List V), PartsR C T place ps qs → CellsAt C cs L.toList → fillG T cs ps = some vs →
    ∃ L', Instr.fill place L qs = some L' ∧ CellsAt C vs L'.toList
  | [], [], cs, L, vs, _, hc, h => by
    simp only [fillG, Option.some.injEq] at h
    subst h
    exact ⟨L, rfl, hc⟩
  | [], _ :: _, _, _, _, h, _, _ => h.elim
  | _ :: _, [], _, _, _, h, _, _ => by simp [PartsR] at h
  | (off, sz, x) :: ps, (i, r) :: qs, cs, L, vs, h, hc, hf => by
    obtain ⟨h1, h2, h3⟩ := h
    simp only [fillG, Option.ite_none_right_eq_some] at hf
    obtain ⟨⟨k1, k2, k3⟩, k4⟩ := hf
    have hA := h2.cellsAt k3
    have hLs : L.size = cs.length := by simpa using hc.1
    have hrs : r.cells.size = sz := by have := hA.1; simp at this; omega
    obtain ⟨L1, e1, e2⟩ := fill_step place L i r qs off sz h1 hrs (by omega)
    obtain ⟨L', f1, f2⟩ := fillG_ok ps qs (splice cs off (x.ev T).cells) L1 vs h3 (by
      refine ⟨?_, fun j v hj => ?_⟩
      · rw [e2]; simp [splice]; omega
      · rw [e2]
        unfold splice at hj
        have t1 : (cs.take off).length = off := by simp; omega
        have t2 : (L.toList.take off).length = off := by simp; omega
        rw [List.append_assoc] at hj ⊢
        by_cases hj1 : j < off
        · rw [List.getElem?_append_left (by omega), List.getElem?_take, if_pos hj1] at hj
          rw [List.getElem?_append_left (by omega), List.getElem?_take, if_pos hj1]
          exact hc.2 j v hj
        · rw [List.getElem?_append_right (by omega), t1] at hj
          rw [List.getElem?_append_right (by omega), t2]
          by_cases hj2 : j - off < sz
          · rw [List.getElem?_append_left (by omega)] at hj
            rw [List.getElem?_append_left (by simp; omega)]
            exact hA.2 _ v hj
          · rw [List.getElem?_append_right (by omega), List.getElem?_drop] at hj
            rw [List.getElem?_append_right (by simp; omega), List.getElem?_drop]
            obtain ⟨q, q1, q2⟩ := hc.2 _ v hj
            refine ⟨q, ?_, q2⟩
            rw [← q1]
            congr 1
            simp
            omega) k4
    exact ⟨L', e1.trans f1, f2⟩

theorem okCells_of {l : List V} (h : ∀ (i : Nat) x, l[i]? = some x → x.okCell = true) : okCells l = true := by
  induction l with
  | nil => rfl
  | cons a l ih =>
    simp only [okCells, Bool.and_eq_true]
    exact ⟨h 0 a rfl, ih fun i x hx => h (i + 1) x (by simpa using hx)⟩

/-- The rows of a slice literal. -/
def PartsS (C : Ctx) (T : Tm) : List (Nat × A) → List (Nat × Value) → Prop
  | [], [] => True
  | (i, x) :: ps, (i', r) :: qs => i = i' ∧ VR C (x.ev T) r ∧ PartsS C T ps qs
  | _, _ => False

theorem rowsG_ok {T : Tm} {sz : Nat} : ∀ (ps : List (Nat × A)) (qs : List (Nat × Value)) (rows : List (List V)) (L : Array Value) (rows' : List (List V)), PartsS C T ps qs → L.size = rows.length * sz → (∀ (i : Nat) row, rows[i]? = some row → row.length = sz) → RowsAt C sz rows L.toList →
    rowsG T sz rows ps = some rows' → ∃ L', Instr.fill (fun i => some (i * sz, sz)) L qs = some L' ∧ L'.size = rows'.length * sz ∧ rows'.length = rows.length ∧ (∀ (i : Nat) row, rows'[i]? = some row → row.length = sz) ∧ RowsAt C sz rows' L'.toList
  | [], [], rows, L, rows', _, hs, hz, hr, h => by
    simp only [rowsG, Option.some.injEq] at h
    subst h
    exact ⟨L, rfl, hs, rfl, hz, hr⟩
  | [], _ :: _, _, _, _, h, _, _, _, _ => h.elim
  | _ :: _, [], _, _, _, h, _, _, _, _ => by simp [PartsS] at h
  | (i, x) :: ps, (i', r) :: qs, rows, L, rows', h, hs, hz, hr, hg => by
    obtain ⟨rfl, h2, h3⟩ := h
    simp only [rowsG, Option.ite_none_right_eq_some] at hg
    obtain ⟨⟨k1, k2, k3⟩, k4⟩ := hg
    have hA := h2.cellsAt k3
    have hrs : r.cells.size = sz := by have := hA.1; simp at this; omega
    have hi1 : (i + 1) * sz ≤ rows.length * sz := Nat.mul_le_mul_right _ k2
    rw [Nat.add_mul, Nat.one_mul] at hi1
    obtain ⟨L1, e1, e2⟩ := fill_step (fun i => some (i * sz, sz)) L i r qs (i * sz) sz rfl hrs (by omega)
    have hL1 : L1.size = L.size := by
      have := congrArg List.length e2
      simp at this
      omega
    obtain ⟨L', f1, f2, f3, f4, f5⟩ := rowsG_ok ps qs (rows.set i (x.ev T).cells) L1 rows' h3 (by simp [hL1, hs]) (fun y row hy => by
        rw [List.getElem?_set] at hy
        split at hy
        · simp only [Option.some.injEq] at hy; rw [← hy]; exact k1
        · exact hz y row hy) (by
        intro y row j v hy hj
        rw [e2]
        have t2 : (L.toList.take (i * sz)).length = i * sz := by simp; omega
        rw [List.getElem?_set] at hy
        rw [List.append_assoc]
        by_cases hiy : i = y
        · subst hiy
          simp only [if_true, k2] at hy
          simp only [Option.some.injEq] at hy
          subst hy
          obtain ⟨q, q1, q2⟩ := hA.2 j v hj
          have hjlt : j < sz := by rw [← k1]; exact (List.getElem?_eq_some_iff.1 hj).1
          refine ⟨okCells_mem k3 j v hj, q, ?_, q2⟩
          rw [List.getElem?_append_right (by omega), t2, List.getElem?_append_left (by simp; omega), ← q1]
          congr 1
          omega
        · simp only [hiy, if_false] at hy
          obtain ⟨y1, q, q1, q2⟩ := hr y row j v hy hj
          have hjlt : j < sz := by rw [← hz y row hy]; exact (List.getElem?_eq_some_iff.1 hj).1
          refine ⟨y1, q, ?_, q2⟩
          by_cases hlt : y < i
          · have : (y + 1) * sz ≤ i * sz := Nat.mul_le_mul_right _ hlt
            rw [Nat.add_mul, Nat.one_mul] at this
            rw [List.getElem?_append_left (by omega), List.getElem?_take, if_pos (by omega)]
            exact q1
          · have : (i + 1) * sz ≤ y * sz := Nat.mul_le_mul_right _ (by omega)
            rw [Nat.add_mul, Nat.one_mul] at this
            rw [List.getElem?_append_right (by omega), t2, List.getElem?_append_right (by simp; omega), List.getElem?_drop, ← q1]
            congr 1
            simp
            omega) k4
    refine ⟨L', e1.trans f1, f2, by rw [f3]; simp, f4, f5⟩

theorem replicate_rows {z : List V} {Z : Array Value} (n : Nat) (hz : CellsAt C z Z.toList) (hok : okCells z = true) : RowsAt C z.length (List.replicate n z) (madeCells Z (n * z.length)).toList := by
  intro i row j v hi hj
  rw [List.getElem?_replicate] at hi
  split at hi
  case isFalse => cases hi
  rename_i hin
  simp only [Option.some.injEq] at hi
  subst hi
  obtain ⟨r, h1, h2⟩ := hz.2 j v hj
  have hjl : j < z.length := (List.getElem?_eq_some_iff.1 hj).1
  have hZ : Z.size = z.length := by simpa using hz.1
  refine ⟨okCells_mem hok j v hj, r, ?_, h2⟩
  have hlt : i * z.length + j < n * z.length := by
    have : (i + 1) * z.length ≤ n * z.length := Nat.mul_le_mul_right _ hin
    rw [Nat.add_mul, Nat.one_mul] at this
    omega
  have hmod : (i * z.length + j) % Z.size = j := by rw [hZ, Nat.mul_comm, Nat.mul_add_mod, Nat.mod_eq_of_lt hjl]
  have hZj : Z[j]? = some r := by simpa using h1
  obtain ⟨hlt', e'⟩ := Array.getElem?_eq_some_iff.1 hZj
  simp only [madeCells, Array.toList_map, Array.toList_range, List.getElem?_map, List.getElem?_range hlt, Option.map_some, hmod, Option.some.injEq]
  rw [getElem!_pos Z j hlt']; exact e'

end
end Gh
