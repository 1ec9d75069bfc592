/- Stores, append, copy, make, slice literals; frozen slices and renamed blocks. -/
import Derived.Test.YtmjdjnphjpcfcaaGe
namespace Gh
set_option linter.unusedVariables false
set_option linter.unusedSimpArgs false
open Go

def FinU (P : Program) (C : Ctx) (w : World) (s : Sem Unit) (h' : Hp) (us : Nat → Prop) : Prop :=
  ∃ w' C', s.run P w = .ok () w' ∧ SR C' ∧ w'.heap = C'.heap ∧ C'.h = h' ∧ C'.used = us ∧ Evo C C' ∧ w'.os = w.os ∧ w'.tape = w.tape ∧ w'.output = w.output

theorem hget_iff {h : Hp} {id g : Nat} {b : Blk} (hh : hget h id g = some b) : h id = some b ∧ b.gen = g := by
  unfold hget at hh
  split at hh
  · simp only [Option.ite_none_right_eq_some, Option.some.injEq] at hh
    obtain ⟨h1, rfl⟩ := hh
    exact ⟨by assumption, h1⟩
  · cases hh

section
variable {P : Program} {C : Ctx} {w : World}

/-- Cells at 'o' turned into 'vs'. -/
theorem put_get (cur vs : List Value) (o : Nat) (hf : o + vs.length ≤ cur.length) (k : Nat) :
    (cur.take o ++ vs ++ cur.drop (o + vs.length))[k]? = if o ≤ k ∧ k < o + vs.length then vs[k - o]? else cur[k]? := by
  have t1 : (cur.take o).length = o := by simp; omega
  rw [List.append_assoc]
  by_cases h1 : k < o
  · rw [List.getElem?_append_left (by omega), List.getElem?_take, if_pos h1, if_neg (by omega)]
  · rw [List.getElem?_append_right (by omega), t1]
    by_cases h2 : k < o + vs.length
    · rw [List.getElem?_append_left (by omega), if_pos ⟨by omega, h2⟩]
    · rw [List.getElem?_append_right (by omega), List.getElem?_drop, if_neg (by omega)]
      congr 1
      omega

theorem splice_get (r p : List V) (off : Nat) (hf : off + p.length ≤ r.length) (j : Nat) :
    (splice r off p)[j]? = if off ≤ j ∧ j < off + p.length then p[j - off]? else r[j]? := by
  unfold splice
  have t1 : (r.take off).length = off := by simp; omega
  rw [List.append_assoc]
  by_cases h1 : j < off
  · rw [List.getElem?_append_left (by omega), List.getElem?_take, if_pos h1, if_neg (by omega)]
  · rw [List.getElem?_append_right (by omega), t1]
    by_cases h2 : j < off + p.length
    · rw [List.getElem?_append_left (by omega), if_pos ⟨by omega, h2⟩]
    · rw [List.getElem?_append_right (by omega), List.getElem?_drop, if_neg (by omega)]
      congr 1
      omega

theorem splice_len (r p : List V) (off : Nat) (hf : off + p.length ≤ r.length) : (splice r off p).length = r.length := by
  simp [splice]; omega

theorem one_all {L : List Value} (h : ∀ (k : Nat) x, L[k]? = some x → x.oneCell' = true) : ∀ x ∈ L, x.oneCell' = true := by
  intro x hx
  obtain ⟨k, hk, rfl⟩ := List.getElem_of_mem hx
  exact h k _ (List.getElem?_eq_getElem hk)

theorem fin_store (S : SR C) (hw : w.heap = C.heap) {t : TypeId} {ti : TI} (hT : TIOK P t ti) {id g row off : Nat} {ra : Value} (ha : VR C (.ptr id g row off) ra) {yv : V} {ry : Value} (hy : VR C yv ry) {b : Blk} {r : List V}
    (hb : hget C.h id g = some b) (hr : b.rows[row]? = some r) (hf : b.fz = false) (hsz : yv.cells.length = ti.size) (hfit : off + ti.size ≤ r.length) (hok : okCells yv.cells = true) :
    FinU P C w (Instr.storeAt t ra ry) (upd C.h id ⟨b.gen, false, b.sz, b.rows.set row (splice r off yv.cells)⟩) C.used := by
  obtain ⟨hb1, hb2⟩ := hget_iff hb
  have hA := hy.cellsAt hok
  cases ha with
  | ptr _ _ _ _ a hu hl =>
  obtain ⟨hrow, p, tot, hloc, rfl⟩ := hl b hb1 hb2
  have hB := S.blk id b hb1
  unfold BlkR at hB
  rw [hloc] at hB
  obtain ⟨_, _, cs, ct, m3, m4, m5, m6⟩ := hB
  have hrl : r.length = b.sz := S.szs id b hb1 row r hr
  have hlen : ry.cells.toList.length = ti.size := by rw [hA.1, hsz]
  have hrow' : (row + 1) * b.sz ≤ b.rows.length * b.sz := Nat.mul_le_mul_right _ hrow
  rw [Nat.add_mul, Nat.one_mul] at hrow'
  have hst := run_storeCells_at P p (row * b.sz + off) ct ry.cells.toList 0 cs w (by rw [hw]; exact m3) (by simp only [Array.length_toList] at hlen ⊢; omega) (by
    refine one_all fun k x hx => ?_
    have hk : k < yv.cells.length := by rw [← hA.1]; exact (List.getElem?_eq_some_iff.1 hx).1
    obtain ⟨q, q1, q2⟩ := hA.2 k _ (List.getElem?_eq_getElem hk)
    rw [hx] at q1
    cases q1
    exact q2.oneCell (okCells_mem hok k _ (List.getElem?_eq_getElem hk)))
  simp only [Nat.add_zero] at hst
  have hp' : (w.setRow p (cs.toList.take (row * b.sz + off) ++ ry.cells.toList ++ cs.toList.drop (row * b.sz + off + ry.cells.toList.length)).toArray).heap[p]? = some (.cells (cs.toList.take (row * b.sz + off) ++ ry.cells.toList ++ cs.toList.drop (row * b.sz + off + ry.cells.toList.length)).toArray ct (0, 0)) :=
    setRow_heap w p cs _ ct _ (by rw [hw]; exact m3)
  obtain ⟨S', E'⟩ := S.write (id := id) (b := b) (b' := ⟨b.gen, false, b.sz, b.rows.set row (splice r off yv.cells)⟩) hb1 hf hloc (by rw [setRow_size, hw]) (fun k hk => by rw [setRow_other _ _ _ _ hk, hw]) hp' (by
      simp only [List.size_toArray, List.length_append, List.length_take, List.length_drop]
      simp only [Array.length_toList] at hlen ⊢
      omega)
    (us := C.used) (fun _ h => h) (S.gen id b hb1) rfl (.inl ⟨rfl, rfl, by simp⟩) (fun i rw_ hi => by
      rw [List.getElem?_set] at hi
      split at hi
      · simp only [Option.some.injEq] at hi; rw [← hi, splice_len _ _ _ (by omega)]; exact hrl
      · exact S.szs id b hb1 i rw_ hi) (by simpa using m5) (by
      intro i rw_ j v hi hj
      simp only [List.getElem?_toArray]
      rw [put_get _ _ _ (by simp only [Array.length_toList] at hlen ⊢; omega), hlen]
      rw [List.getElem?_set] at hi
      by_cases hir : row = i
      · subst hir
        simp only [if_true, hrow] at hi
        simp only [Option.some.injEq] at hi
        subst hi
        rw [splice_get _ _ _ (by omega), hsz] at hj
        by_cases hin : off ≤ j ∧ j < off + ti.size
        · rw [if_pos hin] at hj
          rw [if_pos (by omega)]
          obtain ⟨q, q1, q2⟩ := hA.2 _ v hj
          refine ⟨okCells_mem hok _ v hj, q, ?_, q2⟩
          rw [← q1]; congr 1; omega
        · rw [if_neg hin] at hj
          rw [if_neg (by omega)]
          obtain ⟨y1, q, q1, q2⟩ := m6 row r j v hr hj
          exact ⟨y1, q, by simpa using q1, q2⟩
      · simp only [hir, if_false] at hi
        obtain ⟨y1, q, q1, q2⟩ := m6 i rw_ j v hi hj
        have hjlt : j < b.sz := by rw [← S.szs id b hb1 i rw_ hi]; exact (List.getElem?_eq_some_iff.1 hj).1
        rw [if_neg (by
          rcases Nat.lt_or_gt_of_ne hir with hlt | hgt
          · have : (row + 1) * b.sz ≤ i * b.sz := Nat.mul_le_mul_right _ hlt
            rw [Nat.add_mul, Nat.one_mul] at this
            omega
          · have : (i + 1) * b.sz ≤ row * b.sz := Nat.mul_le_mul_right _ hgt
            rw [Nat.add_mul, Nat.one_mul] at this
            omega)]
        exact ⟨y1, q, by simpa using q1, q2⟩)
  refine ⟨_, _, ?_, S', rfl, rfl, rfl, E', by simp, by simp, by simp⟩
  have hne : ry.cells.size = ti.size := by simpa using hlen
  simp [Instr.storeAt, Instr.sureAddr, storeVar, hT.run_size, hne, hst]

theorem vr_fs_new {C' : Ctx} (S : SR C) (E : Evo C C') {rows : List (List V)} {sz q c : Nat} {L : List Value} (hr : RowsAt C sz rows L) (hs : ∀ (i : Nat) row, rows[i]? = some row → row.length = sz) (hpu : pureRows rows = true) (hc : rows.length ≤ c) (hq : C'.Pr q)
    (hcell : ∀ (k : Nat) x, L[k]? = some x → cellAt C'.heap q k = some x) : VR C' (.fs rows) (.slice (some ⟨q, 0, none⟩) rows.length c) := by
  have key : ∀ i j, i < rows.length → j < sz → ∃ row v, rows[i]? = some row ∧ row[j]? = some v := by
    intro i j hi hj
    have h1 := List.getElem?_eq_getElem hi
    have h2 := hs i _ h1
    exact ⟨_, _, h1, List.getElem?_eq_getElem (by omega)⟩
  refine .fs rows _ c sz q 0 (fun i j => L.getD (i * sz + j) Go.undef) hc (fun _ => rfl) hs (pureRows_get hpu) (fun i j hi hj => ?_) (fun i row j v hi hj => ?_)
  · obtain ⟨row, v, h1, h2⟩ := key i j hi hj
    obtain ⟨_, r, h3, _⟩ := hr i row j v h1 h2
    refine ⟨hq, ?_⟩
    rw [Nat.zero_add, hcell _ r h3]
    simp [List.getD, h3]
  · obtain ⟨_, r, h3, h4⟩ := hr i row j v hi hj
    simpa [List.getD, h3] using h4.mono S E

theorem pureCs_ok {l : List V} (h : pureCs l = true) : okCells l = true := by
  induction l with
  | nil => rfl
  | cons a l ih =>
    simp only [pureCs, Bool.and_eq_true] at h
    simp only [okCells, Bool.and_eq_true]
    refine ⟨?_, ih h.2⟩
    cases a <;> first | rfl | (simp [V.pureC] at h)

/-- append: what it needs to know of its operands. -/
theorem fin_append (S : SR C) (hw : w.heap = C.heap) {t ty e : TypeId} {te : TI} (ht : P.underlying t = some (.slice e)) (hE : TIOK P e te) (hz0 : 0 < te.size) {xv yv : V} {rx ry : Value} (hx : VR C xv rx) (hy : VR C yv ry)
    {ys : List (List V)} (hys : rowsOf C.h yv = some ys) (hsz : rowsSz te.size ys = true) {nid ng : Nat} (fr : Bool) :
    (xv = .nil → ys.length * te.bytes ≤ room → ys.length ≤ room →
      (ys.length = 0 → FinV P C w (Builtin.append_ #[t, t] ty #[rx, ry]) .nil C.h C.used) ∧
      (ys.length ≠ 0 → fr = true → pureRows ys = true → FinV P C w (Builtin.append_ #[t, t] ty #[rx, ry]) (.fs ys) C.h C.used) ∧
      (ys.length ≠ 0 → ¬ C.used ng → FinV P C w (Builtin.append_ #[t, t] ty #[rx, ry]) (.os nid ng te.size 0 ys.length) (upd C.h nid ⟨ng, false, te.size, ys⟩) (addU C.used ng))) ∧
    (∀ id g len b, xv = .os id g te.size 0 len → hget C.h id g = some b → b.fz = false → len ≤ b.rows.length → (len + ys.length) * te.bytes ≤ room → len + ys.length ≤ room → ¬ C.used ng →
      (fr = true → pureRows (b.rows.take len ++ ys) = true → FinV P C w (Builtin.append_ #[t, t] ty #[rx, ry]) (.fs (b.rows.take len ++ ys)) (upd C.h id ⟨ng, false, te.size, []⟩) (addU C.used ng)) ∧
      FinV P C w (Builtin.append_ #[t, t] ty #[rx, ry]) (.os id ng te.size 0 (len + ys.length)) (upd C.h id ⟨ng, false, te.size, b.rows.take len ++ ys⟩) (addU C.used ng)) := by
  obtain ⟨i, z, hi, his, hib, hiz, hzs, _⟩ := hE.info
  obtain ⟨a, c, L, rfl, hyc, hL, hLr, hL1, hLc⟩ := slice_rows S hy hys hsz
  have hysz := rowsSz_iff hsz
  have hf : ∀ w', w'.heap = C.heap → (Builtin.firstCells te.size ys.length (.slice a ys.length c)).run P w' = .ok L.toArray w' := fun w' hw' => by
    have := slice_first (P := P) (w := w') (C := C) hw' (a := a) (c := c) hL hLc ys.length (Nat.le_refl _)
    rwa [List.take_of_length_le (by omega)] at this
  have src : ys.length ≠ 0 → ∃ bo : Addr, a = some bo ∧ ∀ (j : Nat) v, L[j]? = some v → w.cell? (bo.add j) = some v := by
    intro h0
    rcases hLc with h | ⟨b, o, h1, h2⟩
    · subst h
      have : ys.length * te.size = 0 := by simpa using hL.symm
      rcases Nat.mul_eq_zero.1 this with h | h <;> omega
    · exact ⟨_, h1, fun j v hj => by rw [addr_add, cell_eq, hw]; exact h2 j v hj⟩
  -- a new row out of old cells and new ones
  have grown : ∀ (ty : TypeId) (rows : List (List V)) (cs : Array Value) (id : Nat) (cap : Nat) (w' : World), (∀ (i : Nat) row, rows[i]? = some row → row.length = te.size) → RowsAt C te.size rows cs.toList → rows.length * te.size ≤ cs.size → rows.length ≤ cap → cap * te.size ≤ cs.size →
      ∀ (s : Sem Value), s.run P w = .ok (.slice (some ⟨w.heap.size, 0, none⟩) rows.length cap) w' → w'.heap = w.heap.push (.cells cs ty) → (w'.os = w.os ∧ w'.tape = w.tape ∧ w'.output = w.output) →
      (¬ C.used ng → FinV P C w s (.os id ng te.size 0 rows.length) (upd C.h id ⟨ng, false, te.size, rows⟩) (addU C.used ng)) ∧
      (pureRows rows = true → ¬ C.used ng → FinV P C w s (.fs rows) (upd C.h id ⟨ng, false, te.size, []⟩) (addU C.used ng)) ∧ (pureRows rows = true → FinV P C w s (.fs rows) C.h C.used) := by
    intro ty rows cs id cap w' hrs hra hfit hcap hcc s hs hp hsame
    have hsize : w'.heap.size = C.heap.size + 1 := by rw [hp, hw]; simp
    have hold : ∀ k, k < C.heap.size → w'.heap[k]? = C.heap[k]? := fun k hk => by rw [hp, hw, Array.getElem?_push, if_neg (by omega)]
    have hnew : w'.heap[C.heap.size]? = some (.cells cs ty (0, 0)) := by rw [hp, hw]; simp
    refine ⟨fun hg => ?_, fun hpu hg => ?_, fun hpu => ?_⟩
    · exact FinV.place S hw id rows ng te.size hs hp hsame hg hrs hfit hra fun C' hu hh hl => vr_os_new hu hh hl (Nat.le_refl _) hcap hcc
    · obtain ⟨S', E'⟩ := S.placeNil id (b' := ⟨ng, false, te.size, []⟩) (heap' := w'.heap) (fun q => q = C.heap.size) (by omega) (fun k hk _ => hold k hk) (fun q hq => ⟨by omega, .inl (by omega)⟩) (us := addU C.used ng) (fun x h => .inl h) (.inr rfl) hg rfl
      refine ⟨_, w', _, hs, S', rfl, rfl, rfl, E', ?_, hsame⟩
      rw [hw]
      exact vr_fs_new S E' hra hrs hpu hcap (.inr rfl) fun k x hk => by rw [cellAt_of hnew]; simpa using hk
    · obtain ⟨S', E'⟩ := S.grow (heap' := w'.heap) (fun q => q = C.heap.size) (by omega) hold (fun q hq => ⟨by omega, by omega⟩)
      refine ⟨_, w', _, hs, S', rfl, rfl, rfl, E', ?_, hsame⟩
      rw [hw]
      exact vr_fs_new S E' hra hrs hpu hcap (.inr rfl) fun k x hk => by rw [cellAt_of hnew]; simpa using hk
  have nilrun0 : ys.length = 0 → (Builtin.append_ #[t, t] ty #[.slice none 0 0, .slice a ys.length c]).run P w = .ok (.slice none 0 0) w := by
    intro h0
    have hf' := hf w hw
    have hL0 : L = [] := List.eq_nil_of_length_eq_zero (by rw [hL, h0]; simp)
    rw [h0, hL0] at hf'
    simp [Builtin.append_, run_underlying ht, Go.sizeOf, typeInfo, hi, his, Builtin.lenOf, h0, hf']
  have nilrun : ys.length ≠ 0 → ys.length * te.bytes ≤ room → ys.length ≤ room → ∃ cap, ys.length ≤ cap ∧
      (Builtin.append_ #[t, t] ty #[.slice none 0 0, .slice a ys.length c]).run P w = .ok (.slice (some ⟨w.heap.size, 0, none⟩) ys.length cap) (w.drew.alloc (.cells (L.toArray ++ Builtin.zeroCells z.cells (cap - ys.length)) e)) := by
    intro h0 hb1 hb2
    obtain ⟨bo, rfl, hsrc⟩ := src h0
    unfold room at hb1 hb2
    exact ⟨grownCap w ys.length 0 e, grownCap_ge w _ _ e, run_append_nil (P := P) w t ty e i z ht hi hiz bo ys.length c L (by rw [hL, his]) hsrc (by omega) (by omega) (by rw [hib]; omega)⟩
  have nilfit : ∀ cap, ys.length ≤ cap → cap * te.size ≤ (L.toArray ++ Builtin.zeroCells z.cells (cap - ys.length)).size := fun cap hcap => by
    simp only [Array.size_append, List.size_toArray, hL, size_zeroCells, hzs, ← Nat.add_mul]
    exact Nat.mul_le_mul_right _ (by omega)
  have nilrows : ∀ cap, RowsAt C te.size ys (L.toArray ++ Builtin.zeroCells z.cells (cap - ys.length)).toList := fun cap i row j v h1 h2 => by
    have := (RowsAt.append (RowsAt.nil C te.size []) hLr (by simp) (fun i row h => by simp at h) (Builtin.zeroCells z.cells (cap - ys.length)).toList) i row j v (by simpa using h1) h2
    simpa using this
  refine ⟨?_, ?_⟩
  · rintro rfl hb1 hb2
    cases hx
    refine ⟨fun h0 => .still S hw (nilrun0 h0) .nil, fun h0 _ hpu => ?_, fun h0 hg => ?_⟩
    · obtain ⟨cap, hcap, hrun⟩ := nilrun h0 hb1 hb2
      exact (grown e ys _ 0 cap _ hysz (nilrows cap) (Nat.le_trans (Nat.mul_le_mul_right _ hcap) (nilfit cap hcap)) hcap (nilfit cap hcap) _ hrun rfl ⟨rfl, rfl, rfl⟩).2.2 hpu
    · obtain ⟨cap, hcap, hrun⟩ := nilrun h0 hb1 hb2
      exact (grown e ys _ nid cap _ hysz (nilrows cap) (Nat.le_trans (Nat.mul_le_mul_right _ hcap) (nilfit cap hcap)) hcap (nilfit cap hcap) _ hrun rfl ⟨rfl, rfl, rfl⟩).1 hg
  · rintro id g len b rfl hb hbf hlen hb1 hb2 hg
    obtain ⟨hb3, hb4⟩ := hget_iff hb
    cases hx with
    | os _ _ _ _ _ xa xc hxu hxle hxs hxl =>
    obtain ⟨q1, q2, q3⟩ := hxl b hb3 hb4
    have htk : (b.rows.take len).length = len := by simp; omega
    have hrl : (b.rows.take len ++ ys).length = len + ys.length := by rw [List.length_append, htk]
    have hrs : ∀ (i : Nat) row, (b.rows.take len ++ ys)[i]? = some row → row.length = te.size := by
      intro i row hi
      by_cases hlt : i < len
      · rw [List.getElem?_append_left (by omega), List.getElem?_take, if_pos hlt] at hi
        rw [S.szs id b hb3 i row hi, q1]
      · rw [List.getElem?_append_right (by omega)] at hi
        exact hysz _ row hi
    have hB := S.blk id b hb3
    unfold BlkR at hB
    rcases q3 (.inl rfl) with ⟨k1, rfl, rfl⟩ | ⟨p, tot, k1, rfl, k3⟩
    · rw [k1] at hB
      have hlen0 : len = 0 := by simpa using hxle
      subst hlen0
      have hrows : b.rows.take 0 ++ ys = ys := by simp
      rw [hrows, Nat.zero_add] at *
      by_cases h0 : ys.length = 0
      · have hnil : ys = [] := List.eq_nil_of_length_eq_zero h0
        have key : ∀ (v : V), (∀ C' : Ctx, C'.used ng → C'.h = upd C.h id ⟨ng, false, te.size, []⟩ → C'.loc id = .nil → VR C' v (.slice none 0 0)) → FinV P C w (Builtin.append_ #[t, t] ty #[.slice none 0 0, .slice a ys.length c]) v (upd C.h id ⟨ng, false, te.size, []⟩) (addU C.used ng) := by
          intro v hv
          obtain ⟨S', E'⟩ := S.placeNil id (b' := ⟨ng, false, te.size, []⟩) (heap' := C.heap) (fun _ => False) (Nat.le_refl _) (fun k hk _ => rfl) (fun q hq => hq.elim) (us := addU C.used ng) (fun x h => .inl h) (.inr rfl) hg rfl
          exact ⟨_, w, _, nilrun0 h0, S', hw, rfl, rfl, E', hv _ (.inr rfl) rfl (by simp [updL_same]), rfl, rfl, rfl⟩
        rw [h0, hnil] at *
        refine ⟨fun _ _ => key _ fun C' hu hh hl => ?_, key _ fun C' hu hh hl => ?_⟩
        · exact .fs [] none 0 0 0 0 (fun _ _ => Go.undef) (Nat.le_refl _) (fun h => absurd rfl h) (fun i row h => by simp at h) (fun i row j v h => by simp at h) (fun i j h => by simp at h) (fun i row j v h => by simp at h)
        · refine .os id ng te.size 0 0 none 0 hu (Nat.le_refl _) (fun h => absurd h (Nat.lt_irrefl _)) fun blk hbk _ => ?_
          rw [hh, upd_same] at hbk
          simp only [Option.some.injEq] at hbk
          subst hbk
          exact ⟨rfl, by simp, fun _ => .inl ⟨hl, rfl, rfl⟩⟩
      · obtain ⟨cap, hcap, hrun⟩ := nilrun h0 hb1 hb2
        have hG := grown e ys _ id cap _ hysz (nilrows cap) (Nat.le_trans (Nat.mul_le_mul_right _ hcap) (nilfit cap hcap)) hcap (nilfit cap hcap) _ hrun rfl ⟨rfl, rfl, rfl⟩
        exact ⟨fun _ hpu => hG.2.1 hpu hg, hG.1 hg⟩
    · rw [k1] at hB
      obtain ⟨m1, _, cs, ct, m3, m4, m5, m6⟩ := hB
      simp only [Nat.zero_mul, Nat.zero_add] at k3
      have hsz1 : b.sz = te.size := q1
      rw [hsz1] at m5 m6
      have hfit0 : len * te.size ≤ cs.size := by
        rw [m4]; exact Nat.le_trans (Nat.mul_le_mul_right _ hlen) m5
      have holdR : RowsAt C te.size (b.rows.take len) (cs.toList.take (len * te.size)) := by
        intro i row j v hi hj
        rw [List.getElem?_take] at hi
        split at hi
        case isFalse => cases hi
        rename_i hilt
        obtain ⟨y1, r, y2, y3⟩ := m6 i row j v hi hj
        have hjlt : j < te.size := by rw [← hsz1, ← S.szs id b hb3 i row hi]; exact (List.getElem?_eq_some_iff.1 hj).1
        have : (i + 1) * te.size ≤ len * te.size := Nat.mul_le_mul_right _ hilt
        rw [Nat.add_mul, Nat.one_mul] at this
        refine ⟨y1, r, ?_, y3⟩
        rw [List.getElem?_take, if_pos (by omega)]
        simpa using y2
      have holdL : (cs.toList.take (len * te.size)).length = (b.rows.take len).length * te.size := by rw [htk]; simp; omega
      have holdsz : ∀ (i : Nat) row, (b.rows.take len)[i]? = some row → row.length = te.size := fun i row hi => by
        rw [List.getElem?_take] at hi
        split at hi
        · rw [S.szs id b hb3 i row hi, q1]
        · cases hi
      by_cases hroom : len + ys.length ≤ xc
      · -- in place
        have hcells : (len + ys.length) * te.size ≤ cs.size := by rw [m4]; exact Nat.le_trans (Nat.mul_le_mul_right _ hroom) k3
        have hm' : len * te.size + L.length ≤ cs.size := by rw [hL, ← Nat.add_mul]; exact hcells
        have hst := run_storeCells_at P p (len * te.size) ct L 0 cs w (by rw [hw]; exact m3) (by simpa using hm') (one_all hL1)
        simp only [Nat.add_zero] at hst
        have hrun : (Builtin.append_ #[t, t] ty #[.slice (some ⟨p, 0 * te.size, none⟩) len xc, .slice a ys.length c]).run P w = .ok (.slice (some ⟨p, 0, none⟩) (len + ys.length) xc) (w.setRow p (cs.toList.take (len * te.size) ++ L ++ cs.toList.drop (len * te.size + L.length)).toArray) := by
          have hf' := hf w hw
          simp [Builtin.append_, run_underlying ht, Go.sizeOf, typeInfo, hi, his, Builtin.lenOf, hroom, hf', addr_add, hst]
        have hp' := setRow_heap w p cs (cs.toList.take (len * te.size) ++ L ++ cs.toList.drop (len * te.size + L.length)).toArray ct (0, 0) (by rw [hw]; exact m3)
        have hcs' : (cs.toList.take (len * te.size) ++ L ++ cs.toList.drop (len * te.size + L.length)).toArray.size = tot := by
          simp only [List.size_toArray, List.length_append, List.length_take, List.length_drop, Array.length_toList]
          omega
        have hra : RowsAt C te.size (b.rows.take len ++ ys) (cs.toList.take (len * te.size) ++ L ++ cs.toList.drop (len * te.size + L.length)) := RowsAt.append holdR hLr holdL holdsz _
        refine ⟨fun _ hpu => ?_, ?_⟩
        · have hown : ∃ b tot, C.h id = some b ∧ b.fz = false ∧ C.loc id = .at p tot := ⟨b, tot, hb3, hbf, k1⟩
          have hplt : p < C.heap.size := (Array.getElem?_eq_some_iff.1 m3).1
          obtain ⟨S', E'⟩ := S.placeNil id (b' := ⟨ng, false, te.size, []⟩) (heap' := (w.setRow p (cs.toList.take (len * te.size) ++ L ++ cs.toList.drop (len * te.size + L.length)).toArray).heap) (fun q => q = p) (by rw [setRow_size, hw]; exact Nat.le_refl _)
            (fun k hk hn => by
              have hne : k ≠ p := fun e => hn (by rw [e]; exact hown)
              rw [setRow_other _ _ _ _ hne, hw]) (fun q hq => by subst hq; exact ⟨by rw [setRow_size, hw]; exact hplt, .inr hown⟩) (us := addU C.used ng) (fun x h => .inl h) (.inr rfl) hg rfl
          refine ⟨_, _, _, hrun, S', rfl, rfl, rfl, E', ?_, by simp, by simp, by simp⟩
          have := vr_fs_new (C' := _) S E' (c := xc) (q := p) hra hrs hpu (by rw [hrl]; exact hroom) (.inr rfl) fun k x hk => by
            show cellAt (w.setRow p _).heap p k = some x
            rw [cellAt_of hp']; simpa using hk
          rw [hrl] at this
          exact this
        · obtain ⟨S', E'⟩ := S.write (id := id) (b := b) (b' := ⟨ng, false, te.size, b.rows.take len ++ ys⟩) hb3 hbf k1 (by rw [setRow_size, hw]) (fun k hk => by rw [setRow_other _ _ _ _ hk, hw]) hp' hcs'
            (us := addU C.used ng) (fun x h => .inl h) (.inr rfl) rfl (.inr hg) hrs (by simp only [hrl]; rw [← m4]; exact hcells) (fun i row j v h1 h2 => by
              obtain ⟨z1, r, z2, z3⟩ := hra i row j v h1 h2
              exact ⟨z1, r, by simpa using z2, z3⟩)
          refine ⟨_, _, _, hrun, S', rfl, rfl, rfl, E', ?_, by simp, by simp, by simp⟩
          exact vr_os_new (.inr rfl) rfl k1 (by rw [hrl]; exact Nat.le_refl _) hroom (by exact k3)
      · -- moved
        have h0 : ys.length ≠ 0 := by omega
        obtain ⟨bo, rfl, hsrc⟩ := src h0
        unfold room at hb1 hb2
        have holds : ∀ (j : Nat) v, (cs.toList.take (len * te.size))[j]? = some v → w.cell? ((⟨p, 0 * te.size, none⟩ : Addr).add j) = some v := by
          intro j v hj
          rw [List.getElem?_take] at hj
          split at hj
          case isFalse => cases hj
          rw [addr_add, cell_eq, hw, cellAt_of m3]
          simpa using hj
        have hrun := run_append_grow (P := P) w t ty e i z ht hi hiz ⟨p, 0 * te.size, none⟩ len xc (cs.toList.take (len * te.size)) (by rw [holdL, htk, his]) holds bo ys.length c L (by rw [hL, his]) hsrc (by omega) (by omega) (by rw [hib]; exact growslice_fits (by omega) (by omega))
        have hcap := grownCap_ge w (len + ys.length) xc e
        have hG := grown e (b.rows.take len ++ ys) ((cs.toList.take (len * te.size)).toArray ++ L.toArray ++ Builtin.zeroCells z.cells (grownCap w (len + ys.length) xc e - (len + ys.length))) id (grownCap w (len + ys.length) xc e) (w.drew.alloc (.cells ((cs.toList.take (len * te.size)).toArray ++ L.toArray ++ Builtin.zeroCells z.cells (grownCap w (len + ys.length) xc e - (len + ys.length))) e)) hrs (by
            have := RowsAt.append holdR hLr holdL holdsz (Builtin.zeroCells z.cells (grownCap w (len + ys.length) xc e - (len + ys.length))).toList
            simpa using this) (by
            simp only [Array.size_append, List.size_toArray, holdL, htk, hL, hrl, ← Nat.add_mul]; exact Nat.le_add_right _ _) (by rw [hrl]; exact hcap) (by
            simp only [Array.size_append, List.size_toArray, holdL, htk, hL, size_zeroCells, hzs, ← Nat.add_mul]
            exact Nat.mul_le_mul_right _ (by omega)) _ (by rw [hrl]; exact hrun) rfl ⟨rfl, rfl, rfl⟩
        rw [hrl] at hG
        exact ⟨fun _ hpu => hG.2.1 hpu hg, hG.1 hg⟩

theorem fin_copy (S : SR C) (hw : w.heap = C.heap) {t t2 ty e : TypeId} {te : TI} (ht : P.underlying t = some (.slice e)) (hE : TIOK P e te) {yv : V} {rx ry : Value} {id g off len : Nat} (hx : VR C (.os id g te.size off len) rx) (hy : VR C yv ry)
    {ys : List (List V)} (hys : rowsOf C.h yv = some ys) (hsz : rowsSz te.size ys = true) {b : Blk} (hb : hget C.h id g = some b) (hbf : b.fz = false) (hfit : off + len ≤ b.rows.length) :
    FinV P C w (Builtin.copy_ #[t, t2] ty #[rx, ry]) (.int .i64 ((ys.take len).length : Nat)) (upd C.h id ⟨b.gen, false, b.sz, b.rows.take off ++ ys.take len ++ b.rows.drop (off + (ys.take len).length)⟩) C.used := by
  obtain ⟨i, z, hi, his, hib, hiz, hzs, _⟩ := hE.info
  obtain ⟨a, c, L, rfl, hyc, hL, hLr, hL1, hLc⟩ := slice_rows S hy hys hsz
  have hysz := rowsSz_iff hsz
  obtain ⟨hb3, hb4⟩ := hget_iff hb
  cases hx with
  | os _ _ _ _ _ xa xc hxu hxle hxs hxl =>
  obtain ⟨q1, q2, q3⟩ := hxl b hb3 hb4
  have hmin : (ys.take len).length = Nat.min ys.length len := by simp [Nat.min_comm]
  have hminle : Nat.min ys.length len ≤ ys.length := Nat.min_le_left _ _
  have hminle2 : Nat.min ys.length len ≤ len := Nat.min_le_right _ _
  have hf := slice_first (P := P) (w := w) (C := C) hw (a := a) (c := c) hL hLc (Nat.min ys.length len) hminle
  have hLk : (L.take (Nat.min ys.length len * te.size)).length = Nat.min ys.length len * te.size := by
    rw [List.length_take, hL]
    have : Nat.min ys.length len * te.size ≤ ys.length * te.size := Nat.mul_le_mul_right _ hminle
    omega
  have hrl : (b.rows.take off ++ ys.take len ++ b.rows.drop (off + (ys.take len).length)).length = b.rows.length := by
    simp only [List.length_append, List.length_take, List.length_drop]
    omega
  have hget : ∀ (i : Nat) row, (b.rows.take off ++ ys.take len ++ b.rows.drop (off + (ys.take len).length))[i]? = some row →
      (off ≤ i ∧ i < off + (ys.take len).length ∧ ys[i - off]? = some row) ∨ (¬ (off ≤ i ∧ i < off + (ys.take len).length) ∧ b.rows[i]? = some row) := by
    intro i row hi
    have t1 : (b.rows.take off).length = off := by simp; omega
    rw [List.append_assoc] at hi
    by_cases h1 : i < off
    · rw [List.getElem?_append_left (by omega), List.getElem?_take, if_pos h1] at hi
      exact .inr ⟨by omega, hi⟩
    · rw [List.getElem?_append_right (by omega), t1] at hi
      by_cases h2 : i < off + (ys.take len).length
      · rw [List.getElem?_append_left (by omega), List.getElem?_take, if_pos (by omega)] at hi
        exact .inl ⟨by omega, h2, hi⟩
      · rw [List.getElem?_append_right (by omega), List.getElem?_drop] at hi
        refine .inr ⟨by omega, ?_⟩
        rw [← hi]
        congr 1
        omega
  have hrs : ∀ (i : Nat) row, (b.rows.take off ++ ys.take len ++ b.rows.drop (off + (ys.take len).length))[i]? = some row → row.length = b.sz := by
    intro i row hi
    rcases hget i row hi with ⟨_, _, h⟩ | ⟨_, h⟩
    · rw [hysz _ row h, q1]
    · exact S.szs id b hb3 i row h
  by_cases h0 : len = 0
  · subst h0
    have e1 : b.rows.take off ++ ys.take 0 ++ b.rows.drop (off + (ys.take 0).length) = b.rows := by simp
    have e2 : (⟨b.gen, false, b.sz, b.rows⟩ : Blk) = b := by cases b; simp_all
    have e3 : upd C.h id b = C.h := by funext j; unfold upd; split <;> simp_all
    rw [e1, e2, e3]
    refine .still S hw (r := goInt 0) ?_ (by simpa [goInt] using VR.int _ _)
    simp only [Nat.min_zero, Nat.zero_mul, List.take_zero] at hf
    have hf' : (Builtin.firstCells te.size 0 (.slice a ys.length c)).run P w = .ok #[] w := by simpa using hf
    cases xa <;> simp [Builtin.copy_, run_underlying ht, Builtin.lenOf, Go.sizeOf, typeInfo, hi, his, hf', storeCells]
  · have hB := S.blk id b hb3
    unfold BlkR at hB
    rcases q3 (.inr (by omega)) with ⟨k1, _, _⟩ | ⟨p, tot, k1, rfl, k3⟩
    · rw [k1] at hB
      rw [hB] at hfit
      simp at hfit
      omega
    · rw [k1] at hB
      obtain ⟨m1, _, cs, ct, m3, m4, m5, m6⟩ := hB
      rw [q1] at m5 m6
      have hofs : (off + Nat.min ys.length len) * te.size ≤ b.rows.length * te.size := Nat.mul_le_mul_right _ (by omega)
      rw [Nat.add_mul] at hofs
      have hin : off * te.size + Nat.min ys.length len * te.size ≤ cs.size := by rw [m4]; exact Nat.le_trans hofs m5
      have hst := run_storeCells_at P p (off * te.size) ct (L.take (Nat.min ys.length len * te.size)) 0 cs w (by rw [hw]; exact m3) (by rw [hLk]; exact hin) (one_all fun k x hk => by
        rw [List.getElem?_take] at hk
        split at hk
        · exact hL1 k x hk
        · cases hk)
      simp only [Nat.add_zero] at hst
      have hp' := setRow_heap w p cs (cs.toList.take (off * te.size) ++ L.take (Nat.min ys.length len * te.size) ++ cs.toList.drop (off * te.size + (L.take (Nat.min ys.length len * te.size)).length)).toArray ct (0, 0) (by rw [hw]; exact m3)
      have hcs' : (cs.toList.take (off * te.size) ++ L.take (Nat.min ys.length len * te.size) ++ cs.toList.drop (off * te.size + (L.take (Nat.min ys.length len * te.size)).length)).toArray.size = tot := by
        simp only [List.size_toArray, List.length_append, hLk, List.length_take (l := cs.toList), List.length_drop, Array.length_toList]
        omega
      have hput := put_get cs.toList (L.take (Nat.min ys.length len * te.size)) (off * te.size) (by rw [hLk, Array.length_toList]; exact hin)
      obtain ⟨S', E'⟩ := S.write (id := id) (b := b) (b' := ⟨b.gen, false, b.sz, b.rows.take off ++ ys.take len ++ b.rows.drop (off + (ys.take len).length)⟩) hb3 hbf k1 (by rw [setRow_size, hw]) (fun k hk => by rw [setRow_other _ _ _ _ hk, hw]) hp' hcs'
        (us := C.used) (fun _ h => h) (S.gen id b hb3) rfl (.inl ⟨rfl, rfl, hrl⟩) hrs (by simp only [hrl]; rw [q1]; exact m5) (by
          intro i row j v hi hj
          have hjlt : j < te.size := by rw [← q1, ← hrs i row hi]; exact (List.getElem?_eq_some_iff.1 hj).1
          simp only [List.getElem?_toArray]
          rw [hput, hLk, q1]
          rcases hget i row hi with ⟨h1, h2, h⟩ | ⟨h1, h⟩
          · obtain ⟨y1, r, y2, y3⟩ := hLr _ row j v h hj
            have e : i * te.size = off * te.size + (i - off) * te.size := by rw [← Nat.add_mul]; congr 1; omega
            have hlt : (i - off + 1) * te.size ≤ Nat.min ys.length len * te.size := Nat.mul_le_mul_right _ (by omega)
            rw [Nat.add_mul, Nat.one_mul] at hlt
            refine ⟨y1, r, ?_, y3⟩
            rw [if_pos (by omega), List.getElem?_take, if_pos (by omega), ← y2]
            congr 1
            omega
          · obtain ⟨y1, r, y2, y3⟩ := m6 i row j v h hj
            refine ⟨y1, r, ?_, y3⟩
            rw [if_neg (by
              by_cases hlt : i < off
              · have : (i + 1) * te.size ≤ off * te.size := Nat.mul_le_mul_right _ hlt
                rw [Nat.add_mul, Nat.one_mul] at this
                omega
              · have : (off + Nat.min ys.length len) * te.size ≤ i * te.size := Nat.mul_le_mul_right _ (by omega)
                rw [Nat.add_mul] at this
                omega)]
            simpa using y2)
      refine ⟨_, _, _, ?_, S', rfl, rfl, rfl, E', (by rw [hmin]; exact VR.int _ _ : VR _ _ (goInt (Nat.min ys.length len : Nat))), by simp, by simp, by simp⟩
      simp [Builtin.copy_, run_underlying ht, Builtin.lenOf, Go.sizeOf, typeInfo, hi, his, hf, hst]

theorem fin_mksl (S : SR C) (hw : w.heap = C.heap) {t e : TypeId} {te : TI} (ht : P.underlying t = some (.slice e)) (hE : TIOK P e te) (hz : te.zero ≠ []) {k k' : IntKind} {n : Int} (h0 : 0 ≤ n) (h1 : n * te.bytes ≤ room) (h2 : n ≤ room) {nid ng : Nat} (hg : ¬ C.used ng) :
    FinV P C w (Instr.makeSlice t (.int k n) (.int k' n)) (.os nid ng te.size 0 n.toNat) (upd C.h nid ⟨ng, false, te.size, List.replicate n.toNat te.zero⟩) (addU C.used ng) := by
  obtain ⟨i, z, hi, his, hib, hiz, hzs, _⟩ := hE.info
  obtain ⟨z', k1, k2, k3, k4, k5⟩ := zeroAt (P := P) (C := C) hE hz
  have hzz : z' = z := by
    have := k1 w
    simp [zeroValue, typeInfo, hi, hiz] at this
    exact this.symm
  subst hzz
  unfold room at h1 h2
  have hrun := run_make (P := P) w t e i z' ht hi hiz k k' n n h0 (Int.le_refl _) (by rw [hib, Int.mul_comm]; omega) (by omega)
  refine FinV.place S hw (cs := madeCells z'.cells (n.toNat * i.size)) (t := e) nid _ ng te.size hrun rfl ⟨rfl, rfl, rfl⟩ hg (fun j row hj => ?_) (by simp [size_madeCells, his]) (by rw [his, ← k4]; exact replicate_rows n.toNat k2 k3) (fun C' hu hh hl => vr_os_new hu hh hl (by simp) (Nat.le_refl _) (by simp [size_madeCells, his]))
  rw [List.getElem?_replicate] at hj
  split at hj
  · simp only [Option.some.injEq] at hj; rw [← hj, k4]
  · cases hj

theorem fin_bsl (S : SR C) (hw : w.heap = C.heap) {t e : TypeId} {te : TI} (ht : P.underlying t = some (.slice e)) (hE : TIOK P e te) (hz : te.zero ≠ []) {n : Nat} (hn : n * te.size ≤ 2 ^ 24) {T : Tm} {ps : List (Nat × A)} {qs : Array (Nat × Value)} (hp : PartsS C T ps qs.toList) {rows : List (List V)}
    (hr : rowsG T te.size (List.replicate n te.zero) ps = some rows) {nid ng : Nat} :
    (¬ C.used ng → FinV P C w (Instr.buildSlice t n qs) (.os nid ng te.size 0 n) (upd C.h nid ⟨ng, false, te.size, rows⟩) (addU C.used ng)) ∧ (pureRows rows = true → FinV P C w (Instr.buildSlice t n qs) (.fs rows) C.h C.used) := by
  obtain ⟨i, z, hi, his, hib, hiz, hzs, _⟩ := hE.info
  obtain ⟨z', k1, k2, k3, k4, k5⟩ := zeroAt (P := P) (C := C) hE hz
  have hzz : z' = z := by
    have := k1 w
    simp [zeroValue, typeInfo, hi, hiz] at this
    exact this.symm
  subst hzz
  have hzp : 0 < te.size := by rw [← k4]; exact List.length_pos_iff.2 hz
  obtain ⟨L', f1, f2, f3, f4, f5⟩ := rowsG_ok (C := C) (T := T) (sz := te.size) ps qs.toList (List.replicate n te.zero) (madeCells z'.cells (n * te.size)) rows hp (by simp [size_madeCells]) (fun j row hj => by
    rw [List.getElem?_replicate] at hj
    split at hj
    · simp only [Option.some.injEq] at hj; rw [← hj, k4]
    · cases hj) (by rw [← k4]; exact replicate_rows n k2 k3) hr
  have hlen : rows.length = n := by rw [f3]; simp
  have hrun : (Instr.buildSlice t n qs).run P w = .ok (.slice (some ⟨w.heap.size, 0, none⟩) n n) { w with heap := w.heap.push (.cells L' e) } := by
    have hn' : ¬ (16777216 < n * te.size) := by omega
    have hfill : ∀ y : Array Value, y = madeCells z'.cells (n * te.size) → Instr.fill (fun i => some (i * te.size, te.size)) y qs.toList = some L' := fun y hy => by rw [hy]; exact f1
    by_cases hm : n * te.size = 0
    · have hn0 : n = 0 := by
        rcases Nat.mul_eq_zero.1 hm with h | h <;> omega
      subst hn0
      have h1 := hfill #[] (by simp [madeCells])
      simp [Instr.buildSlice, run_underlying ht, Go.sizeOf, typeInfo, hi, his, h1, newRow, Array.range_zero']
    · have h1 := hfill (madeCells z'.cells (n * te.size)) rfl
      unfold madeCells at h1
      simp [Instr.buildSlice, run_underlying ht, Go.sizeOf, typeInfo, zeroValue, hiz, hi, his, hn', hm, h1, newRow]
  refine ⟨fun hg => ?_, fun hpu => ?_⟩
  · refine FinV.place S hw (cs := L') (t := e) nid rows ng te.size hrun rfl ⟨rfl, rfl, rfl⟩ hg f4 (by rw [f2]; exact Nat.le_refl _) f5 (fun C' hu hh hl => vr_os_new hu hh hl (by omega) (Nat.le_refl _) (by rw [f2, hlen]; exact Nat.le_refl _))
  · obtain ⟨S', E'⟩ := S.grow (heap' := (w.heap.push (.cells L' e))) (fun q => q = C.heap.size) (by rw [hw]; simp) (fun k hk => by rw [hw, Array.getElem?_push, if_neg (by omega)]) (fun q hq => ⟨by omega, by rw [hw]; simp; omega⟩)
    refine ⟨_, _, _, hrun, S', rfl, rfl, rfl, E', ?_, rfl, rfl, rfl⟩
    have := vr_fs_new (C' := _) S E' (c := n) (q := C.heap.size) f5 f4 hpu (by omega) (.inr rfl) fun k x hk => by
      show cellAt (w.heap.push (.cells L' e)) C.heap.size k = some x
      rw [cellAt_of (cs := L') (t := e) (fr := (0, 0)) (by rw [hw]; simp)]
      simpa using hk
    rw [hlen] at this
    have e : w.heap.size = C.heap.size := by rw [hw]
    rw [e]
    exact this

/-- The context turns, the machine does not: a slice frozen. -/
theorem turn_frz (S : SR C) {id g sz off len : Nat} {r : Value} (hx : VR C (.os id g sz off len) r) {b : Blk} (hb : hget C.h id g = some b) (hfit : off + len ≤ b.rows.length) (hpu : pureRows b.rows = true) :
    ∃ C', SR C' ∧ Evo C C' ∧ C'.heap = C.heap ∧ C'.h = upd C.h id ⟨b.gen, true, b.sz, b.rows⟩ ∧ C'.used = C.used ∧ VR C' (.fs ((b.rows.drop off).take len)) r := by
  obtain ⟨hb3, hb4⟩ := hget_iff hb
  have hrows : rowsOf C.h (.os id g sz off len) = some ((b.rows.drop off).take len) := by simp [rowsOf, hb, hfit]
  have hh : ∀ i, (¬ (fun i => i = id) i → upd C.h id ⟨b.gen, true, b.sz, b.rows⟩ i = C.h i) ∧ ((fun i => i = id) i → upd C.h id ⟨b.gen, true, b.sz, b.rows⟩ i = (C.h i).map fun b => ⟨b.gen, true, b.sz, b.rows⟩) := by
    intro i
    refine ⟨fun h => upd_ne _ _ h, fun h => ?_⟩
    subst h
    simp [upd_same, hb3]
  obtain ⟨S', E'⟩ := S.freeze (fun i => i = id) hh
  refine ⟨_, S', E', rfl, rfl, rfl, ?_⟩
  cases hx with
  | os _ _ _ _ _ xa xc hxu hxle hxs hxl =>
  obtain ⟨q1, q2, q3⟩ := hxl b hb3 hb4
  have hlen : ((b.rows.drop off).take len).length = len := by simp; omega
  by_cases h0 : len = 0
  · subst h0
    simp only [List.take_zero]
    exact .fs [] xa xc 0 0 0 (fun _ _ => Go.undef) (Nat.zero_le _) (fun h => absurd rfl h) (fun i row h => by simp at h) (fun i row j v h => by simp at h) (fun i j h => by simp at h) (fun i row j v h => by simp at h)
  · have hB := S.blk id b hb3
    unfold BlkR at hB
    rcases q3 (.inr (by omega)) with ⟨k1, _, _⟩ | ⟨p, tot, k1, rfl, k3⟩
    · rw [k1] at hB; rw [hB] at hfit; simp at hfit; omega
    · rw [k1] at hB
      obtain ⟨m1, _, cs, ct, m3, m4, m5, m6⟩ := hB
      have hget : ∀ (i : Nat) row, ((b.rows.drop off).take len)[i]? = some row → b.rows[off + i]? = some row := by
        intro i row hi
        rw [List.getElem?_take] at hi
        split at hi
        · simpa using hi
        · cases hi
      have key : ∀ i j, i < ((b.rows.drop off).take len).length → j < b.sz → ∃ row v, b.rows[off + i]? = some row ∧ row[j]? = some v := by
        intro i j hi hj
        have h1 := hget i _ (List.getElem?_eq_getElem hi)
        have h2 := S.szs id b hb3 _ _ h1
        exact ⟨_, _, h1, List.getElem?_eq_getElem (by omega)⟩
      have hv := VR.fs ((b.rows.drop off).take len) (some ⟨p, off * b.sz, none⟩) xc b.sz p (off * b.sz) (fun i j => cs.getD ((off + i) * b.sz + j) Go.undef) (by omega) (fun _ => rfl) (fun i row hi => S.szs id b hb3 _ row (hget i row hi))
        (fun i row j v hi hj => pureRows_get hpu _ row j v (hget i row hi) hj) (C := ⟨C.heap, fun x => C.Pr x ∨ ∃ i b tot, (fun i => i = id) i ∧ C.h i = some b ∧ C.loc i = .at x tot, upd C.h id ⟨b.gen, true, b.sz, b.rows⟩, C.loc, C.used⟩) (fun i j hi hj => by
          obtain ⟨row, v, h1, h2⟩ := key i j hi hj
          obtain ⟨_, r, h3, _⟩ := m6 _ row j v h1 h2
          refine ⟨.inr ⟨id, b, tot, rfl, hb3, k1⟩, ?_⟩
          show cellAt C.heap p _ = _
          rw [cellAt_of m3, ← Nat.add_mul, h3]
          simp [Array.getD_eq_getD_getElem?, h3]) (fun i row j v hi hj => by
          obtain ⟨_, r, h3, h4⟩ := m6 _ row j v (hget i row hi) hj
          simpa [Array.getD_eq_getD_getElem?, h3] using h4.mono S E')
      rw [hlen] at hv
      rw [← q1]
      exact hv

/-- The context turns, the machine does not: a slice takes another one's name. -/
theorem turn_mvo (S : SR C) {id id2 g2 sz2 len ng : Nat} {r : Value} (hne : id ≠ id2) (hx : VR C (.os id2 g2 sz2 0 len) r) {b2 : Blk} (hb : hget C.h id2 g2 = some b2) (hf : b2.fz = false) (hlen : len = b2.rows.length) (hg : ¬ C.used ng) :
    ∃ C', SR C' ∧ Evo C C' ∧ C'.heap = C.heap ∧ C'.h = upd (upd C.h id ⟨ng, false, b2.sz, b2.rows⟩) id2 ⟨ng, false, b2.sz, []⟩ ∧ C'.used = addU C.used ng ∧ VR C' (.os id ng sz2 0 len) r := by
  obtain ⟨hb3, hb4⟩ := hget_iff hb
  obtain ⟨S', E'⟩ := S.swap (id := id) hne hb3 hf hg (us := addU C.used ng) (fun x h => .inl h) (.inr rfl)
  refine ⟨_, S', E', rfl, rfl, rfl, ?_⟩
  cases hx with
  | os _ _ _ _ _ xa xc hxu hxle hxs hxl =>
  obtain ⟨q1, q2, q3⟩ := hxl b2 hb3 hb4
  refine .os id ng sz2 0 len xa xc (.inr rfl) hxle hxs fun blk hbk _ => ?_
  have : upd (upd C.h id ⟨ng, false, b2.sz, b2.rows⟩) id2 ⟨ng, false, b2.sz, []⟩ id = some ⟨ng, false, b2.sz, b2.rows⟩ := by rw [upd_ne _ _ hne, upd_same]
  have hbk' := this.symm.trans hbk
  simp only [Option.some.injEq] at hbk'
  subst hbk'
  refine ⟨q1, by simpa using q2, fun h => ?_⟩
  have hl : updL (updL C.loc id (C.loc id2)) id2 .nil id = C.loc id2 := by rw [updL_ne _ _ hne, updL_same]
  simp only [hl]
  exact q3 h

theorem turn_nilo (S : SR C) (sz nid ng : Nat) (hg : ¬ C.used ng) :
    ∃ C', SR C' ∧ Evo C C' ∧ C'.heap = C.heap ∧ C'.h = upd C.h nid ⟨ng, false, sz, []⟩ ∧ C'.used = addU C.used ng ∧ VR C' (.os nid ng sz 0 0) (.slice none 0 0) := by
  obtain ⟨S', E'⟩ := S.placeNil nid (b' := ⟨ng, false, sz, []⟩) (heap' := C.heap) (fun _ => False) (Nat.le_refl _) (fun k hk _ => rfl) (fun q hq => hq.elim) (us := addU C.used ng) (fun x h => .inl h) (.inr rfl) hg rfl
  refine ⟨_, S', E', rfl, rfl, rfl, .os nid ng sz 0 0 none 0 (.inr rfl) (Nat.le_refl _) (fun h => absurd h (Nat.lt_irrefl _)) fun blk hbk _ => ?_⟩
  simp only [upd_same, Option.some.injEq] at hbk
  subst hbk
  exact ⟨rfl, by simp, fun _ => .inl ⟨by simp [updL_same], rfl, rfl⟩⟩

end
end Gh
