/- Operations that only compute, told in plain values; and the check that a ghost operation is the machine's. -/
import Derived.Test.YtmjdjnphjpcfcaaGf
import Derived.Laws.Small
import Derived.Laws.Cover3
namespace Gh
open Go

def TR (C : Ctx) (T : Tm) (a : Act) : Prop := ∀ n, VR C (look T n) (a.tmps.getD n Go.undef)

def constEq : Value → V → Bool
  | .int k n, .int k' n' => k == k' && n == n'
  | .bool b, .bool b' => b == b'
  | .slice none 0 0, .nil => true
  | .slice none 0 0, .fs [] => true
  | _, _ => false

def opd : Operand → A → Bool
  | .tmp t, .t n => t == n
  | .const v, .c x => constEq v x
  | .func f, .c (.fn f' []) => f == f'
  | _, _ => false

def opds : List Operand → List A → Bool
  | [], [] => true
  | x :: xs, y :: ys => opd x y && opds xs ys
  | _, _ => false

theorem opd_ok {C : Ctx} {T : Tm} {a : Act} (h : TR C T a) {x : Operand} {y : A} (hx : opd x y = true) : VR C (y.ev T) (a.eval x) := by
  unfold opd at hx
  split at hx
  · simp only [beq_iff_eq] at hx; subst hx; exact h _
  · rename_i v x
    unfold constEq at hx
    split at hx
    · simp only [Bool.and_eq_true, beq_iff_eq] at hx; obtain ⟨rfl, rfl⟩ := hx; exact .int _ _
    · simp only [beq_iff_eq] at hx; subst hx; exact .bool _
    · exact .nil
    · exact VR.nil_fs _
    · cases hx
  · simp only [beq_iff_eq] at hx; subst hx; exact .fn _ [] #[] rfl fun i v h => by simp at h
  · cases hx

theorem opds_ok {C : Ctx} {T : Tm} {a : Act} (h : TR C T a) : ∀ {xs : List Operand} {ys : List A}, opds xs ys = true → xs.length = (evs T ys).length ∧ ∀ (i : Nat) v, (evs T ys)[i]? = some v → ∃ x, xs[i]? = some x ∧ VR C v (a.eval x)
  | [], [], _ => ⟨rfl, fun i v h => by simp [evs] at h⟩
  | [], _ :: _, hx => by simp [opds] at hx
  | _ :: _, [], hx => by simp [opds] at hx
  | x :: xs, y :: ys, hx => by
    simp only [opds, Bool.and_eq_true] at hx
    obtain ⟨h1, h2⟩ := opds_ok h hx.2
    refine ⟨by simp [evs, h1], fun i v hv => ?_⟩
    cases i with
    | zero => simp [evs] at hv; subst hv; exact ⟨x, rfl, opd_ok h hx.1⟩
    | succ i => obtain ⟨q, q1, q2⟩ := h2 i v (by simpa [evs] using hv); exact ⟨q, by simpa using q1, q2⟩

def vEq : V → V → Bool
  | .int k n, .int k' n' => k == k' && n == n'
  | .bool b, .bool b' => b == b'
  | .nil, .nil => true
  | .fs [], .fs [] => true
  | _, _ => false

def zEq : List V → List V → Bool
  | [], [] => true
  | x :: xs, y :: ys => vEq x y && zEq xs ys
  | _, _ => false

theorem vEq_ok {x y : V} (h : vEq x y = true) : x = y := by
  unfold vEq at h
  split at h
  · simp only [Bool.and_eq_true, beq_iff_eq] at h; obtain ⟨rfl, rfl⟩ := h; rfl
  · simp only [beq_iff_eq] at h; subst h; rfl
  · rfl
  · rfl
  · cases h

theorem zEq_ok : ∀ {x y : List V}, zEq x y = true → x = y
  | [], [], _ => rfl
  | [], _ :: _, h => by simp [zEq] at h
  | _ :: _, [], h => by simp [zEq] at h
  | x :: xs, y :: ys, h => by simp only [zEq, Bool.and_eq_true] at h; rw [vEq_ok h.1, zEq_ok h.2]

section
variable {P : Program} {C : Ctx} {w : World}

theorem seg_cells {C : Ctx} {r : List V} {f : Nat → Option Value} (h : ∀ (j : Nat) v, r[j]? = some v → ∃ x, f j = some x ∧ VR C v x) (off sz : Nat) : ∀ (j : Nat) v, (seg r off sz)[j]? = some v → ∃ x, f (off + j) = some x ∧ VR C v x := by
  intro j v hj
  unfold seg at hj
  rw [List.getElem?_take] at hj
  split at hj
  · exact h (off + j) v (by simpa using hj)
  · cases hj

/-- A load. -/
theorem run_load_ptr (S : SR C) (hw : w.heap = C.heap) {t : TypeId} {ti : TI} (hT : TIOK P t ti) {id g row off : Nat} {ra : Value} (ha : VR C (.ptr id g row off) ra) {b : Blk} {r : List V} {v : V} (hb : hget C.h id g = some b) (hr : b.rows[row]? = some r)
    (hv : mkVal ti.ag ti.size (seg r off ti.size) = some v) : ∃ x, (Instr.loadAt t ra).run P w = .ok x w ∧ VR C v x := by
  obtain ⟨hb1, hb2⟩ := hget_iff hb
  cases ha with
  | ptr _ _ _ _ a hu hl =>
  obtain ⟨hrow, p, tot, hloc, rfl⟩ := hl b hb1 hb2
  have hB := S.blk id b hb1
  unfold BlkR at hB
  rw [hloc] at hB
  obtain ⟨_, _, cs, ct, m3, m4, m5, m6⟩ := hB
  have hc := seg_cells (f := fun j => cs[row * b.sz + j]?) (fun j v hj => (m6 row r j v hr hj).2) off ti.size
  have := run_loadVar (P := P) (w := w) hT hw (b := p) (o := row * b.sz + off) (vs := seg r off ti.size) (v := v) (fun j x hj => by
    obtain ⟨q, q1, q2⟩ := hc j x hj
    exact ⟨q, by rw [cellAt_of m3, ← q1]; congr 1; omega, q2⟩) hv
  simpa [Instr.loadAt, Instr.sureAddr] using this

theorem run_load_fp (hw : w.heap = C.heap) {t : TypeId} {ti : TI} (hT : TIOK P t ti) {r : List V} {off : Nat} {ra : Value} (ha : VR C (.fp r off) ra) {v : V} (hv : mkVal ti.ag ti.size (seg r off ti.size) = some v) : ∃ x, (Instr.loadAt t ra).run P w = .ok x w ∧ VR C v x := by
  cases ha with
  | fp _ _ b o f hc hf =>
  have hc' := seg_cells (C := C) (r := r) (f := fun j => cellAt C.heap b (o + j)) (fun j v hj => ⟨_, (hc j v hj).2, hf j v hj⟩) off ti.size
  have := run_loadVar (P := P) (w := w) hT hw (b := b) (o := o + off) (vs := seg r off ti.size) (v := v) (fun j x hj => by
    obtain ⟨q, q1, q2⟩ := hc' j x hj
    exact ⟨q, by rw [← q1]; congr 1; omega, q2⟩) hv
  simpa [Instr.loadAt, Instr.sureAddr] using this

/-- A part of a struct or of an array that is a value. -/
theorem run_part {t : TypeId} {ti : TI} (hT : TIOK P t ti) {cs : List V} {rs : Array Value} (hs : rs.size = cs.length) (hv : ∀ (i : Nat) v, cs[i]? = some v → VR C v (rs.getD i Go.undef)) {off : Nat} {v : V} (hm : mkVal ti.ag ti.size (seg cs off ti.size) = some v) :
    ∃ x, (part t rs off).run P w = .ok x w ∧ VR C v x := by
  have hseg : ∀ (j : Nat) x, (seg cs off ti.size)[j]? = some x → cs[off + j]? = some x ∧ j < ti.size := by
    intro j x hj
    unfold seg at hj
    rw [List.getElem?_take] at hj
    split at hj
    · exact ⟨by simpa using hj, by assumption⟩
    · cases hj
  unfold mkVal at hm
  unfold part
  cases hag : ti.ag with
  | true =>
    rw [hag] at hm
    simp only [if_true, Option.ite_none_right_eq_some, Option.some.injEq] at hm
    obtain ⟨hlen, rfl⟩ := hm
    refine ⟨.agg (rs.extract off (off + ti.size)), by simp [hT.run_agg, hag, hT.run_size], .agg _ _ ?_ fun i x hx => ?_⟩
    · rw [hlen]
      have : off + ti.size ≤ cs.length ∨ ti.size = 0 := by
        unfold seg at hlen; simp at hlen; omega
      rcases this with h | h <;> simp <;> omega
    · obtain ⟨h1, h2⟩ := hseg i x hx
      have h3 := hv _ x h1
      have hlt : off + i < rs.size := by rw [hs]; exact (List.getElem?_eq_some_iff.1 h1).1
      have hlt2 : off + ti.size ≤ rs.size := by
        rw [hs]
        unfold seg at hlen; simp at hlen; omega
      have e : (rs.extract off (off + ti.size)).getD i Go.undef = rs.getD (off + i) Go.undef := by
        rw [Array.getD_eq_getD_getElem?, Array.getD_eq_getD_getElem?, Array.getElem?_extract]
        rw [if_pos (by omega)]
      rw [e]
      exact h3
  | false =>
    rw [hag] at hm
    simp only [Bool.false_eq_true, if_false] at hm
    cases hsg : seg cs off ti.size with
    | nil => rw [hsg] at hm; simp at hm
    | cons a l =>
      rw [hsg] at hm
      cases l with
      | cons _ _ => simp at hm
      | nil =>
        simp only [Option.some.injEq] at hm
        subst hm
        obtain ⟨h1, h2⟩ := hseg 0 a (by rw [hsg]; rfl)
        have h3 := hv _ a h1
        have hlt : off < rs.size := by rw [hs]; exact (List.getElem?_eq_some_iff.1 h1).1
        refine ⟨rs[off], by simp [hT.run_agg, hag, hlt], ?_⟩
        simpa [Array.getD, hlt] using h3

theorem run_binI {op : BinOp} {k k' : IntKind} {a b : Int} {v : V} (t : TypeId) (h : binI op k a k' b = some v) : ∃ r, (binOp op t (.int k a) (.int k' b)).run P w = .ok r w ∧ VR C v r := by
  unfold binI at h
  cases op <;> simp only [Option.ite_none_right_eq_some, Option.some.injEq, reduceCtorEq] at h
  case shl => obtain ⟨h1, rfl⟩ := h; exact ⟨_, by simp [binOp, Op.shift, show ¬ b < 0 by omega], .int _ _⟩
  case shr => obtain ⟨h1, rfl⟩ := h; exact ⟨_, by simp [binOp, Op.shift, show ¬ b < 0 by omega], .int _ _⟩
  case quo => obtain ⟨⟨rfl, h1⟩, rfl⟩ := h; exact ⟨_, by simp [binOp, Op.intDiv, h1], .int _ _⟩
  case rem => obtain ⟨⟨rfl, h1⟩, rfl⟩ := h; exact ⟨_, by simp [binOp, Op.intDiv, h1], .int _ _⟩
  all_goals
    obtain ⟨rfl, rfl⟩ := h
    have hk : ¬ (k ≠ k) := by simp
    first
      | exact ⟨_, by simp only [binOp, if_neg hk]; rfl, .int _ _⟩
      | exact ⟨_, by simp only [binOp, if_neg hk]; rfl, .bool _⟩

theorem eqCells_const : ∀ {xs ys : List V} {b : Bool}, eqCells xs ys = some b → (∀ (i : Nat) v, xs[i]? = some v → ∀ r, VR C v r → constV v = some r) ∧ (∀ (i : Nat) v, ys[i]? = some v → ∀ r, VR C v r → constV v = some r)
  | [], [], _, _ => ⟨fun i v h => by simp at h, fun i v h => by simp at h⟩
  | [], _ :: _, _, h => by simp [eqCells] at h
  | _ :: _, [], _, h => by simp [eqCells] at h
  | x :: xs, y :: ys, b, h => by
    simp only [eqCells, Option.bind_eq_some_iff, Option.map_eq_some_iff] at h
    obtain ⟨c, h1, d, h2, _⟩ := h
    obtain ⟨k1, k2⟩ := eqCells_const h2
    have hx : ∀ r, VR C x r → constV x = some r := by
      intro r hr
      unfold eqCell at h1
      split at h1
      · cases hr; rfl
      · cases hr; rfl
      · cases h1
    have hy : ∀ r, VR C y r → constV y = some r := by
      intro r hr
      unfold eqCell at h1
      split at h1
      · cases hr; rfl
      · cases hr; rfl
      · cases h1
    refine ⟨fun i v hi => ?_, fun i v hi => ?_⟩
    · cases i with
      | zero => simp at hi; subst hi; exact hx
      | succ i => exact k1 i v (by simpa using hi)
    · cases i with
      | zero => simp at hi; subst hi; exact hy
      | succ i => exact k2 i v (by simpa using hi)

/-- What type a comparison is at. -/
def kindOK (ti : TI) : BK → Bool
  | .i => true
  | .b => match ti.d with | .bool => true | _ => false
  | .a n => ti.eqok && n == ti.size
  | .s => match ti.d with | .slice _ => true | _ => false

theorem kindOK_b {ti : TI} (h : kindOK ti .b = true) : ti.d = .bool := by
  cases hd : ti.d <;> simp [kindOK, hd] at h
  rfl

theorem kindOK_s {ti : TI} (h : kindOK ti .s = true) : ∃ e, ti.d = .slice e := by
  cases hd : ti.d <;> simp [kindOK, hd] at h
  exact ⟨_, rfl⟩

theorem eqOp_iff {op : BinOp} {b : Bool} {v : V} (h : eqOp op b = some v) : (op = .eql ∧ v = .bool b) ∨ (op = .neq ∧ v = .bool (!b)) := by
  unfold eqOp at h
  split at h
  · simp only [Option.some.injEq] at h; exact .inl ⟨rfl, h.symm⟩
  · simp only [Option.some.injEq] at h; exact .inr ⟨rfl, h.symm⟩
  · cases h

theorem run_eqOp {t : TypeId} {op : BinOp} {rx ry : Value} {b : Bool} {v : V} (h : eqOp op b = some v) (hg : ∀ ox oy, (eqGuard op t ox oy rx ry).run P w = .ok () w) (he : (Op.equal t rx ry).run P w = .ok b w)
    (h1 : binOp .eql t rx ry = (do pure (.bool (← Op.equal t rx ry)))) (h2 : binOp .neq t rx ry = (do pure (.bool (!(← Op.equal t rx ry))))) (ox oy : Operand) :
    ∃ r, (do eqGuard op t ox oy rx ry; binOp op t rx ry).run P w = .ok r w ∧ VR C v r := by
  rcases eqOp_iff h with ⟨rfl, rfl⟩ | ⟨rfl, rfl⟩
  · exact ⟨.bool b, by simp [hg, h1, he], .bool _⟩
  · exact ⟨.bool (!b), by simp [hg, h2, he], .bool _⟩

theorem run_binV {t : TypeId} {ti : TI} (hT : TIOK P t ti) {k : BK} (hk : kindOK ti k = true) {op : BinOp} {x y v : V} {rx ry : Value} (hx : VR C x rx) (hy : VR C y ry) (h : binV k op x y = some v) (ox oy : Operand) :
    ∃ r, (do eqGuard op t ox oy rx ry; binOp op t rx ry).run P w = .ok r w ∧ VR C v r := by
  unfold binV at h
  cases k with
  | i =>
    simp only at h
    split at h
    · cases hx; cases hy
      obtain ⟨r, h1, h2⟩ := run_binI (P := P) (C := C) (w := w) t h
      refine ⟨r, ?_, h2⟩
      cases op <;> simp [eqGuard, h1]
    · cases h
  | b =>
    have hd : P.underlying t = some .bool := by have := hT.d; rw [kindOK_b hk] at this; exact this
    simp only at h
    split at h
    · cases hx; cases hy
      exact run_eqOp h (fun ox oy => by cases op <;> simp [eqGuard]) (run_equal_bool w t _ _ hd) rfl rfl ox oy
    · cases h
  | a n =>
    have hk' : ti.eqok = true ∧ n = ti.size := by simpa [kindOK] using hk
    have hE := hT.eq hk'.1
    simp only at h
    split at h
    · split at h
      case isFalse => cases h
      rename_i hn
      rw [hk'.2] at hn
      simp only [Option.bind_eq_some_iff] at h
      obtain ⟨b, h1, h2⟩ := h
      cases hx with
      | agg xs rs hs hv =>
      cases hy with
      | agg ys rs' hs' hv' =>
      obtain ⟨k1, k2⟩ := eqCells_const (C := C) h1
      have hrun := hE.2 _ _ rs rs' b w hs hs' (fun i v hi => k1 i v hi _ (hv i v hi)) (fun i v hi => k2 i v hi _ (hv' i v hi)) hn h1
      have hg := hE.1
      exact run_eqOp h2 (fun ox oy => by cases op <;> simp [eqGuard, hg]) hrun rfl rfl ox oy
    · cases h
  | s =>
    obtain ⟨e, he⟩ := kindOK_s hk
    have hd : P.underlying t = some (.slice e) := by have := hT.d; rw [he] at this; exact this
    simp only at h
    split at h
    · cases hx; cases hy
      exact run_eqOp h (fun ox oy => by cases op <;> simp [eqGuard]) (run_equal_slice_nil w t e _ _ _ hd) rfl rfl ox oy
    · cases hy
      cases hx with
      | fs rows a c sz b o f hle ha hsz hok hc hv =>
      have ha' := ha (by simp)
      subst ha'
      exact run_eqOp h (fun ox oy => by cases op <;> simp [eqGuard]) (run_equal_slice_nil w t e _ _ _ hd) rfl rfl ox oy
    · cases h

theorem run_unV {op : UnOp} {x v : V} {rx : Value} (hx : VR C x rx) (h : unV op x = some v) : ∃ r, (Op.unary op rx).run P w = .ok r w ∧ VR C v r := by
  unfold unV at h
  split at h
  · cases hx
    cases op <;> simp only [Option.some.injEq, reduceCtorEq] at h
    subst h
    exact ⟨_, by simp [Op.unary, Op.intArith], .int _ _⟩
  · cases hx
    cases op <;> simp only [Option.some.injEq, reduceCtorEq] at h
    subst h
    exact ⟨_, by simp [Op.unary], .bool _⟩
  · cases h

theorem lenV_ok {v : V} {r : Value} {n : Nat} (hv : VR C v r) (h : lenV v = some n) : ∃ a c, r = .slice a n c ∧ n ≤ c := by
  unfold lenV at h
  split at h <;> simp only [Option.some.injEq, reduceCtorEq] at h <;> subst h <;> cases hv
  · exact ⟨none, 0, rfl, Nat.le_refl _⟩
  · exact ⟨_, _, rfl, by assumption⟩
  · exact ⟨_, _, rfl, by assumption⟩

theorem isInt_ok {v : V} {r : Value} {n : Int} (hv : VR C v r) (h : isInt v = some n) : ∃ k, r = .int k n := by
  unfold isInt at h
  split at h
  · simp only [Option.some.injEq] at h; subst h; cases hv; exact ⟨_, rfl⟩
  · cases h

theorem run_bound {r : Value} {k : IntKind} {n : Int} {y : Nat} {code : BoundsCode} (hr : r = .int k n) (h0 : 0 ≤ n) (h1 : n ≤ y) : (Instr.sliceBound r y code).run P w = .ok n.toNat w := by
  subst hr
  simp [Instr.sliceBound, asIntOf, h0, h1]

def OptR (C : Ctx) : Option V → Option Value → Prop
  | none, none => True
  | some l, some r => VR C l r
  | _, _ => False

/-- x[lo:hi] -/
theorem run_sliceV {t e : TypeId} {te : TI} (ht : P.underlying t = some (.slice e)) (hE : TIOK P e te) {x v : V} {rx : Value} (hx : VR C x rx) {lo hi : Option V} {rlo rhi : Option Value}
    (hlo : OptR C lo rlo) (hhi : OptR C hi rhi) (h : sliceV te.size x lo hi = some v) :
    ∃ r, (Instr.sliceAt t rx rlo rhi none).run P w = .ok r w ∧ VR C v r := by
  unfold sliceV at h
  simp only [Option.bind_eq_some_iff] at h
  obtain ⟨n, hn, l, hl, hh, hhh, h⟩ := h
  split at h
  case isFalse => cases h
  rename_i hb
  obtain ⟨hb0, hb1, hb2⟩ := hb
  obtain ⟨a, c, rfl, hc⟩ := lenV_ok hx hn
  obtain ⟨l, rfl⟩ : ∃ k : Nat, l = (k : Int) := ⟨l.toNat, by omega⟩
  obtain ⟨m, rfl⟩ : ∃ k : Nat, hh = (k : Int) := ⟨hh.toNat, by omega⟩
  have hlm : l ≤ m := by omega
  have hmn : m ≤ n := by omega
  clear hb0 hb1 hb2
  simp only [Int.toNat_natCast] at h
  have hrun : (Instr.sliceAt t (.slice a n c) rlo rhi none).run P w = .ok (.slice (if c = l then a else a.map (·.add (l * te.size))) (m - l) (c - l)) w := by
    cases lo <;> cases rlo <;> simp only [OptR] at hlo <;> cases hi <;> cases rhi <;> simp only [OptR] at hhi <;> simp only [Option.some.injEq] at hl hhh
    · have e1 : l = 0 := by omega
      have e2 : m = n := by omega
      subst e1; subst e2
      simp [Instr.sliceAt, run_underlying ht, Instr.slice, Instr.sliceBounds, hE.run_size]
    · obtain ⟨k, rfl⟩ := isInt_ok hhi hhh
      have e1 : l = 0 := by omega
      subst e1
      have e2 := run_bound (P := P) (w := w) (k := k) (y := c) (code := .sliceAcap) rfl (n := (m : Int)) (by omega) (by omega)
      simp only [Int.toNat_natCast] at e2
      simp [Instr.sliceAt, run_underlying ht, Instr.slice, Instr.sliceBounds, hE.run_size, e2]
    · obtain ⟨k, rfl⟩ := isInt_ok hlo hl
      have e2 : m = n := by omega
      subst e2
      have e1 := run_bound (P := P) (w := w) (k := k) (y := m) (code := .sliceB) rfl (n := (l : Int)) (by omega) (by omega)
      simp only [Int.toNat_natCast] at e1
      simp [Instr.sliceAt, run_underlying ht, Instr.slice, Instr.sliceBounds, hE.run_size, e1]
    · obtain ⟨k, rfl⟩ := isInt_ok hlo hl
      obtain ⟨k', rfl⟩ := isInt_ok hhi hhh
      have e1 := run_bound (P := P) (w := w) (k := k) (y := m) (code := .sliceB) rfl (n := (l : Int)) (by omega) (by omega)
      have e2 := run_bound (P := P) (w := w) (k := k') (y := c) (code := .sliceAcap) rfl (n := (m : Int)) (by omega) (by omega)
      simp only [Int.toNat_natCast] at e1 e2
      simp [Instr.sliceAt, run_underlying ht, Instr.slice, Instr.sliceBounds, hE.run_size, e1, e2]
  refine ⟨_, hrun, ?_⟩
  have hlen : m - l ≤ c - l := by omega
  clear hl hhh hrun
  split at h
  · -- frozen
    rename_i rows
    simp only [Option.ite_none_right_eq_some, Option.some.injEq] at h
    obtain ⟨hsz, rfl⟩ := h
    have hn' : rows.length = n := by simpa [lenV] using hn
    have hl' : ((rows.take m).drop l).length = m - l := by simp; omega
    have hget : ∀ (i : Nat) row, ((rows.take m).drop l)[i]? = some row → rows[l + i]? = some row := by
      intro i row hi
      rw [List.getElem?_drop, List.getElem?_take] at hi
      split at hi
      · exact hi
      · cases hi
    cases hx with
    | fs _ _ _ sz b o f hle ha hsz' hok hc' hv =>
    by_cases hnil : (rows.take m).drop l = []
    · rw [hnil] at hl' ⊢
      have h0 : m - l = 0 := by simpa using hl'.symm
      rw [h0]
      exact .fs [] _ _ 0 0 0 (fun _ _ => Go.undef) (Nat.zero_le _) (fun h => absurd rfl h) (fun i row h => by simp at h) (fun i row j v h => by simp at h) (fun i j h => by simp at h) (fun i row j v h => by simp at h)
    · have hpos : 0 < m - l := by rw [← hl']; exact List.length_pos_iff.2 hnil
      have hrn : rows ≠ [] := by rintro rfl; exact hnil (by simp)
      have hs : sz = te.size := by
        cases rows with
        | nil => exact absurd rfl hrn
        | cons r _ => rw [← hsz' 0 r rfl, ← rowsSz_iff hsz 0 r rfl]
      have ha' := ha hrn
      subst ha'
      rw [if_neg (by omega), ← hl']
      simp only [Option.map_some, addr_add]
      refine .fs _ _ _ sz b (o + l * te.size) (fun i j => f (l + i) j) (by rw [hl']; exact hlen) (fun _ => rfl) (fun i row hi => hsz' _ row (hget i row hi)) (fun i row j v hi hj => hok _ row j v (hget i row hi) hj) (fun i j hi hj => ?_) (fun i row j v hi hj => hv _ row j v (hget i row hi) hj)
      obtain ⟨h1, h2⟩ := hc' (l + i) j (by omega) hj
      refine ⟨h1, ?_⟩
      rw [← h2, Nat.add_mul, hs]
      congr 1
      omega
  · -- one's own
    rename_i id g sz' off len'
    simp only [Option.ite_none_right_eq_some, Option.some.injEq] at h
    obtain ⟨hsz, rfl⟩ := h
    have hn' : len' = n := by simpa [lenV] using hn
    subst hn'
    cases hx with
    | os _ _ _ _ _ _ _ hu hle hs0 hl0 =>
    refine .os id g sz' _ _ _ _ hu hlen (fun hp => by have := hs0 (by omega); split <;> simp [this]) fun blk hbk hg => ?_
    obtain ⟨q1, q2, q3⟩ := hl0 blk hbk hg
    clear hl0
    refine ⟨q1, by clear q3; omega, fun hor => ?_⟩
    by_cases hpos : 0 < len'
    · have q4 := q3 (.inr hpos)
      clear q3
      rcases q4 with ⟨y1, y2, y3⟩ | ⟨p, tot, y1, y2, y3⟩
      · omega
      · refine .inr ⟨p, tot, y1, ?_, ?_⟩
        · subst y2
          by_cases hcl : c = l
          · rcases hor with h | h
            · have h2 : off = 0 := by omega
              have h3 : l = 0 := by omega
              rw [if_pos hcl, h2, h3]
            · omega
          · rw [if_neg hcl]
            simp only [Option.map_some, addr_add]
            rw [hsz, Nat.add_mul]
        · have : off + l + (c - l) = off + c := by omega
          rw [this]; exact y3
    · have hl00 : l = 0 := by clear q3; omega
      have hoff : off = 0 := by clear q3; omega
      have q4 := q3 (.inl hoff)
      clear q3
      rcases q4 with ⟨y1, y2, y3⟩ | ⟨p, tot, y1, y2, y3⟩
      · refine .inl ⟨y1, ?_, by omega⟩
        rw [y2]; simp
      · refine .inr ⟨p, tot, y1, ?_, ?_⟩
        · rw [hl00, hoff, y2]
          simp [hoff, addr_add]
        · rw [hl00]; simpa using y3
  · -- nil
    simp only [Option.some.injEq] at h
    subst h
    cases hx
    have h1 : m = 0 := by omega
    have h2 : l = 0 := by omega
    subst h1; subst h2
    simp
    exact .nil
  · cases h

theorem run_iaddr {t e : TypeId} {te : TI} (ht : P.underlying t = some (.slice e)) (hE : TIOK P e te) {x i : V} {rx ri : Value} (hx : VR C x rx) (hi : VR C i ri) {n : Int} (hn : isInt i = some n) (h0 : 0 ≤ n) :
    (∀ rows r, x = .fs rows → rows[n.toNat]? = some r → r.length = te.size → ∃ q, (Instr.indexAt t rx ri).run P w = .ok q w ∧ VR C (.fp r 0) q) ∧
    (∀ id g off len, x = .os id g te.size off len → n < (len : Int) → ∃ q, (Instr.indexAt t rx ri).run P w = .ok q w ∧ VR C (.ptr id g (off + n.toNat) 0) q) := by
  obtain ⟨k, rfl⟩ := isInt_ok hi hn
  refine ⟨?_, ?_⟩
  · rintro rows r rfl hr hrl
    cases hx with
    | fs _ a c sz b o f hle ha hsz hok hc hv =>
    have hlt : n.toNat < rows.length := (List.getElem?_eq_some_iff.1 hr).1
    have hs : sz = te.size := by rw [← hsz _ r hr, hrl]
    have ha' := ha (by rintro rfl; simp at hlt)
    subst ha'
    refine ⟨.pointer (some ⟨b, o + n.toNat * te.size, none⟩), ?_, ?_⟩
    · have : n < (rows.length : Int) := by omega
      simp [Instr.indexAt, asIntOf, run_underlying ht, h0, this, hE.run_size, addr_add]
    · refine .fp r 0 b (o + n.toNat * te.size) (fun j => f n.toNat j) (fun j v hj => ?_) (fun j v hj => hv _ r j v hr hj)
      have hj' : j < sz := by rw [hs, ← hrl]; exact (List.getElem?_eq_some_iff.1 hj).1
      obtain ⟨h1, h2⟩ := hc n.toNat j hlt hj'
      exact ⟨h1, by rw [← h2, hs]⟩
  · rintro id g off len rfl hlt
    cases hx with
    | os _ _ _ _ _ a c hu hle hs hl =>
    cases a with
    | none => exact absurd (hs (by omega)) (by simp)
    | some a =>
      refine ⟨.pointer (some (a.add (n.toNat * te.size))), ?_, ?_⟩
      · simp [Instr.indexAt, asIntOf, run_underlying ht, h0, hlt, hE.run_size]
      · refine .ptr id g _ 0 _ hu fun blk hbk hg => ?_
        obtain ⟨q1, q2, q3⟩ := hl blk hbk hg
        refine ⟨by omega, ?_⟩
        rcases q3 (.inr (by omega)) with ⟨_, y2, _⟩ | ⟨p, tot, y1, y2, y3⟩
        · cases y2
        · simp only [Option.some.injEq] at y2
          subst y2
          exact ⟨p, tot, y1, by rw [addr_add, q1, Nat.add_mul]; rfl⟩

end
end Gh
