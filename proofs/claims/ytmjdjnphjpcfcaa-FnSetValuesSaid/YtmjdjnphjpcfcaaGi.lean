/- The check that a ghost operation is the machine's; and what then holds of its run. -/
import Derived.Test.YtmjdjnphjpcfcaaGg
namespace Gh
set_option linter.unusedVariables false
set_option linter.unusedSimpArgs false
open Go

def onSlice (tab : Tab) (t : TypeId) (f : Nat → TI → Bool) : Bool :=
  match tab t with
  | some ti => match ti.d with
    | .slice e => match tab e with
      | some te => f e te
      | none => false
    | _ => false
  | none => false

def onTI (tab : Tab) (t : TypeId) (f : TI → Bool) : Bool :=
  match tab t with
  | some ti => f ti
  | none => false

theorem onSlice_ok {P : Program} {tab : Tab} (hT : TabOK P tab) {t : TypeId} {f : Nat → TI → Bool} (h : onSlice tab t f = true) : ∃ e te, P.underlying t = some (.slice e) ∧ TIOK P e te ∧ f e te = true := by
  unfold onSlice at h
  split at h
  · rename_i ti hti
    split at h
    · rename_i e hd
      split at h
      · rename_i te hte
        refine ⟨e, te, ?_, hT e te hte, h⟩
        have := (hT t ti hti).d
        rw [hd] at this
        exact this
      · cases h
    · cases h
  · cases h

theorem onTI_ok {P : Program} {tab : Tab} (hT : TabOK P tab) {t : TypeId} {f : TI → Bool} (h : onTI tab t f = true) : ∃ ti, TIOK P t ti ∧ f ti = true := by
  unfold onTI at h
  split at h
  · exact ⟨_, hT t _ (by assumption), h⟩
  · cases h

def optd : Option Operand → Option A → Bool
  | none, none => true
  | some x, some y => opd x y
  | _, _ => false

def chkParts (place : Nat → Option (Nat × Nat)) : List (Nat × Operand) → List (Nat × Nat × A) → Bool
  | [], [] => true
  | (i, x) :: ps, (off, sz, y) :: qs => place i == some (off, sz) && opd x y && chkParts place ps qs
  | _, _ => false

def chkPartsS : List (Nat × Operand) → List (Nat × A) → Bool
  | [], [] => true
  | (i, x) :: ps, (j, y) :: qs => i == j && opd x y && chkPartsS ps qs
  | _, _ => false

def chkBuild (tab : Tab) (t : TypeId) (parts : Array (Nat × Operand)) (z : List V) (ps : List (Nat × Nat × A)) : Bool :=
  onTI tab t fun ti => zEq ti.zero z && !z.isEmpty && match ti.d with
    | .struct fs => chkParts (fun i => (fs[i]?).map fun x => (x.1, x.2.1)) parts.toList ps
    | .array _ e => onTI tab e fun te => chkParts (fun i => some (i * te.size, te.size)) parts.toList ps
    | _ => false

def chkField (tab : Tab) (t : TypeId) (f : Nat) (g : Nat → Nat → Nat → Bool) : Bool :=
  onTI tab t fun ti => match ti.d with
    | .struct fs => match fs[f]? with
      | some (off, sz, ft) => g off sz ft
      | none => false
    | _ => false

def chkArr (tab : Tab) (t : TypeId) (g : Nat → Nat → TI → Bool) : Bool :=
  onTI tab t fun ti => match ti.d with
    | .array n e => onTI tab e fun te => g n e te
    | _ => false

def chkBuiltin (tab : Tab) (c : Call) (b : Builtin) (ys : List A) (f : TypeId → Bool) : Bool :=
  match c.callee with
  | .builtin b' => b == b' && opds c.args.toList ys && (match c.argTypes[0]? with | some t => f t | none => false) && (match c.argTypes[1]? with | some t => some t == c.argTypes[0]? | none => true)
  | _ => false

def chkOp (tab : Tab) (o : Oper) (g : GOp) : Bool :=
  match g with
  | .mv y | .frz y | .mvo _ y => match o.op with
    | .move x => opd x y
    | .assign x => opd x y
    | _ => false
  | .nilo _ => match o.op with
    | .move (.const v) => constEq v .nil
    | .assign (.const v) => constEq v .nil
    | _ => false
  | .nilck y => match o.op with
    | .nilCheck x => opd x y
    | _ => false
  | .pick c a b => match o.op with
    | .pick c' a' b' => opd c' c && opd a' a && opd b' b
    | _ => false
  | .alloc z => match o.op with
    | .alloc e => onTI tab e fun ti => zEq ti.zero z && !z.isEmpty
    | _ => false
  | .box sz y => match o.op with
    | .box e x => onTI tab e fun ti => ti.size == sz && opd x y
    | _ => false
  | .build z ps => match o.op with
    | .build t parts => chkBuild tab t parts z ps
    | _ => false
  | .bsl _ sz z len ps => match o.op with
    | .buildSlice t n parts => onSlice tab t fun _ te => te.size == sz && zEq te.zero z && !z.isEmpty && n == len && decide (n * te.size ≤ 2 ^ 24) && chkPartsS parts.toList ps
    | _ => false
  | .load sz ag y => match o.op with
    | .load t x => onTI tab t fun ti => ti.size == sz && ti.ag == ag && opd x y
    | _ => false
  | .store sz y z => match o.op with
    | .store t x v => onTI tab t fun ti => ti.size == sz && opd x y && opd v z
    | _ => false
  | .bin k op x y => match o.op with
    | .binOp op' t x' y' _ => onTI tab t fun ti => decide (op = op') && kindOK ti k && opd x' x && opd y' y
    | _ => false
  | .un op x => match o.op with
    | .unOp op' _ x' => decide (op = op') && opd x' x
    | _ => false
  | .conv k x => match o.op with
    | .convert s d x' => (onTI tab s fun ti => match ti.d with | .int _ => true | _ => false) && (onTI tab d fun ti => match ti.d with | .int k' => decide (k = k') | _ => false) && opd x' x
    | _ => false
  | .mkfn f caps => match o.op with
    | .makeFunc (.func f') first caps' => f == f' && first.isEmpty && opds caps'.toList caps
    | _ => false
  | .mksl sz z bytes l c => match o.op with
    | .makeSlice t l' c' => onSlice tab t fun _ te => te.size == sz && zEq te.zero z && !z.isEmpty && te.bytes == bytes && opd l' l && opd c' c
    | _ => false
  | .slice sz x lo hi => match o.op with
    | .slice t x' lo' hi' none => onSlice tab t fun _ te => te.size == sz && opd x' x && optd lo' lo && optd hi' hi
    | _ => false
  | .faddr off x => match o.op with
    | .fieldAddr t x' f => chkField tab t f (fun off' sz ft => off == off' && !(sz == 0) && onTI tab ft (fun ti => ti.size == sz)) && opd x' x
    | _ => false
  | .field off sz ag x => match o.op with
    | .field t x' f => chkField tab t f (fun off' _ ft => off == off' && onTI tab ft (fun ti => ti.size == sz && ti.ag == ag)) && opd x' x
    | _ => false
  | .iaddr sz x i => match o.op with
    | .indexAddr t x' i' => (onSlice tab t fun _ te => te.size == sz) && opd x' x && opd i' i
    | _ => false
  | .iaddrA n esz x i => match o.op with
    | .indexAddr t x' i' => (chkArr tab t fun n' _ te => n == n' && te.size == esz) && opd x' x && opd i' i
    | _ => false
  | .index n esz ag x i => match o.op with
    | .index t x' i' => (chkArr tab t fun n' _ te => n == n' && te.size == esz && te.ag == ag) && opd x' x && opd i' i
    | _ => false
  | .ext i x => match o.op with
    | .extract x' i' => i == i' && opd x' x
    | _ => false
  | .len x => match o.op with
    | .call c => chkBuiltin tab c .len [x] fun t => onSlice tab t fun _ _ => true
    | _ => false
  | .append _ sz bytes x y => match o.op with
    | .call c => chkBuiltin tab c .append [x, y] (fun t => onSlice tab t fun _ te => te.size == sz && te.bytes == bytes && !(te.size == 0)) && c.argTypes.size == 2
    | _ => false
  | .copy sz x y => match o.op with
    | .call c => chkBuiltin tab c .copy [x, y] fun t => onSlice tab t fun _ te => te.size == sz
    | _ => false
  | .mx xs => match o.op with
    | .call c => chkBuiltin tab c .max xs fun _ => true
    | _ => false
  | .mn xs => match o.op with
    | .call c => chkBuiltin tab c .min xs fun _ => true
    | _ => false
  | .call _ _ _ => false

def Up.fn (h : Hp) (nid : Nat) : Up → Hp
  | .no => h
  | .put id b => upd h id b
  | .set id b => upd h id b
  | .push b => upd h nid b
  | .swap id b id2 b2 => upd (upd h id b) id2 b2

def Up.us (us : Nat → Prop) (ng : Nat) : Up → Nat → Prop
  | .no => us
  | .put _ _ => us
  | .set _ _ => addU us ng
  | .push _ => addU us ng
  | .swap _ _ _ _ => addU us ng

/-- What an operation's run gives. -/
def Fin (P : Program) (C : Ctx) (w : World) (s : Sem Next) (v : V) (h' : Hp) (us : Nat → Prop) : Prop :=
  ∃ n r w' C', s.run P w = .ok n w' ∧ (n = .value r ∨ (n = .skip ∧ r = Go.undef)) ∧ SR C' ∧ w'.heap = C'.heap ∧ C'.h = h' ∧ C'.used = us ∧ Evo C C' ∧ VR C' v r ∧ w'.os = w.os ∧ w'.tape = w.tape ∧ w'.output = w.output

theorem Fin.ofV {P : Program} {C : Ctx} {w : World} {s : Sem Value} {v : V} {h' : Hp} {us : Nat → Prop} (h : FinV P C w s v h' us) {s' : Sem Next} (hs : s' = (do pure (.value (← s)))) : Fin P C w s' v h' us := by
  obtain ⟨r, w', C', h1, rest⟩ := h
  subst hs
  exact ⟨.value r, r, w', C', by simp [h1], .inl rfl, rest⟩

theorem Fin.ofU {P : Program} {C : Ctx} {w : World} {s : Sem Unit} {h' : Hp} {us : Nat → Prop} (h : FinU P C w s h' us) {s' : Sem Next} (hs : s' = (do s; pure .skip)) : Fin P C w s' .undef h' us := by
  obtain ⟨w', C', h1, h2, h3, h4, h5, h6, rest⟩ := h
  subst hs
  exact ⟨.skip, Go.undef, w', C', by simp [h1], .inr ⟨rfl, rfl⟩, h2, h3, h4, h5, h6, .undef _, rest⟩

theorem Fin.still {P : Program} {C : Ctx} {w : World} {s : Sem Next} {v : V} {r : Value} (S : SR C) (hw : w.heap = C.heap) (h : s.run P w = .ok (.value r) w) (hv : VR C v r) : Fin P C w s v C.h C.used :=
  ⟨.value r, r, w, C, h, .inl rfl, S, hw, rfl, rfl, .refl C, hv, rfl, rfl, rfl⟩

section
variable {P : Program} {C : Ctx} {w : World} {T : Tm} {a : Act}

theorem chkParts_ok (hT : TR C T a) {place : Nat → Option (Nat × Nat)} : ∀ {ps : List (Nat × Operand)} {qs : List (Nat × Nat × A)}, chkParts place ps qs = true → PartsR C T place qs (ps.map fun x => (x.1, a.eval x.2))
  | [], [], _ => trivial
  | [], _ :: _, h => by simp [chkParts] at h
  | _ :: _, [], h => by simp [chkParts] at h
  | (i, x) :: ps, (off, sz, y) :: qs, h => by
    simp only [chkParts, Bool.and_eq_true, beq_iff_eq] at h
    exact ⟨h.1.1, opd_ok hT h.1.2, chkParts_ok hT h.2⟩

theorem chkPartsS_ok (hT : TR C T a) : ∀ {ps : List (Nat × Operand)} {qs : List (Nat × A)}, chkPartsS ps qs = true → PartsS C T qs (ps.map fun x => (x.1, a.eval x.2))
  | [], [], _ => trivial
  | [], _ :: _, h => by simp [chkPartsS] at h
  | _ :: _, [], h => by simp [chkPartsS] at h
  | (i, x) :: ps, (j, y) :: qs, h => by
    simp only [chkPartsS, Bool.and_eq_true, beq_iff_eq] at h
    exact ⟨h.1.1.symm, opd_ok hT h.1.2, chkPartsS_ok hT h.2⟩

theorem optd_ok (hT : TR C T a) {x : Option Operand} {y : Option A} (h : optd x y = true) : OptR C (y.map (A.ev T)) (x.map a.eval) := by
  cases x <;> cases y <;> simp [optd] at h
  · trivial
  · exact opd_ok hT h

theorem chkBuiltin_ok {tab : Tab} (hT : TR C T a) {c : Call} {b : Builtin} {ys : List A} {f : TypeId → Bool} {type : TypeId} (h : chkBuiltin tab c b ys f = true) :
    ∃ t consts args, c.argTypes[0]? = some t ∧ f t = true ∧ (∀ t', c.argTypes[1]? = some t' → t' = t) ∧ (resolve a.eval c type).run P w = .ok { target := .builtin b c.argTypes type consts, args := args } w ∧
      args.size = (evs T ys).length ∧ ∀ (i : Nat) v, (evs T ys)[i]? = some v → ∃ r, args[i]? = some r ∧ VR C v r := by
  unfold chkBuiltin at h
  split at h
  case h_2 => cases h
  rename_i b' hc
  simp only [Bool.and_eq_true] at h
  obtain ⟨⟨⟨h1, h2⟩, h3⟩, h4⟩ := h
  split at h3
  case h_2 => cases h3
  rename_i t ht
  obtain ⟨k1, k2⟩ := opds_ok hT h2
  have hbb : b = b' := by
    revert h1; cases b <;> cases b' <;> first | (intro _; rfl) | (intro h; exact absurd h (by decide))
  subst hbb
  refine ⟨t, _, c.args.map a.eval, ht, h3, fun t' ht' => ?_, by simp [resolve, hc]; rfl, by simpa using k1, fun i v hv => ?_⟩
  · rw [ht', ht] at h4
    simpa using h4
  · obtain ⟨x, q1, q2⟩ := k2 i v hv
    refine ⟨a.eval x, ?_, q2⟩
    rw [Array.getElem?_map]
    have : c.args[i]? = some x := by simpa using q1
    simp [this]

theorem foldI_ok (f : Int → Int → Int) (m2 : Value → Value → Sem Value) (hm : ∀ k x y, m2 (.int k x) (.int k y) = pure (.int k (f x y))) {k : IntKind} : ∀ (vs : List V) (rs : List Value) (x n : Int), rs.length = vs.length → (∀ (i : Nat) v, vs[i]? = some v → ∃ r, rs[i]? = some r ∧ VR C v r) → foldI f k x vs = some n →
    (rs.foldlM m2 (.int k x)).run P w = .ok (.int k n) w
  | [], [], x, n, _, _, h => by simp [foldI] at h; subst h; simp
  | [], _ :: _, _, _, hl, _, _ => by simp at hl
  | _ :: _, [], _, _, hl, _, _ => by simp at hl
  | v :: vs, r :: rs, x, n, hl, hr, h => by
    obtain ⟨r', h1, h2⟩ := hr 0 v rfl
    simp only [List.getElem?_cons_zero, Option.some.injEq] at h1
    subst h1
    cases v <;> simp only [foldI, Option.ite_none_right_eq_some, reduceCtorEq] at h
    obtain ⟨rfl, h⟩ := h
    cases h2
    have ih := foldI_ok f m2 hm vs rs _ n (by simpa using hl) (fun i v hv => by simpa using hr (i + 1) v (by simpa using hv)) h
    simp only [List.foldlM_cons, hm, Sem.run_bind, Sem.run_pure, Result.andThen_ok]
    exact ih

theorem fold_args (f : Int → Int → Int) (m2 : Value → Value → Sem Value) (hm : ∀ k x y, m2 (.int k x) (.int k y) = pure (.int k (f x y))) {ys : List A} {args : Array Value} {k : IntKind} {x n : Int} {l : List V} (hl : args.size = (evs T ys).length) (hr : ∀ (i : Nat) v, (evs T ys)[i]? = some v → ∃ r, args[i]? = some r ∧ VR C v r)
    (he : evs T ys = .int k x :: l) (hf : foldI f k x l = some n) : ∃ r rs, args.toList = r :: rs ∧ (rs.foldlM m2 r).run P w = .ok (.int k n) w := by
  rw [he] at hl hr
  cases ha : args.toList with
  | nil => have := congrArg List.length ha; simp at this; simp [this] at hl
  | cons r rs =>
    obtain ⟨r', h1, h2⟩ := hr 0 _ rfl
    have h1' : args.toList[0]? = some r' := by simpa using h1
    rw [ha] at h1'
    simp only [List.getElem?_cons_zero, Option.some.injEq] at h1'
    subst h1'
    cases h2
    refine ⟨_, rs, rfl, foldI_ok (C := C) f m2 hm l rs x n ?_ (fun i v hv => ?_) hf⟩
    · have := congrArg List.length ha; simp at this; simp at hl; omega
    · obtain ⟨q, q1, q2⟩ := hr (i + 1) v (by simpa using hv)
      have q1' : args.toList[i + 1]? = some q := by simpa using q1
      rw [ha] at q1'
      exact ⟨q, by simpa using q1', q2⟩

theorem constEq_nil {x : Value} (h : constEq x .nil = true) : x = .slice none 0 0 := by
  unfold constEq at h
  split at h <;> first | rfl | (simp_all; done)

theorem op_ok {tab : Tab} (hTab : TabOK P tab) (S : SR C) (hw : w.heap = C.heap) (hT : TR C T a) {o : Oper} {g : GOp} (hc : chkOp tab o g = true) {nid ng : Nat} {v : V} {u : Up} (hg : u.gens ng ≠ ng → ¬ C.used ng) (h : gop T C.h nid ng g = some (v, u)) :
    Fin P C w (execOp a.eval o) v (u.fn C.h nid) (u.us C.used ng) := by
  obtain ⟨dst, op, type, pos, after, guard⟩ := o
  cases g with
  | mv y =>
    simp only [gop, Option.some.injEq, Prod.mk.injEq] at h
    obtain ⟨rfl, rfl⟩ := h
    simp only [chkOp] at hc
    split at hc
    · exact .still S hw (by simp [execOp]) (opd_ok hT hc)
    · exact .still S hw (by simp [execOp]) (opd_ok hT hc)
    · cases hc
  | nilo sz =>
    simp only [gop, Option.some.injEq, Prod.mk.injEq] at h
    obtain ⟨rfl, rfl⟩ := h
    obtain ⟨C', S', E', h1, h2, h3, h4⟩ := turn_nilo S sz nid ng (hg (by simp [Up.gens]))
    have key : ∀ s : Sem Next, s.run P w = .ok (.value (.slice none 0 0)) w → Fin P C w s (.os nid ng sz 0 0) (upd C.h nid ⟨ng, false, sz, []⟩) (addU C.used ng) :=
      fun s hs => ⟨_, _, w, C', hs, .inl rfl, S', hw.trans h1.symm, h2, h3, E', h4, rfl, rfl, rfl⟩
    simp only [chkOp] at hc
    split at hc
    · rename_i v; rw [constEq_nil hc]; exact key _ (by simp [execOp, Act.eval])
    · rename_i v; rw [constEq_nil hc]; exact key _ (by simp [execOp, Act.eval])
    · cases hc
  | frz y =>
    have hx : ∃ x, VR C (y.ev T) (a.eval x) ∧ (execOp a.eval ⟨dst, op, type, pos, after, guard⟩).run P w = .ok (.value (a.eval x)) w := by
      simp only [chkOp] at hc
      split at hc
      · rename_i x; exact ⟨x, opd_ok hT hc, by simp [execOp]⟩
      · rename_i x; exact ⟨x, opd_ok hT hc, by simp [execOp]⟩
      · cases hc
    obtain ⟨x, hx, hrun⟩ := hx
    simp only [gop] at h
    split at h
    · rename_i id g sz off len he
      rw [he] at hx
      simp only [Option.bind_eq_some_iff, Option.ite_none_right_eq_some, Option.some.injEq, Prod.mk.injEq] at h
      obtain ⟨b, hb, ⟨hfit, hpu⟩, rfl, rfl⟩ := h
      obtain ⟨C', S', E', h1, h2, h3, h4⟩ := turn_frz S hx hb hfit hpu
      exact ⟨_, _, w, C', hrun, .inl rfl, S', hw.trans h1.symm, h2, h3, E', h4, rfl, rfl, rfl⟩
    · simp only [Option.some.injEq, Prod.mk.injEq] at h
      obtain ⟨rfl, rfl⟩ := h
      exact .still S hw hrun hx
  | mvo old y =>
    have hx : ∃ x, VR C (y.ev T) (a.eval x) ∧ (execOp a.eval ⟨dst, op, type, pos, after, guard⟩).run P w = .ok (.value (a.eval x)) w := by
      simp only [chkOp] at hc
      split at hc
      · rename_i x; exact ⟨x, opd_ok hT hc, by simp [execOp]⟩
      · rename_i x; exact ⟨x, opd_ok hT hc, by simp [execOp]⟩
      · cases hc
    obtain ⟨x, hx, hrun⟩ := hx
    simp only [gop] at h
    split at h
    · rename_i id g _ _ _ id2 g2 sz2 off len _ he
      rw [he] at hx
      split at h
      · simp only [Option.some.injEq, Prod.mk.injEq] at h
        obtain ⟨rfl, rfl⟩ := h
        exact .still S hw hrun hx
      · rename_i hne
        split at h
        · simp only [Option.some.injEq, Prod.mk.injEq] at h
          obtain ⟨rfl, rfl⟩ := h
          exact .still S hw hrun hx
        · simp only [Option.bind_eq_some_iff, Option.ite_none_right_eq_some, Option.some.injEq, Prod.mk.injEq] at h
          obtain ⟨b2, hb2, ⟨hf, rfl, hlen⟩, rfl, rfl⟩ := h
          obtain ⟨C', S', E', h1, h2, h3, h4⟩ := turn_mvo S hne hx hb2 hf hlen (hg (by simp [Up.gens]))
          exact ⟨_, _, w, C', hrun, .inl rfl, S', hw.trans h1.symm, h2, h3, E', h4, rfl, rfl, rfl⟩
    · simp only [Option.some.injEq, Prod.mk.injEq] at h
      obtain ⟨rfl, rfl⟩ := h
      exact .still S hw hrun hx
  | nilck y =>
    simp only [chkOp] at hc
    split at hc
    case h_2 => cases hc
    rename_i x
    have hx := opd_ok hT hc
    simp only [gop] at h
    split at h
    · rename_i he; rw [he] at hx; simp only [Option.some.injEq, Prod.mk.injEq] at h; obtain ⟨rfl, rfl⟩ := h
      generalize hr : a.eval x = r at hx
      cases hx with
      | ptr _ _ _ _ b hu hl => exact .still S hw (r := .pointer (some b)) (by simp [execOp, hr]) (.ptr _ _ _ _ b hu hl)
    · rename_i he; rw [he] at hx; simp only [Option.some.injEq, Prod.mk.injEq] at h; obtain ⟨rfl, rfl⟩ := h
      generalize hr : a.eval x = r at hx
      cases hx with
      | fp _ _ b o f hc hv => exact .still S hw (r := .pointer (some ⟨b, o + _, none⟩)) (by simp [execOp, hr]) (.fp _ _ b o f hc hv)
    · rename_i he; rw [he] at hx; simp only [Option.some.injEq, Prod.mk.injEq] at h; obtain ⟨rfl, rfl⟩ := h
      generalize hr : a.eval x = r at hx
      cases hx with
      | fn _ _ rs hs hv => exact .still S hw (r := .func (.func _) #[] rs) (by simp [execOp, hr]) (.fn _ _ rs hs hv)
    · cases h
  | pick c p q =>
    simp only [chkOp] at hc
    split at hc
    case h_2 => cases hc
    rename_i c' p' q'
    simp only [Bool.and_eq_true] at hc
    have h1 := opd_ok hT hc.1.1
    have h2 := opd_ok hT hc.1.2
    have h3 := opd_ok hT hc.2
    simp only [gop] at h
    split at h
    · rename_i b he
      rw [he] at h1
      simp only [Option.some.injEq, Prod.mk.injEq] at h; obtain ⟨rfl, rfl⟩ := h
      generalize hr : a.eval c' = r at h1
      cases h1
      cases b
      · exact .still S hw (r := a.eval q') (by simp [execOp, hr, asBool]) (by simpa using h3)
      · exact .still S hw (r := a.eval p') (by simp [execOp, hr, asBool]) (by simpa using h2)
    · cases h
  | alloc z =>
    simp only [chkOp] at hc
    split at hc
    case h_2 => cases hc
    rename_i e
    obtain ⟨ti, hti, hh⟩ := onTI_ok hTab hc
    simp only [Bool.and_eq_true, Bool.not_eq_true', List.isEmpty_eq_false_iff] at hh
    have hz := zEq_ok hh.1
    subst hz
    simp only [gop, Option.some.injEq, Prod.mk.injEq] at h
    obtain ⟨rfl, rfl⟩ := h
    exact Fin.ofV (fin_alloc S hw hti hh.2 (hg (by simp [Up.gens]))) rfl
  | box sz y =>
    simp only [chkOp] at hc
    split at hc
    case h_2 => cases hc
    rename_i e x
    obtain ⟨ti, hti, hh⟩ := onTI_ok hTab hc
    simp only [Bool.and_eq_true, beq_iff_eq] at hh
    simp only [gop, Option.ite_none_right_eq_some, Option.some.injEq, Prod.mk.injEq] at h
    obtain ⟨⟨hl, hok⟩, rfl, rfl⟩ := h
    have := fin_box (P := P) (t := e) S hw (opd_ok hT hh.2) hok (nid := nid) (hg (by simp [Up.gens]))
    rw [hl] at this
    exact Fin.ofV this rfl
  | build z ps =>
    simp only [chkOp] at hc
    split at hc
    case h_2 => cases hc
    rename_i t parts
    obtain ⟨ti, hti, hh⟩ := onTI_ok hTab hc
    simp only [Bool.and_eq_true, Bool.not_eq_true', List.isEmpty_eq_false_iff] at hh
    obtain ⟨⟨hz, hne⟩, hd⟩ := hh
    have hz := zEq_ok hz
    subst hz
    simp only [gop, Option.map_eq_some_iff, Prod.mk.injEq] at h
    obtain ⟨cs, hf, rfl, rfl⟩ := h
    obtain ⟨i, z, hi, his, hib, hiz, hzs, _⟩ := hti.info
    obtain ⟨z', k1, k2, k3, k4, k5⟩ := zeroAt (P := P) (C := C) hti hne
    have hzz : z' = z := by
      have := k1 w
      simp [zeroValue, typeInfo, hi, hiz] at this
      exact this.symm
    subst hzz
    have hmap : (parts.map fun (i, x) => (i, a.eval x)).toList = parts.toList.map fun x => (x.1, a.eval x.2) := by simp
    split at hd
    · rename_i fs hds
      have hd2 := hti.d
      rw [hds] at hd2
      obtain ⟨F, f1, f2, f3⟩ := hd2
      have hP := chkParts_ok hT hd
      obtain ⟨L', g1, g2⟩ := fillG_ok (C := C) ps _ _ z'.cells cs hP k2 hf
      refine .still S hw (r := .agg L') ?_ (.agg cs L' (by simpa using g2.1) fun i v hv => ?_)
      · have hb : P.built t (parts.map fun (i, x) => (i, a.eval x)).toList = some L' := by
          unfold Program.built
          rw [hmap]
          simp only [hi, f1, hiz, f2]
          rw [← g1]
          congr 1
          funext i
          simp
        simp only [execOp, Sem.run_bind, run_build w t _ _ hb, Result.andThen_ok, Sem.run_pure]
      · obtain ⟨r, r1, r2⟩ := g2.2 i v hv
        have : L'[i]? = some r := by simpa using r1
        simpa [Array.getD_eq_getD_getElem?, this] using r2
    · rename_i n e hds
      have hd2 := hti.d
      rw [hds] at hd2
      obtain ⟨te, hte, hd⟩ := onTI_ok hTab hd
      obtain ⟨ie, ze, he, hes, _⟩ := hte.info
      have hP := chkParts_ok hT hd
      obtain ⟨L', g1, g2⟩ := fillG_ok (C := C) ps _ _ z'.cells cs hP k2 hf
      refine .still S hw (r := .agg L') ?_ (.agg cs L' (by simpa using g2.1) fun i v hv => ?_)
      · have hb : P.built t (parts.map fun (i, x) => (i, a.eval x)).toList = some L' := by
          unfold Program.built
          rw [hmap]
          have hd3 : P.underlying t = some (.array n e) := hd2
          simp only [hi, hd3, hiz, he]
          rw [hes]
          exact g1
        simp only [execOp, Sem.run_bind, run_build w t _ _ hb, Result.andThen_ok, Sem.run_pure]
      · obtain ⟨r, r1, r2⟩ := g2.2 i v hv
        have : L'[i]? = some r := by simpa using r1
        simpa [Array.getD_eq_getD_getElem?, this] using r2
    · cases hd
  | bsl own sz z len ps =>
    simp only [chkOp] at hc
    split at hc
    case h_2 => cases hc
    rename_i t n parts
    obtain ⟨e, te, hte, hE, hh⟩ := onSlice_ok hTab hc
    simp only [Bool.and_eq_true, Bool.not_eq_true', List.isEmpty_eq_false_iff, beq_iff_eq, decide_eq_true_eq] at hh
    obtain ⟨⟨⟨⟨⟨rfl, hz⟩, hne⟩, rfl⟩, hsz⟩, hps⟩ := hh
    have hz := zEq_ok hz
    subst hz
    simp only [gop, Option.bind_eq_some_iff] at h
    obtain ⟨rows, hr, h⟩ := h
    have hmap : (parts.map fun (i, x) => (i, a.eval x)).toList = parts.toList.map fun x => (x.1, a.eval x.2) := by simp
    have hP := chkPartsS_ok hT hps
    rw [← hmap] at hP
    obtain ⟨f1, f2⟩ := fin_bsl (P := P) S hw hte hE hne hsz hP hr (nid := nid) (ng := ng)
    cases own with
    | true =>
      simp only [if_true, Option.some.injEq, Prod.mk.injEq] at h
      obtain ⟨rfl, rfl⟩ := h
      exact Fin.ofV (f1 (hg (by simp [Up.gens]))) rfl
    | false =>
      simp only [Bool.false_eq_true, if_false, Option.ite_none_right_eq_some, Option.some.injEq, Prod.mk.injEq] at h
      obtain ⟨hpu, rfl, rfl⟩ := h
      exact Fin.ofV (f2 hpu) rfl
  | load sz ag y =>
    simp only [chkOp] at hc
    split at hc
    case h_2 => cases hc
    rename_i t x
    obtain ⟨ti, hti, hh⟩ := onTI_ok hTab hc
    simp only [Bool.and_eq_true, beq_iff_eq] at hh
    obtain ⟨⟨rfl, rfl⟩, hx⟩ := hh
    have hx := opd_ok hT hx
    simp only [gop] at h
    split at h
    · rename_i he
      rw [he] at hx
      simp only [Option.bind_eq_some_iff, Option.map_eq_some_iff, Prod.mk.injEq] at h
      obtain ⟨b, hb, r, hr, q, hq, rfl, rfl⟩ := h
      obtain ⟨z, z1, z2⟩ := run_load_ptr (P := P) S hw hti hx hb hr hq
      exact .still S hw (r := z) (by simp [execOp, z1]) z2
    · rename_i he
      rw [he] at hx
      simp only [Option.map_eq_some_iff, Prod.mk.injEq] at h
      obtain ⟨q, hq, rfl, rfl⟩ := h
      obtain ⟨z, z1, z2⟩ := run_load_fp (P := P) hw hti hx hq
      exact .still S hw (r := z) (by simp [execOp, z1]) z2
    · cases h
  | store sz y z =>
    simp only [chkOp] at hc
    split at hc
    case h_2 => cases hc
    rename_i t x v'
    obtain ⟨ti, hti, hh⟩ := onTI_ok hTab hc
    simp only [Bool.and_eq_true, beq_iff_eq] at hh
    obtain ⟨⟨rfl, hx⟩, hy⟩ := hh
    have hx := opd_ok hT hx
    have hy := opd_ok hT hy
    simp only [gop] at h
    split at h
    · rename_i he
      rw [he] at hx
      simp only [Option.bind_eq_some_iff, Option.ite_none_right_eq_some, Option.some.injEq, Prod.mk.injEq] at h
      obtain ⟨b, hb, r, hr, ⟨hf, hl, hfit, hok⟩, rfl, rfl⟩ := h
      exact Fin.ofU (fin_store (P := P) S hw hti hx hy hb hr hf hl hfit hok) rfl
    · cases h
  | bin k op x y =>
    simp only [chkOp] at hc
    split at hc
    case h_2 => cases hc
    rename_i op' t x' y' _
    obtain ⟨ti, hti, hh⟩ := onTI_ok hTab hc
    simp only [Bool.and_eq_true, decide_eq_true_eq] at hh
    obtain ⟨⟨⟨rfl, hk⟩, hx⟩, hy⟩ := hh
    simp only [gop, Option.map_eq_some_iff, Prod.mk.injEq] at h
    obtain ⟨q, hq, rfl, rfl⟩ := h
    obtain ⟨z, z1, z2⟩ := run_binV (P := P) (w := w) hti hk (opd_ok hT hx) (opd_ok hT hy) hq x' y'
    refine .still S hw (r := z) ?_ z2
    simp only [execOp, Sem.run_bind] at z1 ⊢
    rw [z1]
    rfl
  | un op x =>
    simp only [chkOp] at hc
    split at hc
    case h_2 => cases hc
    rename_i op' t x'
    simp only [Bool.and_eq_true, decide_eq_true_eq] at hc
    obtain ⟨rfl, hx⟩ := hc
    simp only [gop, Option.map_eq_some_iff, Prod.mk.injEq] at h
    obtain ⟨q, hq, rfl, rfl⟩ := h
    obtain ⟨z, z1, z2⟩ := run_unV (P := P) (w := w) (opd_ok hT hx) hq
    exact .still S hw (r := z) (by simp [execOp, z1]) z2
  | conv k x =>
    simp only [chkOp] at hc
    split at hc
    case h_2 => cases hc
    rename_i s d x'
    simp only [Bool.and_eq_true] at hc
    obtain ⟨⟨hs, hd⟩, hx⟩ := hc
    obtain ⟨ts, hts, hs⟩ := onTI_ok hTab hs
    obtain ⟨td, htd, hd⟩ := onTI_ok hTab hd
    have hx := opd_ok hT hx
    have hs' : ∃ k0, P.underlying s = some (.int k0) := by
      cases hq : ts.d <;> simp only [hq, Bool.false_eq_true] at hs
      have := hts.d; rw [hq] at this; exact ⟨_, this⟩
    have hd' : P.underlying d = some (.int k) := by
      cases hq : td.d <;> simp only [hq, Bool.false_eq_true, decide_eq_true_eq] at hd
      have := htd.d; rw [hq, ← hd] at this; exact this
    obtain ⟨k0, hs'⟩ := hs'
    simp only [gop] at h
    split at h
    · rename_i he
      rw [he] at hx
      simp only [Option.some.injEq, Prod.mk.injEq] at h
      obtain ⟨rfl, rfl⟩ := h
      generalize hr : a.eval x' = r at hx
      cases hx
      exact .still S hw (by simp [execOp, hr, convert, run_underlying hs', run_underlying hd', Conv.intToInt]) (.int _ _)
    · cases h
  | mkfn f caps =>
    simp only [chkOp] at hc
    split at hc
    case h_2 => cases hc
    rename_i f' first caps'
    simp only [Bool.and_eq_true, beq_iff_eq] at hc
    obtain ⟨⟨rfl, hfi⟩, hcs⟩ := hc
    obtain ⟨k1, k2⟩ := opds_ok hT hcs
    simp only [gop, Option.some.injEq, Prod.mk.injEq] at h
    obtain ⟨rfl, rfl⟩ := h
    have hfi' : first = #[] := by simpa using hfi
    subst hfi'
    refine .still S hw (r := .func (.func f) #[] (caps'.map a.eval)) (by simp [execOp, Instr.makeFunc]) (.fn f _ _ (by simpa using k1) fun i v hv => ?_)
    obtain ⟨q, q1, q2⟩ := k2 i v hv
    have : caps'[i]? = some q := by simpa using q1
    simpa [Array.getD_eq_getD_getElem?, this] using q2
  | mksl sz z bytes l c =>
    simp only [chkOp] at hc
    split at hc
    case h_2 => cases hc
    rename_i t l' c'
    obtain ⟨e, te, hte, hE, hh⟩ := onSlice_ok hTab hc
    simp only [Bool.and_eq_true, Bool.not_eq_true', List.isEmpty_eq_false_iff, beq_iff_eq] at hh
    obtain ⟨⟨⟨⟨⟨rfl, hz⟩, hne⟩, rfl⟩, hl⟩, hc'⟩ := hh
    have hz := zEq_ok hz
    subst hz
    have hl := opd_ok hT hl
    have hc' := opd_ok hT hc'
    simp only [gop] at h
    split at h
    · rename_i k n k' m e1 e2
      rw [e1] at hl
      rw [e2] at hc'
      simp only [Option.ite_none_right_eq_some, Option.some.injEq, Prod.mk.injEq] at h
      obtain ⟨⟨rfl, h0, h1, h2⟩, rfl, rfl⟩ := h
      generalize hr1 : a.eval l' = r1 at hl
      generalize hr2 : a.eval c' = r2 at hc'
      cases hl
      cases hc'
      have := fin_mksl (P := P) S hw hte hE hne (k := k) (k' := k') h0 h1 h2 (nid := nid) (hg (by simp [Up.gens]))
      exact Fin.ofV this (by simp [execOp, hr1, hr2])
    · cases h
  | slice sz x lo hi =>
    simp only [chkOp] at hc
    split at hc
    case h_2 => cases hc
    rename_i t x' lo' hi' _
    obtain ⟨e, te, hte, hE, hh⟩ := onSlice_ok hTab hc
    simp only [Bool.and_eq_true, beq_iff_eq] at hh
    obtain ⟨⟨⟨rfl, hx⟩, hlo⟩, hhi⟩ := hh
    simp only [gop, Option.map_eq_some_iff, Prod.mk.injEq] at h
    obtain ⟨q, hq, rfl, rfl⟩ := h
    obtain ⟨z, z1, z2⟩ := run_sliceV (P := P) (w := w) hte hE (opd_ok hT hx) (optd_ok hT hlo) (optd_ok hT hhi) hq
    exact .still S hw (r := z) (by simp [execOp, z1]) z2
  | faddr off x =>
    simp only [chkOp] at hc
    split at hc
    case h_2 => cases hc
    rename_i t x' f
    simp only [Bool.and_eq_true] at hc
    obtain ⟨hf, hx⟩ := hc
    have hx := opd_ok hT hx
    obtain ⟨ti, hti, hf⟩ := onTI_ok hTab hf
    cases hd : ti.d <;> simp only [hd, Bool.false_eq_true] at hf
    rename_i fs
    have hd2 := hti.d
    rw [hd] at hd2
    obtain ⟨F, f1, f2, f3⟩ := hd2
    split at hf
    case h_2 => cases hf
    rename_i off' sz ft hfs
    simp only [Bool.and_eq_true, Bool.not_eq_true', beq_iff_eq, beq_eq_false_iff_ne] at hf
    obtain ⟨⟨rfl, hsz⟩, hft⟩ := hf
    obtain ⟨tf, htf, hft⟩ := onTI_ok hTab hft
    simp only [beq_iff_eq] at hft
    subst hft
    obtain ⟨fd, g1, g2, g3⟩ := f3 f off _ ft hfs
    have hrun : ∀ b o, (Instr.fieldAt t (.pointer (some ⟨b, o, none⟩)) f).run P w = .ok (.pointer (some ⟨b, o + off, none⟩)) w := by
      intro b o
      have hs := htf.run_size (w := w)
      rw [← g3] at hs
      simp [Instr.fieldAt, run_underlying f1, g1, Instr.sureAddr, fieldPlace, hs, hsz, g2, addr_add]
    simp only [gop] at h
    split at h
    · rename_i id g row off0 he
      rw [he] at hx
      simp only [Option.some.injEq, Prod.mk.injEq] at h
      obtain ⟨rfl, rfl⟩ := h
      generalize hr : a.eval x' = r at hx
      cases hx with
      | ptr _ _ _ _ b hu hl =>
      obtain ⟨bb, bo, bs⟩ := b
      cases bs with
      | none =>
        refine .still S hw (r := .pointer (some ⟨bb, bo + off, none⟩)) (by simp [execOp, hr, hrun]) (.ptr _ _ _ _ _ hu fun blk hb hg => ?_)
        obtain ⟨y1, p, tot, y2, y3⟩ := hl blk hb hg
        refine ⟨y1, p, tot, y2, ?_⟩
        simp only [Addr.mk.injEq, and_true] at y3 ⊢
        exact ⟨y3.1, by omega⟩
      | some s =>
        refine .still S hw (r := .pointer (some ((⟨bb, bo, some s⟩ : Addr).add off))) ?_ (.ptr _ _ _ _ _ hu fun blk hb hg => ?_)
        · have hs := htf.run_size (w := w)
          rw [← g3] at hs
          simp [execOp, hr, Instr.fieldAt, run_underlying f1, g1, Instr.sureAddr, fieldPlace, hs, hsz, g2]
        · obtain ⟨y1, p, tot, y2, y3⟩ := hl blk hb hg
          simp at y3
    · rename_i r0 off0 he
      rw [he] at hx
      simp only [Option.some.injEq, Prod.mk.injEq] at h
      obtain ⟨rfl, rfl⟩ := h
      generalize hr : a.eval x' = r at hx
      cases hx with
      | fp _ _ b o fn hc hv =>
      exact .still S hw (r := .pointer (some ⟨b, o + (off0 + off), none⟩)) (by simp [execOp, hr, hrun, Nat.add_assoc]) (.fp _ _ b o fn hc hv)
    · cases h
  | field off sz ag x =>
    simp only [chkOp] at hc
    split at hc
    case h_2 => cases hc
    rename_i t x' f
    simp only [Bool.and_eq_true] at hc
    obtain ⟨hf, hx⟩ := hc
    have hx := opd_ok hT hx
    obtain ⟨ti, hti, hf⟩ := onTI_ok hTab hf
    cases hd : ti.d <;> simp only [hd, Bool.false_eq_true] at hf
    rename_i fs
    have hd2 := hti.d
    rw [hd] at hd2
    obtain ⟨F, f1, f2, f3⟩ := hd2
    split at hf
    case h_2 => cases hf
    rename_i off' sz' ft hfs
    simp only [Bool.and_eq_true, beq_iff_eq] at hf
    obtain ⟨rfl, hft⟩ := hf
    obtain ⟨tf, htf, hft⟩ := onTI_ok hTab hft
    simp only [Bool.and_eq_true, beq_iff_eq] at hft
    obtain ⟨rfl, rfl⟩ := hft
    obtain ⟨fd, g1, g2, g3⟩ := f3 f off _ ft hfs
    simp only [gop] at h
    split at h
    · rename_i cs he
      rw [he] at hx
      simp only [Option.map_eq_some_iff, Prod.mk.injEq] at h
      obtain ⟨q, hq, rfl, rfl⟩ := h
      generalize hr : a.eval x' = r at hx
      cases hx with
      | agg _ rs hs hv =>
      rw [← g3] at htf
      obtain ⟨z, z1, z2⟩ := run_part (P := P) (w := w) htf hs hv hq
      refine .still S hw (r := z) ?_ z2
      rw [← g2] at z1
      simp [execOp, hr, Instr.field, run_underlying f1, g1, asAgg, z1]
    · cases h
  | iaddr sz x i =>
    simp only [chkOp] at hc
    split at hc
    case h_2 => cases hc
    rename_i t x' i'
    simp only [Bool.and_eq_true] at hc
    obtain ⟨⟨hs, hx⟩, hi⟩ := hc
    obtain ⟨e, te, hte, hE, hh⟩ := onSlice_ok hTab hs
    simp only [beq_iff_eq] at hh
    subst hh
    simp only [gop, Option.bind_eq_some_iff] at h
    obtain ⟨n, hn, h⟩ := h
    split at h
    case isFalse => cases h
    rename_i h0
    obtain ⟨k1, k2⟩ := run_iaddr (P := P) (w := w) hte hE (opd_ok hT hx) (opd_ok hT hi) hn h0
    split at h
    · rename_i rows he
      simp only [Option.bind_eq_some_iff, Option.ite_none_right_eq_some, Option.some.injEq, Prod.mk.injEq] at h
      obtain ⟨r, hr, hl, rfl, rfl⟩ := h
      obtain ⟨z, z1, z2⟩ := k1 rows r he hr hl
      exact .still S hw (r := z) (by simp [execOp, z1]) z2
    · rename_i id g sz' off len he
      simp only [Option.ite_none_right_eq_some, Option.some.injEq, Prod.mk.injEq] at h
      obtain ⟨⟨hlt, rfl⟩, rfl, rfl⟩ := h
      obtain ⟨z, z1, z2⟩ := k2 id g off len he hlt
      exact .still S hw (r := z) (by simp [execOp, z1]) z2
    · cases h
  | iaddrA n esz x i =>
    simp only [chkOp] at hc
    split at hc
    case h_2 => cases hc
    rename_i t x' i'
    simp only [Bool.and_eq_true] at hc
    obtain ⟨⟨hs, hx⟩, hi⟩ := hc
    have hx := opd_ok hT hx
    have hi := opd_ok hT hi
    obtain ⟨ti, hti, hs⟩ := onTI_ok hTab hs
    cases hd : ti.d <;> simp only [hd, Bool.false_eq_true] at hs
    rename_i n' e
    have hd2 : P.underlying t = some (.array n' e) := by have := hti.d; rw [hd] at this; exact this
    obtain ⟨te, hte, hs⟩ := onTI_ok hTab hs
    simp only [Bool.and_eq_true, beq_iff_eq] at hs
    obtain ⟨rfl, rfl⟩ := hs
    simp only [gop, Option.bind_eq_some_iff] at h
    obtain ⟨m, hm, h⟩ := h
    obtain ⟨k, hk⟩ := isInt_ok hi hm
    split at h
    case isFalse => cases h
    rename_i hb
    split at h
    · rename_i id g row off he
      rw [he] at hx
      simp only [Option.some.injEq, Prod.mk.injEq] at h
      obtain ⟨rfl, rfl⟩ := h
      generalize hr : a.eval x' = r at hx
      cases hx with
      | ptr _ _ _ _ b hu hl =>
      refine .still S hw (r := .pointer (some (b.add (m.toNat * te.size)))) (by simp [execOp, hr, hk, Instr.indexAt, asIntOf, run_underlying hd2, Instr.sureAddr, hb, hte.run_size]) (.ptr _ _ _ _ _ hu fun blk hbk hg => ?_)
      obtain ⟨y1, p, tot, y2, y3⟩ := hl blk hbk hg
      refine ⟨y1, p, tot, y2, ?_⟩
      rw [y3, addr_add, Nat.add_assoc]
    · rename_i r0 off he
      rw [he] at hx
      simp only [Option.some.injEq, Prod.mk.injEq] at h
      obtain ⟨rfl, rfl⟩ := h
      generalize hr : a.eval x' = r at hx
      cases hx with
      | fp _ _ b o fn hc hv =>
      refine .still S hw (r := .pointer (some ⟨b, o + (off + m.toNat * te.size), none⟩)) (by simp [execOp, hr, hk, Instr.indexAt, asIntOf, run_underlying hd2, Instr.sureAddr, hb, hte.run_size, addr_add, Nat.add_assoc]) (.fp _ _ b o fn hc hv)
    · cases h
  | index n esz ag x i =>
    simp only [chkOp] at hc
    split at hc
    case h_2 => cases hc
    rename_i t x' i'
    simp only [Bool.and_eq_true] at hc
    obtain ⟨⟨hs, hx⟩, hi⟩ := hc
    have hx := opd_ok hT hx
    have hi := opd_ok hT hi
    obtain ⟨ti, hti, hs⟩ := onTI_ok hTab hs
    cases hd : ti.d <;> simp only [hd, Bool.false_eq_true] at hs
    rename_i n' e
    have hd2 : P.underlying t = some (.array n' e) := by have := hti.d; rw [hd] at this; exact this
    obtain ⟨te, hte, hs⟩ := onTI_ok hTab hs
    simp only [Bool.and_eq_true, beq_iff_eq] at hs
    obtain ⟨⟨rfl, rfl⟩, rfl⟩ := hs
    simp only [gop, Option.bind_eq_some_iff] at h
    obtain ⟨m, hm, h⟩ := h
    obtain ⟨k, hk⟩ := isInt_ok hi hm
    split at h
    case isFalse => cases h
    rename_i hb
    split at h
    · rename_i cs he
      rw [he] at hx
      simp only [Option.map_eq_some_iff, Prod.mk.injEq] at h
      obtain ⟨q, hq, rfl, rfl⟩ := h
      generalize hr : a.eval x' = r at hx
      cases hx with
      | agg _ rs hs hv =>
      obtain ⟨z, z1, z2⟩ := run_part (P := P) (w := w) hte hs hv hq
      exact .still S hw (r := z) (by simp [execOp, hr, hk, Instr.index, asIntOf, run_underlying hd2, hb, hte.run_size, z1]) z2
    · cases h
  | ext i x =>
    simp only [chkOp] at hc
    split at hc
    case h_2 => cases hc
    rename_i x' i'
    simp only [Bool.and_eq_true, beq_iff_eq] at hc
    obtain ⟨rfl, hx⟩ := hc
    have hx := opd_ok hT hx
    simp only [gop] at h
    split at h
    · rename_i vs he
      rw [he] at hx
      simp only [Option.map_eq_some_iff, Prod.mk.injEq] at h
      obtain ⟨q, hq, rfl, rfl⟩ := h
      generalize hr : a.eval x' = r at hx
      cases hx with
      | tup _ rs hs hv =>
      have hlt : i < rs.size := by rw [hs]; exact (List.getElem?_eq_some_iff.1 hq).1
      refine .still S hw (r := rs[i]) (by simp [execOp, hr, Instr.extract, hlt]) ?_
      simpa [Array.getD, hlt] using hv i q hq
    · cases h
  | len x =>
    simp only [chkOp] at hc
    split at hc
    case h_2 => cases hc
    rename_i c
    obtain ⟨t, consts, args, h1, h2, h3, h4, h5, h6⟩ := chkBuiltin_ok (P := P) (w := w) (type := type) hT hc
    obtain ⟨e, te, hte, hE, _⟩ := onSlice_ok hTab h2
    simp only [gop, Option.map_eq_some_iff, Prod.mk.injEq] at h
    obtain ⟨n, hn, rfl, rfl⟩ := h
    obtain ⟨r, r1, r2⟩ := h6 0 _ rfl
    obtain ⟨b, cp, rfl, _⟩ := lenV_ok r2 hn
    exact .still S hw (r := .int .i64 n) (by simp [execOp, h4, invoke, builtin, Builtin.len_, h1, r1, run_underlying hte, goInt]) (.int _ _)
  | append fr sz bytes x y =>
    simp only [chkOp] at hc
    split at hc
    case h_2 => cases hc
    rename_i c
    simp only [Bool.and_eq_true, beq_iff_eq] at hc
    obtain ⟨hc, hsz2⟩ := hc
    obtain ⟨t, consts, args, h1, h2, h3, h4, h5, h6⟩ := chkBuiltin_ok (P := P) (w := w) (type := type) hT hc
    obtain ⟨e, te, hte, hE, hh⟩ := onSlice_ok hTab h2
    simp only [Bool.and_eq_true, Bool.not_eq_true', beq_iff_eq, beq_eq_false_iff_ne] at hh
    obtain ⟨⟨rfl, rfl⟩, hz0⟩ := hh
    obtain ⟨rx, rx1, rx2⟩ := h6 0 _ rfl
    obtain ⟨ry, ry1, ry2⟩ := h6 1 _ rfl
    have hat : c.argTypes = #[t, t] := by
      apply Array.ext'
      obtain ⟨t1, ht1⟩ : ∃ t1, c.argTypes[1]? = some t1 := ⟨_, Array.getElem?_eq_getElem (by omega)⟩
      have ht1' := h3 t1 ht1
      subst ht1'
      apply List.ext_getElem?
      intro i
      match i with
      | 0 => simpa using h1
      | 1 => simpa using ht1
      | i + 2 => simp; omega
    have hargs : args = #[rx, ry] := by
      apply Array.ext'
      apply List.ext_getElem?
      intro i
      match i with
      | 0 => simpa using rx1
      | 1 => simpa using ry1
      | i + 2 => simp [evs] at h5; simp; omega
    have hexec : execOp a.eval ⟨dst, .call c, type, pos, after, guard⟩ = (do let d ← resolve a.eval c type; invoke d.target d.args) := rfl
    have key : ∀ {v h' us}, FinV P C w (Builtin.append_ #[t, t] type #[rx, ry]) v h' us → Fin P C w (execOp a.eval ⟨dst, .call c, type, pos, after, guard⟩) v h' us := by
      intro v h' us hf
      obtain ⟨r, w', C', g1, rest⟩ := hf
      refine ⟨.value r, r, w', C', ?_, .inl rfl, rest⟩
      rw [hexec]
      simp [h4, invoke, builtin, hat, hargs, g1]
    simp only [gop, Option.bind_eq_some_iff] at h
    obtain ⟨ys, hys, h⟩ := h
    split at h
    case isFalse => cases h
    rename_i hrs
    obtain ⟨f1, f2⟩ := fin_append (P := P) S hw hte (ty := type) hE (by omega) rx2 ry2 hys hrs (nid := nid) (ng := ng) fr
    split at h
    · rename_i he
      simp only [Option.ite_none_right_eq_some] at h
      obtain ⟨⟨hb1, hb2⟩, h⟩ := h
      obtain ⟨g1, g2, g3⟩ := f1 he hb1 hb2
      split at h
      · rename_i h0
        simp only [Option.some.injEq, Prod.mk.injEq] at h
        obtain ⟨rfl, rfl⟩ := h
        exact key (g1 h0)
      · rename_i h0
        split at h
        · rename_i hfr
          simp only [Option.ite_none_right_eq_some, Option.some.injEq, Prod.mk.injEq] at h
          obtain ⟨hpu, rfl, rfl⟩ := h
          exact key (g2 h0 hfr hpu)
        · simp only [Option.some.injEq, Prod.mk.injEq] at h
          obtain ⟨rfl, rfl⟩ := h
          exact key (g3 h0 (hg (by simp [Up.gens])))
    · rename_i id g sz' off len he
      simp only [Option.bind_eq_some_iff, Option.ite_none_right_eq_some] at h
      obtain ⟨b, hb, ⟨hbf, rfl, rfl, hlen, hb1, hb2⟩, h⟩ := h
      have g := f2 id g len b he hb hbf hlen hb1 hb2
      split at h
      · rename_i hfr
        simp only [Option.ite_none_right_eq_some, Option.some.injEq, Prod.mk.injEq] at h
        obtain ⟨hpu, rfl, rfl⟩ := h
        exact key ((g (hg (by simp [Up.gens]))).1 hfr hpu)
      · simp only [Option.some.injEq, Prod.mk.injEq] at h
        obtain ⟨rfl, rfl⟩ := h
        exact key (g (hg (by simp [Up.gens]))).2
    · cases h
  | copy sz x y =>
    simp only [chkOp] at hc
    split at hc
    case h_2 => cases hc
    rename_i c
    obtain ⟨t, consts, args, h1, h2, h3, h4, h5, h6⟩ := chkBuiltin_ok (P := P) (w := w) (type := type) hT hc
    obtain ⟨e, te, hte, hE, hh⟩ := onSlice_ok hTab h2
    simp only [beq_iff_eq] at hh
    subst hh
    obtain ⟨rx, rx1, rx2⟩ := h6 0 _ rfl
    obtain ⟨ry, ry1, ry2⟩ := h6 1 _ rfl
    simp only [gop, Option.bind_eq_some_iff] at h
    obtain ⟨ys, hys, h⟩ := h
    split at h
    case isFalse => cases h
    rename_i hrs
    split at h
    · rename_i id g sz' off len he
      simp only [Option.bind_eq_some_iff, Option.ite_none_right_eq_some, Option.some.injEq, Prod.mk.injEq] at h
      obtain ⟨b, hb, ⟨hbf, rfl, hfit⟩, rfl, rfl⟩ := h
      rw [he] at rx2
      have hf := fin_copy (P := P) S hw (t2 := t) (ty := type) hte hE rx2 ry2 hys hrs hb hbf hfit
      obtain ⟨r, w', C', g1, rest⟩ := hf
      refine ⟨.value r, r, w', C', ?_, .inl rfl, rest⟩
      have g1' : (Builtin.copy_ c.argTypes type args).run P w = .ok r w' := by
        rw [← g1]
        simp only [Builtin.copy_, h1, rx1, ry1]
        simp
      simp [execOp, h4, invoke, builtin, g1']
    · cases h
  | mx xs =>
    simp only [chkOp] at hc
    split at hc
    case h_2 => cases hc
    rename_i c
    obtain ⟨t, consts, args, h1, h2, h3, h4, h5, h6⟩ := chkBuiltin_ok (P := P) (w := w) (type := type) hT hc
    simp only [gop] at h
    split at h
    · rename_i k x l he
      simp only [Option.map_eq_some_iff, Prod.mk.injEq] at h
      obtain ⟨n, hn, rfl, rfl⟩ := h
      obtain ⟨r, rs, e1, e2⟩ := fold_args (P := P) (w := w) _ Builtin.max2 (fun k x y => rfl) h5 h6 he hn
      exact .still S hw (r := .int k n) (by simp [execOp, h4, invoke, builtin, Builtin.max_, e1, e2]) (.int _ _)
    · cases h
  | mn xs =>
    simp only [chkOp] at hc
    split at hc
    case h_2 => cases hc
    rename_i c
    obtain ⟨t, consts, args, h1, h2, h3, h4, h5, h6⟩ := chkBuiltin_ok (P := P) (w := w) (type := type) hT hc
    simp only [gop] at h
    split at h
    · rename_i k x l he
      simp only [Option.map_eq_some_iff, Prod.mk.injEq] at h
      obtain ⟨n, hn, rfl, rfl⟩ := h
      obtain ⟨r, rs, e1, e2⟩ := fold_args (P := P) (w := w) _ Builtin.min2 (fun k x y => rfl) h5 h6 he hn
      exact .still S hw (r := .int k n) (by simp [execOp, h4, invoke, builtin, Builtin.min_, e1, e2]) (.int _ _)
    · cases h
  | call own f args => simp [gop] at h

end
end Gh
