/- One operation, guard and all, under the machine's rules: what it leaves, laid over what was there. -/
import Derived.Test.YtmjdjnphjpcfcaaGm
namespace Gh
set_option linter.unusedVariables false
set_option linter.unusedSimpArgs false
open Go

def ov {α : Type} (W : Nat → Option α) (h : Nat → α) : Nat → α := fun id => (W id).getD (h id)

/-- What an operation writes, by its footprint and the ghost heap after it. -/
def Foot.W (H' : List Blk) : Foot → Nat → Option (Option Blk)
  | .inert => fun _ => none
  | .touch _ wr => fun id => if id ∈ wr then some (H'[id]?) else none
  | .all => fun id => some (H'[id]?)

def Foot.pre1 (C : Ctx) (s : St) : Foot → Prop
  | .inert => True
  | .touch rd wr => ∀ id, id ∈ rd ++ wr → C.h id = hp s.H id
  | .all => C.h = hp s.H ∧ C.used = fun x => x < s.ng

theorem mem_new {n m id : Nat} (h : n ≤ m) : id ∈ List.range' n (m - n) ↔ n ≤ id ∧ id < m := by
  rw [List.mem_range'_1]; omega

theorem W_push {H H' : List Blk} {h : Hp} (hl : H.length ≤ H'.length) {rd : List Nat} : pushF h H.length H' = ov (Foot.W H' (.touch rd (List.range' H.length (H'.length - H.length)))) h := by
  funext id
  unfold pushF ov Foot.W
  simp only
  by_cases hi : H.length ≤ id ∧ id < H'.length
  · rw [if_pos hi, if_pos ((mem_new hl).2 hi)]; rfl
  · rw [if_neg hi, if_neg fun hm => hi ((mem_new hl).1 hm)]; rfl

/-- An operation's turn of the heap, by its footprint. -/
theorem up_fn (u : Up) (H : List Blk) (h : Hp) (hb : ∀ id, id ∈ wrOf u → id < H.length) {rd : List Nat} : u.fn h H.length = ov (Foot.W (u.heap H) ((Foot.touch rd (wrOf u)).ext H.length (u.heap H).length)) h := by
  funext id
  cases u with
  | no => simp [Up.fn, ov, Foot.W, Foot.ext, Up.heap, wrOf]
  | put i b =>
    have := hb i (by simp [wrOf])
    simp only [Up.fn, ov, Foot.W, Foot.ext, Up.heap, wrOf, List.length_set, Nat.sub_self, List.range'_zero, List.append_nil, List.mem_singleton, upd]
    by_cases hi : id = i
    · subst hi; simp [this]
    · simp [hi]
  | set i b =>
    have := hb i (by simp [wrOf])
    simp only [Up.fn, ov, Foot.W, Foot.ext, Up.heap, wrOf, List.length_set, Nat.sub_self, List.range'_zero, List.append_nil, List.mem_singleton, upd]
    by_cases hi : id = i
    · subst hi; simp [this]
    · simp [hi]
  | push b =>
    simp only [Up.fn, ov, Foot.W, Foot.ext, Up.heap, wrOf, List.length_append, List.length_singleton, Nat.add_sub_cancel_left, List.nil_append, List.range'_one, List.mem_singleton, upd]
    by_cases hi : id = H.length
    · subst hi; simp
    · simp [hi]
  | swap i b j c =>
    have h1 := hb i (by simp [wrOf])
    have h2 := hb j (by simp [wrOf])
    simp only [Up.fn, ov, Foot.W, Foot.ext, Up.heap, wrOf, List.length_set, Nat.sub_self, List.range'_zero, List.append_nil, List.mem_cons, List.not_mem_nil, or_false, upd]
    by_cases hj : id = j
    · subst hj; simp [h2]
    · by_cases hi : id = i
      · subst hi; simp [h1, hj, List.getElem?_set, Ne.symm hj]
      · simp [hi, hj]

theorem up_heap (u : Up) (H : List Blk) (hb : ∀ id, id ∈ wrOf u → id < H.length) : hp (u.heap H) = u.fn (hp H) H.length := by
  funext id
  cases u with
  | no => rfl
  | put i b =>
    have := hb i (by simp [wrOf])
    simp only [Up.fn, Up.heap, hp, upd, List.getElem?_set]
    by_cases hi : id = i
    · subst hi; simp [this]
    · simp [hi, Ne.symm hi]
  | set i b =>
    have := hb i (by simp [wrOf])
    simp only [Up.fn, Up.heap, hp, upd, List.getElem?_set]
    by_cases hi : id = i
    · subst hi; simp [this]
    · simp [hi, Ne.symm hi]
  | push b =>
    simp only [Up.fn, Up.heap, hp, upd]
    by_cases hi : id = H.length
    · subst hi; simp
    · simp only [hi, if_false]
      by_cases h2 : id < H.length
      · rw [List.getElem?_append_left h2]
      · rw [List.getElem?_eq_none (by simp; omega), List.getElem?_eq_none (by omega)]
  | swap i b j c =>
    have h1 := hb i (by simp [wrOf])
    have h2 := hb j (by simp [wrOf])
    simp only [Up.fn, Up.heap, hp, upd, List.getElem?_set, List.length_set]
    by_cases hj : id = j
    · subst hj; simp [h2]
    · by_cases hi : id = i
      · subst hi; simp [h1, hj, Ne.symm hj]
      · simp [hi, hj, Ne.symm hi, Ne.symm hj]

theorem up_used (u : Up) (us : Nat → Prop) (ng : Nat) : u.us us ng = usedF us ng (u.gens ng) := by
  cases u <;> simp only [Up.us, Up.gens] <;> first
    | rw [usedF_none]
    | (funext x; unfold addU usedF; apply propext; constructor <;> (rintro (h | h) <;> first | exact .inl h | exact .inr (by omega)))

theorem up_gens_le (u : Up) (ng : Nat) : ng ≤ u.gens ng := by cases u <;> simp [Up.gens]

/-- An operation's static look at its guard. -/
def guardOK (ops : Array Oper) : Option (Nat × Bool) → Option (Nat × Bool) → Bool
  | none, none => true
  | some (j, b), some (t, b') => b == b' && (ops[j]?).bind (·.dst) == some t
  | _, _ => false

def dstOK (N : Nat) : Option Nat → Option Nat → Bool
  | none, none => true
  | some d, some d' => d == d' && decide (d < N)
  | _, _ => false

def chkCall (o : Oper) (f : A) (args : List A) : Bool :=
  match o.op with
  | .call c => (match c.callee with | .value x => opd x f | _ => false) && opds c.args.toList args
  | _ => false

def chkOper (tab : Tab) (ops : Array Oper) (N : Nat) (o : Oper) (g : GOper) : Bool :=
  dstOK N o.dst g.dst && guardOK ops o.guard g.guard && match g.op with
  | .call _ f args => chkCall o f args
  | op => chkOp tab o op

def GOper.tms (g : GOper) : List Nat := (match g.guard with | some (t, _) => [t] | none => []) ++ g.op.tms

/-- What the guard says, the machine sees. -/
theorem wanted_ok {C : Ctx} {T : Tm} {a : Act} {ops : Array Oper} {o : Oper} {gd : Option (Nat × Bool)} (hg : guardOK ops o.guard gd = true) (hT : ∀ t b, gd = some (t, b) → VR C (look T t) (a.tmps.getD t Go.undef)) {wd : Bool} (hw : wantedG T gd = some wd) :
    Region.wanted o (yielded ops a.tmps) = wd := by
  unfold Region.wanted
  unfold guardOK at hg
  split at hg
  · rename_i h1
    simp only [wantedG, Option.some.injEq] at hw
    rw [h1]
    exact hw
  · rename_i j b t b' h1
    simp only [Bool.and_eq_true, beq_iff_eq] at hg
    obtain ⟨rfl, hd⟩ := hg
    rw [h1]
    simp only
    have hv := hT t b rfl
    simp only [wantedG] at hw
    unfold yielded
    rw [hd]
    simp only [Option.bind_some]
    split at hw
    · rename_i c hc
      simp only [Option.some.injEq] at hw
      rw [hc] at hv
      generalize hr : a.tmps.getD t Go.undef = r at hv
      cases hv
      have : a.tmps[t]? = some (.bool c) := by
        rw [Array.getD_eq_getD_getElem?] at hr
        cases ht : a.tmps[t]? with
        | none => rw [ht] at hr; simp [Go.undef] at hr
        | some x => rw [ht] at hr; simp at hr; rw [hr]
      rw [this]
      simp only
      rw [← hw]
      cases c <;> cases b <;> rfl
    · rename_i vs hc
      simp only [Option.some.injEq] at hw
      rw [hc] at hv
      generalize hr : a.tmps.getD t Go.undef = r at hv
      cases hv
      have : ∀ c, a.tmps[t]? ≠ some (.bool c) := fun c ht => by
        rw [Array.getD_eq_getD_getElem?, ht] at hr
        simp at hr
      rw [← hw]
      cases ht : a.tmps[t]? with
      | none => rfl
      | some x => cases x <;> first | rfl | exact absurd ht (this _)
    · cases hw
  · cases hg

theorem look_keepT (T : Tm) : ∀ (l : List Nat) (n : Nat), look (keepT T l) n = if n ∈ l then look T n else .undef
  | [], n => by simp [keepT, look]
  | m :: l, n => by
    simp only [keepT, look, look_keepT T l n, List.mem_cons]
    by_cases h : m = n
    · subst h; simp
    · simp [h, Ne.symm h]

theorem agree_keepT (T : Tm) (l : List Nat) : Agree T (keepT T l) l := fun n hn => by rw [look_keepT, if_pos hn]

theorem run_callFunc_enter {P : Program} {f : FuncId} {fn : Func} {c : Code} (hf : P.funcs[f]? = some fn) (hname : (fn.name == "runtime.NumGoroutine") = false) (hb : fn.body = some c) (args : Array Value) (w : World) :
    (callFunc f args).run P w = .ok (.enter f args) w := by
  have h1 : fn.name ≠ "runtime.NumGoroutine" := by simpa using hname
  simp [callFunc, hf, h1, hb]

section
variable {P : Program} {tab : Tab} {cl : Callee} {sh : Nat → Bool} {ops : Array Oper} {N : Nat} {o : Oper} {g : GOper} {s s' : St} {ft : Foot}

/-- The shape of one ghost operation. -/
theorem goper_seq (hcl : CallOK P cl) (h : goper sh cl g s = some (s', ft)) : s.ng ≤ s'.ng ∧ hp s'.H = ov (ft.W s'.H) (hp s.H) ∧ (ft = .inert → s'.ng = s.ng) ∧ ∃ v, s'.T = bindD g.dst v s.T := by
  unfold goper at h
  simp only [Option.bind_eq_some_iff] at h
  obtain ⟨wd, _, h⟩ := h
  cases wd with
  | false =>
    simp only [Option.some.injEq, Prod.mk.injEq] at h
    obtain ⟨rfl, rfl⟩ := h
    exact ⟨Nat.le_refl _, rfl, fun _ => rfl, _, rfl⟩
  | true =>
    simp only at h
    split at h
    · split at h
      · simp only [Option.map_eq_some_iff, Prod.mk.injEq] at h
        obtain ⟨⟨v, H', ng', ft'⟩, h1, rfl, rfl⟩ := h
        obtain ⟨m1, m2, _⟩ := gcall_mono hcl h1
        refine ⟨m1, ?_, ?_, v, rfl⟩
        · rcases m2 with rfl | ⟨k1, k2, ⟨rfl, k3, k4⟩ | ⟨rd, rfl⟩⟩
          · funext id; rfl
          · funext id
            show H'[id]? = s.H[id]?
            by_cases hi : id < s.H.length
            · exact k2 id hi
            · rw [List.getElem?_eq_none (by omega), List.getElem?_eq_none (by omega)]
          · simp only [Foot.ext, List.nil_append]
            rw [← W_push k1, pushF_hp _ _ k1 k2]
        · intro hi
          rcases m2 with rfl | ⟨k1, k2, ⟨rfl, k3, k4⟩ | ⟨rd, rfl⟩⟩
          · cases hi
          · exact k4
          · cases hi
      · cases h
    · simp only [Option.map_eq_some_iff, Prod.mk.injEq] at h
      obtain ⟨⟨v, u⟩, h1, rfl, rfl⟩ := h
      have hids := gop_ids h1
      refine ⟨up_gens_le u _, ?_, ?_, v, rfl⟩
      · simp only
        rw [up_heap u _ hids]
        rcases gop_foot h1 with ⟨hf, rfl⟩ | ⟨rd, hf⟩
        · rw [hf]; rfl
        · rw [hf]; exact up_fn u s.H (hp s.H) hids
      · intro hi
        rcases gop_foot h1 with ⟨hf, rfl⟩ | ⟨rd, hf⟩
        · rfl
        · rw [hf] at hi; cases hi

theorem goper_ok (hTab : TabOK P tab) (hcl : CallOK P cl) (hc : chkOper tab ops N o g = true) (h : goper sh cl g s = some (s', ft)) {C : Ctx} {a : Act} {w : World} (S : SR C) (hw : w.heap = C.heap)
    (hT : ∀ n, n ∈ g.tms → VR C (look s.T n) (a.tmps.getD n Go.undef)) (hpre : ft.pre1 C s) (hfree : ∀ x, s.ng ≤ x → x < s'.ng → ¬ C.used x) {K : Act → World → Prop} {Q : Exit → Act → World → Prop}
    (hK : ∀ v C' r w', s'.T = bindD g.dst v s.T → SR C' → Evo C C' → w'.heap = C'.heap → C'.h = ov (ft.W s'.H) C.h → C'.used = usedF C.used s.ng s'.ng → VR C' v r → Same w w' → K (a.put g.dst r) w') :
    if Region.wanted o (yielded ops a.tmps) then o.wp P a w K Q else K (a.put o.dst Go.undef) w := by
  simp only [chkOper, Bool.and_eq_true] at hc
  obtain ⟨⟨hd, hg⟩, hc⟩ := hc
  have hdst : o.dst = g.dst := by
    unfold dstOK at hd
    split at hd
    · rename_i h1 h2; rw [h1, h2]
    · rename_i h1 h2; simp only [Bool.and_eq_true, beq_iff_eq] at hd; rw [h1, h2, hd.1]
    · cases hd
  unfold goper at h
  simp only [Option.bind_eq_some_iff] at h
  obtain ⟨wd, hwd, h⟩ := h
  have hwant := wanted_ok (a := a) hg (fun t b he => hT t (by simp [GOper.tms, he])) hwd
  rw [hwant]
  cases wd with
  | false =>
    simp only [Option.some.injEq, Prod.mk.injEq] at h
    obtain ⟨rfl, rfl⟩ := h
    simp only [Bool.false_eq_true, if_false]
    rw [hdst]
    exact hK (.tup []) C Go.undef w rfl S (.refl C) hw rfl (usedF_none _ _).symm (.tup [] #[] rfl fun i v hi => by simp at hi) (.rfl' w)
  | true =>
    simp only [if_true] at h ⊢
    have hag : ∀ n, VR C (look (keepT s.T g.op.tms) n) (a.tmps.getD n Go.undef) := fun n => by
      rw [look_keepT]
      split
      · rename_i hn; exact hT n (by simp [GOper.tms, hn])
      · exact .undef _
    have hta : TR C (keepT s.T g.op.tms) a := hag
    have hagr := agree_keepT s.T g.op.tms
    obtain ⟨gdst, gop', gguard⟩ := g
    simp only at h hc hdst hK hta hagr ⊢
    split at h
    · -- a call
      rename_i own f args
      simp only at hc
      split at h
      · rename_i n cap hf
        simp only [Option.map_eq_some_iff, Prod.mk.injEq] at h
        obtain ⟨⟨v, H', ng', ft'⟩, h1, rfl, rfl⟩ := h
        simp only [GOp.tms] at hta hagr
        unfold chkCall at hc
        obtain ⟨odst, oop, otype, opos, oafter, oguard⟩ := o
        simp only at hc hdst
        subst hdst
        split at hc
        · rename_i c
          simp only [Bool.and_eq_true] at hc
          obtain ⟨hcal, hargs⟩ := hc
          split at hcal
          · rename_i x hx
            have hvf := opd_ok hta hcal
            rw [ev_congr hagr.l, hf] at hvf
            obtain ⟨ka, kb⟩ := opds_ok hta hargs
            rw [evs_congr hagr.r] at ka kb
            obtain ⟨m1, m2, fn, code, f1, f2, f3⟩ := gcall_mono hcl h1
            generalize hev : a.eval x = fv at hvf
            cases hvf with
            | fn _ _ rs hrs hrv =>
            have hexec : (execOp a.eval ⟨odst, .call c, otype, opos, oafter, oguard⟩).run P w = .ok (.enter n (c.args.map a.eval ++ rs)) w := by
              have e1 : execOp a.eval ⟨odst, .call c, otype, opos, oafter, oguard⟩ = (do let d ← resolve a.eval c otype; invoke d.target d.args) := rfl
              have e2 : resolve a.eval c otype = pure { target := .fn (.func n) rs, args := c.args.map a.eval } := by
                simp [resolve, hx, Deferred.ofValue, hev]
              rw [e1, e2]
              simp only [pure_bind, invoke]
              exact run_callFunc_enter f1 f2 f3 _ w
            unfold Oper.wp
            rw [hexec, Oper.upon_enter]
            have hsz : (c.args.map a.eval).size = (evs s.T args).length := by rw [← ka]; simp
            refine Calls.mono (gcall_ok hcl S hw h1 (rargs := c.args.map a.eval ++ rs) (by simp [hrs, ← ka]) (fun i y hy => ?_) ?_ hfree) fun e w' hh => ?_
            · by_cases hi : i < (evs s.T args).length
              · rw [List.getElem?_append_left hi] at hy
                obtain ⟨q, q1, q2⟩ := kb i y hy
                have : (c.args.map a.eval ++ rs).getD i Go.undef = a.eval q := by
                  rw [Array.getD_eq_getD_getElem?, Array.getElem?_append_left (by rw [hsz]; exact hi)]
                  simp [Array.getElem?_map, ← Array.getElem?_toList, q1]
                rw [this]; exact q2
              · rw [List.getElem?_append_right (by omega)] at hy
                have : (c.args.map a.eval ++ rs).getD i Go.undef = rs.getD (i - (evs s.T args).length) Go.undef := by
                  rw [Array.getD_eq_getD_getElem?, Array.getElem?_append_right (by rw [hsz]; omega), hsz, ← Array.getD_eq_getD_getElem?]
                rw [this]; exact hrv _ y hy
            · rcases m2 with rfl | ⟨k1, k2, ⟨rfl, k3, k4⟩ | ⟨rd, rfl⟩⟩
              · exact hpre
              · trivial
              · intro id hi
                exact hpre id (by simp [hi])
            · obtain ⟨r, C', rfl, S', E', hw', hpost, hv', hsame⟩ := hh
              simp only
              have hh2 : C'.h = ov ((ft'.ext s.H.length H'.length).W H') C.h ∧ C'.used = usedF C.used s.ng ng' := by
                rcases m2 with rfl | ⟨k1, k2, ⟨rfl, k3, k4⟩ | ⟨rd, rfl⟩⟩
                · refine ⟨hpost.1.trans (by funext id; rfl), hpost.2.trans ?_⟩
                  rw [hpre.2]
                  exact (usedF_lt _ _ m1).symm
                · refine ⟨hpost.1.trans ?_, hpost.2⟩
                  funext id
                  unfold pushF
                  rw [if_neg (by omega)]
                  rfl
                · refine ⟨hpost.1.trans ?_, hpost.2⟩
                  simp only [Foot.ext, List.nil_append]
                  exact W_push k1
              exact hK v C' r w' rfl S' E' hw' hh2.1 hh2.2 hv' hsame
          · cases hcal
        · cases hc
      · cases h
    · -- no call
      rename_i op hno
      simp only [Option.map_eq_some_iff, Prod.mk.injEq] at h
      obtain ⟨⟨v, u⟩, h1, rfl, rfl⟩ := h
      have hc' : chkOp tab o gop' = true := by
        revert hc
        cases gop' <;> first | exact id | exact absurd rfl (hno _ _ _)
      have hids := gop_ids h1
      have hft := gop_foot h1
      have h2 : gop s.T C.h s.H.length s.ng gop' = some (v, u) := gop_congrH h1 fun rd wr hf id hi => by
        rw [hf] at hpre
        exact hpre id (by
          rcases List.mem_append.1 hi with hi | hi
          · simp [hi]
          · simp [hi])
      rw [← gop_congrT hagr] at h2
      obtain ⟨n, r, w', C', e1, e2, S', hw', hh', hu', E', hv', o1, o2, o3⟩ := op_ok hTab S hw hta hc' (fun hne hu => hfree s.ng (Nat.le_refl _) (by have := up_gens_le u s.ng; simp only; omega) hu) h2
      have hh2 : C'.h = ov (((footOf s.T u gop').ext s.H.length (u.heap s.H).length).W (u.heap s.H)) C.h := by
        rw [hh']
        rcases hft with ⟨hf, rfl⟩ | ⟨rd, hf⟩
        · rw [hf]; rfl
        · rw [hf]; exact up_fn u s.H C.h hids
      have hfin := hK v C' r w' rfl S' E' hw' hh2 (hu'.trans (up_used u _ _)) hv' ⟨o1, o2, o3⟩
      unfold Oper.wp
      rw [e1]
      rcases e2 with rfl | ⟨rfl, rfl⟩
      · rw [Oper.upon_value, hdst]; exact hfin
      · rw [Oper.upon_skip, hdst]; exact hfin

end
end Gh
