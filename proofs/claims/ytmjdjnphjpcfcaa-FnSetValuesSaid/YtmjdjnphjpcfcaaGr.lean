/- Code and functions: what the ghost answers, the machine answers. -/
import Derived.Test.YtmjdjnphjpcfcaaGq
import Derived.LoopN
namespace Gh
open Go

def chkCode (tab : Tab) (N : Nat) : Code → GC → Bool
  | .skip, .skip => true
  | .region _ ops draw, .region gs un _ => chkRegion tab N ops draw gs un
  | .seq a b, .seq x y => chkCode tab N a x && chkCode tab N b y
  | .cond c a b, .cond c' x y => opd c c' && (chkCode tab N a x && chkCode tab N b y)
  | .block id b, .block id' x => id == id' && chkCode tab N b x
  | .loop b, .loop _ _ x => chkCode tab N b x
  | .exit id, .exit id' => id == id'
  | .ret, .ret => true
  | _, _ => false

def chkRes1 (tab : Tab) : ResultVar → GRes → Bool
  | .tmp t, .tmp t' => t == t'
  | .cell a t, .cell a' sz ag => a == a' && onTI tab t fun ti => ti.size == sz && ti.ag == ag
  | _, _ => false

def chkRess (tab : Tab) : List ResultVar → List GRes → Bool
  | [], [] => true
  | x :: xs, y :: ys => chkRes1 tab x y && chkRess tab xs ys
  | _, _ => false

def chkFun (tab : Tab) (fn : Func) (g : GFun) : Bool :=
  fn.ntmps == g.ntmps && fn.name != "runtime.NumGoroutine" && chkRess tab fn.results.toList g.results && match fn.body with
  | some c => chkCode tab g.ntmps c g.body
  | none => false

def Ex.exit : Ex → Exit
  | .norm => .normal
  | .ex id => .exit id
  | .ret => .ret

section
variable {P : Program} {tab : Tab} {cl : Callee} {sh : Nat → Bool} {N L : Nat}

theorem StR.cut {C : Ctx} {s : St} {a : Act} {w : World} (I : StR C s a w N) (n : Nat) : ∃ C', StR C' ⟨s.T, s.H.take n, s.ng⟩ a w N ∧ Evo C C' := by
  obtain ⟨S', E'⟩ := I.sr.drop n (fun _ => False) (fun p h => h.elim)
  exact ⟨_, ⟨S', I.heap, by
    show (fun id => if id < n then C.h id else none) = _
    rw [I.h, take_hp], I.used, fun m => (I.tr m).mono I.sr E', I.size, I.defers⟩, E'⟩

theorem gcode_mono (hcl : CallOK P cl) : ∀ (g : GC) (s s' : St) (ex : Ex), gcode sh cl L g s = some (ex, s') → s.ng ≤ s'.ng := by
  intro g
  induction g with
  | skip => intro s s' ex h; simp only [gcode, Option.some.injEq, Prod.mk.injEq] at h; rw [h.2]; exact Nat.le_refl _
  | exit id => intro s s' ex h; simp only [gcode, Option.some.injEq, Prod.mk.injEq] at h; rw [h.2]; exact Nat.le_refl _
  | ret => intro s s' ex h; simp only [gcode, Option.some.injEq, Prod.mk.injEq] at h; rw [h.2]; exact Nat.le_refl _
  | region ops un kp =>
    intro s s' ex h
    simp only [gcode, Option.map_eq_some_iff, Prod.mk.injEq] at h
    obtain ⟨s1, h1, _, rfl⟩ := h
    simp only [gregion, Option.bind_eq_some_iff] at h1
    obtain ⟨⟨s2, fs⟩, h1, h2⟩ := h1
    obtain ⟨t, rfl, rfl, _, q⟩ := gops_seq h1
    simp only at h2
    split at h2
    · cases h2
    · simp only [Option.some.injEq] at h2; subst h2; exact q.mono hcl (Nat.zero_le _) (Nat.le_refl _)
  | seq a b iha ihb =>
    intro s s' ex h
    simp only [gcode] at h
    split at h
    · rename_i s1 h1; exact Nat.le_trans (iha _ _ _ h1) (ihb _ _ _ h)
    · exact iha _ _ _ h
  | cond c a b iha ihb =>
    intro s s' ex h
    simp only [gcode] at h
    split at h
    · split at h
      · exact iha _ _ _ h
      · exact ihb _ _ _ h
    · cases h
  | block id b ih =>
    intro s s' ex h
    simp only [gcode] at h
    split at h
    · rename_i i s1 h1
      have := ih _ _ _ h1
      split at h <;> simp only [Option.some.injEq, Prod.mk.injEq] at h <;> rw [← h.2] <;> exact this
    · exact ih _ _ _ h
  | loop kh lv b ih =>
    intro s s' ex h
    simp only [gcode] at h
    have key : ∀ (cut : List Blk → List Blk) (n : Nat) (s : St), loopN (fun s' => gcode sh cl L b ⟨maskT lv s'.T, s'.H, s'.ng⟩) cut n s = some (ex, s') → s.ng ≤ s'.ng := by
      intro cut n
      induction n with
      | zero => intro s h; cases h
      | succ n ihn =>
        intro s h
        simp only [loopN] at h
        split at h
        · rename_i s1 h1; have h3 := ihn _ h; exact Nat.le_trans (ih ⟨maskT lv s.T, s.H, s.ng⟩ s1 _ h1) h3
        · exact ih ⟨maskT lv s.T, s.H, s.ng⟩ s' _ h
    exact key _ _ _ h

theorem gcode_ok (hTab : TabOK P tab) (hcl : CallOK P cl) (hmix : P.follows .mixedOrders = true) : ∀ (c : Code) (g : GC), chkCode tab N c g = true → ∀ (s s' : St) (ex : Ex), gcode sh cl L g s = some (ex, s') → ∀ (C : Ctx) (a : Act) (w : World), StR C s a w N → ∀ (Q : Exit → Act → World → Prop),
    (∀ C' a' w', StR C' s' a' w' N → Evo C C' → Same w w' → Q ex.exit a' w') → c.wp P Q a w := by
  intro c g
  induction g generalizing c with
  | skip =>
    intro hc s s' ex h C a w I Q hQ
    cases c <;> simp only [chkCode, Bool.false_eq_true] at hc
    simp only [gcode, Option.some.injEq, Prod.mk.injEq] at h
    obtain ⟨rfl, rfl⟩ := h
    exact wp_skip (hQ C a w I (.refl C) (.rfl' w))
  | exit id =>
    intro hc s s' ex h C a w I Q hQ
    cases c <;> simp only [chkCode, Bool.false_eq_true, beq_iff_eq] at hc
    subst hc
    simp only [gcode, Option.some.injEq, Prod.mk.injEq] at h
    obtain ⟨rfl, rfl⟩ := h
    exact wp_exit (hQ C a w I (.refl C) (.rfl' w))
  | ret =>
    intro hc s s' ex h C a w I Q hQ
    cases c <;> simp only [chkCode, Bool.false_eq_true] at hc
    simp only [gcode, Option.some.injEq, Prod.mk.injEq] at h
    obtain ⟨rfl, rfl⟩ := h
    exact wp_ret (hQ C a w I (.refl C) (.rfl' w))
  | region gs un kp =>
    intro hc s s' ex h C a w I Q hQ
    cases c <;> simp only [chkCode, Bool.false_eq_true] at hc
    simp only [gcode, Option.map_eq_some_iff, Prod.mk.injEq] at h
    obtain ⟨s1, h1, rfl, rfl⟩ := h
    exact region_ok hTab hcl hmix hc h1 I hQ
  | seq x y ihx ihy =>
    intro hc s s' ex h C a w I Q hQ
    cases c <;> simp only [chkCode, Bool.false_eq_true, Bool.and_eq_true] at hc
    simp only [gcode] at h
    refine wp_seq ?_
    split at h
    · rename_i s1 h1
      exact ihx _ hc.1 s s1 _ h1 C a w I _ fun C1 a1 w1 I1 E1 o1 =>
        ihy _ hc.2 s1 s' _ h C1 a1 w1 I1 _ fun C2 a2 w2 I2 E2 o2 => hQ C2 a2 w2 I2 (E1.trans E2) (o1.trans o2)
    · rename_i hno
      refine ihx _ hc.1 s s' _ h C a w I _ fun C1 a1 w1 I1 E1 o1 => ?_
      have := hQ C1 a1 w1 I1 E1 o1
      cases ex with
      | norm => exact absurd h (hno s')
      | ex id => exact this
      | ret => exact this
  | cond cc x y ihx ihy =>
    intro hc s s' ex h C a w I Q hQ
    cases c <;> simp only [chkCode, Bool.false_eq_true, Bool.and_eq_true] at hc
    rename_i c1 a1 b1
    simp only [gcode] at h
    split at h
    · rename_i p hp
      have hv := opd_ok I.tr hc.1
      rw [hp] at hv
      have hev : a.eval c1 = .bool p := by
        generalize a.eval c1 = r at hv
        cases hv; rfl
      refine wp_cond hev ?_
      cases p with
      | true => exact ihx _ hc.2.1 s s' _ (by simpa using h) C a w I Q hQ
      | false => exact ihy _ hc.2.2 s s' _ (by simpa using h) C a w I Q hQ
    · cases h
  | block id x ih =>
    intro hc s s' ex h C a w I Q hQ
    cases c <;> simp only [chkCode, Bool.false_eq_true, Bool.and_eq_true, beq_iff_eq] at hc
    obtain ⟨rfl, hc⟩ := hc
    simp only [gcode] at h
    refine wp_block ?_
    split at h
    · rename_i i s1 h1
      refine ih _ hc s s1 _ h1 C a w I _ fun C1 a1 w1 I1 E1 o1 => ?_
      simp only [Ex.exit, Exit.inBlock]
      split at h
      · rename_i he
        simp only [Option.some.injEq, Prod.mk.injEq] at h
        obtain ⟨rfl, rfl⟩ := h
        rw [if_pos he]
        exact hQ C1 a1 w1 I1 E1 o1
      · rename_i he
        simp only [Option.some.injEq, Prod.mk.injEq] at h
        obtain ⟨rfl, rfl⟩ := h
        rw [if_neg he]
        exact hQ C1 a1 w1 I1 E1 o1
    · rename_i hno
      refine ih _ hc s s' _ h C a w I _ fun C1 a1 w1 I1 E1 o1 => ?_
      have := hQ C1 a1 w1 I1 E1 o1
      cases ex with
      | norm => exact this
      | ex id => exact absurd h (hno id s')
      | ret => exact this
  | loop kh lv x ih =>
    intro hc s s' ex h C a w I Q hQ
    cases c <;> simp only [chkCode, Bool.false_eq_true] at hc
    rename_i b
    simp only [gcode] at h
    refine wp_loop_rounds L ?_
    have key : ∀ (n : Nat) (s1 : St) (C1 : Ctx) (a1 : Act) (w1 : World), loopN (fun s' => gcode sh cl L x ⟨maskT lv s'.T, s'.H, s'.ng⟩) (fun H => if kh then H else H.take s.H.length) n s1 = some (ex, s') → StR C1 s1 a1 w1 N → Evo C C1 → Same w w1 → Code.rounds P b Q n a1 w1 := by
      intro n
      induction n with
      | zero => intro s1 C1 a1 w1 h; cases h
      | succ n ihn =>
        intro s1 C1 a1 w1 h I1 E1 o1
        simp only [loopN] at h
        rw [rounds_succ]
        split at h
        · rename_i s2 h2
          refine ih b hc ⟨maskT lv s1.T, s1.H, s1.ng⟩ s2 _ h2 C1 a1 w1 (I1.mask lv) _ fun C2 a2 w2 I2 E2 o2 => ?_
          show Code.rounds P b Q n a2 w2
          cases kh with
          | true => exact ihn _ C2 a2 w2 h I2 (E1.trans E2) (o1.trans o2)
          | false =>
            obtain ⟨C3, I3, E3⟩ := I2.cut s.H.length
            exact ihn _ C3 a2 w2 h I3 ((E1.trans E2).trans E3) (o1.trans o2)
        · rename_i hno
          refine ih b hc ⟨maskT lv s1.T, s1.H, s1.ng⟩ s' _ h C1 a1 w1 (I1.mask lv) _ fun C2 a2 w2 I2 E2 o2 => ?_
          have := hQ C2 a2 w2 I2 (E1.trans E2) (o1.trans o2)
          cases ex with
          | norm => exact absurd h (hno s')
          | ex id => exact this
          | ret => exact this
    exact key L s C a w h I (.refl C) (.rfl' w)

theorem res1_ok (hTab : TabOK P tab) {s : St} {C : Ctx} {a : Act} {w : World} (I : StR C s a w N) {x : ResultVar} {y : GRes} (hc : chkRes1 tab x y = true) {v : V} (h : gres1 s y = some v) :
    ∃ r, (match x with | .tmp t => (pure (a.tmps.getD t Go.undef) : Sem Value) | .cell b t => do loadVar t (← asAddr (a.tmps.getD b Go.undef))).run P w = .ok r w ∧ VR C v r := by
  unfold chkRes1 at hc
  split at hc
  · simp only [beq_iff_eq] at hc
    subst hc
    simp only [gres1, Option.some.injEq] at h
    subst h
    exact ⟨_, rfl, I.tr _⟩
  · rename_i b t b' sz ag
    simp only [Bool.and_eq_true, beq_iff_eq] at hc
    obtain ⟨rfl, hc⟩ := hc
    unfold onTI at hc
    split at hc
    · rename_i ti hti
      simp only [Bool.and_eq_true, beq_iff_eq] at hc
      obtain ⟨rfl, rfl⟩ := hc
      simp only [gres1] at h
      split at h
      · rename_i id g row off hl
        simp only [Option.bind_eq_some_iff] at h
        obtain ⟨blk, h1, rw_, h2, h3⟩ := h
        have hv := I.tr b
        rw [hl] at hv
        obtain ⟨z, z1, z2⟩ := run_load_ptr (P := P) I.sr I.heap (hTab t ti hti) hv (by rw [I.h]; exact h1) h2 h3
        show ∃ r, (do loadVar t (← asAddr (a.tmps.getD b Go.undef)) : Sem Value).run P w = .ok r w ∧ VR C v r
        generalize a.tmps.getD b Go.undef = ra at hv z1 ⊢
        cases hv with
        | ptr _ _ _ _ aa hu hl' =>
        exact ⟨z, by simpa [asAddr, Instr.loadAt, Instr.sureAddr] using z1, z2⟩
      · cases h
    · cases hc
  · cases hc

def resRun (tmps : Array Value) : ResultVar → Sem Value
  | .tmp t => pure (tmps.getD t Go.undef)
  | .cell a t => do loadVar t (← asAddr (tmps.getD a Go.undef))

theorem ress_ok (hTab : TabOK P tab) {s : St} {C : Ctx} {a : Act} {w : World} (I : StR C s a w N) : ∀ {xs : List ResultVar} {ys : List GRes} {vs : List V}, chkRess tab xs ys = true → mapMV (gres1 s) ys = some vs →
    ∃ rs : List Value, (xs.mapM (resRun a.tmps)).run P w = .ok rs w ∧ rs.length = vs.length ∧ xs.length = vs.length ∧ ∀ (i : Nat) v, vs[i]? = some v → ∃ r, rs[i]? = some r ∧ VR C v r
  | [], [], vs, _, h => by
    simp only [mapMV, Option.some.injEq] at h
    subst h
    exact ⟨[], rfl, rfl, rfl, fun i v h => by simp at h⟩
  | x :: xs, y :: ys, vs, hc, h => by
    simp only [chkRess, Bool.and_eq_true] at hc
    simp only [mapMV, Option.bind_eq_some_iff, Option.map_eq_some_iff] at h
    obtain ⟨v, h1, vs', h2, rfl⟩ := h
    obtain ⟨r, r1, r2⟩ := res1_ok hTab I hc.1 h1
    obtain ⟨rs, k1, k2, k3, k4⟩ := ress_ok hTab I hc.2 h2
    refine ⟨r :: rs, ?_, by simp [k2], by simp [k3], fun i v' hv => ?_⟩
    · have e : (resRun a.tmps x).run P w = .ok r w := by cases x <;> exact r1
      simp [List.mapM_cons, e, k1]
    · cases i with
      | zero => simp at hv; subst hv; exact ⟨r, rfl, r2⟩
      | succ i => obtain ⟨q, q1, q2⟩ := k4 i v' (by simpa using hv); exact ⟨q, by simpa using q1, q2⟩
  | [], _ :: _, _, hc, _ => by simp [chkRess] at hc
  | _ :: _, [], _, hc, _ => by simp [chkRess] at hc

theorem results_run (fn : Func) (tmps : Array Value) (w : World) {rs : List Value} (h : (fn.results.toList.mapM (resRun tmps)).run P w = .ok rs w) : (results fn tmps).run P w = .ok (if h : rs.toArray.size = 1 then rs.toArray[0] else .tuple rs.toArray) w := by
  have e : results fn tmps = (do let vs ← fn.results.mapM (resRun tmps); pure (if h : vs.size = 1 then vs[0] else .tuple vs)) := by
    unfold results
    rfl
  rw [e, Array.mapM_eq_mapM_toList]
  simp [h]

theorem gres_ok (hTab : TabOK P tab) {s : St} {C : Ctx} {a : Act} {w : World} (I : StR C s a w N) {fn : Func} {ys : List GRes} (hc : chkRess tab fn.results.toList ys = true) {v : V} (h : gres s ys = some v) :
    ∃ r, (results fn a.tmps).run P w = .ok r w ∧ VR C v r := by
  by_cases h1 : ∃ y, ys = [y]
  · obtain ⟨y, rfl⟩ := h1
    simp only [gres] at h
    obtain ⟨rs, k1, k2, k3, k4⟩ := ress_ok hTab I hc (vs := [v]) (by simp [mapMV, h])
    match rs, k2 with
    | [r], _ =>
      refine ⟨r, by simpa using results_run fn a.tmps w k1, ?_⟩
      obtain ⟨q, q1, q2⟩ := k4 0 v rfl
      simp at q1; subst q1; exact q2
  · have h2 : (mapMV (gres1 s) ys).map V.tup = some v := by
      cases ys with
      | nil => exact h
      | cons y ys' => cases ys' with
        | nil => exact absurd ⟨y, rfl⟩ h1
        | cons _ _ => exact h
    simp only [Option.map_eq_some_iff] at h2
    obtain ⟨vs, h3, rfl⟩ := h2
    obtain ⟨rs, k1, k2, k3, k4⟩ := ress_ok hTab I hc h3
    have hl : rs.length ≠ 1 := by
      have := (mapMV_get h3).1
      intro e
      rw [k2, this] at e
      match ys, e with
      | [y], _ => exact h1 ⟨y, rfl⟩
    refine ⟨.tuple rs.toArray, by simpa [hl] using results_run fn a.tmps w k1, .tup vs _ (by simpa using k2) fun i x hx => ?_⟩
    obtain ⟨q, q1, q2⟩ := k4 i x hx
    simpa [Array.getD_eq_getD_getElem?, q1] using q2

theorem look_argT : ∀ (l : List V) (k n : Nat), look (argT k l) n = if k ≤ n then (l[n - k]?).getD .undef else .undef
  | [], k, n => by simp [argT, look]
  | v :: l, k, n => by
    simp only [argT, look, look_argT l (k + 1) n]
    by_cases h : k = n
    · subst h; simp
    · rw [if_neg h]
      by_cases h2 : k + 1 ≤ n
      · rw [if_pos h2, if_pos (by omega), show n - k = (n - (k + 1)) + 1 by omega]; rfl
      · rw [if_neg h2, if_neg (by omega)]

/-- The functions' table holds. -/
structure FunsOK (P : Program) (tab : Tab) (F : Table) : Prop where
  fn : ∀ f g, F f = some g → ∃ fn, P.funcs[f]? = some fn ∧ chkFun tab fn g = true

theorem gfun_ok (hTab : TabOK P tab) (hmix : P.follows .mixedOrders = true) {F : Table} (hF : FunsOK P tab F) : ∀ d, CallOK P (gfun F L d) := by
  intro d
  induction d with
  | zero => exact ⟨fun h => (by cases h), fun h => (by cases h), fun f args H ng v H' ng' h => (by cases h)⟩
  | succ d ih =>
    have key : ∀ {f args H ng v H' ng'}, gfun F L (d + 1) f args H ng = some (v, H', ng') → ∃ g ex s, F f = some g ∧ args.length ≤ g.ntmps ∧ (ex = .norm ∨ ex = .ret) ∧ gcode (shOf F) (gfun F L d) L g.body ⟨argT 0 args, H, ng⟩ = some (ex, s) ∧ gres s g.results = some v ∧ s.H = H' ∧ s.ng = ng' := by
      intro f args H ng v H' ng' h
      simp only [gfun] at h
      split at h
      · rename_i g hg
        unfold gbody at h
        split at h
        · rename_i hl
          split at h
          · rename_i s hs
            simp only [Option.map_eq_some_iff, Prod.mk.injEq] at h
            obtain ⟨v', hv, rfl, rfl, rfl⟩ := h
            exact ⟨g, _, s, hg, hl, .inl rfl, hs, hv, rfl, rfl⟩
          · rename_i s hs
            simp only [Option.map_eq_some_iff, Prod.mk.injEq] at h
            obtain ⟨v', hv, rfl, rfl, rfl⟩ := h
            exact ⟨g, _, s, hg, hl, .inr rfl, hs, hv, rfl, rfl⟩
          · cases h
        · cases h
      · cases h
    refine ⟨fun h => ?_, fun h => ?_, fun f args H ng v H' ng' h C w rargs S hw hh hu hs hv => ?_⟩
    · obtain ⟨g, ex, s, hg, _⟩ := key h
      obtain ⟨fn, h1, h2⟩ := hF.fn _ g hg
      simp only [chkFun, Bool.and_eq_true] at h2
      cases hb : fn.body with
      | none => rw [hb] at h2; simp at h2
      | some c => exact ⟨fn, c, h1, by simpa using h2.1.1.2, hb⟩
    · obtain ⟨g, ex, s, hg, _, _, h1, _, _, rfl⟩ := key h
      exact gcode_mono ih _ _ _ _ h1
    · obtain ⟨g, ex, s, hg, hl, hex, h1, h2, rfl, rfl⟩ := key h
      obtain ⟨fn, f1, f2⟩ := hF.fn _ g hg
      simp only [chkFun, Bool.and_eq_true, beq_iff_eq] at f2
      obtain ⟨⟨⟨hn, _⟩, hr⟩, hbody⟩ := f2
      cases hb : fn.body with
      | none => rw [hb] at hbody; simp at hbody
      | some c =>
        rw [hb] at hbody
        refine calls_of_wp f1 hb ?_
        have I : StR C ⟨argT 0 args, H, ng⟩ { tmps := rargs ++ Array.replicate (fn.ntmps - rargs.size) Go.undef, defers := [] } w g.ntmps := by
          refine ⟨S, hw, hh, hu, fun m => ?_, by simp; omega, rfl⟩
          rw [look_argT]
          simp only [Nat.zero_le, if_true, Nat.sub_zero]
          cases hm : args[m]? with
          | none => exact .undef _
          | some x =>
            have hlt := (List.getElem?_eq_some_iff.1 hm).1
            have : (rargs ++ Array.replicate (fn.ntmps - rargs.size) Go.undef).getD m Go.undef = rargs.getD m Go.undef := by
              rw [Array.getD_eq_getD_getElem?, Array.getElem?_append_left (by omega), ← Array.getD_eq_getD_getElem?]
            rw [this]
            exact hv m x hm
        refine gcode_ok hTab ih hmix c g.body hbody _ s ex h1 C _ w I _ fun C' a' w' I' E' o' => ?_
        obtain ⟨r, r1, r2⟩ := gres_ok hTab I' hr h2
        have post : a'.defers = [] ∧ ∃ v_1, (results fn a'.tmps).run P w' = .ok v_1 w' ∧ ∃ r C', Ending.returned v_1 = .returned r ∧ SR C' ∧ w'.heap = C'.heap ∧ C'.h = hp s.H ∧ (C'.used = fun x => x < s.ng) ∧ Evo C C' ∧ VR C' v r ∧ Same w w' :=
          ⟨I'.defers, r, r1, r, C', rfl, I'.sr, I'.heap, I'.h, I'.used, E', r2, o'⟩
        rcases hex with rfl | rfl
        · exact post
        · exact post

end
end Gh
