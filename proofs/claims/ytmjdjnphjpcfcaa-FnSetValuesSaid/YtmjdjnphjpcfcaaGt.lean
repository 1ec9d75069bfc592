/- The ghost, step by step, for proofs about its answers. -/
import Derived.Test.YtmjdjnphjpcfcaaGs
namespace Gh
open Go

def thenE (r : Option (Ex × St)) (k : St → Option (Ex × St)) : Option (Ex × St) :=
  match r with
  | some (.norm, s') => k s'
  | r => r

def condE (v : V) (a b : St → Option (Ex × St)) (s : St) : Option (Ex × St) :=
  match v with
  | .bool p => if p then a s else b s
  | _ => none

def blockE (id : Nat) (r : Option (Ex × St)) : Option (Ex × St) :=
  match r with
  | some (.ex i, s') => if i = id then some (.norm, s') else some (.ex i, s')
  | r => r

/-- A region's end. -/
def endE (un : List (Nat × Nat)) (kp : Option (List Nat)) (r : Option (St × List Foot)) : Option (Ex × St) :=
  match r with
  | some (s, fs) => if clashes fs un then none else some (.norm, ⟨maskT kp s.T, s.H, s.ng⟩)
  | none => none

def stepE (r : Option (St × Foot)) (k : St → Option (St × List Foot)) : Option (St × List Foot) :=
  match r with
  | some (s, f) => footE f (k s)
  | none => none
where
  footE (f : Foot) (r : Option (St × List Foot)) : Option (St × List Foot) :=
    match r with
    | some (s, fs) => some (s, f :: fs)
    | none => none

section
variable {sh : Nat → Bool} {cl : Callee} {L : Nat} {T : Tm} {H : List Blk} {ng : Nat}

theorem e_skip : gcode sh cl L .skip ⟨T, H, ng⟩ = some (.norm, ⟨T, H, ng⟩) := rfl
theorem e_ret : gcode sh cl L .ret ⟨T, H, ng⟩ = some (.ret, ⟨T, H, ng⟩) := rfl
theorem e_exit (id : Nat) : gcode sh cl L (.exit id) ⟨T, H, ng⟩ = some (.ex id, ⟨T, H, ng⟩) := rfl
theorem e_seq (a b : GC) : gcode sh cl L (.seq a b) ⟨T, H, ng⟩ = thenE (gcode sh cl L a ⟨T, H, ng⟩) (fun s => gcode sh cl L b s) := by
  simp only [gcode, thenE]
  generalize gcode sh cl L a ⟨T, H, ng⟩ = r
  cases r with
  | none => rfl
  | some p => obtain ⟨e, s'⟩ := p; cases e <;> rfl
theorem e_cond (c : A) (a b : GC) : gcode sh cl L (.cond c a b) ⟨T, H, ng⟩ = condE (c.ev T) (fun s => gcode sh cl L a s) (fun s => gcode sh cl L b s) ⟨T, H, ng⟩ := by
  simp only [gcode, condE]
  generalize A.ev T c = v
  cases v <;> rfl
theorem e_block (id : Nat) (b : GC) : gcode sh cl L (.block id b) ⟨T, H, ng⟩ = blockE id (gcode sh cl L b ⟨T, H, ng⟩) := by
  simp only [gcode, blockE]
  generalize gcode sh cl L b ⟨T, H, ng⟩ = r
  cases r with
  | none => rfl
  | some p => obtain ⟨e, s'⟩ := p; cases e <;> rfl
theorem e_region (ops : List GOper) (un : List (Nat × Nat)) (kp : Option (List Nat)) : gcode sh cl L (.region ops un kp) ⟨T, H, ng⟩ = endE un kp (gops sh cl ops ⟨T, H, ng⟩) := by
  simp only [gcode, gregion, endE]
  cases gops sh cl ops ⟨T, H, ng⟩ with
  | none => rfl
  | some p => obtain ⟨s, fs⟩ := p; simp only [Option.bind_some]; split <;> rfl
theorem e_nil : gops sh cl [] ⟨T, H, ng⟩ = some (⟨T, H, ng⟩, []) := rfl
theorem e_cons (o : GOper) (os : List GOper) : gops sh cl (o :: os) ⟨T, H, ng⟩ = stepE (goper sh cl o ⟨T, H, ng⟩) (fun s => gops sh cl os s) := by
  simp only [gops, stepE]
  cases goper sh cl o ⟨T, H, ng⟩ with
  | none => rfl
  | some p =>
    obtain ⟨s, f⟩ := p
    simp only [Option.bind_some, stepE.footE]
    cases gops sh cl os s with
    | none => rfl
    | some q => rfl

theorem thenE_norm (s : St) (k : St → Option (Ex × St)) : thenE (some (.norm, s)) k = k s := rfl
theorem thenE_ex (i : Nat) (s : St) (k : St → Option (Ex × St)) : thenE (some (.ex i, s)) k = some (.ex i, s) := rfl
theorem thenE_ret (s : St) (k : St → Option (Ex × St)) : thenE (some (.ret, s)) k = some (.ret, s) := rfl
theorem condE_true (a b : St → Option (Ex × St)) (s : St) : condE (.bool true) a b s = a s := rfl
theorem condE_false (a b : St → Option (Ex × St)) (s : St) : condE (.bool false) a b s = b s := rfl
theorem blockE_norm (id : Nat) (s : St) : blockE id (some (.norm, s)) = some (.norm, s) := rfl
theorem blockE_ret (id : Nat) (s : St) : blockE id (some (.ret, s)) = some (.ret, s) := rfl
theorem blockE_ex (id i : Nat) (s : St) : blockE id (some (.ex i, s)) = if i = id then some (.norm, s) else some (.ex i, s) := rfl
theorem stepE_some (s : St) (f : Foot) (k : St → Option (St × List Foot)) : stepE (some (s, f)) k = stepE.footE f (k s) := rfl
theorem footE_some (s : St) (f : Foot) (fs : List Foot) : stepE.footE f (some (s, fs)) = some (s, f :: fs) := rfl
theorem endE_some (un : List (Nat × Nat)) (kp : Option (List Nat)) (s : St) (fs : List Foot) : endE un kp (some (s, fs)) = if clashes fs un then none else some (.norm, ⟨maskT kp s.T, s.H, s.ng⟩) := rfl

/-- A loop by an invariant; 'k': what is left to do. -/
theorem loop_rule {body : St → Option (Ex × St)} {cut : List Blk → List Blk} (I : Nat → St → Prop) (Q : Ex → St → Prop)
    (step : ∀ k s, I k s → ∃ e s', body s = some (e, s') ∧ (e = .norm → ∃ k', k' < k ∧ I k' ⟨s'.T, cut s'.H, s'.ng⟩) ∧ (e ≠ .norm → Q e s')) :
    ∀ (fuel k : Nat) (s : St), I k s → k < fuel → ∃ e s', loopN body cut fuel s = some (e, s') ∧ Q e s' := by
  intro fuel
  induction fuel with
  | zero => intro k s _ h; exact absurd h (Nat.not_lt_zero _)
  | succ n ih =>
    intro k s hI hk
    obtain ⟨e, s', h1, h2, h3⟩ := step k s hI
    simp only [loopN, h1]
    cases e with
    | norm =>
      obtain ⟨k', hk', hI'⟩ := h2 rfl
      exact ih k' _ hI' (by omega)
    | ex i => exact ⟨_, s', rfl, h3 (by simp)⟩
    | ret => exact ⟨_, s', rfl, h3 (by simp)⟩

theorem if_false_fun {α : Type} (f g : α → α) : (fun x => if false = true then f x else g x) = g := rfl

/-- A loop that counts. -/
theorem for_rule {body : St → Option (Ex × St)} {cut : List Blk → List Blk} (n : Nat) (I : Nat → St → Prop) (Q : Ex → St → Prop)
    (step : ∀ i s, i < n → I i s → ∃ e s', body s = some (e, s') ∧ (e = .norm → I (i + 1) ⟨s'.T, cut s'.H, s'.ng⟩) ∧ (e ≠ .norm → Q e s'))
    (last : ∀ s, I n s → ∃ e s', body s = some (e, s') ∧ e ≠ .norm ∧ Q e s') (fuel : Nat) (s : St) (h : I 0 s) (hf : n < fuel) : ∃ e s', loopN body cut fuel s = some (e, s') ∧ Q e s' := by
  refine loop_rule (fun k s => ∃ i, i + k = n ∧ I i s) Q ?_ fuel n s ⟨0, by omega, h⟩ hf
  rintro k s ⟨i, hi, hI⟩
  by_cases hlt : i < n
  · obtain ⟨e, s', h1, h2, h3⟩ := step i s hlt hI
    exact ⟨e, s', h1, fun he => ⟨k - 1, by omega, i + 1, by omega, h2 he⟩, h3⟩
  · have : i = n := by omega
    subst this
    obtain ⟨e, s', h1, h2, h3⟩ := last s hI
    exact ⟨e, s', h1, fun he => absurd he h2, fun _ => h3⟩

theorem e_loop' (lv : Option (List Nat)) (b : GC) : gcode sh cl L (.loop false lv b) ⟨T, H, ng⟩ = loopN (fun s' => gcode sh cl L b ⟨maskT lv s'.T, s'.H, s'.ng⟩) (fun X => X.take H.length) L ⟨T, H, ng⟩ := rfl

/-- A counting loop of the ghost's code. -/
theorem loop_for {lv : Option (List Nat)} {b : GC} (n : Nat) (I : Nat → Tm → List Blk → Nat → Prop) (Q : Ex → St → Prop) (hI : I 0 T H ng) (hL : n < L)
    (step : ∀ i T' H' ng', i < n → I i T' H' ng' → ∃ e s', gcode sh cl L b ⟨maskT lv T', H', ng'⟩ = some (e, s') ∧ (e = .norm → I (i + 1) s'.T (s'.H.take H.length) s'.ng) ∧ (e ≠ .norm → Q e s'))
    (last : ∀ T' H' ng', I n T' H' ng' → ∃ e s', gcode sh cl L b ⟨maskT lv T', H', ng'⟩ = some (e, s') ∧ e ≠ .norm ∧ Q e s') : ∃ e s', gcode sh cl L (.loop false lv b) ⟨T, H, ng⟩ = some (e, s') ∧ Q e s' :=
  for_rule n (fun i s => I i s.T s.H s.ng) Q (fun i s hi h => step i s.T s.H s.ng hi h) (fun s h => last s.T s.H s.ng h) L ⟨T, H, ng⟩ hI hL

theorem e_loop (kh : Bool) (lv : Option (List Nat)) (b : GC) : gcode sh cl L (.loop kh lv b) ⟨T, H, ng⟩ = loopN (fun s' => gcode sh cl L b ⟨maskT lv s'.T, s'.H, s'.ng⟩) (fun X => if kh then X else X.take H.length) L ⟨T, H, ng⟩ := rfl

end

section
variable {α : Type} (H l : List α) (k : Nat) (x : α)
theorem happ_get0 : (H ++ l)[H.length]? = l[0]? := by simp [List.getElem?_append_right]
theorem happ_getk : (H ++ l)[H.length + k]? = l[k]? := by simp [List.getElem?_append_right]
theorem happ_set0 : (H ++ l).set H.length x = H ++ l.set 0 x := by rw [List.set_append_right _ _ (Nat.le_refl _), Nat.sub_self]
theorem happ_setk : (H ++ l).set (H.length + k) x = H ++ l.set k x := by rw [List.set_append_right _ _ (Nat.le_add_right _ _), Nat.add_sub_cancel_left]
theorem happ_take : (H ++ l).take H.length = H := List.take_left' rfl
theorem rep0 {α : Type} (x : α) : List.replicate 0 x = [] := rfl
theorem rep1 {α : Type} (x : α) : List.replicate 1 x = [x] := rfl
theorem rep2 {α : Type} (x : α) : List.replicate 2 x = [x, x] := rfl
theorem rep3 {α : Type} (x : α) : List.replicate 3 x = [x, x, x] := rfl
theorem b_tt : (true == true) = true := rfl
theorem b_ff : (false == false) = true := rfl
theorem b_tf : (true == false) = false := rfl
theorem b_ft : (false == true) = false := rfl
theorem int_beq (a b : Int) : (a == b) = decide (a = b) := rfl
theorem int_bne (a b : Int) : (a != b) = !decide (a = b) := rfl
theorem wrap_i64 {n : Int} (h1 : -9223372036854775808 ≤ n) (h2 : n < 9223372036854775808) : IntKind.i64.wrap n = n := by
  have e : (2 : Int) ^ 64 = 18446744073709551616 := by decide
  have e' : (2 : Int) ^ 63 = 9223372036854775808 := by decide
  have hs : IntKind.i64.signed = true := rfl
  have hb : IntKind.i64.bits = 64 := rfl
  simp only [IntKind.wrap, hs, hb, Bool.true_and, decide_eq_true_eq, Nat.reduceSub, e, e']
  split <;> omega
theorem h_take : H.take H.length = H := List.take_length
end
end Gh
