/- Shallow functions: what they are made of, and how the ghost follows them. -/
import Derived.Test.YtmjdjnphjpcfcaaGu
namespace Gh
open Go
set_option linter.unusedSimpArgs false
set_option linter.unusedVariables false

/-- How often a loop may turn. -/
def LL : Nat := 1000000
/-- How deep a function may call itself. -/
def DD : Nat := 100

def cI (k : IntKind) (n : Int) : List V := [.int k n]
def cB (b : Bool) : List V := [.bool b]
def cS {α : Type} (c : α → List V) (l : List α) : List V := [.fs (l.map c)]

def addK (k : IntKind) (a b : Int) : Int := k.wrap (a + b)
def subK (k : IntKind) (a b : Int) : Int := k.wrap (a - b)
def mulK (k : IntKind) (a b : Int) : Int := k.wrap (a * b)
def quoK (k : IntKind) (a b : Int) : Int := k.wrap (a.tdiv b)
def remK (k : IntKind) (a b : Int) : Int := a.tmod b
def shlK (k : IntKind) (a b : Int) : Int := k.wrap (a * 2 ^ (min b.toNat k.bits))
def shrK (k : IntKind) (a b : Int) : Int := a.fdiv (2 ^ (min b.toNat k.bits))
def andK (k : IntKind) (a b : Int) : Int := k.wrap ((BitVec.ofInt k.bits a &&& BitVec.ofInt k.bits b).toNat : Int)
def orK (k : IntKind) (a b : Int) : Int := k.wrap ((BitVec.ofInt k.bits a ||| BitVec.ofInt k.bits b).toNat : Int)
def andNotK (k : IntKind) (a b : Int) : Int := k.wrap ((BitVec.ofInt k.bits a &&& ~~~ BitVec.ofInt k.bits b).toNat : Int)
def convK (k : IntKind) (a : Int) : Int := k.wrap a
def negK (k : IntKind) (a : Int) : Int := k.wrap (0 - a)
def mxK (a b : Int) : Int := if b > a then b else a
def mnK (a b : Int) : Int := if b < a then b else a

section
variable (k : IntKind) (a b : Int)
theorem bi_add : binI .add k a k b = some (.int k (addK k a b)) := by simp [binI, addK]
theorem bi_sub : binI .sub k a k b = some (.int k (subK k a b)) := by simp [binI, subK]
theorem bi_mul : binI .mul k a k b = some (.int k (mulK k a b)) := by simp [binI, mulK]
theorem bi_and : binI .and k a k b = some (.int k (andK k a b)) := by simp [binI, andK]
theorem bi_or : binI .or k a k b = some (.int k (orK k a b)) := by simp [binI, orK]
theorem bi_andNot : binI .andNot k a k b = some (.int k (andNotK k a b)) := by simp [binI, andNotK]
theorem bi_lss : binI .lss k a k b = some (.bool (decide (a < b))) := by simp [binI]
theorem bi_leq : binI .leq k a k b = some (.bool (decide (a ≤ b))) := by simp [binI]
theorem bi_gtr : binI .gtr k a k b = some (.bool (decide (b < a))) := by simp [binI]
theorem bi_geq : binI .geq k a k b = some (.bool (decide (b ≤ a))) := by simp [binI]
theorem bi_eql : binI .eql k a k b = some (.bool (decide (a = b))) := by simp [binI]; rfl
theorem bi_neq : binI .neq k a k b = some (.bool (!decide (a = b))) := by simp [binI]; rfl
theorem bi_quo (h : b ≠ 0) : binI .quo k a k b = some (.int k (quoK k a b)) := by simp [binI, quoK, h]
theorem bi_rem (h : b ≠ 0) : binI .rem k a k b = some (.int k (remK k a b)) := by simp [binI, remK, h]
theorem bi_shl (k' : IntKind) (h : 0 ≤ b) : binI .shl k a k' b = some (.int k (shlK k a b)) := by simp [binI, shlK, h]
theorem bi_shr (k' : IntKind) (h : 0 ≤ b) : binI .shr k a k' b = some (.int k (shrK k a b)) := by simp [binI, shrK, h]
theorem un_neg : unV .neg (.int k a) = some (.int k (negK k a)) := rfl
theorem un_not (x : Bool) : unV .not (.bool x) = some (.bool (!x)) := rfl
theorem fmx_nil : foldI (fun x y => if y > x then y else x) k a [] = some a := rfl
theorem fmx_cons (l : List V) : foldI (fun x y => if y > x then y else x) k a (.int k b :: l) = foldI (fun x y => if y > x then y else x) k (mxK a b) l := by simp [foldI, mxK]
theorem fmn_nil : foldI (fun x y => if y < x then y else x) k a [] = some a := rfl
theorem fmn_cons (l : List V) : foldI (fun x y => if y < x then y else x) k a (.int k b :: l) = foldI (fun x y => if y < x then y else x) k (mnK a b) l := by simp [foldI, mnK]
end

/-- A slice of 'n' elements of 'b' bytes can be. -/
def fits (n b : Nat) : Prop := n * b ≤ room ∧ n ≤ room
instance (n b : Nat) : Decidable (fits n b) := by unfold fits; infer_instance

section
variable {α : Type}
/-- An element. -/
def ix (l : List α) (e : Int) : Option α := if 0 ≤ e then l[e.toNat]? else none
/-- An element written. -/
def put (l : List α) (e : Int) (x : α) : Option (List α) := if 0 ≤ e ∧ e < (l.length : Int) then some (l.set e.toNat x) else none
/-- A part. -/
def cut (l : List α) (lo hi : Int) : Option (List α) := if 0 ≤ lo ∧ lo ≤ hi ∧ hi ≤ (l.length : Int) then some ((l.take hi.toNat).drop lo.toNat) else none
/-- Elements behind others. -/
def app (b : Nat) (l m : List α) : Option (List α) := if fits (l.length + m.length) b then some (l ++ m) else none
/-- Equal elements. -/
def mk (b : Nat) (e : Int) (z : α) : Option (List α) := if 0 ≤ e ∧ fits e.toNat b then some (List.replicate e.toNat z) else none

theorem ix_some {l : List α} {e : Int} {y : α} (h : ix l e = some y) : (0 ≤ e) = True ∧ l[e.toNat]? = some y ∧ (e < (l.length : Int)) = True := by
  unfold ix at h
  split at h
  · rename_i h0
    refine ⟨eq_true h0, h, eq_true ?_⟩
    have := (List.getElem?_eq_some_iff.1 h).1
    omega
  · cases h

theorem ix_nat {l : List α} {n : Nat} {y : α} (h : l[n]? = some y) : (0 ≤ (n : Int)) = True ∧ l[n]? = some y ∧ ((n : Int) < (l.length : Int)) = True := by
  refine ⟨eq_true (Int.natCast_nonneg n), h, eq_true ?_⟩
  have := (List.getElem?_eq_some_iff.1 h).1
  omega

theorem put_some {l m : List α} {e : Int} {x : α} (h : put l e x = some m) : (0 ≤ e) = True ∧ (e < (l.length : Int)) = True ∧ l.set e.toNat x = m ∧ l.length = m.length ∧ ∃ y, l[e.toNat]? = some y := by
  unfold put at h
  split at h
  · rename_i h0
    cases h
    exact ⟨eq_true h0.1, eq_true h0.2, rfl, by simp, l[e.toNat]'(by omega), List.getElem?_eq_getElem _⟩
  · cases h

theorem cut_some {l m : List α} {lo hi : Int} (h : cut l lo hi = some m) : (0 ≤ lo) = True ∧ (lo ≤ hi) = True ∧ (hi ≤ (l.length : Int)) = True ∧ (l.take hi.toNat).drop lo.toNat = m ∧ m.length = hi.toNat - lo.toNat := by
  unfold cut at h
  split at h
  · rename_i h0
    cases h
    exact ⟨eq_true h0.1, eq_true h0.2.1, eq_true h0.2.2, rfl, by simp; omega⟩
  · cases h

theorem app_some {l m r : List α} {b : Nat} (h : app b l m = some r) : ((l.length + m.length) * b ≤ room) = True ∧ (l.length + m.length ≤ room) = True ∧ l ++ m = r ∧ l.length + m.length = r.length := by
  unfold app at h
  split at h
  · rename_i h0
    cases h
    exact ⟨eq_true h0.1, eq_true h0.2, rfl, by simp⟩
  · cases h

theorem mk_some {r : List α} {b : Nat} {e : Int} {z : α} (h : mk b e z = some r) : (0 ≤ e) = True ∧ (e * (b : Int) ≤ (room : Int)) = True ∧ (e ≤ (room : Int)) = True ∧ List.replicate e.toNat z = r ∧ r.length = e.toNat := by
  unfold mk at h
  split at h
  · rename_i h0
    obtain ⟨h0, h1, h2⟩ := h0
    cases h
    refine ⟨eq_true h0, eq_true ?_, eq_true (by omega), rfl, by simp⟩
    have : e = (e.toNat : Int) := by omega
    rw [this]
    exact_mod_cast h1
  · cases h
end

/-- A loop's turn: on, or done. -/
inductive Ctl (S P : Type) where
  | next (s : S)
  | done (p : P)

def loopS {S P : Type} (b : S → Option (Ctl S P)) : Nat → S → Option P
  | 0, _ => none
  | n + 1, s => match b s with
    | some (.next s') => loopS b n s'
    | some (.done p) => some p
    | none => none

abbrev TurnOK {S P : Type} (R : S → Tm → List Blk → Prop) (Q : P → Ex → Tm → List Blk → Prop) (n0 : Nat) (c : Ctl S P) (e : Ex) (T : Tm) (H : List Blk) : Prop :=
  match c with
  | .next s => e = .norm ∧ R s T (H.take n0)
  | .done p => e ≠ .norm ∧ Q p e T H

theorem turn {x : Option (Ex × St)} {e : Ex} {T : Tm} {H : List Blk} {ng : Nat} {P : Ex → Tm → List Blk → Prop} (h : x = some (e, ⟨T, H, ng⟩)) (hp : P e T H) : ∃ e T H ng, x = some (e, ⟨T, H, ng⟩) ∧ P e T H := ⟨e, T, H, ng, h, hp⟩

theorem sim_loop {S P : Type} {sh : Nat → Bool} {cl : Callee} {lv : Option (List Nat)} {b : GC} {n0 : Nat} {sb : S → Option (Ctl S P)} (R : S → Tm → List Blk → Prop) (Q : P → Ex → Tm → List Blk → Prop)
    (step : ∀ st c, sb st = some c → ∀ T H ng, R st T H → ∃ e T' H' ng', gcode sh cl LL b ⟨maskT lv T, H, ng⟩ = some (e, ⟨T', H', ng'⟩) ∧ TurnOK R Q n0 c e T' H')
    (st : S) (p : P) (h : loopS sb LL st = some p) (T : Tm) (H : List Blk) (ng : Nat) (hR : R st T H) (hn : H.length = n0) :
    ∃ e T' H' ng', gcode sh cl LL (.loop false lv b) ⟨T, H, ng⟩ = some (e, ⟨T', H', ng'⟩) ∧ Q p e T' H' := by
  rw [e_loop]
  subst hn
  suffices Hs : ∀ n st T0 H0 ng, loopS sb n st = some p → R st T0 H0 → ∃ e T' H' ng', loopN (fun s' => gcode sh cl LL b ⟨maskT lv s'.T, s'.H, s'.ng⟩) (fun X => if false = true then X else X.take H.length) n ⟨T0, H0, ng⟩ = some (e, ⟨T', H', ng'⟩) ∧ Q p e T' H' from Hs LL st T H ng h hR
  intro n
  induction n with
  | zero => intro st T0 H0 ng h; cases h
  | succ n ih =>
    intro st T0 H0 ng h hR
    simp only [loopS] at h
    split at h
    · rename_i st' hb
      obtain ⟨e, T', H', ng', h1, h2⟩ := step st _ hb T0 H0 ng hR
      obtain ⟨rfl, h2⟩ := h2
      simp only [loopN, h1]
      exact ih st' T' _ ng' h h2
    · rename_i p' hb
      simp only [Option.some.injEq] at h
      subst h
      obtain ⟨e, T', H', ng', h1, h2⟩ := step st _ hb T0 H0 ng hR
      refine ⟨e, T', H', ng', ?_, h2.2⟩
      simp only [loopN, h1]
      cases e with
      | norm => exact absurd rfl h2.1
      | ex i => rfl
      | ret => rfl
    · cases h

/-- A loop by its states one by one. -/
theorem loopS_run {S P : Type} {b : S → Option (Ctl S P)} (f : Nat → S) (m : Nat) (p : P) (hs : ∀ i, i < m → b (f i) = some (.next (f (i + 1)))) (hd : b (f m) = some (.done p)) {L : Nat} (hL : m < L) : loopS b L (f 0) = some p := by
  suffices Hs : ∀ k i L, i + k = m → k < L → loopS b L (f i) = some p from Hs m 0 L (by omega) hL
  intro k
  induction k with
  | zero =>
    intro i L hi hL
    have : i = m := by omega
    subst this
    cases L with
    | zero => omega
    | succ L => simp only [loopS, hd]
  | succ k ih =>
    intro i L hi hL
    cases L with
    | zero => omega
    | succ L => simp only [loopS, hs i (by omega)]; exact ih (i + 1) L (by omega) (by omega)

/-- A loop by an invariant that counts. -/
theorem loopS_inv {S P : Type} {b : S → Option (Ctl S P)} (I : Nat → S → Prop) (Q : P → Prop) (n : Nat)
    (hs : ∀ i s, i < n → I i s → (∃ s', b s = some (.next s') ∧ I (i + 1) s') ∨ ∃ p, b s = some (.done p) ∧ Q p) (hd : ∀ s, I n s → ∃ p, b s = some (.done p) ∧ Q p)
    {L : Nat} (hL : n < L) (s : S) (h0 : I 0 s) : ∃ p, loopS b L s = some p ∧ Q p := by
  suffices Hs : ∀ k i L s, i + k = n → k < L → I i s → ∃ p, loopS b L s = some p ∧ Q p from Hs n 0 L s (by omega) hL h0
  intro k
  induction k with
  | zero =>
    intro i L s hi hL hI
    have : i = n := by omega
    subst this
    obtain ⟨p, h1, h2⟩ := hd s hI
    cases L with
    | zero => omega
    | succ L => exact ⟨p, by simp only [loopS, h1], h2⟩
  | succ k ih =>
    intro i L s hi hL hI
    cases L with
    | zero => omega
    | succ L =>
      rcases hs i s (by omega) hI with ⟨s', h1, h2⟩ | ⟨p, h1, h2⟩
      · simp only [loopS, h1]; exact ih (i + 1) L s' (by omega) (by omega) h2
      · exact ⟨p, by simp only [loopS, h1], h2⟩

theorem cv_fold (k : IntKind) (n : Int) : k.wrap n = convK k n := rfl
theorem rep4 {α : Type} (x : α) : List.replicate 4 x = [x, x, x, x] := rfl
theorem rep5 {α : Type} (x : α) : List.replicate 5 x = [x, x, x, x, x] := rfl
theorem rep6 {α : Type} (x : α) : List.replicate 6 x = [x, x, x, x, x, x] := rfl
theorem rep7 {α : Type} (x : α) : List.replicate 7 x = [x, x, x, x, x, x, x] := rfl
theorem rep8 {α : Type} (x : α) : List.replicate 8 x = [x, x, x, x, x, x, x, x] := rfl
theorem rep9 {α : Type} (x : α) : List.replicate 9 x = [x, x, x, x, x, x, x, x, x] := rfl
theorem rg0 (n : Nat) : List.range' n 0 = [] := rfl
theorem rg1 (n : Nat) : List.range' n 1 = [n] := rfl
/-- A fact that is kept aside. -/
def Keep (p : Prop) : Prop := p
theorem ex_int (h : Hp) (n : Nat) (k : IntKind) (a : Int) : expV h n (.int k a) = some (.int k a) := rfl
theorem ex_bool (h : Hp) (n : Nat) (a : Bool) : expV h n (.bool a) = some (.bool a) := rfl
theorem ex_fs (h : Hp) (n : Nat) (a : List (List V)) : expV h n (.fs a) = some (.fs a) := rfl
theorem ex_os (h : Hp) (n id g sz off len : Nat) : expV h n (.os id g sz off len) = expC h n expDepth (.os id g sz off len) := rfl
theorem ex_agg (h : Hp) (n : Nat) {l : List V} (hl : pureCs l = true) : expV h n (.agg l) = some (.agg l) := expV_far (v := .agg l) hl

theorem RetF.scal {k : Fun} {args : List V} {r : V} {H : List Blk} {ng : Nat} (h : k args [] 0 = some (r, H, ng)) (hf : flat r = true) (hs : freshV (hp H) 0 r = true) : RetF k args r :=
  ⟨r, H, ng, h, hs, fun _ _ => outR_flat hf⟩

theorem exp_win {h : Hp} {n0 id g sz off len : Nat} {b : Blk} (hn : n0 ≤ id) (hb : hget h id g = some b) (hle : off + len ≤ b.rows.length) (hp : pureRows b.rows = true) : expC h n0 expDepth (.os id g sz off len) = some (.fs ((b.rows.drop off).take len)) := by
  show expC h n0 3 (.os id g sz off len) = _
  have key : ∀ (l : List (List V)), pureRows l = true → mapMV (mapMV (expC h n0 2)) l = some l := by
    intro l
    induction l with
    | nil => intro _; rfl
    | cons r l ih =>
      intro hl
      simp only [pureRows, Bool.and_eq_true] at hl
      have hr : mapMV (expC h n0 2) r = some r := mapMV_id fun v hv => exp_pure (by obtain ⟨i, hi⟩ := List.mem_iff_getElem?.1 hv; exact pureCs_get hl.1 i v hi)
      simp only [mapMV, hr, Option.bind_some, ih hl.2, Option.map_some]
  have hsub : pureRows ((b.rows.drop off).take len) = true := by
    have : ∀ (l : List (List V)), (∀ r ∈ l, pureCs r = true) ↔ pureRows l = true := by
      intro l
      induction l with
      | nil => simp [pureRows]
      | cons r l ih => simp [pureRows, ih]
    exact (this _).1 fun r hr => (this _).2 hp r (List.mem_of_mem_drop (List.mem_of_mem_take hr))
  simp only [expC, hn, if_true, hb, Option.bind_some, hle, key _ hsub, Option.map_some]

theorem pureRows_map {α : Type} {c : α → List V} (hc : ∀ x, pureCs (c x) = true) : ∀ (l : List α), pureRows (l.map c) = true
  | [] => rfl
  | a :: l => by simp [pureRows, hc, pureRows_map hc l]
theorem scalRows_map {α : Type} {c : α → List V} (hc : ∀ x, scalCs (c x) = true) : ∀ (l : List α), scalRows (l.map c) = true
  | [] => rfl
  | a :: l => by simp [scalRows, hc, scalRows_map hc l]
theorem rowsSz_map {α : Type} {n : Nat} {c : α → List V} (hc : ∀ x, (c x).length = n) : ∀ (l : List α), rowsSz n (l.map c) = true
  | [] => rfl
  | a :: l => by simp [rowsSz, hc, rowsSz_map hc l]
theorem pr_cI (k : IntKind) (l : List Int) : pureRows (l.map (cI k)) = true := pureRows_map (fun _ => rfl) l
theorem pr_cB (l : List Bool) : pureRows (l.map cB) = true := pureRows_map (fun _ => rfl) l
theorem pr_cS {α : Type} (c : α → List V) (l : List (List α)) : pureRows (l.map (cS c)) = true := pureRows_map (fun _ => rfl) l
theorem sc_cI (k : IntKind) (l : List Int) : scalRows (l.map (cI k)) = true := scalRows_map (fun _ => rfl) l
theorem sc_cB (l : List Bool) : scalRows (l.map cB) = true := scalRows_map (fun _ => rfl) l
theorem rz_cI (k : IntKind) (l : List Int) : rowsSz 1 (l.map (cI k)) = true := rowsSz_map (n := 1) (c := cI k) (fun _ => rfl) l
theorem rz_cB (l : List Bool) : rowsSz 1 (l.map cB) = true := rowsSz_map (n := 1) (c := cB) (fun _ => rfl) l
theorem rz_cS {α : Type} (c : α → List V) (l : List (List α)) : rowsSz 1 (l.map (cS c)) = true := rowsSz_map (n := 1) (c := cS c) (fun _ => rfl) l
theorem take_map_len {α : Type} (c : α → List V) (l : List α) : (l.map c).take l.length = l.map c := List.take_of_length_le (by simp)

/-- A function that reads and writes the struct behind its first argument. -/
def RetC (k : Fun) (sz : Nat) (rest cells cells' : List V) (r : V) : Prop :=
  ∀ (H0 : List Blk) (id g ng : Nat), id < H0.length → ∃ v X ng', k (.ptr id g 0 0 :: rest) (H0.set id ⟨g, false, sz, [cells]⟩) ng = some (v, H0.set id ⟨g, false, sz, [cells']⟩ ++ X, ng') ∧
    outR false (hp (H0.set id ⟨g, false, sz, [cells']⟩ ++ X)) H0.length (H0.set id ⟨g, false, sz, [cells']⟩, [], ng') v = some (r, (H0.set id ⟨g, false, sz, [cells']⟩, [], ng'))

section
variable {sh : Nat → Bool} {cl : Callee} {f sz : Nat} {rest cells cells' : List V} {r : V}
theorem call_cur (hsh : sh f = true) (h : RetC (cl f) sz rest cells cells' r) (H0 : List Blk) (id g ng : Nat) (hid : id < H0.length) :
    ∃ ng', gcall sh cl false f (.ptr id g 0 0 :: rest) (H0.set id ⟨g, false, sz, [cells]⟩) ng = some (r, H0.set id ⟨g, false, sz, [cells']⟩, ng', .all) := by
  obtain ⟨v, X, ng', h1, h2⟩ := h H0 id g ng hid
  refine ⟨ng', ?_⟩
  have e : (H0.set id ⟨g, false, sz, [cells']⟩ ++ X).take H0.length = H0.set id ⟨g, false, sz, [cells']⟩ := List.take_left' (by simp)
  simp only [gcall, hsh, if_true, h1, Option.bind_some, e, List.length_set, h2, Option.map_some]

theorem call_curA (hsh : sh f = true) (h : RetC (cl f) sz rest cells cells' r) (H0 B : List Blk) (id g ng : Nat) (hid : id < H0.length) :
    ∃ ng', gcall sh cl false f (.ptr id g 0 0 :: rest) (H0.set id ⟨g, false, sz, [cells]⟩ ++ B) ng = some (r, H0.set id ⟨g, false, sz, [cells']⟩ ++ B, ng', .all) := by
  have := call_cur hsh h (H0 ++ B) id g ng (by simp; omega)
  rw [List.set_append_left _ _ hid, List.set_append_left _ _ hid] at this
  exact this
end

section
variable {H0 B : List Blk} {id : Nat} (a b : Blk) (k : Nat)
theorem hs_get (h : id < H0.length) : (H0.set id b)[id]? = some b := by simp [h]
theorem hs_getA (h : id < H0.length) : (H0.set id b ++ B)[id]? = some b := by rw [List.getElem?_append_left (by simpa using h)]; simp [h]
theorem hs_setA (h : id < H0.length) : (H0.set id a ++ B).set id b = H0.set id b ++ B := by rw [List.set_append_left _ _ (by simpa using h), List.set_set]
theorem hs_own0 : (H0.set id b ++ B)[H0.length]? = B[0]? := by rw [List.getElem?_append_right (by simp)]; simp
theorem hs_ownk : (H0.set id b ++ B)[H0.length + k]? = B[k]? := by rw [List.getElem?_append_right (by simp)]; simp
theorem hs_put0 : (H0.set id b ++ B).set H0.length a = H0.set id b ++ B.set 0 a := by rw [List.set_append_right _ _ (by simp)]; simp
theorem hs_putk : (H0.set id b ++ B).set (H0.length + k) a = H0.set id b ++ B.set k a := by rw [List.set_append_right _ _ (by simp)]; simp
theorem hs_take0 : (H0.set id b ++ B).take H0.length = H0.set id b := List.take_left' (by simp)
theorem hs_takek : (H0.set id b ++ B).take (H0.length + k) = H0.set id b ++ B.take k := by rw [List.take_append]; simp [List.take_of_length_le]
theorem hs_take : (H0.set id b).take H0.length = H0.set id b := List.take_of_length_le (by simp)
end
/-- A part of a list copied within it. -/
def cpy {α : Type} (l : List α) (o1 n1 o2 n2 : Nat) : Option (List α) :=
  if o2 + n2 ≤ l.length ∧ o1 + n1 ≤ l.length then some (l.take o1 ++ ((l.drop o2).take n2).take n1 ++ l.drop (o1 + (((l.drop o2).take n2).take n1).length)) else none

theorem cpy_some {α : Type} {l r : List α} {o1 n1 o2 n2 : Nat} (h : cpy l o1 n1 o2 n2 = some r) : (o2 + n2 ≤ l.length) = True ∧ (o1 + n1 ≤ l.length) = True ∧
    l.take o1 ++ ((l.drop o2).take n2).take n1 ++ l.drop (o1 + (((l.drop o2).take n2).take n1).length) = r ∧ l.length = r.length := by
  unfold cpy at h
  split at h
  · rename_i h0
    cases h
    exact ⟨eq_true h0.1, eq_true h0.2, rfl, by simp; omega⟩
  · cases h

theorem get_app {H : List Blk} {id : Nat} {b : Blk} {B : List Blk} (h : H[id]? = some b) : (H ++ B)[id]? = some b := by
  rw [List.getElem?_append_left (List.getElem?_eq_some_iff.1 h).1]; exact h
theorem happ_takek {H l : List Blk} {k : Nat} : (H ++ l).take (H.length + k) = H ++ l.take k := by rw [List.take_append]; simp [List.take_of_length_le]

/-- A function beside a heap that it leaves as it is. -/
def RetH (k : Fun) (args : List V) (H : List Blk) (r : V) : Prop :=
  ∀ ng, ∃ v X ng', k args H ng = some (v, H ++ X, ng') ∧ outR false (hp (H ++ X)) H.length (H, [], ng') v = some (r, (H, [], ng'))

/-- A function that writes the slice that comes in first. -/
def RetS (k : Fun) (sz : Nat) (rest : List V) (rows rows' : List (List V)) (r : V) : Prop :=
  ∀ (H0 : List Blk) (id g ng : Nat), id < H0.length → ∃ v X ng', k (.os id g sz 0 rows.length :: rest) (H0.set id ⟨g, false, sz, rows⟩) ng = some (v, H0.set id ⟨g, false, sz, rows'⟩ ++ X, ng') ∧
    outR false (hp (H0.set id ⟨g, false, sz, rows'⟩ ++ X)) H0.length (H0.set id ⟨g, false, sz, rows'⟩, [], ng') v = some (r, (H0.set id ⟨g, false, sz, rows'⟩, [], ng'))

section
variable {sh : Nat → Bool} {cl : Callee} {f : Nat} {args : List V} {H H' : List Blk} {r : V}
theorem call_H (hsh : sh f = true) (h : RetH (cl f) args H r) (ng : Nat) : ∃ ng', gcall sh cl false f args H ng = some (r, H, ng', .all) := by
  obtain ⟨v, X, ng', h1, h2⟩ := h ng
  refine ⟨ng', ?_⟩
  have e : (H ++ X).take H.length = H := List.take_left' rfl
  simp only [gcall, hsh, if_true, h1, Option.bind_some, e, h2, Option.map_some]

theorem call_P {X : List Blk} {ng ng' : Nat} (hsh : sh f = true) (h : cl f args H ng = some (.tup [], H' ++ X, ng')) (hl : H'.length = H.length) : gcall sh cl false f args H ng = some (.tup [], H', ng', .all) := by
  have e : (H' ++ X).take H.length = H' := List.take_left' hl
  simp [gcall, hsh, h, e, outR, outVs]

theorem call_P' (hsh : sh f = true) {ng : Nat} (h : ∃ X ng', cl f args H ng = some (.tup [], H' ++ X, ng')) (hl : H'.length = H.length) : ∃ ng', gcall sh cl false f args H ng = some (.tup [], H', ng', .all) := by
  obtain ⟨X, ng', h⟩ := h
  exact ⟨ng', call_P hsh h hl⟩

theorem call_S {sz : Nat} {rest : List V} {rows rows' : List (List V)} (hsh : sh f = true) (h : RetS (cl f) sz rest rows rows' r) (B C : List Blk) (g ng : Nat) :
    ∃ ng', gcall sh cl false f (.os B.length g sz 0 rows.length :: rest) (B ++ ⟨g, false, sz, rows⟩ :: C) ng = some (r, B ++ ⟨g, false, sz, rows'⟩ :: C, ng', .all) := by
  have es : ∀ x : Blk, (B ++ ⟨g, false, sz, rows⟩ :: C).set B.length x = B ++ x :: C := fun x => by simp
  obtain ⟨v, X, ng', h1, h2⟩ := h (B ++ ⟨g, false, sz, rows⟩ :: C) B.length g ng (by simp)
  rw [es, es] at h1
  rw [es] at h2
  refine ⟨ng', ?_⟩
  have e : (B ++ ⟨g, false, sz, rows'⟩ :: C ++ X).take (B ++ ⟨g, false, sz, rows⟩ :: C).length = B ++ ⟨g, false, sz, rows'⟩ :: C := List.take_left' (by simp)
  simp only [gcall, hsh, if_true, h1, Option.bind_some, e, h2, Option.map_some]
end

/-- A slice that is nil if it is empty. -/
def nsV {α : Type} (c : α → List V) (l : List α) : V := match l with
  | [] => .nil
  | a :: l => .fs ((a :: l).map c)
theorem nsV_nil {α : Type} {c : α → List V} {l : List α} (h : l = []) : nsV c l = .nil := by subst h; rfl
theorem nsV_fs {α : Type} {c : α → List V} {l : List α} (h : ¬ l = []) : nsV c l = .fs (l.map c) := by
  cases l with
  | nil => exact absurd rfl h
  | cons a l => rfl

theorem binS_ne {α : Type} {c : α → List V} {l : List α} (h : ¬ l = []) : ∀ op, binV .s op (.fs (l.map c)) .nil = eqOp op false := by
  cases l with
  | nil => exact absurd rfl h
  | cons a l => intro op; rfl

/-- A part, as it stands. -/
def win {α : Type} (l : List α) (off len : Nat) : Option (List α) := if off + len ≤ l.length then some ((l.drop off).take len) else none
theorem win_some {α : Type} {l w : List α} {off len : Nat} (h : win l off len = some w) : (off + len ≤ l.length) = True ∧ (l.drop off).take len = w ∧ w.length = len := by
  unfold win at h
  split at h
  · rename_i h0
    cases h
    exact ⟨eq_true h0, rfl, by simp; omega⟩
  · cases h

/-- A function with a state that makes a slice. -/
def RetCO (k : Fun) (sz : Nat) (rest cells cells' : List V) (sz2 : Nat) (rows : List (List V)) : Prop :=
  ∀ (H0 : List Blk) (id g ng : Nat), id < H0.length → ∃ id2 g2 X ng', k (.ptr id g 0 0 :: rest) (H0.set id ⟨g, false, sz, [cells]⟩) ng = some (.os id2 g2 sz2 0 rows.length, H0.set id ⟨g, false, sz, [cells']⟩ ++ X, ng') ∧
    hget (hp (H0.set id ⟨g, false, sz, [cells']⟩ ++ X)) id2 g2 = some ⟨g2, false, sz2, rows⟩ ∧ H0.length ≤ id2 ∧ scalRows rows = true

theorem RetCO.ret {k : Fun} {sz : Nat} {rest cells cells' : List V} {sz2 : Nat} {rows : List (List V)} (h : RetCO k sz rest cells cells' sz2 rows) : RetC k sz rest cells cells' (.fs rows) := by
  intro H0 id g ng hid
  obtain ⟨id2, g2, X, ng', h1, h2, h3, h4⟩ := h H0 id g ng hid
  refine ⟨_, X, ng', h1, ?_⟩
  simp only [outR, outV, outC, Nat.not_lt.2 h3, if_false, Bool.false_eq_true, exp_own h3 h2 h4, Option.map_some]

section
variable {sh : Nat → Bool} {cl : Callee} {f sz sz2 : Nat} {rest cells cells' : List V} {rows : List (List V)}
theorem call_curO (hsh : sh f = true) (h : RetCO (cl f) sz rest cells cells' sz2 rows) (H0 : List Blk) (id g ng : Nat) (hid : id < H0.length) :
    ∃ ng', gcall sh cl true f (.ptr id g 0 0 :: rest) (H0.set id ⟨g, false, sz, [cells]⟩) ng = some (.os H0.length ng' sz2 0 rows.length, H0.set id ⟨g, false, sz, [cells']⟩ ++ [⟨ng', false, sz2, rows⟩], ng' + 1, .all) := by
  obtain ⟨id2, g2, X, ng', h1, h2, h3, h4⟩ := h H0 id g ng hid
  refine ⟨ng', ?_⟩
  have e : (H0.set id ⟨g, false, sz, [cells']⟩ ++ X).take H0.length = H0.set id ⟨g, false, sz, [cells']⟩ := List.take_left' (by simp)
  simp [gcall, hsh, h1, e, outR, outV, outC, Nat.not_lt.2 h3, h2, h4]

theorem call_curAO (hsh : sh f = true) (h : RetCO (cl f) sz rest cells cells' sz2 rows) (H0 B : List Blk) (id g ng : Nat) (hid : id < H0.length) :
    ∃ ng', gcall sh cl true f (.ptr id g 0 0 :: rest) (H0.set id ⟨g, false, sz, [cells]⟩ ++ B) ng = some (.os (H0.length + B.length) ng' sz2 0 rows.length, H0.set id ⟨g, false, sz, [cells']⟩ ++ B ++ [⟨ng', false, sz2, rows⟩], ng' + 1, .all) := by
  have := call_curO hsh h (H0 ++ B) id g ng (by simp; omega)
  rw [List.set_append_left _ _ hid, List.set_append_left _ _ hid, List.length_append] at this
  exact this
end

theorem beq_l {x y xv r : Bool} (h : (x == y) = r) (hx : x = xv) : y = (bif r then xv else !xv) := by subst hx; subst h; cases x <;> cases y <;> rfl
theorem beq_r {x y xv r : Bool} (h : (x == y) = r) (hx : y = xv) : x = (bif r then xv else !xv) := by subst hx; subst h; cases x <;> cases y <;> rfl

theorem nne1 (n k : Nat) : (n = n + (k + 1)) = False := eq_false (by omega)
theorem nne2 (n k : Nat) : (n + (k + 1) = n) = False := eq_false (by omega)
theorem nne3 (n a b : Nat) : (n + a = n + b) = (a = b) := propext ⟨fun h => by omega, fun h => by omega⟩
theorem ilt0_2 : ((0 : Int) < ((2 : Nat) : Int)) = True := eq_true (by decide)
theorem ilt1_2 : ((1 : Int) < ((2 : Nat) : Int)) = True := eq_true (by decide)
theorem ilt0_3 : ((0 : Int) < ((3 : Nat) : Int)) = True := eq_true (by decide)
theorem ilt1_3 : ((1 : Int) < ((3 : Nat) : Int)) = True := eq_true (by decide)
theorem ilt2_3 : ((2 : Int) < ((3 : Nat) : Int)) = True := eq_true (by decide)
theorem ilt0_4 : ((0 : Int) < ((4 : Nat) : Int)) = True := eq_true (by decide)
theorem ilt1_4 : ((1 : Int) < ((4 : Nat) : Int)) = True := eq_true (by decide)
theorem ilt2_4 : ((2 : Int) < ((4 : Nat) : Int)) = True := eq_true (by decide)
theorem ilt3_4 : ((3 : Int) < ((4 : Nat) : Int)) = True := eq_true (by decide)
theorem ile1 : ((0 : Int) ≤ 1) = True := eq_true (by decide)
theorem ile2 : ((0 : Int) ≤ 2) = True := eq_true (by decide)
theorem ile3 : ((0 : Int) ≤ 3) = True := eq_true (by decide)

/-- What steps the ghost: lemmas. -/
theorem evA : type_of% (And.intro (@nne1) <|
  And.intro (@nne2) <|
  And.intro (@nne3) <|
  And.intro (@ilt0_2) <|
  And.intro (@ilt1_2) <|
  And.intro (@ilt0_3) <|
  And.intro (@ilt1_3) <|
  And.intro (@ilt2_3) <|
  And.intro (@ilt0_4) <|
  And.intro (@ilt1_4) <|
  And.intro (@ilt2_4) <|
  And.intro (@ilt3_4) <|
  And.intro (@ile1) <|
  And.intro (@ile2) <|
  And.intro (@ile3) <|
  And.intro (@Nat.sub_zero) <|
  And.intro (@List.contains_cons.{0}) <|
  And.intro (@List.contains_nil.{0}) <|
  And.intro (@e_skip) <|
  And.intro (@e_ret) <|
  And.intro (@e_exit) <|
  And.intro (@e_seq) <|
  And.intro (@e_cond) <|
  And.intro (@e_block) <|
  And.intro (@e_region) <|
  And.intro (@e_nil) <|
  And.intro (@e_cons) <|
  And.intro (@thenE_norm) <|
  And.intro (@thenE_ex) <|
  And.intro (@thenE_ret) <|
  And.intro (@condE_true) <|
  And.intro (@condE_false) <|
  And.intro (@blockE_norm) <|
  And.intro (@blockE_ret) <|
  And.intro (@blockE_ex) <|
  And.intro (@stepE_some) <|
  And.intro (@footE_some) <|
  And.intro (@endE_some) <|
  And.intro (@bi_add) <|
  And.intro (@bi_sub) <|
  And.intro (@bi_mul) <|
  And.intro (@bi_and) <|
  And.intro (@bi_or) <|
  And.intro (@bi_andNot) <|
  And.intro (@bi_lss) <|
  And.intro (@bi_leq) <|
  And.intro (@bi_gtr) <|
  And.intro (@bi_geq) <|
  And.intro (@bi_eql) <|
  And.intro (@bi_neq) <|
  And.intro (@un_neg) <|
  And.intro (@un_not) <|
  And.intro (@fmx_nil) <|
  And.intro (@fmx_cons) <|
  And.intro (@fmn_nil) <|
  And.intro (@fmn_cons) <|
  And.intro (@pr_cI) <|
  And.intro (@pr_cB) <|
  And.intro (@pr_cS) <|
  And.intro (@rz_cI) <|
  And.intro (@rz_cB) <|
  And.intro (@rz_cS) <|
  And.intro (@take_map_len) <|
  And.intro (@hs_own0) <|
  And.intro (@hs_ownk) <|
  And.intro (@hs_put0) <|
  And.intro (@hs_putk) <|
  And.intro (@hs_take) <|
  And.intro (@hs_take0) <|
  And.intro (@hs_takek) <|
  And.intro (@cv_fold) <|
  And.intro (@rg0) <|
  And.intro (@rg1) <|
  And.intro (@rep0) <|
  And.intro (@rep1) <|
  And.intro (@rep2) <|
  And.intro (@rep3) <|
  And.intro (@rep4) <|
  And.intro (@rep5) <|
  And.intro (@rep6) <|
  And.intro (@rep7) <|
  And.intro (@rep8) <|
  And.intro (@rep9) <|
  And.intro (@happ_get0) <|
  And.intro (@happ_getk) <|
  And.intro (@happ_set0) <|
  And.intro (@happ_setk) <|
  And.intro (@happ_take) <|
  And.intro (@h_take) <|
  And.intro (@Bool.or_false) <|
  And.intro (@Bool.false_or) <|
  And.intro (@beq_self_eq_true.{0}) <|
  And.intro (@List.length_set.{0}) <|
  And.intro (@List.length_map.{0, 0}) <|
  And.intro (@List.length_replicate.{0}) <|
  And.intro (@List.length_append.{0}) <|
  And.intro (@Nat.zero_add) <|
  And.intro (@Nat.add_zero) <|
  And.intro (@Nat.le_refl) <|
  And.intro (@Int.le_refl) <|
  And.intro (@b_tt) <|
  And.intro (@b_ff) <|
  And.intro (@b_tf) <|
  And.intro (@b_ft) <|
  And.intro (@Bool.not_true) <|
  And.intro (@Bool.not_false) <|
  And.intro (@List.append_assoc.{0}) <|
  And.intro (@List.cons_append.{0}) <|
  And.intro (@List.nil_append.{0}) <|
  And.intro (@List.append_nil.{0}) <|
  And.intro (@List.getElem?_cons_zero.{0}) <|
  And.intro (@List.getElem?_cons_succ.{0}) <|
  And.intro (@List.getElem?_nil.{0}) <|
  And.intro (@List.set_cons_zero.{0}) <|
  And.intro (@List.set_cons_succ.{0}) <|
  And.intro (@List.set_set.{0}) <|
  And.intro (@Option.bind_some.{0, 0}) <|
  And.intro (@Option.map_some.{0, 0}) <|
  And.intro (@Option.bind_none.{0, 0}) <|
  And.intro (@Option.map_none.{0, 0}) <|
  And.intro (@if_true.{0}) <|
  And.intro (@if_false.{0}) <|
  And.intro (@Bool.false_eq_true) <|
  And.intro (@decide_true) <|
  And.intro (@decide_false) <|
  And.intro (@List.getElem?_map.{0, 0}) <|
  And.intro (@Int.natCast_nonneg) <|
  And.intro (@Int.toNat_natCast) <|
  And.intro (@Int.toNat_zero) <|
  And.intro (@Int.toNat_one) <|
  And.intro (@List.length_cons.{0}) <|
  And.intro (@List.length_nil.{0}) <|
  And.intro (@List.map_nil.{0, 0}) <|
  And.intro (@List.drop_zero.{0}) <|
  And.intro (@List.drop_succ_cons.{0}) <|
  And.intro (@List.drop_nil.{0}) <|
  And.intro (@List.take_succ_cons.{0}) <|
  And.intro (@List.take_zero.{0}) <|
  And.intro (@List.take_nil.{0}) <|
  And.intro (@Nat.zero_lt_one) <|
  And.intro (@and_self) <|
  And.intro (@and_true) <|
  And.intro (@true_and) <|
  And.intro (@Bool.and_true) <|
  And.intro (@Bool.true_and) <|
  And.intro (@Bool.and_self) <|
  And.intro (@Bool.and_false) <|
  (@Bool.false_and)) := And.intro (@nne1) <|
  And.intro (@nne2) <|
  And.intro (@nne3) <|
  And.intro (@ilt0_2) <|
  And.intro (@ilt1_2) <|
  And.intro (@ilt0_3) <|
  And.intro (@ilt1_3) <|
  And.intro (@ilt2_3) <|
  And.intro (@ilt0_4) <|
  And.intro (@ilt1_4) <|
  And.intro (@ilt2_4) <|
  And.intro (@ilt3_4) <|
  And.intro (@ile1) <|
  And.intro (@ile2) <|
  And.intro (@ile3) <|
  And.intro (@Nat.sub_zero) <|
  And.intro (@List.contains_cons.{0}) <|
  And.intro (@List.contains_nil.{0}) <|
  And.intro (@e_skip) <|
  And.intro (@e_ret) <|
  And.intro (@e_exit) <|
  And.intro (@e_seq) <|
  And.intro (@e_cond) <|
  And.intro (@e_block) <|
  And.intro (@e_region) <|
  And.intro (@e_nil) <|
  And.intro (@e_cons) <|
  And.intro (@thenE_norm) <|
  And.intro (@thenE_ex) <|
  And.intro (@thenE_ret) <|
  And.intro (@condE_true) <|
  And.intro (@condE_false) <|
  And.intro (@blockE_norm) <|
  And.intro (@blockE_ret) <|
  And.intro (@blockE_ex) <|
  And.intro (@stepE_some) <|
  And.intro (@footE_some) <|
  And.intro (@endE_some) <|
  And.intro (@bi_add) <|
  And.intro (@bi_sub) <|
  And.intro (@bi_mul) <|
  And.intro (@bi_and) <|
  And.intro (@bi_or) <|
  And.intro (@bi_andNot) <|
  And.intro (@bi_lss) <|
  And.intro (@bi_leq) <|
  And.intro (@bi_gtr) <|
  And.intro (@bi_geq) <|
  And.intro (@bi_eql) <|
  And.intro (@bi_neq) <|
  And.intro (@un_neg) <|
  And.intro (@un_not) <|
  And.intro (@fmx_nil) <|
  And.intro (@fmx_cons) <|
  And.intro (@fmn_nil) <|
  And.intro (@fmn_cons) <|
  And.intro (@pr_cI) <|
  And.intro (@pr_cB) <|
  And.intro (@pr_cS) <|
  And.intro (@rz_cI) <|
  And.intro (@rz_cB) <|
  And.intro (@rz_cS) <|
  And.intro (@take_map_len) <|
  And.intro (@hs_own0) <|
  And.intro (@hs_ownk) <|
  And.intro (@hs_put0) <|
  And.intro (@hs_putk) <|
  And.intro (@hs_take) <|
  And.intro (@hs_take0) <|
  And.intro (@hs_takek) <|
  And.intro (@cv_fold) <|
  And.intro (@rg0) <|
  And.intro (@rg1) <|
  And.intro (@rep0) <|
  And.intro (@rep1) <|
  And.intro (@rep2) <|
  And.intro (@rep3) <|
  And.intro (@rep4) <|
  And.intro (@rep5) <|
  And.intro (@rep6) <|
  And.intro (@rep7) <|
  And.intro (@rep8) <|
  And.intro (@rep9) <|
  And.intro (@happ_get0) <|
  And.intro (@happ_getk) <|
  And.intro (@happ_set0) <|
  And.intro (@happ_setk) <|
  And.intro (@happ_take) <|
  And.intro (@h_take) <|
  And.intro (@Bool.or_false) <|
  And.intro (@Bool.false_or) <|
  And.intro (@beq_self_eq_true.{0}) <|
  And.intro (@List.length_set.{0}) <|
  And.intro (@List.length_map.{0, 0}) <|
  And.intro (@List.length_replicate.{0}) <|
  And.intro (@List.length_append.{0}) <|
  And.intro (@Nat.zero_add) <|
  And.intro (@Nat.add_zero) <|
  And.intro (@Nat.le_refl) <|
  And.intro (@Int.le_refl) <|
  And.intro (@b_tt) <|
  And.intro (@b_ff) <|
  And.intro (@b_tf) <|
  And.intro (@b_ft) <|
  And.intro (@Bool.not_true) <|
  And.intro (@Bool.not_false) <|
  And.intro (@List.append_assoc.{0}) <|
  And.intro (@List.cons_append.{0}) <|
  And.intro (@List.nil_append.{0}) <|
  And.intro (@List.append_nil.{0}) <|
  And.intro (@List.getElem?_cons_zero.{0}) <|
  And.intro (@List.getElem?_cons_succ.{0}) <|
  And.intro (@List.getElem?_nil.{0}) <|
  And.intro (@List.set_cons_zero.{0}) <|
  And.intro (@List.set_cons_succ.{0}) <|
  And.intro (@List.set_set.{0}) <|
  And.intro (@Option.bind_some.{0, 0}) <|
  And.intro (@Option.map_some.{0, 0}) <|
  And.intro (@Option.bind_none.{0, 0}) <|
  And.intro (@Option.map_none.{0, 0}) <|
  And.intro (@if_true.{0}) <|
  And.intro (@if_false.{0}) <|
  And.intro (@Bool.false_eq_true) <|
  And.intro (@decide_true) <|
  And.intro (@decide_false) <|
  And.intro (@List.getElem?_map.{0, 0}) <|
  And.intro (@Int.natCast_nonneg) <|
  And.intro (@Int.toNat_natCast) <|
  And.intro (@Int.toNat_zero) <|
  And.intro (@Int.toNat_one) <|
  And.intro (@List.length_cons.{0}) <|
  And.intro (@List.length_nil.{0}) <|
  And.intro (@List.map_nil.{0, 0}) <|
  And.intro (@List.drop_zero.{0}) <|
  And.intro (@List.drop_succ_cons.{0}) <|
  And.intro (@List.drop_nil.{0}) <|
  And.intro (@List.take_succ_cons.{0}) <|
  And.intro (@List.take_zero.{0}) <|
  And.intro (@List.take_nil.{0}) <|
  And.intro (@Nat.zero_lt_one) <|
  And.intro (@and_self) <|
  And.intro (@and_true) <|
  And.intro (@true_and) <|
  And.intro (@Bool.and_true) <|
  And.intro (@Bool.true_and) <|
  And.intro (@Bool.and_self) <|
  And.intro (@Bool.and_false) <|
  (@Bool.false_and)

/-- What steps the ghost: definitions. -/
theorem evB : type_of% (And.intro (@goper.eq_1) <|
  And.intro (@wantedG.eq_1) <|
  And.intro (@wantedG.eq_2) <|
  And.intro (@gop.eq_1) <|
  And.intro (@gop.eq_2) <|
  And.intro (@gop.eq_3) <|
  And.intro (@gop.eq_4) <|
  And.intro (@gop.eq_5) <|
  And.intro (@gop.eq_6) <|
  And.intro (@gop.eq_7) <|
  And.intro (@gop.eq_8) <|
  And.intro (@gop.eq_9) <|
  And.intro (@gop.eq_10) <|
  And.intro (@gop.eq_11) <|
  And.intro (@gop.eq_12) <|
  And.intro (@gop.eq_13) <|
  And.intro (@gop.eq_14) <|
  And.intro (@gop.eq_15) <|
  And.intro (@gop.eq_16) <|
  And.intro (@gop.eq_17) <|
  And.intro (@gop.eq_18) <|
  And.intro (@gop.eq_19) <|
  And.intro (@gop.eq_20) <|
  And.intro (@gop.eq_21) <|
  And.intro (@gop.eq_22) <|
  And.intro (@gop.eq_23) <|
  And.intro (@gop.eq_24) <|
  And.intro (@gop.eq_25) <|
  And.intro (@gop.eq_26) <|
  And.intro (@gop.eq_27) <|
  And.intro (@gop.eq_28) <|
  And.intro (@gop.eq_29) <|
  And.intro (@gop.eq_30) <|
  And.intro (@A.ev.eq_1) <|
  And.intro (@A.ev.eq_2) <|
  And.intro (@evs.eq_1) <|
  And.intro (@evs.eq_2) <|
  And.intro (@look.eq_1) <|
  And.intro (@look.eq_2) <|
  And.intro (@bindD.eq_1) <|
  And.intro (@bindD.eq_2) <|
  And.intro (@Up.heap.eq_1) <|
  And.intro (@Up.heap.eq_2) <|
  And.intro (@Up.heap.eq_3) <|
  And.intro (@Up.heap.eq_4) <|
  And.intro (@Up.heap.eq_5) <|
  And.intro (@Up.gens.eq_1) <|
  And.intro (@Up.gens.eq_2) <|
  And.intro (@Up.gens.eq_3) <|
  And.intro (@Up.gens.eq_4) <|
  And.intro (@Up.gens.eq_5) <|
  And.intro (@footOf.eq_1) <|
  And.intro (@footOf.eq_2) <|
  And.intro (@footOf.eq_3) <|
  And.intro (@footOf.eq_4) <|
  And.intro (@footOf.eq_5) <|
  And.intro (@footOf.eq_6) <|
  And.intro (@footOf.eq_7) <|
  And.intro (@footOf.eq_8) <|
  And.intro (@footOf.eq_9) <|
  And.intro (@footOf.eq_10) <|
  And.intro (@footOf.eq_11) <|
  And.intro (@footOf.eq_12) <|
  And.intro (@Foot.ext.eq_1) <|
  And.intro (@Foot.ext.eq_2) <|
  And.intro (@Foot.clash.eq_1) <|
  And.intro (@Foot.clash.eq_2) <|
  And.intro (@Foot.clash.eq_3) <|
  And.intro (@Foot.clash.eq_4) <|
  And.intro (@meets.eq_1) <|
  And.intro (@meets.eq_2) <|
  And.intro (@idOf.eq_1) <|
  And.intro (@idOf.eq_2) <|
  And.intro (@idOf.eq_3) <|
  And.intro (@wrOf.eq_1) <|
  And.intro (@wrOf.eq_2) <|
  And.intro (@wrOf.eq_3) <|
  And.intro (@wrOf.eq_4) <|
  And.intro (@clashes.eq_1) <|
  And.intro (@clashes.eq_2) <|
  And.intro (@maskT.eq_1) <|
  And.intro (@maskT.eq_2) <|
  And.intro (@keepT.eq_1) <|
  And.intro (@keepT.eq_2) <|
  And.intro (@mkVal.eq_1) <|
  And.intro (@mkVal.eq_2) <|
  And.intro (@seg.eq_1) <|
  And.intro (@splice.eq_1) <|
  And.intro (@V.cells.eq_1) <|
  And.intro (@V.cells.eq_2) <|
  And.intro (@V.okCell.eq_1) <|
  And.intro (@V.okCell.eq_2) <|
  And.intro (@V.okCell.eq_3) <|
  And.intro (@V.okCell.eq_4) <|
  And.intro (@okCells.eq_1) <|
  And.intro (@okCells.eq_2) <|
  And.intro (@hget.eq_1) <|
  And.intro (@hp.eq_1) <|
  And.intro (@lenV.eq_1) <|
  And.intro (@lenV.eq_2) <|
  And.intro (@lenV.eq_3) <|
  And.intro (@lenV.eq_4) <|
  And.intro (@isInt.eq_1) <|
  And.intro (@isInt.eq_2) <|
  And.intro (@intsN2) <|
  And.intro (@binV.eq_1) <|
  And.intro (@binV.eq_2) <|
  And.intro (@binV.eq_3) <|
  And.intro (@binV.eq_4) <|
  And.intro (@binV.eq_5) <|
  And.intro (@binV.eq_6) <|
  And.intro (@binV.eq_7) <|
  And.intro (@binV.eq_8) <|
  And.intro (@binV.eq_9) <|
  And.intro (@eqOp.eq_1) <|
  And.intro (@eqOp.eq_2) <|
  And.intro (@eqOp.eq_3) <|
  And.intro (@mapMV.eq_1) <|
  And.intro (@mapMV.eq_2) <|
  And.intro (@rowsOf.eq_1) <|
  And.intro (@rowsOf.eq_2) <|
  And.intro (@rowsOf.eq_3) <|
  And.intro (@rowsOf.eq_4) <|
  And.intro (@rowsG.eq_1) <|
  And.intro (@rowsG.eq_2) <|
  And.intro (@rowsSz.eq_1) <|
  And.intro (@rowsSz.eq_2) <|
  And.intro (@sliceV.eq_1) <|
  And.intro (@sliceV.eq_2) <|
  And.intro (@fillG.eq_1) <|
  And.intro (@fillG.eq_2) <|
  And.intro (@gres.eq_1) <|
  And.intro (@gres.eq_2) <|
  And.intro (@gres1.eq_1) <|
  And.intro (@gres1.eq_2) <|
  And.intro (@argT.eq_1) <|
  And.intro (@argT.eq_2) <|
  And.intro (@pureRows.eq_1) <|
  And.intro (@pureRows.eq_2) <|
  And.intro (@pureCs.eq_1) <|
  And.intro (@pureCs.eq_2) <|
  And.intro (@V.pureC.eq_1) <|
  And.intro (@V.pureC.eq_2) <|
  And.intro (@V.pureC.eq_3) <|
  And.intro (@V.pureC.eq_4) <|
  And.intro (@V.pureC.eq_5) <|
  And.intro (@cI.eq_1) <|
  And.intro (@cB.eq_1) <|
  And.intro (@cS.eq_1) <|
  (@gbody.eq_1)) := And.intro (@goper.eq_1) <|
  And.intro (@wantedG.eq_1) <|
  And.intro (@wantedG.eq_2) <|
  And.intro (@gop.eq_1) <|
  And.intro (@gop.eq_2) <|
  And.intro (@gop.eq_3) <|
  And.intro (@gop.eq_4) <|
  And.intro (@gop.eq_5) <|
  And.intro (@gop.eq_6) <|
  And.intro (@gop.eq_7) <|
  And.intro (@gop.eq_8) <|
  And.intro (@gop.eq_9) <|
  And.intro (@gop.eq_10) <|
  And.intro (@gop.eq_11) <|
  And.intro (@gop.eq_12) <|
  And.intro (@gop.eq_13) <|
  And.intro (@gop.eq_14) <|
  And.intro (@gop.eq_15) <|
  And.intro (@gop.eq_16) <|
  And.intro (@gop.eq_17) <|
  And.intro (@gop.eq_18) <|
  And.intro (@gop.eq_19) <|
  And.intro (@gop.eq_20) <|
  And.intro (@gop.eq_21) <|
  And.intro (@gop.eq_22) <|
  And.intro (@gop.eq_23) <|
  And.intro (@gop.eq_24) <|
  And.intro (@gop.eq_25) <|
  And.intro (@gop.eq_26) <|
  And.intro (@gop.eq_27) <|
  And.intro (@gop.eq_28) <|
  And.intro (@gop.eq_29) <|
  And.intro (@gop.eq_30) <|
  And.intro (@A.ev.eq_1) <|
  And.intro (@A.ev.eq_2) <|
  And.intro (@evs.eq_1) <|
  And.intro (@evs.eq_2) <|
  And.intro (@look.eq_1) <|
  And.intro (@look.eq_2) <|
  And.intro (@bindD.eq_1) <|
  And.intro (@bindD.eq_2) <|
  And.intro (@Up.heap.eq_1) <|
  And.intro (@Up.heap.eq_2) <|
  And.intro (@Up.heap.eq_3) <|
  And.intro (@Up.heap.eq_4) <|
  And.intro (@Up.heap.eq_5) <|
  And.intro (@Up.gens.eq_1) <|
  And.intro (@Up.gens.eq_2) <|
  And.intro (@Up.gens.eq_3) <|
  And.intro (@Up.gens.eq_4) <|
  And.intro (@Up.gens.eq_5) <|
  And.intro (@footOf.eq_1) <|
  And.intro (@footOf.eq_2) <|
  And.intro (@footOf.eq_3) <|
  And.intro (@footOf.eq_4) <|
  And.intro (@footOf.eq_5) <|
  And.intro (@footOf.eq_6) <|
  And.intro (@footOf.eq_7) <|
  And.intro (@footOf.eq_8) <|
  And.intro (@footOf.eq_9) <|
  And.intro (@footOf.eq_10) <|
  And.intro (@footOf.eq_11) <|
  And.intro (@footOf.eq_12) <|
  And.intro (@Foot.ext.eq_1) <|
  And.intro (@Foot.ext.eq_2) <|
  And.intro (@Foot.clash.eq_1) <|
  And.intro (@Foot.clash.eq_2) <|
  And.intro (@Foot.clash.eq_3) <|
  And.intro (@Foot.clash.eq_4) <|
  And.intro (@meets.eq_1) <|
  And.intro (@meets.eq_2) <|
  And.intro (@idOf.eq_1) <|
  And.intro (@idOf.eq_2) <|
  And.intro (@idOf.eq_3) <|
  And.intro (@wrOf.eq_1) <|
  And.intro (@wrOf.eq_2) <|
  And.intro (@wrOf.eq_3) <|
  And.intro (@wrOf.eq_4) <|
  And.intro (@clashes.eq_1) <|
  And.intro (@clashes.eq_2) <|
  And.intro (@maskT.eq_1) <|
  And.intro (@maskT.eq_2) <|
  And.intro (@keepT.eq_1) <|
  And.intro (@keepT.eq_2) <|
  And.intro (@mkVal.eq_1) <|
  And.intro (@mkVal.eq_2) <|
  And.intro (@seg.eq_1) <|
  And.intro (@splice.eq_1) <|
  And.intro (@V.cells.eq_1) <|
  And.intro (@V.cells.eq_2) <|
  And.intro (@V.okCell.eq_1) <|
  And.intro (@V.okCell.eq_2) <|
  And.intro (@V.okCell.eq_3) <|
  And.intro (@V.okCell.eq_4) <|
  And.intro (@okCells.eq_1) <|
  And.intro (@okCells.eq_2) <|
  And.intro (@hget.eq_1) <|
  And.intro (@hp.eq_1) <|
  And.intro (@lenV.eq_1) <|
  And.intro (@lenV.eq_2) <|
  And.intro (@lenV.eq_3) <|
  And.intro (@lenV.eq_4) <|
  And.intro (@isInt.eq_1) <|
  And.intro (@isInt.eq_2) <|
  And.intro (@intsN2) <|
  And.intro (@binV.eq_1) <|
  And.intro (@binV.eq_2) <|
  And.intro (@binV.eq_3) <|
  And.intro (@binV.eq_4) <|
  And.intro (@binV.eq_5) <|
  And.intro (@binV.eq_6) <|
  And.intro (@binV.eq_7) <|
  And.intro (@binV.eq_8) <|
  And.intro (@binV.eq_9) <|
  And.intro (@eqOp.eq_1) <|
  And.intro (@eqOp.eq_2) <|
  And.intro (@eqOp.eq_3) <|
  And.intro (@mapMV.eq_1) <|
  And.intro (@mapMV.eq_2) <|
  And.intro (@rowsOf.eq_1) <|
  And.intro (@rowsOf.eq_2) <|
  And.intro (@rowsOf.eq_3) <|
  And.intro (@rowsOf.eq_4) <|
  And.intro (@rowsG.eq_1) <|
  And.intro (@rowsG.eq_2) <|
  And.intro (@rowsSz.eq_1) <|
  And.intro (@rowsSz.eq_2) <|
  And.intro (@sliceV.eq_1) <|
  And.intro (@sliceV.eq_2) <|
  And.intro (@fillG.eq_1) <|
  And.intro (@fillG.eq_2) <|
  And.intro (@gres.eq_1) <|
  And.intro (@gres.eq_2) <|
  And.intro (@gres1.eq_1) <|
  And.intro (@gres1.eq_2) <|
  And.intro (@argT.eq_1) <|
  And.intro (@argT.eq_2) <|
  And.intro (@pureRows.eq_1) <|
  And.intro (@pureRows.eq_2) <|
  And.intro (@pureCs.eq_1) <|
  And.intro (@pureCs.eq_2) <|
  And.intro (@V.pureC.eq_1) <|
  And.intro (@V.pureC.eq_2) <|
  And.intro (@V.pureC.eq_3) <|
  And.intro (@V.pureC.eq_4) <|
  And.intro (@V.pureC.eq_5) <|
  And.intro (@cI.eq_1) <|
  And.intro (@cB.eq_1) <|
  And.intro (@cS.eq_1) <|
  (@gbody.eq_1)

end Gh
