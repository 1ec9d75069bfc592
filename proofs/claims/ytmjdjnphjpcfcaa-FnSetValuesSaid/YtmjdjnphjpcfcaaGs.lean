/- The tables of types and functions by a checker; a law's entry: bytes in, a truth value out. -/
import Derived.Test.YtmjdjnphjpcfcaaGr
import Derived.Below
namespace Gh
open Go Go.RowKit

def zerosEq : List Value → List V → Bool
  | [], [] => true
  | x :: xs, y :: ys => constEq x y && zerosEq xs ys
  | _, _ => false

def fieldsB (P : Program) : List Field → List (Nat × Nat × Nat) → Bool
  | [], [] => true
  | f :: fs, (off, sz, ft) :: xs => f.offset == off && f.type == ft && (match P.info? f.type with | some i => i.size == sz | none => false) && fieldsB P fs xs
  | _, _ => false

def descB (P : Program) : TypeDesc → TD → Bool
  | .slice e, .slice e' => e == e'
  | .array n e, .array n' e' => n == n' && e == e'
  | .struct F, .struct fs => fieldsB P F.toList fs
  | .int k, .int k' => decide (k = k')
  | .bool, .bool => true
  | .struct _, .other => false
  | .array _ _, .other => false
  | _, .other => true
  | _, _ => false

def tiB (P : Program) (t : TypeId) (ti : TI) : Bool :=
  (match P.info? t with
  | some i => i.size == ti.size && i.bytes == ti.bytes && (match i.zero with | some z => z.cells.size == ti.size && (ti.zero.isEmpty || zerosEq z.cells.toList ti.zero) | none => false)
  | none => false) && (match P.underlying t with | some d => descB P d ti.d | none => false)

theorem constEq_spec {x : Value} {y : V} (h : constEq x y = true) : some x = constV y := by
  unfold constEq at h
  split at h
  · simp only [Bool.and_eq_true, beq_iff_eq] at h; rw [h.1, h.2]; rfl
  · simp only [beq_iff_eq] at h; rw [h]; rfl
  · rfl
  · rfl
  · cases h

theorem zerosEq_spec : ∀ {xs : List Value} {ys : List V}, zerosEq xs ys = true → xs.map some = ys.map constV
  | [], [], _ => rfl
  | x :: xs, y :: ys, h => by
    simp only [zerosEq, Bool.and_eq_true] at h
    simp only [List.map_cons, constEq_spec h.1, zerosEq_spec h.2]
  | [], _ :: _, h => by simp [zerosEq] at h
  | _ :: _, [], h => by simp [zerosEq] at h

theorem fieldsB_spec {P : Program} : ∀ {F : List Field} {fs : List (Nat × Nat × Nat)}, fieldsB P F fs = true →
    F.mapM (fun f => (P.info? f.type).map fun i => (f.offset, i.size)) = some (fs.map fun x => (x.1, x.2.1)) ∧ ∀ (i : Nat) off sz ft, fs[i]? = some (off, sz, ft) → ∃ f, F[i]? = some f ∧ f.offset = off ∧ f.type = ft
  | [], [], _ => ⟨rfl, fun i off sz ft h => by simp at h⟩
  | f :: F, (off, sz, ft) :: fs, h => by
    simp only [fieldsB, Bool.and_eq_true, beq_iff_eq] at h
    obtain ⟨⟨⟨rfl, rfl⟩, h3⟩, h4⟩ := h
    obtain ⟨k1, k2⟩ := fieldsB_spec h4
    constructor
    · split at h3
      · rename_i i hi
        simp only [beq_iff_eq] at h3
        simp [List.mapM_cons, hi, h3, k1]
      · cases h3
    · intro i o s t hi
      cases i with
      | zero => simp at hi; obtain ⟨rfl, rfl, rfl⟩ := hi; exact ⟨f, rfl, rfl, rfl⟩
      | succ i => simpa using k2 i o s t (by simpa using hi)
  | [], _ :: _, h => by simp [fieldsB] at h
  | _ :: _, [], h => by simp [fieldsB] at h

theorem tiB_ok {P : Program} {t : TypeId} {ti : TI} (h : tiB P t ti = true) (he : ti.eqok = true → EqAt P t ti.size) : TIOK P t ti := by
  simp only [tiB, Bool.and_eq_true] at h
  obtain ⟨h1, h2⟩ := h
  refine ⟨?_, ?_, he⟩
  · split at h1
    · rename_i i hi
      simp only [Bool.and_eq_true, beq_iff_eq] at h1
      obtain ⟨⟨a, b⟩, c⟩ := h1
      split at c
      · rename_i z hz
        simp only [Bool.and_eq_true, beq_iff_eq, Bool.or_eq_true] at c
        refine ⟨i, z, hi, a, b, hz, c.1, fun hne => ?_⟩
        rcases c.2 with h | h
        · exact absurd (by simpa using h) hne
        · exact zerosEq_spec h
      · cases c
    · cases h1
  · split at h2
    · rename_i d hd
      unfold descB at h2
      unfold TD.ok
      split at h2
      · rename_i e e' h3; simp only [beq_iff_eq] at h2; subst h2; rw [h3]; exact hd
      · rename_i n e n' e' h3; simp only [Bool.and_eq_true, beq_iff_eq] at h2; obtain ⟨rfl, rfl⟩ := h2; rw [h3]; exact hd
      · rename_i F fs h3
        rw [h3]
        obtain ⟨k1, k2⟩ := fieldsB_spec h2
        exact ⟨F, hd, k1, fun i off sz ft hi => by
          obtain ⟨f, f1, f2⟩ := k2 i off sz ft hi
          exact ⟨f, by simpa using f1, f2⟩⟩
      · rename_i k k' h3; simp only [decide_eq_true_eq] at h2; subst h2; rw [h3]; exact hd
      · rename_i h3; rw [h3]; exact hd
      · cases h2
      · cases h2
      · rename_i d' hns hna h3
        rw [h3]
        exact ⟨_, hd, fun F e => hns F e, fun n e e' => hna n e e'⟩
      · cases h2
    · cases h2

/-- A table by numbers. -/
def find {α : Type} : List (Nat × α) → Nat → Option α
  | [], _ => none
  | (k, v) :: l, n => if k = n then some v else find l n

theorem find_mem {α : Type} : ∀ {l : List (Nat × α)} {n : Nat} {v : α}, find l n = some v → (n, v) ∈ l
  | [], _, _, h => by cases h
  | (k, x) :: l, n, v, h => by
    simp only [find] at h
    split at h
    · rename_i e; subst e; simp only [Option.some.injEq] at h; subst h; simp
    · exact List.mem_cons_of_mem _ (find_mem h)

def tabB (P : Program) : List (Nat × TI) → Bool
  | [] => true
  | (t, ti) :: l => tiB P t ti && tabB P l

theorem tabB_ok {P : Program} {l : List (Nat × TI)} (h : tabB P l = true) (he : ∀ t ti, (t, ti) ∈ l → ti.eqok = true → EqAt P t ti.size) : TabOK P (find l) := by
  intro t ti hf
  have hm := find_mem hf
  refine tiB_ok ?_ (he t ti hm)
  clear he hf
  induction l with
  | nil => cases hm
  | cons p l ih =>
    obtain ⟨t', ti'⟩ := p
    simp only [tabB, Bool.and_eq_true] at h
    rcases List.mem_cons.1 hm with e | hm
    · cases e; exact h.1
    · exact ih h.2 hm

/-- The functions' table, one by one. -/
inductive FunsAll (P : Program) (tab : Tab) : List (Nat × GFun) → Prop
  | nil : FunsAll P tab []
  | cons {f : Nat} {g : GFun} {l : List (Nat × GFun)} {fn : Func} (h : P.funcs[f]? = some fn) (hc : chkFun tab fn g = true) (hl : FunsAll P tab l) : FunsAll P tab ((f, g) :: l)

theorem FunsAll.ok {P : Program} {tab : Tab} {l : List (Nat × GFun)} (h : FunsAll P tab l) : FunsOK P tab (find l) := by
  refine ⟨fun f g hf => ?_⟩
  have hm := find_mem hf
  clear hf
  induction h with
  | nil => cases hm
  | cons h hc _ ih =>
    rcases List.mem_cons.1 hm with e | hm
    · cases e; exact ⟨_, h, hc⟩
    · exact ih hm

/-- Bytes as rows. -/
def bytesV (l : List Int) : V := .fs (l.map fun n => [.int .u8 n])

/-- A law over one slice of bytes. -/
theorem law_walk {P : Program} {tab : Tab} {F : Table} {L d : Nat} (hTab : TabOK P tab) (hmix : P.follows .mixedOrders = true) (hF : FunsOK P tab F) {f : Nat} {zs : List Int} {len cap : Nat} {a : Option Addr} {H' : List Blk} {ng' : Nat}
    (h : gfun F L d f [bytesV (zs.take len)] [] 0 = some (.bool true, H', ng')) (w : World)
    (hr : (a = none ∧ len = 0 ∧ cap = 0 ∧ zs = []) ∨ ∃ x, a = some x ∧ len ≤ cap ∧ zs.length = cap ∧ ∀ i, i < zs.length → w.cell? (x.add i) = some (.int .u8 (zs.getD i 0))) :
    Calls P f #[.slice a len cap] w fun e w' => e = .returned (.bool true) ∧ Below w.heap.size w w' := by
  have hS : SR ⟨w.heap, fun b => b < w.heap.size, fun _ => none, fun _ => .nil, fun x => x < 0⟩ :=
    ⟨fun b h => h, fun id b h => (by cases h), fun id b h => (by cases h), fun id b h => (by cases h), fun id id' b b' p t t' h => (by cases h)⟩
  have hv : VR ⟨w.heap, fun b => b < w.heap.size, fun _ => none, fun _ => .nil, fun x => x < 0⟩ (bytesV (zs.take len)) (.slice a len cap) := by
    rcases hr with ⟨rfl, rfl, rfl, rfl⟩ | ⟨x, rfl, h1, h2, h3⟩
    · exact .fs [] none 0 0 0 0 (fun _ _ => Go.undef) (Nat.le_refl _) (fun h => absurd rfl h) (fun i row h => by simp at h) (fun i row j v h => by simp at h) (fun i j h => by simp at h) (fun i row j v h => by simp at h)
    · have hlen : ((zs.take len).map fun n => [V.int .u8 n]).length = len := by simp; omega
      have hget : ∀ (i : Nat) row, ((zs.take len).map fun n => [V.int .u8 n])[i]? = some row → i < len ∧ i < zs.length ∧ row = [V.int .u8 (zs.getD i 0)] := by
        intro i row hi
        rw [List.getElem?_map, Option.map_eq_some_iff] at hi
        obtain ⟨n, hn, rfl⟩ := hi
        rw [List.getElem?_take] at hn
        split at hn
        · rename_i hlt
          have hz := (List.getElem?_eq_some_iff.1 hn).1
          exact ⟨hlt, hz, by rw [List.getD_eq_getElem?_getD, hn]; rfl⟩
        · cases hn
      have hspot : 0 < len → x.spot = none := fun h0 => by
        have := h3 0 (by omega)
        simp only [Addr.add, if_true] at this
        unfold World.cell? at this
        split at this
        · cases hs : x.spot with
          | none => rfl
          | some s => simp [hs] at this
        · cases this
      have hadd : ∀ i, 0 < len → x.add i = ⟨x.block, x.off + i, none⟩ := fun i h0 => by
        unfold Addr.add
        split
        · rename_i e; subst e; have := hspot h0; cases x; simp_all
        · rfl
      have key := VR.fs (C := ⟨w.heap, fun b => b < w.heap.size, fun _ => none, fun _ => .nil, fun x => x < 0⟩) ((zs.take len).map fun n => [V.int .u8 n]) (some x) cap 1 x.block x.off (fun i _ => .int .u8 (zs.getD i 0)) (by omega) (fun hne => by
          have h0 : 0 < len := by
            cases hl : len with
            | zero => subst hl; simp at hne
            | succ n => omega
          have := hspot h0
          cases x; simp_all) (fun i row hi => by rw [(hget i row hi).2.2]; rfl) (fun i row j v hi hj => by
          rw [(hget i row hi).2.2] at hj
          cases j with
          | zero => simp at hj; subst hj; rfl
          | succ j => simp at hj) (fun i j hi hj => by
          have hj0 : j = 0 := by omega
          subst hj0
          have h0 : 0 < len := by omega
          have hc := h3 i (by omega)
          rw [hadd i h0, cell_eq] at hc
          refine ⟨?_, by simpa using hc⟩
          unfold cellAt at hc
          split at hc
          · rename_i hh; exact (Array.getElem?_eq_some_iff.1 hh).1
          · cases hc) (fun i row j v hi hj => by
          rw [(hget i row hi).2.2] at hj
          cases j with
          | zero => simp at hj; subst hj; exact .int _ _
          | succ j => simp at hj)
      rw [hlen] at key
      exact key
  refine Calls.mono ((gfun_ok hTab hmix hF d).run f [bytesV (zs.take len)] [] 0 (.bool true) H' ng' h _ w #[.slice a len cap] hS rfl hp_nil.symm rfl rfl fun i x hx => ?_) fun e w' hh => ?_
  · cases i with
    | zero => simp at hx; subst hx; exact hv
    | succ i => simp at hx
  · obtain ⟨r, C', rfl, S', hw', _, _, E', hv', o1, o2, o3⟩ := hh
    cases hv'
    exact ⟨rfl, o1, o2, o3, by rw [hw']; exact E'.size, fun k hk => by rw [hw']; exact E'.old k hk (by rintro ⟨_, _, _, h, _⟩; cases h)⟩

end Gh
