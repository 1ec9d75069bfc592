/- The law FnSetValues holds for every input: it returns true, and its argument reads as before. No conditions. -/
import Derived.Test.YtmjdjnphjpcfcaaRows
import Derived.Test.YtmjdjnphjpcfcaaSc
import Derived.Test.YtmjdjnphjpcfcaaRd
import Derived.WalkKit
import Derived.ProofKit
import Derived.OpenShut
import Derived.ShutString
import Derived.ChangeOld
import Derived.Below
import Derived.SizedLaws
import Derived.KernelRfl
namespace Go.Proofs.Ytmjdjnphjpcfcaa.fnSetValues
open Go Go.ChangeShapes Go.WideShapes Go.ChangeAt Go.RowKit
set_option linter.unusedVariables false
set_option maxRecDepth 100000

theorem own : ownKnob Try.prog.godebug = none := by kernel_rfl
theorem laidOut : laidOutB Try.prog = true := by kernel_rfl
theorem noEq : (Gh.tyL.all fun x => !x.2.eqok) = true := by kernel_rfl
theorem tabOK : Gh.TabOK Try.prog Gh.tab := Gh.tabB_ok Gh.tyB fun t ti hm he => by
  have := List.all_eq_true.1 noEq _ hm
  simp [he] at this
/-- What a truth value is handed back as. -/
theorem out_bool {h : Gh.Hp} {st : List Gh.Blk × List Nat × Nat} {v : Gh.V} {b : Bool} {s : List Gh.Blk × List Nat × Nat} (e : Gh.outR false h 0 st v = some (.bool b, s)) : v = .bool b := by
  cases v with
  | bool c => simp [Gh.outR, Gh.outV, Gh.outC] at e; rw [e.1]
  | os id g sz off len =>
    simp only [Gh.outR, Gh.outV, Gh.outC, Nat.not_lt_zero, if_false, Bool.false_eq_true, Gh.expDepth, Gh.expC, Nat.zero_le, if_true, Option.map_eq_some_iff, Prod.mk.injEq, Option.bind_eq_some_iff, Option.ite_none_right_eq_some] at e
    obtain ⟨x, ⟨_, _, _, _, _, rfl⟩, e, _⟩ := e
    cases e
  | _ => simp [Gh.outR, Gh.outV, Gh.outC] at e
theorem u8_range {n : Int} (h : (Lit.int .u8 n).wf = true) : 0 ≤ n ∧ n < 256 := by
  have h1 : IntKind.u8.min = 0 := by decide
  have h2 : IntKind.u8.max = 255 := by decide
  simp [Lit.wf] at h
  omega
/-- The ghost's answer. -/
theorem answer (zs : List Int) (hz : ∀ z ∈ zs, 0 ≤ z ∧ z < 256) : ∃ H ng, Gh.gfun Gh.F Gh.LL 110 Gh.n_laws_FnSetValues [Gh.bytesV zs] [] 0 = some (.bool true, H, ng) := by
  obtain ⟨v, H, ng, h1, _, h3⟩ := Gh.at_laws_FnSetValues 110 (Nat.le_refl _) zs true (Gh.setValues_true hz)
  have := out_bool (h3 [] 0)
  subst this
  exact ⟨H, ng, h1⟩

def IsRow (k : IntKind) (w : World) (a : Option Addr) (len cap : Nat) (zs : List Int) : Prop :=
  (a = none ∧ len = 0 ∧ cap = 0 ∧ zs = []) ∨
  ∃ x, a = some x ∧ len ≤ cap ∧ cap ≤ maxLen ∧ zs.length = cap ∧ (∀ i, i < zs.length → w.cell? (x.add i) = some (.int k (zs.getD i 0))) ∧ ∀ n ∈ zs, (Lit.int k n).wf = true
theorem lifted (os : Os) (started : os.Started) (H : Type) (enc : TypeId × Value → H) :
    ReturnsInHanded {} Try.checked os 3 .any (Rows.fnSetValuesSpec.pre6 enc Try.prog Try.f3 Rows.fnSetValuesRow.domain false) (Rows.fnSetValuesSpec.post enc Try.prog Try.f3 false true false false) := by
  refine returnsInHanded_of_change_sized (C := Try.checked) own started (by kernel_rfl) Try.func3
    (ChangeSpec.witness6 (enc := enc) (C := Try.checked) false ⟨#[], #[.slice none 0 0], []⟩ 8 (by kernel_rfl) (by kernel_rfl) (by kernel_rfl) (by kernel_rfl)) ?_
  intro W base args ds gs before hval0 hW hcnd hsz0 _
  have hval : ∀ (j : Nat) t v, Try.f3.params[j]? = some t → args[j]? = some v → Value.okWide Try.prog W .any base t v := hval0
  have hW' := hW
  obtain ⟨p, q, hA0, hV, rfl, hfz, hnd⟩ := hW
  have hA : DataW.TrodAll enc Try.prog W 0 (fun _ => true) true Try.f3.params.toList args.toList ds p := hA0
  rw [Try.params3] at hA hval
  obtain ⟨v0, vs0, d0, ds0, p0, q0, hargs, rfl, rfl, h0, r0⟩ := trodAll_cons hA
  obtain ⟨rfl, rfl, rfl⟩ := trodAll_nil r0
  obtain rfl : args = #[v0] := by cases args; simp_all
  obtain ⟨rfl, rfl⟩ := trodVars_none hV
  obtain ⟨a0, len0, cap0, rfl⟩ := okWide_slice Try.underlying22 (hval 0 22 v0 rfl rfl)
  have k0 := h0
  have lt0 : ∀ x ∈ p0, x.block < W.heap.size := by obtain ⟨m, hm⟩ := k0; exact DataW.trod_lt m _ _ _ hm
  obtain ⟨z0, w0⟩ : ∃ zs, IsRow .u8 W a0 len0 cap0 zs := by
    obtain ⟨fuel, hf⟩ := h0
    rcases open_ints Try.underlying22 Try.underlying5 (by kernel_rfl) hf with ⟨hcs, _⟩ | ⟨x, l, c, zs, hcs, _, hl, hm, hz, _, hcell, hwz⟩
    · simp [Value.cells] at hcs
      obtain ⟨rfl, rfl, rfl⟩ := hcs
      exact ⟨[], .inl ⟨rfl, rfl, rfl, rfl⟩⟩
    · simp [Value.cells] at hcs
      obtain ⟨rfl, rfl, rfl⟩ := hcs
      exact ⟨zs, .inr ⟨_, rfl, hl, hm, by simpa using hz, hcell, hwz⟩⟩
  clear hA0 hval0 hsz0
  obtain ⟨HH, ng, hg⟩ := answer (z0.take len0) (fun z hz => by
    rcases w0 with ⟨_, _, _, rfl⟩ | ⟨_, _, _, _, _, _, hwf⟩
    · simp at hz
    · exact u8_range (hwf z (List.mem_of_mem_take hz)))
  have walk := Gh.law_walk tabOK Gh.mixed Gh.funs (a := a0) (cap := cap0) hg W (by
    rcases w0 with h | ⟨x, h1, h2, _, h3, h4, _⟩
    · exact .inl h
    · exact .inr ⟨x, h1, h2, h3, h4⟩)
  refine walk.mono fun e W' ⟨he, bel⟩ => ?_
  subst he
  exact ⟨_, rfl, _, _, _, [], _, [], hW', trodAll_mk1 (shut_bool Try.underlying4 _), (trodAll_cons_mk (Below.trod laidOut (by kernel_rfl) (of_decide_eq_true (by kernel_rfl)) k0 bel lt0) trodAll_mk0), rfl, bel.frame _, fun h => by cases h⟩
theorem over : Rows.fnSetValuesRow.holds Try.pinned (OpenSpec.ofChange Rows.fnSetValuesSpec) :=
  OpenClaim.holds_of_wide 3 Try.f3 rfl rfl rfl rfl rfl rfl rfl ⟨rfl, rfl, rfl, rfl, rfl⟩ rfl rfl rfl rfl rfl (by kernel_rfl) Try.func3 (by kernel_rfl)
    (of_decide_eq_true (by kernel_rfl)) (by unfold Func.isWrapper; first | (rw [if_pos (by decide +kernel)]; kernel_rfl) | (rw [if_neg (by decide +kernel)]; exact ⟨rfl, rfl⟩))
    (fun os started H enc _ => lifted os started H enc)
theorem proved : Rows.FnSetValuesSaid := over
#print axioms proved
end Go.Proofs.Ytmjdjnphjpcfcaa.fnSetValues
namespace Go.Proofs.Ytmjdjnphjpcfcaa
/-- The row, under a short name, for the claim. -/
theorem fnSetValues_holds : Rows.FnSetValuesSaid := fnSetValues.proved
end Go.Proofs.Ytmjdjnphjpcfcaa
