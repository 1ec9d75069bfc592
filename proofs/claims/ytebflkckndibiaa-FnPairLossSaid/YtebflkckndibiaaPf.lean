/- Plain laws: sorting, due order, and lateness. -/
import Derived.Test.YtebflkckndibiaaPe
namespace Gh
open Go
set_option linter.unusedSimpArgs false
set_option linter.unusedVariables false
set_option maxRecDepth 100000

theorem ic_perm {r : List Int} {p : List Nat} (h : r.Perm (ic p)) : ∃ q : List Nat, r = ic q ∧ q.Perm p := by
  refine ⟨r.map Int.toNat, ?_, ?_⟩
  · unfold ic
    rw [List.map_map]
    refine (List.map_id' r).symm.trans (List.map_congr_left fun x hx => ?_)
    obtain ⟨i, _, rfl⟩ := ic_mem.1 (h.mem_iff.1 hx)
    simp
  · have := h.map Int.toNat
    have e : (ic p).map Int.toNat = p := by
      unfold ic
      rw [List.map_map]
      conv => rhs; rw [← List.map_id p]
      exact List.map_congr_left fun x _ => by simp
    rwa [e] at this
end Gh
