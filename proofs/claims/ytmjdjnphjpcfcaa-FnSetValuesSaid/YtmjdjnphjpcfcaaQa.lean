/- Plain laws: more draws; lists that are cut; equal lists. -/
import Derived.Test.YtmjdjnphjpcfcaaPg
namespace Gh
open Go
set_option linter.unusedSimpArgs false
set_option linter.unusedVariables false
set_option maxRecDepth 100000

theorem CK.start {code : List Int} (hc : ∀ z ∈ code, 0 ≤ z ∧ z < 256) (m : Nat) (hm : m < 1000000000) : CK m ⟨code, 0, 0⟩ := ⟨hc, by show (0 : Int) ≤ 0; omega, by show (0 : Int) + _ < _; omega⟩
end Gh
