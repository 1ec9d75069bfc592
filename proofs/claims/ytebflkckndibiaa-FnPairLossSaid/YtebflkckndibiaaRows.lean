/-
  No cell of these rows narrows 'for every input' (looked for: loops, veiled, ifaces, maps, wideKeys, modest, calm, conditions, laid).
  DERIVED. THE GIVEN ROWS OF THIS SEAT. 4 by the template 'for every input the law returns true; each argument reads behind the call as it read before'; 0 by the template 'total and deterministic' (their statements: YtebflkckndibiaaTotals.lean).
  GIVEN WITH THE SEED: the statements are not yours to turn. If you find one false, say at which input.
  Laid BY PROGRAM, IN A SANDBOX (cutbox-rows.mjs): the forced cells as the released guide's own fill.sh prints them over the translation 3683e005a0d102f9… (all of the seat's roots in one cut). By AI agents, Wed Nov 11 2026. No macro, syntax, notation, axiom, sorry.
-/
import Derived.Test.YtebflkckndibiaaChecked
import GoSem.Claim
import GoSem.ClaimJoined
import GoSem.ClaimMapViews
import Derived.JoinedTies
import Derived.KernelRfl
namespace Go.Proofs.Ytebflkckndibiaa
/- THE CELL 'sum', in the pinned program and in every row, IS THE sha256 OF THE DUMP (.gsa) THAT YtebflkckndibiaaProg.lean LOADS. Nothing in Lean hashes anything: it is a label: what it is worth is what the hold of that sum in a sandbox is worth. -/
noncomputable def Try.pinned : Pinned := { name := "ytebflkckndibiaa", sum := "3683e005a0d102f903b62144fd25531a9dbeaec98345bebbcb404c4a07e9a2bc", checked := Try.checked }
namespace Rows
def none {H : Type} : Left H := { results := [], args := [] }

/-- 'laws.FnRuledOrders': WHATEVER THE INPUT: true; the input reads as it did. -/
def fnRuledOrdersSpec : ChangeSpec := { name := "fnRuledOrders", fn := fun _ => fun
  | [d] => { results := [.lit (.bool true)], args := [d] }
  | _ => none }
def fnRuledOrdersRow : OpenClaim := { program := "ytebflkckndibiaa", sum := "3683e005a0d102f903b62144fd25531a9dbeaec98345bebbcb404c4a07e9a2bc", func := "loop.example/g01103/laws.FnRuledOrders", spec := "fnRuledOrders", unfollowed := true, recurses := true, apart := false }
def FnRuledOrdersSaid : Prop := fnRuledOrdersRow.holds Try.pinned (OpenSpec.ofChange fnRuledOrdersSpec)

/-- ITS FALSE NEIGHBOUR: 'it returns false'. Refute it at one input. -/
def fnRuledOrdersWrong : ChangeSpec := { name := "fnRuledOrders", fn := fun _ => fun
  | [d] => { results := [.lit (.bool false)], args := [d] }
  | _ => none }
def FnRuledOrdersWrongFalsely : Prop := fnRuledOrdersRow.holds Try.pinned (OpenSpec.ofChange fnRuledOrdersWrong)

/-- 'laws.FnLatenessProof': WHATEVER THE INPUT: true; the input reads as it did. -/
def fnLatenessProofSpec : ChangeSpec := { name := "fnLatenessProof", fn := fun _ => fun
  | [d] => { results := [.lit (.bool true)], args := [d] }
  | _ => none }
def fnLatenessProofRow : OpenClaim := { program := "ytebflkckndibiaa", sum := "3683e005a0d102f903b62144fd25531a9dbeaec98345bebbcb404c4a07e9a2bc", func := "loop.example/g01103/laws.FnLatenessProof", spec := "fnLatenessProof", unfollowed := true, recurses := true, apart := false }
def FnLatenessProofSaid : Prop := fnLatenessProofRow.holds Try.pinned (OpenSpec.ofChange fnLatenessProofSpec)

/-- ITS FALSE NEIGHBOUR: 'it returns false'. Refute it at one input. -/
def fnLatenessProofWrong : ChangeSpec := { name := "fnLatenessProof", fn := fun _ => fun
  | [d] => { results := [.lit (.bool false)], args := [d] }
  | _ => none }
def FnLatenessProofWrongFalsely : Prop := fnLatenessProofRow.holds Try.pinned (OpenSpec.ofChange fnLatenessProofWrong)

/-- 'laws.FnLateness': WHATEVER THE INPUT: true; the input reads as it did. -/
def fnLatenessSpec : ChangeSpec := { name := "fnLateness", fn := fun _ => fun
  | [d] => { results := [.lit (.bool true)], args := [d] }
  | _ => none }
def fnLatenessRow : OpenClaim := { program := "ytebflkckndibiaa", sum := "3683e005a0d102f903b62144fd25531a9dbeaec98345bebbcb404c4a07e9a2bc", func := "loop.example/g01103/laws.FnLateness", spec := "fnLateness", unfollowed := true, recurses := true, apart := false }
def FnLatenessSaid : Prop := fnLatenessRow.holds Try.pinned (OpenSpec.ofChange fnLatenessSpec)

/-- ITS FALSE NEIGHBOUR: 'it returns false'. Refute it at one input. -/
def fnLatenessWrong : ChangeSpec := { name := "fnLateness", fn := fun _ => fun
  | [d] => { results := [.lit (.bool false)], args := [d] }
  | _ => none }
def FnLatenessWrongFalsely : Prop := fnLatenessRow.holds Try.pinned (OpenSpec.ofChange fnLatenessWrong)

/-- 'laws.FnPairLoss': WHATEVER THE INPUT: true; the input reads as it did. -/
def fnPairLossSpec : ChangeSpec := { name := "fnPairLoss", fn := fun _ => fun
  | [d] => { results := [.lit (.bool true)], args := [d] }
  | _ => none }
def fnPairLossRow : OpenClaim := { program := "ytebflkckndibiaa", sum := "3683e005a0d102f903b62144fd25531a9dbeaec98345bebbcb404c4a07e9a2bc", func := "loop.example/g01103/laws.FnPairLoss", spec := "fnPairLoss", unfollowed := true, recurses := true, apart := false }
def FnPairLossSaid : Prop := fnPairLossRow.holds Try.pinned (OpenSpec.ofChange fnPairLossSpec)

/-- ITS FALSE NEIGHBOUR: 'it returns false'. Refute it at one input. -/
def fnPairLossWrong : ChangeSpec := { name := "fnPairLoss", fn := fun _ => fun
  | [d] => { results := [.lit (.bool false)], args := [d] }
  | _ => none }
def FnPairLossWrongFalsely : Prop := fnPairLossRow.holds Try.pinned (OpenSpec.ofChange fnPairLossWrong)

/- THE SECOND FORM. 'bulk': how many values and letters a reading holds, each counted each time it is reached (what is shared counts as often as it is met; a slice's spare places count too). A statement '..UptoSaid' is the law's where the arguments, and the package variables that the reading takes, are together of bulk at most 1048576: NARROWER than '..Said'. Prove '..Said' where nothing that the law and all that it calls make is longer than what came in: it says more and counts as full. Else prove '..UptoSaid'. A law counts once. -/
mutual
def uptoBulk {H : Type} : DataW H → Nat
  | .lit (.string bytes) => bytes.length + 1
  | .lit _ => 1
  | .nil => 1
  | .ptr d => uptoBulk d + 1
  | .slice elems spare => uptoBulkAll elems + uptoBulkAll spare + 1
  | .agg parts => uptoBulkAll parts + 1
  | .iface _ d => uptoBulk d + 1
  | .map entries => uptoBulkEntries entries + 1
  | .held _ => 1
def uptoBulkAll {H : Type} : List (DataW H) → Nat
  | [] => 0
  | d :: r => uptoBulk d + uptoBulkAll r
def uptoBulkEntries {H : Type} : List (Lit × DataW H) → Nat
  | [] => 0
  | x :: r => uptoBulkEntry x + uptoBulkEntries r
def uptoBulkEntry {H : Type} : Lit × DataW H → Nat
  | (.string bytes, d) => bytes.length + uptoBulk d + 1
  | (_, d) => uptoBulk d + 1
 end
def uptoSmall : (H : Type) → List (DataW H) → Bool := fun _ ds => decide (uptoBulkAll ds ≤ 1048576)
def OpenSpec.upto (s : _root_.Go.ChangeSpec) : _root_.Go.OpenSpec := { _root_.Go.OpenSpec.ofChange s with cond := some uptoSmall }

/-- 'laws.FnRuledOrders', WHERE WHAT IT READS IS OF BULK AT MOST 1048576: true; the input reads as it did. -/
def fnRuledOrdersUptoRow : OpenClaim := { program := "ytebflkckndibiaa", sum := "3683e005a0d102f903b62144fd25531a9dbeaec98345bebbcb404c4a07e9a2bc", func := "loop.example/g01103/laws.FnRuledOrders", spec := "fnRuledOrders", unfollowed := true, recurses := true, apart := false, narrowed := true }
def FnRuledOrdersUptoSaid : Prop := fnRuledOrdersUptoRow.holds Try.pinned (OpenSpec.upto fnRuledOrdersSpec)

/-- 'laws.FnLatenessProof', WHERE WHAT IT READS IS OF BULK AT MOST 1048576: true; the input reads as it did. -/
def fnLatenessProofUptoRow : OpenClaim := { program := "ytebflkckndibiaa", sum := "3683e005a0d102f903b62144fd25531a9dbeaec98345bebbcb404c4a07e9a2bc", func := "loop.example/g01103/laws.FnLatenessProof", spec := "fnLatenessProof", unfollowed := true, recurses := true, apart := false, narrowed := true }
def FnLatenessProofUptoSaid : Prop := fnLatenessProofUptoRow.holds Try.pinned (OpenSpec.upto fnLatenessProofSpec)

/-- 'laws.FnLateness', WHERE WHAT IT READS IS OF BULK AT MOST 1048576: true; the input reads as it did. -/
def fnLatenessUptoRow : OpenClaim := { program := "ytebflkckndibiaa", sum := "3683e005a0d102f903b62144fd25531a9dbeaec98345bebbcb404c4a07e9a2bc", func := "loop.example/g01103/laws.FnLateness", spec := "fnLateness", unfollowed := true, recurses := true, apart := false, narrowed := true }
def FnLatenessUptoSaid : Prop := fnLatenessUptoRow.holds Try.pinned (OpenSpec.upto fnLatenessSpec)

/-- 'laws.FnPairLoss', WHERE WHAT IT READS IS OF BULK AT MOST 1048576: true; the input reads as it did. -/
def fnPairLossUptoRow : OpenClaim := { program := "ytebflkckndibiaa", sum := "3683e005a0d102f903b62144fd25531a9dbeaec98345bebbcb404c4a07e9a2bc", func := "loop.example/g01103/laws.FnPairLoss", spec := "fnPairLoss", unfollowed := true, recurses := true, apart := false, narrowed := true }
def FnPairLossUptoSaid : Prop := fnPairLossUptoRow.holds Try.pinned (OpenSpec.upto fnPairLossSpec)

end Rows
end Go.Proofs.Ytebflkckndibiaa
