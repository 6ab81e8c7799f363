/-
  No cell of these rows narrows 'for every input' (looked for: loops, veiled, ifaces, maps, wideKeys, modest, calm, conditions, laid).
  DERIVED. THE GIVEN ROWS OF THIS SEAT. 10 by the template 'for every input the law returns true; each argument reads behind the call as it read before'; 0 by the template 'total and deterministic' (their statements: YtbaamhniffpnpaaTotals.lean).
  GIVEN WITH THE SEED: the statements are not yours to turn. If you find one false, say at which input.
  Laid BY PROGRAM, IN A SANDBOX (cutbox-rows.mjs): the forced cells as the released guide's own fill.sh prints them over the translation d27b74d526de8801… (all of the seat's roots in one cut). By AI agents, Wed Nov 11 2026. No macro, syntax, notation, axiom, sorry.
-/
import Derived.Test.YtbaamhniffpnpaaChecked
import GoSem.Claim
import GoSem.ClaimJoined
import GoSem.ClaimMapViews
import Derived.JoinedTies
import Derived.KernelRfl
namespace Go.Proofs.Ytbaamhniffpnpaa
/- THE CELL 'sum', in the pinned program and in every row, IS THE sha256 OF THE DUMP (.gsa) THAT YtbaamhniffpnpaaProg.lean LOADS. Nothing in Lean hashes anything: it is a label: what it is worth is what the hold of that sum in a sandbox is worth. -/
noncomputable def Try.pinned : Pinned := { name := "ytbaamhniffpnpaa", sum := "d27b74d526de88014a8bca3e516d4a3abd73aff17c179fe8455c52a62e6eb7f2", checked := Try.checked }
namespace Rows
def none {H : Type} : Left H := { results := [], args := [] }

/-- 'laws.FnExactUnleapOf': WHATEVER THE INPUT: true; the input reads as it did. -/
def fnExactUnleapOfSpec : ChangeSpec := { name := "fnExactUnleapOf", fn := fun _ => fun
  | [d] => { results := [.lit (.bool true)], args := [d] }
  | _ => none }
def fnExactUnleapOfRow : OpenClaim := { program := "ytbaamhniffpnpaa", sum := "d27b74d526de88014a8bca3e516d4a3abd73aff17c179fe8455c52a62e6eb7f2", func := "loop.example/wholewaves/laws.FnExactUnleapOf", spec := "fnExactUnleapOf", apart := false }
def FnExactUnleapOfSaid : Prop := fnExactUnleapOfRow.holds Try.pinned (OpenSpec.ofChange fnExactUnleapOfSpec)

/-- ITS FALSE NEIGHBOUR: 'it returns false'. Refute it at one input. -/
def fnExactUnleapOfWrong : ChangeSpec := { name := "fnExactUnleapOf", fn := fun _ => fun
  | [d] => { results := [.lit (.bool false)], args := [d] }
  | _ => none }
def FnExactUnleapOfWrongFalsely : Prop := fnExactUnleapOfRow.holds Try.pinned (OpenSpec.ofChange fnExactUnleapOfWrong)

/-- 'laws.FnExactUnhalveAll': WHATEVER THE INPUT: true; the input reads as it did. -/
def fnExactUnhalveAllSpec : ChangeSpec := { name := "fnExactUnhalveAll", fn := fun _ => fun
  | [d] => { results := [.lit (.bool true)], args := [d] }
  | _ => none }
def fnExactUnhalveAllRow : OpenClaim := { program := "ytbaamhniffpnpaa", sum := "d27b74d526de88014a8bca3e516d4a3abd73aff17c179fe8455c52a62e6eb7f2", func := "loop.example/wholewaves/laws.FnExactUnhalveAll", spec := "fnExactUnhalveAll", apart := false }
def FnExactUnhalveAllSaid : Prop := fnExactUnhalveAllRow.holds Try.pinned (OpenSpec.ofChange fnExactUnhalveAllSpec)

/-- ITS FALSE NEIGHBOUR: 'it returns false'. Refute it at one input. -/
def fnExactUnhalveAllWrong : ChangeSpec := { name := "fnExactUnhalveAll", fn := fun _ => fun
  | [d] => { results := [.lit (.bool false)], args := [d] }
  | _ => none }
def FnExactUnhalveAllWrongFalsely : Prop := fnExactUnhalveAllRow.holds Try.pinned (OpenSpec.ofChange fnExactUnhalveAllWrong)

/-- 'laws.FnExactHalveAll': WHATEVER THE INPUT: true; the input reads as it did. -/
def fnExactHalveAllSpec : ChangeSpec := { name := "fnExactHalveAll", fn := fun _ => fun
  | [d] => { results := [.lit (.bool true)], args := [d] }
  | _ => none }
def fnExactHalveAllRow : OpenClaim := { program := "ytbaamhniffpnpaa", sum := "d27b74d526de88014a8bca3e516d4a3abd73aff17c179fe8455c52a62e6eb7f2", func := "loop.example/wholewaves/laws.FnExactHalveAll", spec := "fnExactHalveAll", apart := false }
def FnExactHalveAllSaid : Prop := fnExactHalveAllRow.holds Try.pinned (OpenSpec.ofChange fnExactHalveAllSpec)

/-- ITS FALSE NEIGHBOUR: 'it returns false'. Refute it at one input. -/
def fnExactHalveAllWrong : ChangeSpec := { name := "fnExactHalveAll", fn := fun _ => fun
  | [d] => { results := [.lit (.bool false)], args := [d] }
  | _ => none }
def FnExactHalveAllWrongFalsely : Prop := fnExactHalveAllRow.holds Try.pinned (OpenSpec.ofChange fnExactHalveAllWrong)

/-- 'laws.FnExactLeapOf': WHATEVER THE INPUT: true; the input reads as it did. -/
def fnExactLeapOfSpec : ChangeSpec := { name := "fnExactLeapOf", fn := fun _ => fun
  | [d] => { results := [.lit (.bool true)], args := [d] }
  | _ => none }
def fnExactLeapOfRow : OpenClaim := { program := "ytbaamhniffpnpaa", sum := "d27b74d526de88014a8bca3e516d4a3abd73aff17c179fe8455c52a62e6eb7f2", func := "loop.example/wholewaves/laws.FnExactLeapOf", spec := "fnExactLeapOf", apart := false }
def FnExactLeapOfSaid : Prop := fnExactLeapOfRow.holds Try.pinned (OpenSpec.ofChange fnExactLeapOfSpec)

/-- ITS FALSE NEIGHBOUR: 'it returns false'. Refute it at one input. -/
def fnExactLeapOfWrong : ChangeSpec := { name := "fnExactLeapOf", fn := fun _ => fun
  | [d] => { results := [.lit (.bool false)], args := [d] }
  | _ => none }
def FnExactLeapOfWrongFalsely : Prop := fnExactLeapOfRow.holds Try.pinned (OpenSpec.ofChange fnExactLeapOfWrong)

/-- 'laws.FnUnhalveOf': WHATEVER THE INPUT: true; the input reads as it did. -/
def fnUnhalveOfSpec : ChangeSpec := { name := "fnUnhalveOf", fn := fun _ => fun
  | [d] => { results := [.lit (.bool true)], args := [d] }
  | _ => none }
def fnUnhalveOfRow : OpenClaim := { program := "ytbaamhniffpnpaa", sum := "d27b74d526de88014a8bca3e516d4a3abd73aff17c179fe8455c52a62e6eb7f2", func := "loop.example/wholewaves/laws.FnUnhalveOf", spec := "fnUnhalveOf", apart := false }
def FnUnhalveOfSaid : Prop := fnUnhalveOfRow.holds Try.pinned (OpenSpec.ofChange fnUnhalveOfSpec)

/-- ITS FALSE NEIGHBOUR: 'it returns false'. Refute it at one input. -/
def fnUnhalveOfWrong : ChangeSpec := { name := "fnUnhalveOf", fn := fun _ => fun
  | [d] => { results := [.lit (.bool false)], args := [d] }
  | _ => none }
def FnUnhalveOfWrongFalsely : Prop := fnUnhalveOfRow.holds Try.pinned (OpenSpec.ofChange fnUnhalveOfWrong)

/-- 'laws.FnHalveOf': WHATEVER THE INPUT: true; the input reads as it did. -/
def fnHalveOfSpec : ChangeSpec := { name := "fnHalveOf", fn := fun _ => fun
  | [d] => { results := [.lit (.bool true)], args := [d] }
  | _ => none }
def fnHalveOfRow : OpenClaim := { program := "ytbaamhniffpnpaa", sum := "d27b74d526de88014a8bca3e516d4a3abd73aff17c179fe8455c52a62e6eb7f2", func := "loop.example/wholewaves/laws.FnHalveOf", spec := "fnHalveOf", apart := false }
def FnHalveOfSaid : Prop := fnHalveOfRow.holds Try.pinned (OpenSpec.ofChange fnHalveOfSpec)

/-- ITS FALSE NEIGHBOUR: 'it returns false'. Refute it at one input. -/
def fnHalveOfWrong : ChangeSpec := { name := "fnHalveOf", fn := fun _ => fun
  | [d] => { results := [.lit (.bool false)], args := [d] }
  | _ => none }
def FnHalveOfWrongFalsely : Prop := fnHalveOfRow.holds Try.pinned (OpenSpec.ofChange fnHalveOfWrong)

/-- 'laws.FnUnleapOf': WHATEVER THE INPUT: true; the input reads as it did. -/
def fnUnleapOfSpec : ChangeSpec := { name := "fnUnleapOf", fn := fun _ => fun
  | [d] => { results := [.lit (.bool true)], args := [d] }
  | _ => none }
def fnUnleapOfRow : OpenClaim := { program := "ytbaamhniffpnpaa", sum := "d27b74d526de88014a8bca3e516d4a3abd73aff17c179fe8455c52a62e6eb7f2", func := "loop.example/wholewaves/laws.FnUnleapOf", spec := "fnUnleapOf", apart := false }
def FnUnleapOfSaid : Prop := fnUnleapOfRow.holds Try.pinned (OpenSpec.ofChange fnUnleapOfSpec)

/-- ITS FALSE NEIGHBOUR: 'it returns false'. Refute it at one input. -/
def fnUnleapOfWrong : ChangeSpec := { name := "fnUnleapOf", fn := fun _ => fun
  | [d] => { results := [.lit (.bool false)], args := [d] }
  | _ => none }
def FnUnleapOfWrongFalsely : Prop := fnUnleapOfRow.holds Try.pinned (OpenSpec.ofChange fnUnleapOfWrong)

/-- 'laws.FnLeapOf': WHATEVER THE INPUT: true; the input reads as it did. -/
def fnLeapOfSpec : ChangeSpec := { name := "fnLeapOf", fn := fun _ => fun
  | [d] => { results := [.lit (.bool true)], args := [d] }
  | _ => none }
def fnLeapOfRow : OpenClaim := { program := "ytbaamhniffpnpaa", sum := "d27b74d526de88014a8bca3e516d4a3abd73aff17c179fe8455c52a62e6eb7f2", func := "loop.example/wholewaves/laws.FnLeapOf", spec := "fnLeapOf", apart := false }
def FnLeapOfSaid : Prop := fnLeapOfRow.holds Try.pinned (OpenSpec.ofChange fnLeapOfSpec)

/-- ITS FALSE NEIGHBOUR: 'it returns false'. Refute it at one input. -/
def fnLeapOfWrong : ChangeSpec := { name := "fnLeapOf", fn := fun _ => fun
  | [d] => { results := [.lit (.bool false)], args := [d] }
  | _ => none }
def FnLeapOfWrongFalsely : Prop := fnLeapOfRow.holds Try.pinned (OpenSpec.ofChange fnLeapOfWrong)

/-- 'laws.FnUnhalveAll': WHATEVER THE INPUT: true; the input reads as it did. -/
def fnUnhalveAllSpec : ChangeSpec := { name := "fnUnhalveAll", fn := fun _ => fun
  | [d] => { results := [.lit (.bool true)], args := [d] }
  | _ => none }
def fnUnhalveAllRow : OpenClaim := { program := "ytbaamhniffpnpaa", sum := "d27b74d526de88014a8bca3e516d4a3abd73aff17c179fe8455c52a62e6eb7f2", func := "loop.example/wholewaves/laws.FnUnhalveAll", spec := "fnUnhalveAll", apart := false }
def FnUnhalveAllSaid : Prop := fnUnhalveAllRow.holds Try.pinned (OpenSpec.ofChange fnUnhalveAllSpec)

/-- ITS FALSE NEIGHBOUR: 'it returns false'. Refute it at one input. -/
def fnUnhalveAllWrong : ChangeSpec := { name := "fnUnhalveAll", fn := fun _ => fun
  | [d] => { results := [.lit (.bool false)], args := [d] }
  | _ => none }
def FnUnhalveAllWrongFalsely : Prop := fnUnhalveAllRow.holds Try.pinned (OpenSpec.ofChange fnUnhalveAllWrong)

/-- 'laws.FnHalveAll': WHATEVER THE INPUT: true; the input reads as it did. -/
def fnHalveAllSpec : ChangeSpec := { name := "fnHalveAll", fn := fun _ => fun
  | [d] => { results := [.lit (.bool true)], args := [d] }
  | _ => none }
def fnHalveAllRow : OpenClaim := { program := "ytbaamhniffpnpaa", sum := "d27b74d526de88014a8bca3e516d4a3abd73aff17c179fe8455c52a62e6eb7f2", func := "loop.example/wholewaves/laws.FnHalveAll", spec := "fnHalveAll", apart := false }
def FnHalveAllSaid : Prop := fnHalveAllRow.holds Try.pinned (OpenSpec.ofChange fnHalveAllSpec)

/-- ITS FALSE NEIGHBOUR: 'it returns false'. Refute it at one input. -/
def fnHalveAllWrong : ChangeSpec := { name := "fnHalveAll", fn := fun _ => fun
  | [d] => { results := [.lit (.bool false)], args := [d] }
  | _ => none }
def FnHalveAllWrongFalsely : Prop := fnHalveAllRow.holds Try.pinned (OpenSpec.ofChange fnHalveAllWrong)

/- THE SECOND FORM. 'bulk': how many values and letters a reading holds, each counted each time it is reached (what is shared counts as often as it is met; a slice's spare places count too). A statement '..UptoSaid' is the law's where the arguments, and the package variables that the reading takes, are together of bulk at most 1048576: NARROWER than '..Said'. Prove '..Said' where nothing that the law and all that it calls make is longer than what came in: it says more and counts as full. Else prove '..UptoSaid'. A law counts once. -/
mutual
def uptoBulk {H : Type} : DataW H → Nat
  | .lit (.string bytes) => bytes.length + 1
  | .lit _ => 1
  | .nil => 1
  | .ptr d => uptoBulk d + 1
  | .slice elems spare => uptoBulkAll elems + uptoBulkAll spare + 1
  | .agg parts => uptoBulkAll parts + 1
  | .iface _ d => uptoBulk d + 1
  | .map entries => uptoBulkEntries entries + 1
  | .held _ => 1
def uptoBulkAll {H : Type} : List (DataW H) → Nat
  | [] => 0
  | d :: r => uptoBulk d + uptoBulkAll r
def uptoBulkEntries {H : Type} : List (Lit × DataW H) → Nat
  | [] => 0
  | x :: r => uptoBulkEntry x + uptoBulkEntries r
def uptoBulkEntry {H : Type} : Lit × DataW H → Nat
  | (.string bytes, d) => bytes.length + uptoBulk d + 1
  | (_, d) => uptoBulk d + 1
 end
def uptoSmall : (H : Type) → List (DataW H) → Bool := fun _ ds => decide (uptoBulkAll ds ≤ 1048576)
def OpenSpec.upto (s : _root_.Go.ChangeSpec) : _root_.Go.OpenSpec := { _root_.Go.OpenSpec.ofChange s with cond := some uptoSmall }

/-- 'laws.FnExactUnleapOf', WHERE WHAT IT READS IS OF BULK AT MOST 1048576: true; the input reads as it did. -/
def fnExactUnleapOfUptoRow : OpenClaim := { program := "ytbaamhniffpnpaa", sum := "d27b74d526de88014a8bca3e516d4a3abd73aff17c179fe8455c52a62e6eb7f2", func := "loop.example/wholewaves/laws.FnExactUnleapOf", spec := "fnExactUnleapOf", apart := false, narrowed := true }
def FnExactUnleapOfUptoSaid : Prop := fnExactUnleapOfUptoRow.holds Try.pinned (OpenSpec.upto fnExactUnleapOfSpec)

/-- 'laws.FnExactUnhalveAll', WHERE WHAT IT READS IS OF BULK AT MOST 1048576: true; the input reads as it did. -/
def fnExactUnhalveAllUptoRow : OpenClaim := { program := "ytbaamhniffpnpaa", sum := "d27b74d526de88014a8bca3e516d4a3abd73aff17c179fe8455c52a62e6eb7f2", func := "loop.example/wholewaves/laws.FnExactUnhalveAll", spec := "fnExactUnhalveAll", apart := false, narrowed := true }
def FnExactUnhalveAllUptoSaid : Prop := fnExactUnhalveAllUptoRow.holds Try.pinned (OpenSpec.upto fnExactUnhalveAllSpec)

/-- 'laws.FnExactHalveAll', WHERE WHAT IT READS IS OF BULK AT MOST 1048576: true; the input reads as it did. -/
def fnExactHalveAllUptoRow : OpenClaim := { program := "ytbaamhniffpnpaa", sum := "d27b74d526de88014a8bca3e516d4a3abd73aff17c179fe8455c52a62e6eb7f2", func := "loop.example/wholewaves/laws.FnExactHalveAll", spec := "fnExactHalveAll", apart := false, narrowed := true }
def FnExactHalveAllUptoSaid : Prop := fnExactHalveAllUptoRow.holds Try.pinned (OpenSpec.upto fnExactHalveAllSpec)

/-- 'laws.FnExactLeapOf', WHERE WHAT IT READS IS OF BULK AT MOST 1048576: true; the input reads as it did. -/
def fnExactLeapOfUptoRow : OpenClaim := { program := "ytbaamhniffpnpaa", sum := "d27b74d526de88014a8bca3e516d4a3abd73aff17c179fe8455c52a62e6eb7f2", func := "loop.example/wholewaves/laws.FnExactLeapOf", spec := "fnExactLeapOf", apart := false, narrowed := true }
def FnExactLeapOfUptoSaid : Prop := fnExactLeapOfUptoRow.holds Try.pinned (OpenSpec.upto fnExactLeapOfSpec)

/-- 'laws.FnUnhalveOf', WHERE WHAT IT READS IS OF BULK AT MOST 1048576: true; the input reads as it did. -/
def fnUnhalveOfUptoRow : OpenClaim := { program := "ytbaamhniffpnpaa", sum := "d27b74d526de88014a8bca3e516d4a3abd73aff17c179fe8455c52a62e6eb7f2", func := "loop.example/wholewaves/laws.FnUnhalveOf", spec := "fnUnhalveOf", apart := false, narrowed := true }
def FnUnhalveOfUptoSaid : Prop := fnUnhalveOfUptoRow.holds Try.pinned (OpenSpec.upto fnUnhalveOfSpec)

/-- 'laws.FnHalveOf', WHERE WHAT IT READS IS OF BULK AT MOST 1048576: true; the input reads as it did. -/
def fnHalveOfUptoRow : OpenClaim := { program := "ytbaamhniffpnpaa", sum := "d27b74d526de88014a8bca3e516d4a3abd73aff17c179fe8455c52a62e6eb7f2", func := "loop.example/wholewaves/laws.FnHalveOf", spec := "fnHalveOf", apart := false, narrowed := true }
def FnHalveOfUptoSaid : Prop := fnHalveOfUptoRow.holds Try.pinned (OpenSpec.upto fnHalveOfSpec)

/-- 'laws.FnUnleapOf', WHERE WHAT IT READS IS OF BULK AT MOST 1048576: true; the input reads as it did. -/
def fnUnleapOfUptoRow : OpenClaim := { program := "ytbaamhniffpnpaa", sum := "d27b74d526de88014a8bca3e516d4a3abd73aff17c179fe8455c52a62e6eb7f2", func := "loop.example/wholewaves/laws.FnUnleapOf", spec := "fnUnleapOf", apart := false, narrowed := true }
def FnUnleapOfUptoSaid : Prop := fnUnleapOfUptoRow.holds Try.pinned (OpenSpec.upto fnUnleapOfSpec)

/-- 'laws.FnLeapOf', WHERE WHAT IT READS IS OF BULK AT MOST 1048576: true; the input reads as it did. -/
def fnLeapOfUptoRow : OpenClaim := { program := "ytbaamhniffpnpaa", sum := "d27b74d526de88014a8bca3e516d4a3abd73aff17c179fe8455c52a62e6eb7f2", func := "loop.example/wholewaves/laws.FnLeapOf", spec := "fnLeapOf", apart := false, narrowed := true }
def FnLeapOfUptoSaid : Prop := fnLeapOfUptoRow.holds Try.pinned (OpenSpec.upto fnLeapOfSpec)

/-- 'laws.FnUnhalveAll', WHERE WHAT IT READS IS OF BULK AT MOST 1048576: true; the input reads as it did. -/
def fnUnhalveAllUptoRow : OpenClaim := { program := "ytbaamhniffpnpaa", sum := "d27b74d526de88014a8bca3e516d4a3abd73aff17c179fe8455c52a62e6eb7f2", func := "loop.example/wholewaves/laws.FnUnhalveAll", spec := "fnUnhalveAll", apart := false, narrowed := true }
def FnUnhalveAllUptoSaid : Prop := fnUnhalveAllUptoRow.holds Try.pinned (OpenSpec.upto fnUnhalveAllSpec)

/-- 'laws.FnHalveAll', WHERE WHAT IT READS IS OF BULK AT MOST 1048576: true; the input reads as it did. -/
def fnHalveAllUptoRow : OpenClaim := { program := "ytbaamhniffpnpaa", sum := "d27b74d526de88014a8bca3e516d4a3abd73aff17c179fe8455c52a62e6eb7f2", func := "loop.example/wholewaves/laws.FnHalveAll", spec := "fnHalveAll", apart := false, narrowed := true }
def FnHalveAllUptoSaid : Prop := fnHalveAllUptoRow.holds Try.pinned (OpenSpec.upto fnHalveAllSpec)

end Rows
end Go.Proofs.Ytbaamhniffpnpaa
