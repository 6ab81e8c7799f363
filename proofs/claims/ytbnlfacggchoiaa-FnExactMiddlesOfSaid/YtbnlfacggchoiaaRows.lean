/-
  No cell of these rows narrows 'for every input' (looked for: loops, veiled, ifaces, maps, wideKeys, modest, calm, conditions, laid).
  DERIVED. THE GIVEN ROWS OF THIS SEAT. 2 by the template 'for every input the law returns true; each argument reads behind the call as it read before'; 0 by the template 'total and deterministic' (their statements: YtbnlfacggchoiaaTotals.lean).
  GIVEN WITH THE SEED: the statements are not yours to turn. If you find one false, say at which input.
  Laid BY PROGRAM, IN A SANDBOX (cutbox-rows.mjs): the forced cells as the released guide's own fill.sh prints them over the translation 41f036d03fca4b00… (all of the seat's roots in one cut). By AI agents, Wed Nov 11 2026. No macro, syntax, notation, axiom, sorry.
-/
import Derived.Test.YtbnlfacggchoiaaChecked
import GoSem.Claim
import GoSem.ClaimJoined
import GoSem.ClaimMapViews
import Derived.JoinedTies
import Derived.KernelRfl
namespace Go.Proofs.Ytbnlfacggchoiaa
/- THE CELL 'sum', in the pinned program and in every row, IS THE sha256 OF THE DUMP (.gsa) THAT YtbnlfacggchoiaaProg.lean LOADS. Nothing in Lean hashes anything: it is a label: what it is worth is what the hold of that sum in a sandbox is worth. -/
noncomputable def Try.pinned : Pinned := { name := "ytbnlfacggchoiaa", sum := "41f036d03fca4b004f2c4ce1ec00858a2d6e56204bee78d4189298187344b53a", checked := Try.checked }
namespace Rows
def none {H : Type} : Left H := { results := [], args := [] }

/-- 'laws.FnMiddlesOf': WHATEVER THE INPUT: true; the input reads as it did. -/
def fnMiddlesOfSpec : ChangeSpec := { name := "fnMiddlesOf", fn := fun _ => fun
  | [d] => { results := [.lit (.bool true)], args := [d] }
  | _ => none }
def fnMiddlesOfRow : OpenClaim := { program := "ytbnlfacggchoiaa", sum := "41f036d03fca4b004f2c4ce1ec00858a2d6e56204bee78d4189298187344b53a", func := "loop.example/wholewaves/laws.FnMiddlesOf", spec := "fnMiddlesOf", recurses := true, apart := false }
def FnMiddlesOfSaid : Prop := fnMiddlesOfRow.holds Try.pinned (OpenSpec.ofChange fnMiddlesOfSpec)

/-- ITS FALSE NEIGHBOUR: 'it returns false'. Refute it at one input. -/
def fnMiddlesOfWrong : ChangeSpec := { name := "fnMiddlesOf", fn := fun _ => fun
  | [d] => { results := [.lit (.bool false)], args := [d] }
  | _ => none }
def FnMiddlesOfWrongFalsely : Prop := fnMiddlesOfRow.holds Try.pinned (OpenSpec.ofChange fnMiddlesOfWrong)

/-- 'laws.FnExactMiddlesOf': WHATEVER THE INPUT: true; the input reads as it did. -/
def fnExactMiddlesOfSpec : ChangeSpec := { name := "fnExactMiddlesOf", fn := fun _ => fun
  | [d1, d2] => { results := [.lit (.bool true)], args := [d1, d2] }
  | _ => none }
def fnExactMiddlesOfRow : OpenClaim := { program := "ytbnlfacggchoiaa", sum := "41f036d03fca4b004f2c4ce1ec00858a2d6e56204bee78d4189298187344b53a", func := "loop.example/wholewaves/laws.FnExactMiddlesOf", spec := "fnExactMiddlesOf", recurses := true, apart := false }
def FnExactMiddlesOfSaid : Prop := fnExactMiddlesOfRow.holds Try.pinned (OpenSpec.ofChange fnExactMiddlesOfSpec)

/-- ITS FALSE NEIGHBOUR: 'it returns false'. Refute it at one input. -/
def fnExactMiddlesOfWrong : ChangeSpec := { name := "fnExactMiddlesOf", fn := fun _ => fun
  | [d1, d2] => { results := [.lit (.bool false)], args := [d1, d2] }
  | _ => none }
def FnExactMiddlesOfWrongFalsely : Prop := fnExactMiddlesOfRow.holds Try.pinned (OpenSpec.ofChange fnExactMiddlesOfWrong)

/- THE SECOND FORM. 'bulk': how many values and letters a reading holds, each counted each time it is reached (what is shared counts as often as it is met; a slice's spare places count too). A statement '..UptoSaid' is the law's where the arguments, and the package variables that the reading takes, are together of bulk at most 1048576: NARROWER than '..Said'. Prove '..Said' where nothing that the law and all that it calls make is longer than what came in: it says more and counts as full. Else prove '..UptoSaid'. A law counts once. -/
mutual
def uptoBulk {H : Type} : DataW H → Nat
  | .lit (.string bytes) => bytes.length + 1
  | .lit _ => 1
  | .nil => 1
  | .ptr d => uptoBulk d + 1
  | .slice elems spare => uptoBulkAll elems + uptoBulkAll spare + 1
  | .agg parts => uptoBulkAll parts + 1
  | .iface _ d => uptoBulk d + 1
  | .map entries => uptoBulkEntries entries + 1
  | .held _ => 1
def uptoBulkAll {H : Type} : List (DataW H) → Nat
  | [] => 0
  | d :: r => uptoBulk d + uptoBulkAll r
def uptoBulkEntries {H : Type} : List (Lit × DataW H) → Nat
  | [] => 0
  | x :: r => uptoBulkEntry x + uptoBulkEntries r
def uptoBulkEntry {H : Type} : Lit × DataW H → Nat
  | (.string bytes, d) => bytes.length + uptoBulk d + 1
  | (_, d) => uptoBulk d + 1
 end
def uptoSmall : (H : Type) → List (DataW H) → Bool := fun _ ds => decide (uptoBulkAll ds ≤ 1048576)
def OpenSpec.upto (s : _root_.Go.ChangeSpec) : _root_.Go.OpenSpec := { _root_.Go.OpenSpec.ofChange s with cond := some uptoSmall }

/-- 'laws.FnMiddlesOf', WHERE WHAT IT READS IS OF BULK AT MOST 1048576: true; the input reads as it did. -/
def fnMiddlesOfUptoRow : OpenClaim := { program := "ytbnlfacggchoiaa", sum := "41f036d03fca4b004f2c4ce1ec00858a2d6e56204bee78d4189298187344b53a", func := "loop.example/wholewaves/laws.FnMiddlesOf", spec := "fnMiddlesOf", recurses := true, apart := false, narrowed := true }
def FnMiddlesOfUptoSaid : Prop := fnMiddlesOfUptoRow.holds Try.pinned (OpenSpec.upto fnMiddlesOfSpec)

/-- 'laws.FnExactMiddlesOf', WHERE WHAT IT READS IS OF BULK AT MOST 1048576: true; the input reads as it did. -/
def fnExactMiddlesOfUptoRow : OpenClaim := { program := "ytbnlfacggchoiaa", sum := "41f036d03fca4b004f2c4ce1ec00858a2d6e56204bee78d4189298187344b53a", func := "loop.example/wholewaves/laws.FnExactMiddlesOf", spec := "fnExactMiddlesOf", recurses := true, apart := false, narrowed := true }
def FnExactMiddlesOfUptoSaid : Prop := fnExactMiddlesOfUptoRow.holds Try.pinned (OpenSpec.upto fnExactMiddlesOfSpec)

end Rows
end Go.Proofs.Ytbnlfacggchoiaa
