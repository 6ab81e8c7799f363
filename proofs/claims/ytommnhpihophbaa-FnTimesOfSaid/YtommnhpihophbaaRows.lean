/-
  No cell of these rows narrows 'for every input' (looked for: loops, veiled, ifaces, maps, wideKeys, modest, calm, conditions, laid).
  DERIVED. THE GIVEN ROWS OF THIS SEAT. 11 by the template 'for every input the law returns true; each argument reads behind the call as it read before'; 0 by the template 'total and deterministic' (their statements: YtommnhpihophbaaTotals.lean).
  GIVEN WITH THE SEED: the statements are not yours to turn. If you find one false, say at which input.
  Laid BY PROGRAM, IN A SANDBOX (cutbox-rows.mjs): the forced cells as the released guide's own fill.sh prints them over the translation f4491c6b39d745e9… (all of the seat's roots in one cut). By AI agents, Wed Nov 11 2026. No macro, syntax, notation, axiom, sorry.
-/
import Derived.Test.YtommnhpihophbaaChecked
import GoSem.Claim
import GoSem.ClaimJoined
import GoSem.ClaimMapViews
import Derived.JoinedTies
import Derived.KernelRfl
namespace Go.Proofs.Ytommnhpihophbaa
/- THE CELL 'sum', in the pinned program and in every row, IS THE sha256 OF THE DUMP (.gsa) THAT YtommnhpihophbaaProg.lean LOADS. Nothing in Lean hashes anything: it is a label: what it is worth is what the hold of that sum in a sandbox is worth. -/
noncomputable def Try.pinned : Pinned := { name := "ytommnhpihophbaa", sum := "f4491c6b39d745e9ae44353c10077eb16744f35d6b1b8431a085b8f08b41e0ee", checked := Try.checked }
namespace Rows
def none {H : Type} : Left H := { results := [], args := [] }

/-- 'laws.FnBoxSums': WHATEVER THE INPUT: true; the input reads as it did. -/
def fnBoxSumsSpec : ChangeSpec := { name := "fnBoxSums", fn := fun _ => fun
  | [d] => { results := [.lit (.bool true)], args := [d] }
  | _ => none }
def fnBoxSumsRow : OpenClaim := { program := "ytommnhpihophbaa", sum := "f4491c6b39d745e9ae44353c10077eb16744f35d6b1b8431a085b8f08b41e0ee", func := "loop.example/wholewaves/laws.FnBoxSums", spec := "fnBoxSums", apart := false }
def FnBoxSumsSaid : Prop := fnBoxSumsRow.holds Try.pinned (OpenSpec.ofChange fnBoxSumsSpec)

/-- ITS FALSE NEIGHBOUR: 'it returns false'. Refute it at one input. -/
def fnBoxSumsWrong : ChangeSpec := { name := "fnBoxSums", fn := fun _ => fun
  | [d] => { results := [.lit (.bool false)], args := [d] }
  | _ => none }
def FnBoxSumsWrongFalsely : Prop := fnBoxSumsRow.holds Try.pinned (OpenSpec.ofChange fnBoxSumsWrong)

/-- 'laws.FnStepsOf': WHATEVER THE INPUT: true; the input reads as it did. -/
def fnStepsOfSpec : ChangeSpec := { name := "fnStepsOf", fn := fun _ => fun
  | [d] => { results := [.lit (.bool true)], args := [d] }
  | _ => none }
def fnStepsOfRow : OpenClaim := { program := "ytommnhpihophbaa", sum := "f4491c6b39d745e9ae44353c10077eb16744f35d6b1b8431a085b8f08b41e0ee", func := "loop.example/wholewaves/laws.FnStepsOf", spec := "fnStepsOf", apart := false }
def FnStepsOfSaid : Prop := fnStepsOfRow.holds Try.pinned (OpenSpec.ofChange fnStepsOfSpec)

/-- ITS FALSE NEIGHBOUR: 'it returns false'. Refute it at one input. -/
def fnStepsOfWrong : ChangeSpec := { name := "fnStepsOf", fn := fun _ => fun
  | [d] => { results := [.lit (.bool false)], args := [d] }
  | _ => none }
def FnStepsOfWrongFalsely : Prop := fnStepsOfRow.holds Try.pinned (OpenSpec.ofChange fnStepsOfWrong)

/-- 'laws.FnTimesOf': WHATEVER THE INPUT: true; the input reads as it did. -/
def fnTimesOfSpec : ChangeSpec := { name := "fnTimesOf", fn := fun _ => fun
  | [d] => { results := [.lit (.bool true)], args := [d] }
  | _ => none }
def fnTimesOfRow : OpenClaim := { program := "ytommnhpihophbaa", sum := "f4491c6b39d745e9ae44353c10077eb16744f35d6b1b8431a085b8f08b41e0ee", func := "loop.example/wholewaves/laws.FnTimesOf", spec := "fnTimesOf", apart := false }
def FnTimesOfSaid : Prop := fnTimesOfRow.holds Try.pinned (OpenSpec.ofChange fnTimesOfSpec)

/-- ITS FALSE NEIGHBOUR: 'it returns false'. Refute it at one input. -/
def fnTimesOfWrong : ChangeSpec := { name := "fnTimesOf", fn := fun _ => fun
  | [d] => { results := [.lit (.bool false)], args := [d] }
  | _ => none }
def FnTimesOfWrongFalsely : Prop := fnTimesOfRow.holds Try.pinned (OpenSpec.ofChange fnTimesOfWrong)

/-- 'laws.FnSumsOf': WHATEVER THE INPUT: true; the input reads as it did. -/
def fnSumsOfSpec : ChangeSpec := { name := "fnSumsOf", fn := fun _ => fun
  | [d] => { results := [.lit (.bool true)], args := [d] }
  | _ => none }
def fnSumsOfRow : OpenClaim := { program := "ytommnhpihophbaa", sum := "f4491c6b39d745e9ae44353c10077eb16744f35d6b1b8431a085b8f08b41e0ee", func := "loop.example/wholewaves/laws.FnSumsOf", spec := "fnSumsOf", apart := false }
def FnSumsOfSaid : Prop := fnSumsOfRow.holds Try.pinned (OpenSpec.ofChange fnSumsOfSpec)

/-- ITS FALSE NEIGHBOUR: 'it returns false'. Refute it at one input. -/
def fnSumsOfWrong : ChangeSpec := { name := "fnSumsOf", fn := fun _ => fun
  | [d] => { results := [.lit (.bool false)], args := [d] }
  | _ => none }
def FnSumsOfWrongFalsely : Prop := fnSumsOfRow.holds Try.pinned (OpenSpec.ofChange fnSumsOfWrong)

/-- 'laws.FnEdgeOf': WHATEVER THE INPUT: true; the input reads as it did. -/
def fnEdgeOfSpec : ChangeSpec := { name := "fnEdgeOf", fn := fun _ => fun
  | [d] => { results := [.lit (.bool true)], args := [d] }
  | _ => none }
def fnEdgeOfRow : OpenClaim := { program := "ytommnhpihophbaa", sum := "f4491c6b39d745e9ae44353c10077eb16744f35d6b1b8431a085b8f08b41e0ee", func := "loop.example/wholewaves/laws.FnEdgeOf", spec := "fnEdgeOf", apart := false }
def FnEdgeOfSaid : Prop := fnEdgeOfRow.holds Try.pinned (OpenSpec.ofChange fnEdgeOfSpec)

/-- ITS FALSE NEIGHBOUR: 'it returns false'. Refute it at one input. -/
def fnEdgeOfWrong : ChangeSpec := { name := "fnEdgeOf", fn := fun _ => fun
  | [d] => { results := [.lit (.bool false)], args := [d] }
  | _ => none }
def FnEdgeOfWrongFalsely : Prop := fnEdgeOfRow.holds Try.pinned (OpenSpec.ofChange fnEdgeOfWrong)

/-- 'laws.FnDegreeOf': WHATEVER THE INPUT: true; the input reads as it did. -/
def fnDegreeOfSpec : ChangeSpec := { name := "fnDegreeOf", fn := fun _ => fun
  | [d] => { results := [.lit (.bool true)], args := [d] }
  | _ => none }
def fnDegreeOfRow : OpenClaim := { program := "ytommnhpihophbaa", sum := "f4491c6b39d745e9ae44353c10077eb16744f35d6b1b8431a085b8f08b41e0ee", func := "loop.example/wholewaves/laws.FnDegreeOf", spec := "fnDegreeOf", apart := false }
def FnDegreeOfSaid : Prop := fnDegreeOfRow.holds Try.pinned (OpenSpec.ofChange fnDegreeOfSpec)

/-- ITS FALSE NEIGHBOUR: 'it returns false'. Refute it at one input. -/
def fnDegreeOfWrong : ChangeSpec := { name := "fnDegreeOf", fn := fun _ => fun
  | [d] => { results := [.lit (.bool false)], args := [d] }
  | _ => none }
def FnDegreeOfWrongFalsely : Prop := fnDegreeOfRow.holds Try.pinned (OpenSpec.ofChange fnDegreeOfWrong)

/-- 'laws.FnFromEdge': WHATEVER THE INPUT: true; the input reads as it did. -/
def fnFromEdgeSpec : ChangeSpec := { name := "fnFromEdge", fn := fun _ => fun
  | [d] => { results := [.lit (.bool true)], args := [d] }
  | _ => none }
def fnFromEdgeRow : OpenClaim := { program := "ytommnhpihophbaa", sum := "f4491c6b39d745e9ae44353c10077eb16744f35d6b1b8431a085b8f08b41e0ee", func := "loop.example/wholewaves/laws.FnFromEdge", spec := "fnFromEdge", apart := false }
def FnFromEdgeSaid : Prop := fnFromEdgeRow.holds Try.pinned (OpenSpec.ofChange fnFromEdgeSpec)

/-- ITS FALSE NEIGHBOUR: 'it returns false'. Refute it at one input. -/
def fnFromEdgeWrong : ChangeSpec := { name := "fnFromEdge", fn := fun _ => fun
  | [d] => { results := [.lit (.bool false)], args := [d] }
  | _ => none }
def FnFromEdgeWrongFalsely : Prop := fnFromEdgeRow.holds Try.pinned (OpenSpec.ofChange fnFromEdgeWrong)

/-- 'laws.FnMatchesOf': WHATEVER THE INPUT: true; the input reads as it did. -/
def fnMatchesOfSpec : ChangeSpec := { name := "fnMatchesOf", fn := fun _ => fun
  | [d] => { results := [.lit (.bool true)], args := [d] }
  | _ => none }
def fnMatchesOfRow : OpenClaim := { program := "ytommnhpihophbaa", sum := "f4491c6b39d745e9ae44353c10077eb16744f35d6b1b8431a085b8f08b41e0ee", func := "loop.example/wholewaves/laws.FnMatchesOf", spec := "fnMatchesOf", apart := false }
def FnMatchesOfSaid : Prop := fnMatchesOfRow.holds Try.pinned (OpenSpec.ofChange fnMatchesOfSpec)

/-- ITS FALSE NEIGHBOUR: 'it returns false'. Refute it at one input. -/
def fnMatchesOfWrong : ChangeSpec := { name := "fnMatchesOf", fn := fun _ => fun
  | [d] => { results := [.lit (.bool false)], args := [d] }
  | _ => none }
def FnMatchesOfWrongFalsely : Prop := fnMatchesOfRow.holds Try.pinned (OpenSpec.ofChange fnMatchesOfWrong)

/-- 'laws.FnBelowOf': WHATEVER THE INPUT: true; the input reads as it did. -/
def fnBelowOfSpec : ChangeSpec := { name := "fnBelowOf", fn := fun _ => fun
  | [d] => { results := [.lit (.bool true)], args := [d] }
  | _ => none }
def fnBelowOfRow : OpenClaim := { program := "ytommnhpihophbaa", sum := "f4491c6b39d745e9ae44353c10077eb16744f35d6b1b8431a085b8f08b41e0ee", func := "loop.example/wholewaves/laws.FnBelowOf", spec := "fnBelowOf", apart := false }
def FnBelowOfSaid : Prop := fnBelowOfRow.holds Try.pinned (OpenSpec.ofChange fnBelowOfSpec)

/-- ITS FALSE NEIGHBOUR: 'it returns false'. Refute it at one input. -/
def fnBelowOfWrong : ChangeSpec := { name := "fnBelowOf", fn := fun _ => fun
  | [d] => { results := [.lit (.bool false)], args := [d] }
  | _ => none }
def FnBelowOfWrongFalsely : Prop := fnBelowOfRow.holds Try.pinned (OpenSpec.ofChange fnBelowOfWrong)

/-- 'laws.FnUnbelowOf': WHATEVER THE INPUT: true; the input reads as it did. -/
def fnUnbelowOfSpec : ChangeSpec := { name := "fnUnbelowOf", fn := fun _ => fun
  | [d] => { results := [.lit (.bool true)], args := [d] }
  | _ => none }
def fnUnbelowOfRow : OpenClaim := { program := "ytommnhpihophbaa", sum := "f4491c6b39d745e9ae44353c10077eb16744f35d6b1b8431a085b8f08b41e0ee", func := "loop.example/wholewaves/laws.FnUnbelowOf", spec := "fnUnbelowOf", apart := false }
def FnUnbelowOfSaid : Prop := fnUnbelowOfRow.holds Try.pinned (OpenSpec.ofChange fnUnbelowOfSpec)

/-- ITS FALSE NEIGHBOUR: 'it returns false'. Refute it at one input. -/
def fnUnbelowOfWrong : ChangeSpec := { name := "fnUnbelowOf", fn := fun _ => fun
  | [d] => { results := [.lit (.bool false)], args := [d] }
  | _ => none }
def FnUnbelowOfWrongFalsely : Prop := fnUnbelowOfRow.holds Try.pinned (OpenSpec.ofChange fnUnbelowOfWrong)

/-- 'laws.FnIsSparse': WHATEVER THE INPUT: true; the input reads as it did. -/
def fnIsSparseSpec : ChangeSpec := { name := "fnIsSparse", fn := fun _ => fun
  | [d] => { results := [.lit (.bool true)], args := [d] }
  | _ => none }
def fnIsSparseRow : OpenClaim := { program := "ytommnhpihophbaa", sum := "f4491c6b39d745e9ae44353c10077eb16744f35d6b1b8431a085b8f08b41e0ee", func := "loop.example/wholewaves/laws.FnIsSparse", spec := "fnIsSparse", apart := false }
def FnIsSparseSaid : Prop := fnIsSparseRow.holds Try.pinned (OpenSpec.ofChange fnIsSparseSpec)

/-- ITS FALSE NEIGHBOUR: 'it returns false'. Refute it at one input. -/
def fnIsSparseWrong : ChangeSpec := { name := "fnIsSparse", fn := fun _ => fun
  | [d] => { results := [.lit (.bool false)], args := [d] }
  | _ => none }
def FnIsSparseWrongFalsely : Prop := fnIsSparseRow.holds Try.pinned (OpenSpec.ofChange fnIsSparseWrong)

/- THE SECOND FORM. 'bulk': how many values and letters a reading holds, each counted each time it is reached (what is shared counts as often as it is met; a slice's spare places count too). A statement '..UptoSaid' is the law's where the arguments, and the package variables that the reading takes, are together of bulk at most 1048576: NARROWER than '..Said'. Prove '..Said' where nothing that the law and all that it calls make is longer than what came in: it says more and counts as full. Else prove '..UptoSaid'. A law counts once. -/
mutual
def uptoBulk {H : Type} : DataW H → Nat
  | .lit (.string bytes) => bytes.length + 1
  | .lit _ => 1
  | .nil => 1
  | .ptr d => uptoBulk d + 1
  | .slice elems spare => uptoBulkAll elems + uptoBulkAll spare + 1
  | .agg parts => uptoBulkAll parts + 1
  | .iface _ d => uptoBulk d + 1
  | .map entries => uptoBulkEntries entries + 1
  | .held _ => 1
def uptoBulkAll {H : Type} : List (DataW H) → Nat
  | [] => 0
  | d :: r => uptoBulk d + uptoBulkAll r
def uptoBulkEntries {H : Type} : List (Lit × DataW H) → Nat
  | [] => 0
  | x :: r => uptoBulkEntry x + uptoBulkEntries r
def uptoBulkEntry {H : Type} : Lit × DataW H → Nat
  | (.string bytes, d) => bytes.length + uptoBulk d + 1
  | (_, d) => uptoBulk d + 1
 end
def uptoSmall : (H : Type) → List (DataW H) → Bool := fun _ ds => decide (uptoBulkAll ds ≤ 1048576)
def OpenSpec.upto (s : _root_.Go.ChangeSpec) : _root_.Go.OpenSpec := { _root_.Go.OpenSpec.ofChange s with cond := some uptoSmall }

/-- 'laws.FnBoxSums', WHERE WHAT IT READS IS OF BULK AT MOST 1048576: true; the input reads as it did. -/
def fnBoxSumsUptoRow : OpenClaim := { program := "ytommnhpihophbaa", sum := "f4491c6b39d745e9ae44353c10077eb16744f35d6b1b8431a085b8f08b41e0ee", func := "loop.example/wholewaves/laws.FnBoxSums", spec := "fnBoxSums", apart := false, narrowed := true }
def FnBoxSumsUptoSaid : Prop := fnBoxSumsUptoRow.holds Try.pinned (OpenSpec.upto fnBoxSumsSpec)

/-- 'laws.FnStepsOf', WHERE WHAT IT READS IS OF BULK AT MOST 1048576: true; the input reads as it did. -/
def fnStepsOfUptoRow : OpenClaim := { program := "ytommnhpihophbaa", sum := "f4491c6b39d745e9ae44353c10077eb16744f35d6b1b8431a085b8f08b41e0ee", func := "loop.example/wholewaves/laws.FnStepsOf", spec := "fnStepsOf", apart := false, narrowed := true }
def FnStepsOfUptoSaid : Prop := fnStepsOfUptoRow.holds Try.pinned (OpenSpec.upto fnStepsOfSpec)

/-- 'laws.FnTimesOf', WHERE WHAT IT READS IS OF BULK AT MOST 1048576: true; the input reads as it did. -/
def fnTimesOfUptoRow : OpenClaim := { program := "ytommnhpihophbaa", sum := "f4491c6b39d745e9ae44353c10077eb16744f35d6b1b8431a085b8f08b41e0ee", func := "loop.example/wholewaves/laws.FnTimesOf", spec := "fnTimesOf", apart := false, narrowed := true }
def FnTimesOfUptoSaid : Prop := fnTimesOfUptoRow.holds Try.pinned (OpenSpec.upto fnTimesOfSpec)

/-- 'laws.FnSumsOf', WHERE WHAT IT READS IS OF BULK AT MOST 1048576: true; the input reads as it did. -/
def fnSumsOfUptoRow : OpenClaim := { program := "ytommnhpihophbaa", sum := "f4491c6b39d745e9ae44353c10077eb16744f35d6b1b8431a085b8f08b41e0ee", func := "loop.example/wholewaves/laws.FnSumsOf", spec := "fnSumsOf", apart := false, narrowed := true }
def FnSumsOfUptoSaid : Prop := fnSumsOfUptoRow.holds Try.pinned (OpenSpec.upto fnSumsOfSpec)

/-- 'laws.FnEdgeOf', WHERE WHAT IT READS IS OF BULK AT MOST 1048576: true; the input reads as it did. -/
def fnEdgeOfUptoRow : OpenClaim := { program := "ytommnhpihophbaa", sum := "f4491c6b39d745e9ae44353c10077eb16744f35d6b1b8431a085b8f08b41e0ee", func := "loop.example/wholewaves/laws.FnEdgeOf", spec := "fnEdgeOf", apart := false, narrowed := true }
def FnEdgeOfUptoSaid : Prop := fnEdgeOfUptoRow.holds Try.pinned (OpenSpec.upto fnEdgeOfSpec)

/-- 'laws.FnDegreeOf', WHERE WHAT IT READS IS OF BULK AT MOST 1048576: true; the input reads as it did. -/
def fnDegreeOfUptoRow : OpenClaim := { program := "ytommnhpihophbaa", sum := "f4491c6b39d745e9ae44353c10077eb16744f35d6b1b8431a085b8f08b41e0ee", func := "loop.example/wholewaves/laws.FnDegreeOf", spec := "fnDegreeOf", apart := false, narrowed := true }
def FnDegreeOfUptoSaid : Prop := fnDegreeOfUptoRow.holds Try.pinned (OpenSpec.upto fnDegreeOfSpec)

/-- 'laws.FnFromEdge', WHERE WHAT IT READS IS OF BULK AT MOST 1048576: true; the input reads as it did. -/
def fnFromEdgeUptoRow : OpenClaim := { program := "ytommnhpihophbaa", sum := "f4491c6b39d745e9ae44353c10077eb16744f35d6b1b8431a085b8f08b41e0ee", func := "loop.example/wholewaves/laws.FnFromEdge", spec := "fnFromEdge", apart := false, narrowed := true }
def FnFromEdgeUptoSaid : Prop := fnFromEdgeUptoRow.holds Try.pinned (OpenSpec.upto fnFromEdgeSpec)

/-- 'laws.FnMatchesOf', WHERE WHAT IT READS IS OF BULK AT MOST 1048576: true; the input reads as it did. -/
def fnMatchesOfUptoRow : OpenClaim := { program := "ytommnhpihophbaa", sum := "f4491c6b39d745e9ae44353c10077eb16744f35d6b1b8431a085b8f08b41e0ee", func := "loop.example/wholewaves/laws.FnMatchesOf", spec := "fnMatchesOf", apart := false, narrowed := true }
def FnMatchesOfUptoSaid : Prop := fnMatchesOfUptoRow.holds Try.pinned (OpenSpec.upto fnMatchesOfSpec)

/-- 'laws.FnBelowOf', WHERE WHAT IT READS IS OF BULK AT MOST 1048576: true; the input reads as it did. -/
def fnBelowOfUptoRow : OpenClaim := { program := "ytommnhpihophbaa", sum := "f4491c6b39d745e9ae44353c10077eb16744f35d6b1b8431a085b8f08b41e0ee", func := "loop.example/wholewaves/laws.FnBelowOf", spec := "fnBelowOf", apart := false, narrowed := true }
def FnBelowOfUptoSaid : Prop := fnBelowOfUptoRow.holds Try.pinned (OpenSpec.upto fnBelowOfSpec)

/-- 'laws.FnUnbelowOf', WHERE WHAT IT READS IS OF BULK AT MOST 1048576: true; the input reads as it did. -/
def fnUnbelowOfUptoRow : OpenClaim := { program := "ytommnhpihophbaa", sum := "f4491c6b39d745e9ae44353c10077eb16744f35d6b1b8431a085b8f08b41e0ee", func := "loop.example/wholewaves/laws.FnUnbelowOf", spec := "fnUnbelowOf", apart := false, narrowed := true }
def FnUnbelowOfUptoSaid : Prop := fnUnbelowOfUptoRow.holds Try.pinned (OpenSpec.upto fnUnbelowOfSpec)

/-- 'laws.FnIsSparse', WHERE WHAT IT READS IS OF BULK AT MOST 1048576: true; the input reads as it did. -/
def fnIsSparseUptoRow : OpenClaim := { program := "ytommnhpihophbaa", sum := "f4491c6b39d745e9ae44353c10077eb16744f35d6b1b8431a085b8f08b41e0ee", func := "loop.example/wholewaves/laws.FnIsSparse", spec := "fnIsSparse", apart := false, narrowed := true }
def FnIsSparseUptoSaid : Prop := fnIsSparseUptoRow.holds Try.pinned (OpenSpec.upto fnIsSparseSpec)

end Rows
end Go.Proofs.Ytommnhpihophbaa
