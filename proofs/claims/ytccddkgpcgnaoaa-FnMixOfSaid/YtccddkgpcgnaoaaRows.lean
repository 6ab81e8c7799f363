/-
  No cell of these rows narrows 'for every input' (looked for: loops, veiled, ifaces, maps, wideKeys, modest, calm, conditions, laid).
  DERIVED. THE GIVEN ROWS OF THIS SEAT. 10 by the template 'for every input the law returns true; each argument reads behind the call as it read before'; 0 by the template 'total and deterministic' (their statements: YtccddkgpcgnaoaaTotals.lean).
  GIVEN WITH THE SEED: the statements are not yours to turn. If you find one false, say at which input.
  Laid BY PROGRAM, IN A SANDBOX (cutbox-rows.mjs): the forced cells as the released guide's own fill.sh prints them over the translation ea437eaf1ba92a9a… (all of the seat's roots in one cut). By AI agents, Wed Nov 11 2026. No macro, syntax, notation, axiom, sorry.
-/
import Derived.Test.YtccddkgpcgnaoaaChecked
import GoSem.Claim
import GoSem.ClaimJoined
import GoSem.ClaimMapViews
import Derived.JoinedTies
import Derived.KernelRfl
namespace Go.Proofs.Ytccddkgpcgnaoaa
/- THE CELL 'sum', in the pinned program and in every row, IS THE sha256 OF THE DUMP (.gsa) THAT YtccddkgpcgnaoaaProg.lean LOADS. Nothing in Lean hashes anything: it is a label: what it is worth is what the hold of that sum in a sandbox is worth. -/
noncomputable def Try.pinned : Pinned := { name := "ytccddkgpcgnaoaa", sum := "ea437eaf1ba92a9a078233bc06f181912beaac2890baa137dccbcc0a6b91397f", checked := Try.checked }
namespace Rows
def none {H : Type} : Left H := { results := [], args := [] }

/-- 'laws.FnExactMixOf': WHATEVER THE INPUT: true; the input reads as it did. -/
def fnExactMixOfSpec : ChangeSpec := { name := "fnExactMixOf", fn := fun _ => fun
  | [d1, d2, d3] => { results := [.lit (.bool true)], args := [d1, d2, d3] }
  | _ => none }
def fnExactMixOfRow : OpenClaim := { program := "ytccddkgpcgnaoaa", sum := "ea437eaf1ba92a9a078233bc06f181912beaac2890baa137dccbcc0a6b91397f", func := "loop.example/wholewaves/laws.FnExactMixOf", spec := "fnExactMixOf", apart := false }
def FnExactMixOfSaid : Prop := fnExactMixOfRow.holds Try.pinned (OpenSpec.ofChange fnExactMixOfSpec)

/-- ITS FALSE NEIGHBOUR: 'it returns false'. Refute it at one input. -/
def fnExactMixOfWrong : ChangeSpec := { name := "fnExactMixOf", fn := fun _ => fun
  | [d1, d2, d3] => { results := [.lit (.bool false)], args := [d1, d2, d3] }
  | _ => none }
def FnExactMixOfWrongFalsely : Prop := fnExactMixOfRow.holds Try.pinned (OpenSpec.ofChange fnExactMixOfWrong)

/-- 'laws.FnExactOrderOf': WHATEVER THE INPUT: true; the input reads as it did. -/
def fnExactOrderOfSpec : ChangeSpec := { name := "fnExactOrderOf", fn := fun _ => fun
  | [d] => { results := [.lit (.bool true)], args := [d] }
  | _ => none }
def fnExactOrderOfRow : OpenClaim := { program := "ytccddkgpcgnaoaa", sum := "ea437eaf1ba92a9a078233bc06f181912beaac2890baa137dccbcc0a6b91397f", func := "loop.example/wholewaves/laws.FnExactOrderOf", spec := "fnExactOrderOf", apart := false }
def FnExactOrderOfSaid : Prop := fnExactOrderOfRow.holds Try.pinned (OpenSpec.ofChange fnExactOrderOfSpec)

/-- ITS FALSE NEIGHBOUR: 'it returns false'. Refute it at one input. -/
def fnExactOrderOfWrong : ChangeSpec := { name := "fnExactOrderOf", fn := fun _ => fun
  | [d] => { results := [.lit (.bool false)], args := [d] }
  | _ => none }
def FnExactOrderOfWrongFalsely : Prop := fnExactOrderOfRow.holds Try.pinned (OpenSpec.ofChange fnExactOrderOfWrong)

/-- 'laws.FnOrderOf': WHATEVER THE INPUT: true; the input reads as it did. -/
def fnOrderOfSpec : ChangeSpec := { name := "fnOrderOf", fn := fun _ => fun
  | [d] => { results := [.lit (.bool true)], args := [d] }
  | _ => none }
def fnOrderOfRow : OpenClaim := { program := "ytccddkgpcgnaoaa", sum := "ea437eaf1ba92a9a078233bc06f181912beaac2890baa137dccbcc0a6b91397f", func := "loop.example/wholewaves/laws.FnOrderOf", spec := "fnOrderOf", apart := false }
def FnOrderOfSaid : Prop := fnOrderOfRow.holds Try.pinned (OpenSpec.ofChange fnOrderOfSpec)

/-- ITS FALSE NEIGHBOUR: 'it returns false'. Refute it at one input. -/
def fnOrderOfWrong : ChangeSpec := { name := "fnOrderOf", fn := fun _ => fun
  | [d] => { results := [.lit (.bool false)], args := [d] }
  | _ => none }
def FnOrderOfWrongFalsely : Prop := fnOrderOfRow.holds Try.pinned (OpenSpec.ofChange fnOrderOfWrong)

/-- 'laws.FnExactSignsOf': WHATEVER THE INPUT: true; the input reads as it did. -/
def fnExactSignsOfSpec : ChangeSpec := { name := "fnExactSignsOf", fn := fun _ => fun
  | [d] => { results := [.lit (.bool true)], args := [d] }
  | _ => none }
def fnExactSignsOfRow : OpenClaim := { program := "ytccddkgpcgnaoaa", sum := "ea437eaf1ba92a9a078233bc06f181912beaac2890baa137dccbcc0a6b91397f", func := "loop.example/wholewaves/laws.FnExactSignsOf", spec := "fnExactSignsOf", apart := false }
def FnExactSignsOfSaid : Prop := fnExactSignsOfRow.holds Try.pinned (OpenSpec.ofChange fnExactSignsOfSpec)

/-- ITS FALSE NEIGHBOUR: 'it returns false'. Refute it at one input. -/
def fnExactSignsOfWrong : ChangeSpec := { name := "fnExactSignsOf", fn := fun _ => fun
  | [d] => { results := [.lit (.bool false)], args := [d] }
  | _ => none }
def FnExactSignsOfWrongFalsely : Prop := fnExactSignsOfRow.holds Try.pinned (OpenSpec.ofChange fnExactSignsOfWrong)

/-- 'laws.FnExactIsBent': WHATEVER THE INPUT: true; the input reads as it did. -/
def fnExactIsBentSpec : ChangeSpec := { name := "fnExactIsBent", fn := fun _ => fun
  | [d] => { results := [.lit (.bool true)], args := [d] }
  | _ => none }
def fnExactIsBentRow : OpenClaim := { program := "ytccddkgpcgnaoaa", sum := "ea437eaf1ba92a9a078233bc06f181912beaac2890baa137dccbcc0a6b91397f", func := "loop.example/wholewaves/laws.FnExactIsBent", spec := "fnExactIsBent", apart := false }
def FnExactIsBentSaid : Prop := fnExactIsBentRow.holds Try.pinned (OpenSpec.ofChange fnExactIsBentSpec)

/-- ITS FALSE NEIGHBOUR: 'it returns false'. Refute it at one input. -/
def fnExactIsBentWrong : ChangeSpec := { name := "fnExactIsBent", fn := fun _ => fun
  | [d] => { results := [.lit (.bool false)], args := [d] }
  | _ => none }
def FnExactIsBentWrongFalsely : Prop := fnExactIsBentRow.holds Try.pinned (OpenSpec.ofChange fnExactIsBentWrong)

/-- 'laws.FnExactUnsignsOf': WHATEVER THE INPUT: true; the input reads as it did. -/
def fnExactUnsignsOfSpec : ChangeSpec := { name := "fnExactUnsignsOf", fn := fun _ => fun
  | [d] => { results := [.lit (.bool true)], args := [d] }
  | _ => none }
def fnExactUnsignsOfRow : OpenClaim := { program := "ytccddkgpcgnaoaa", sum := "ea437eaf1ba92a9a078233bc06f181912beaac2890baa137dccbcc0a6b91397f", func := "loop.example/wholewaves/laws.FnExactUnsignsOf", spec := "fnExactUnsignsOf", apart := false }
def FnExactUnsignsOfSaid : Prop := fnExactUnsignsOfRow.holds Try.pinned (OpenSpec.ofChange fnExactUnsignsOfSpec)

/-- ITS FALSE NEIGHBOUR: 'it returns false'. Refute it at one input. -/
def fnExactUnsignsOfWrong : ChangeSpec := { name := "fnExactUnsignsOf", fn := fun _ => fun
  | [d] => { results := [.lit (.bool false)], args := [d] }
  | _ => none }
def FnExactUnsignsOfWrongFalsely : Prop := fnExactUnsignsOfRow.holds Try.pinned (OpenSpec.ofChange fnExactUnsignsOfWrong)

/-- 'laws.FnIsBent': WHATEVER THE INPUT: true; the input reads as it did. -/
def fnIsBentSpec : ChangeSpec := { name := "fnIsBent", fn := fun _ => fun
  | [d] => { results := [.lit (.bool true)], args := [d] }
  | _ => none }
def fnIsBentRow : OpenClaim := { program := "ytccddkgpcgnaoaa", sum := "ea437eaf1ba92a9a078233bc06f181912beaac2890baa137dccbcc0a6b91397f", func := "loop.example/wholewaves/laws.FnIsBent", spec := "fnIsBent", apart := false }
def FnIsBentSaid : Prop := fnIsBentRow.holds Try.pinned (OpenSpec.ofChange fnIsBentSpec)

/-- ITS FALSE NEIGHBOUR: 'it returns false'. Refute it at one input. -/
def fnIsBentWrong : ChangeSpec := { name := "fnIsBent", fn := fun _ => fun
  | [d] => { results := [.lit (.bool false)], args := [d] }
  | _ => none }
def FnIsBentWrongFalsely : Prop := fnIsBentRow.holds Try.pinned (OpenSpec.ofChange fnIsBentWrong)

/-- 'laws.FnSignsOf': WHATEVER THE INPUT: true; the input reads as it did. -/
def fnSignsOfSpec : ChangeSpec := { name := "fnSignsOf", fn := fun _ => fun
  | [d] => { results := [.lit (.bool true)], args := [d] }
  | _ => none }
def fnSignsOfRow : OpenClaim := { program := "ytccddkgpcgnaoaa", sum := "ea437eaf1ba92a9a078233bc06f181912beaac2890baa137dccbcc0a6b91397f", func := "loop.example/wholewaves/laws.FnSignsOf", spec := "fnSignsOf", apart := false }
def FnSignsOfSaid : Prop := fnSignsOfRow.holds Try.pinned (OpenSpec.ofChange fnSignsOfSpec)

/-- ITS FALSE NEIGHBOUR: 'it returns false'. Refute it at one input. -/
def fnSignsOfWrong : ChangeSpec := { name := "fnSignsOf", fn := fun _ => fun
  | [d] => { results := [.lit (.bool false)], args := [d] }
  | _ => none }
def FnSignsOfWrongFalsely : Prop := fnSignsOfRow.holds Try.pinned (OpenSpec.ofChange fnSignsOfWrong)

/-- 'laws.FnUnsignsOf': WHATEVER THE INPUT: true; the input reads as it did. -/
def fnUnsignsOfSpec : ChangeSpec := { name := "fnUnsignsOf", fn := fun _ => fun
  | [d] => { results := [.lit (.bool true)], args := [d] }
  | _ => none }
def fnUnsignsOfRow : OpenClaim := { program := "ytccddkgpcgnaoaa", sum := "ea437eaf1ba92a9a078233bc06f181912beaac2890baa137dccbcc0a6b91397f", func := "loop.example/wholewaves/laws.FnUnsignsOf", spec := "fnUnsignsOf", apart := false }
def FnUnsignsOfSaid : Prop := fnUnsignsOfRow.holds Try.pinned (OpenSpec.ofChange fnUnsignsOfSpec)

/-- ITS FALSE NEIGHBOUR: 'it returns false'. Refute it at one input. -/
def fnUnsignsOfWrong : ChangeSpec := { name := "fnUnsignsOf", fn := fun _ => fun
  | [d] => { results := [.lit (.bool false)], args := [d] }
  | _ => none }
def FnUnsignsOfWrongFalsely : Prop := fnUnsignsOfRow.holds Try.pinned (OpenSpec.ofChange fnUnsignsOfWrong)

/-- 'laws.FnMixOf': WHATEVER THE INPUT: true; the input reads as it did. -/
def fnMixOfSpec : ChangeSpec := { name := "fnMixOf", fn := fun _ => fun
  | [d] => { results := [.lit (.bool true)], args := [d] }
  | _ => none }
def fnMixOfRow : OpenClaim := { program := "ytccddkgpcgnaoaa", sum := "ea437eaf1ba92a9a078233bc06f181912beaac2890baa137dccbcc0a6b91397f", func := "loop.example/wholewaves/laws.FnMixOf", spec := "fnMixOf", apart := false }
def FnMixOfSaid : Prop := fnMixOfRow.holds Try.pinned (OpenSpec.ofChange fnMixOfSpec)

/-- ITS FALSE NEIGHBOUR: 'it returns false'. Refute it at one input. -/
def fnMixOfWrong : ChangeSpec := { name := "fnMixOf", fn := fun _ => fun
  | [d] => { results := [.lit (.bool false)], args := [d] }
  | _ => none }
def FnMixOfWrongFalsely : Prop := fnMixOfRow.holds Try.pinned (OpenSpec.ofChange fnMixOfWrong)

/- THE SECOND FORM. 'bulk': how many values and letters a reading holds, each counted each time it is reached (what is shared counts as often as it is met; a slice's spare places count too). A statement '..UptoSaid' is the law's where the arguments, and the package variables that the reading takes, are together of bulk at most 1048576: NARROWER than '..Said'. Prove '..Said' where nothing that the law and all that it calls make is longer than what came in: it says more and counts as full. Else prove '..UptoSaid'. A law counts once. -/
mutual
def uptoBulk {H : Type} : DataW H → Nat
  | .lit (.string bytes) => bytes.length + 1
  | .lit _ => 1
  | .nil => 1
  | .ptr d => uptoBulk d + 1
  | .slice elems spare => uptoBulkAll elems + uptoBulkAll spare + 1
  | .agg parts => uptoBulkAll parts + 1
  | .iface _ d => uptoBulk d + 1
  | .map entries => uptoBulkEntries entries + 1
  | .held _ => 1
def uptoBulkAll {H : Type} : List (DataW H) → Nat
  | [] => 0
  | d :: r => uptoBulk d + uptoBulkAll r
def uptoBulkEntries {H : Type} : List (Lit × DataW H) → Nat
  | [] => 0
  | x :: r => uptoBulkEntry x + uptoBulkEntries r
def uptoBulkEntry {H : Type} : Lit × DataW H → Nat
  | (.string bytes, d) => bytes.length + uptoBulk d + 1
  | (_, d) => uptoBulk d + 1
 end
def uptoSmall : (H : Type) → List (DataW H) → Bool := fun _ ds => decide (uptoBulkAll ds ≤ 1048576)
def OpenSpec.upto (s : _root_.Go.ChangeSpec) : _root_.Go.OpenSpec := { _root_.Go.OpenSpec.ofChange s with cond := some uptoSmall }

/-- 'laws.FnExactMixOf', WHERE WHAT IT READS IS OF BULK AT MOST 1048576: true; the input reads as it did. -/
def fnExactMixOfUptoRow : OpenClaim := { program := "ytccddkgpcgnaoaa", sum := "ea437eaf1ba92a9a078233bc06f181912beaac2890baa137dccbcc0a6b91397f", func := "loop.example/wholewaves/laws.FnExactMixOf", spec := "fnExactMixOf", apart := false, narrowed := true }
def FnExactMixOfUptoSaid : Prop := fnExactMixOfUptoRow.holds Try.pinned (OpenSpec.upto fnExactMixOfSpec)

/-- 'laws.FnExactOrderOf', WHERE WHAT IT READS IS OF BULK AT MOST 1048576: true; the input reads as it did. -/
def fnExactOrderOfUptoRow : OpenClaim := { program := "ytccddkgpcgnaoaa", sum := "ea437eaf1ba92a9a078233bc06f181912beaac2890baa137dccbcc0a6b91397f", func := "loop.example/wholewaves/laws.FnExactOrderOf", spec := "fnExactOrderOf", apart := false, narrowed := true }
def FnExactOrderOfUptoSaid : Prop := fnExactOrderOfUptoRow.holds Try.pinned (OpenSpec.upto fnExactOrderOfSpec)

/-- 'laws.FnOrderOf', WHERE WHAT IT READS IS OF BULK AT MOST 1048576: true; the input reads as it did. -/
def fnOrderOfUptoRow : OpenClaim := { program := "ytccddkgpcgnaoaa", sum := "ea437eaf1ba92a9a078233bc06f181912beaac2890baa137dccbcc0a6b91397f", func := "loop.example/wholewaves/laws.FnOrderOf", spec := "fnOrderOf", apart := false, narrowed := true }
def FnOrderOfUptoSaid : Prop := fnOrderOfUptoRow.holds Try.pinned (OpenSpec.upto fnOrderOfSpec)

/-- 'laws.FnExactSignsOf', WHERE WHAT IT READS IS OF BULK AT MOST 1048576: true; the input reads as it did. -/
def fnExactSignsOfUptoRow : OpenClaim := { program := "ytccddkgpcgnaoaa", sum := "ea437eaf1ba92a9a078233bc06f181912beaac2890baa137dccbcc0a6b91397f", func := "loop.example/wholewaves/laws.FnExactSignsOf", spec := "fnExactSignsOf", apart := false, narrowed := true }
def FnExactSignsOfUptoSaid : Prop := fnExactSignsOfUptoRow.holds Try.pinned (OpenSpec.upto fnExactSignsOfSpec)

/-- 'laws.FnExactIsBent', WHERE WHAT IT READS IS OF BULK AT MOST 1048576: true; the input reads as it did. -/
def fnExactIsBentUptoRow : OpenClaim := { program := "ytccddkgpcgnaoaa", sum := "ea437eaf1ba92a9a078233bc06f181912beaac2890baa137dccbcc0a6b91397f", func := "loop.example/wholewaves/laws.FnExactIsBent", spec := "fnExactIsBent", apart := false, narrowed := true }
def FnExactIsBentUptoSaid : Prop := fnExactIsBentUptoRow.holds Try.pinned (OpenSpec.upto fnExactIsBentSpec)

/-- 'laws.FnExactUnsignsOf', WHERE WHAT IT READS IS OF BULK AT MOST 1048576: true; the input reads as it did. -/
def fnExactUnsignsOfUptoRow : OpenClaim := { program := "ytccddkgpcgnaoaa", sum := "ea437eaf1ba92a9a078233bc06f181912beaac2890baa137dccbcc0a6b91397f", func := "loop.example/wholewaves/laws.FnExactUnsignsOf", spec := "fnExactUnsignsOf", apart := false, narrowed := true }
def FnExactUnsignsOfUptoSaid : Prop := fnExactUnsignsOfUptoRow.holds Try.pinned (OpenSpec.upto fnExactUnsignsOfSpec)

/-- 'laws.FnIsBent', WHERE WHAT IT READS IS OF BULK AT MOST 1048576: true; the input reads as it did. -/
def fnIsBentUptoRow : OpenClaim := { program := "ytccddkgpcgnaoaa", sum := "ea437eaf1ba92a9a078233bc06f181912beaac2890baa137dccbcc0a6b91397f", func := "loop.example/wholewaves/laws.FnIsBent", spec := "fnIsBent", apart := false, narrowed := true }
def FnIsBentUptoSaid : Prop := fnIsBentUptoRow.holds Try.pinned (OpenSpec.upto fnIsBentSpec)

/-- 'laws.FnSignsOf', WHERE WHAT IT READS IS OF BULK AT MOST 1048576: true; the input reads as it did. -/
def fnSignsOfUptoRow : OpenClaim := { program := "ytccddkgpcgnaoaa", sum := "ea437eaf1ba92a9a078233bc06f181912beaac2890baa137dccbcc0a6b91397f", func := "loop.example/wholewaves/laws.FnSignsOf", spec := "fnSignsOf", apart := false, narrowed := true }
def FnSignsOfUptoSaid : Prop := fnSignsOfUptoRow.holds Try.pinned (OpenSpec.upto fnSignsOfSpec)

/-- 'laws.FnUnsignsOf', WHERE WHAT IT READS IS OF BULK AT MOST 1048576: true; the input reads as it did. -/
def fnUnsignsOfUptoRow : OpenClaim := { program := "ytccddkgpcgnaoaa", sum := "ea437eaf1ba92a9a078233bc06f181912beaac2890baa137dccbcc0a6b91397f", func := "loop.example/wholewaves/laws.FnUnsignsOf", spec := "fnUnsignsOf", apart := false, narrowed := true }
def FnUnsignsOfUptoSaid : Prop := fnUnsignsOfUptoRow.holds Try.pinned (OpenSpec.upto fnUnsignsOfSpec)

/-- 'laws.FnMixOf', WHERE WHAT IT READS IS OF BULK AT MOST 1048576: true; the input reads as it did. -/
def fnMixOfUptoRow : OpenClaim := { program := "ytccddkgpcgnaoaa", sum := "ea437eaf1ba92a9a078233bc06f181912beaac2890baa137dccbcc0a6b91397f", func := "loop.example/wholewaves/laws.FnMixOf", spec := "fnMixOf", apart := false, narrowed := true }
def FnMixOfUptoSaid : Prop := fnMixOfUptoRow.holds Try.pinned (OpenSpec.upto fnMixOfSpec)

end Rows
end Go.Proofs.Ytccddkgpcgnaoaa
