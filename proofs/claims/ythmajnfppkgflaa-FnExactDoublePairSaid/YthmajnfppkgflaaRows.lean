/-
  No cell of these rows narrows 'for every input' (looked for: loops, veiled, ifaces, maps, wideKeys, modest, calm, conditions, laid).
  DERIVED. THE GIVEN ROWS OF THIS SEAT. 5 by the template 'for every input the law returns true; each argument reads behind the call as it read before'; 0 by the template 'total and deterministic' (their statements: YthmajnfppkgflaaTotals.lean).
  GIVEN WITH THE SEED: the statements are not yours to turn. If you find one false, say at which input.
  Laid BY PROGRAM, IN A SANDBOX (cutbox-rows.mjs): the forced cells as the released guide's own fill.sh prints them over the translation d7783050650b6b11… (all of the seat's roots in one cut). By AI agents, Wed Nov 11 2026. No macro, syntax, notation, axiom, sorry.
-/
import Derived.Test.YthmajnfppkgflaaChecked
import GoSem.Claim
import GoSem.ClaimJoined
import GoSem.ClaimMapViews
import Derived.JoinedTies
import Derived.KernelRfl
namespace Go.Proofs.Ythmajnfppkgflaa
/- THE CELL 'sum', in the pinned program and in every row, IS THE sha256 OF THE DUMP (.gsa) THAT YthmajnfppkgflaaProg.lean LOADS. Nothing in Lean hashes anything: it is a label: what it is worth is what the hold of that sum in a sandbox is worth. -/
noncomputable def Try.pinned : Pinned := { name := "ythmajnfppkgflaa", sum := "d7783050650b6b117224fc736303aa9f8a7c813b793e9b3454b04af6e1fd20b1", checked := Try.checked }
namespace Rows
def none {H : Type} : Left H := { results := [], args := [] }

/-- 'laws.FnSelfOf': WHATEVER THE INPUT: true; the input reads as it did. -/
def fnSelfOfSpec : ChangeSpec := { name := "fnSelfOf", fn := fun _ => fun
  | [d] => { results := [.lit (.bool true)], args := [d] }
  | _ => none }
def fnSelfOfRow : OpenClaim := { program := "ythmajnfppkgflaa", sum := "d7783050650b6b117224fc736303aa9f8a7c813b793e9b3454b04af6e1fd20b1", func := "loop.example/wholewaves/laws.FnSelfOf", spec := "fnSelfOf", apart := false }
def FnSelfOfSaid : Prop := fnSelfOfRow.holds Try.pinned (OpenSpec.ofChange fnSelfOfSpec)

/-- ITS FALSE NEIGHBOUR: 'it returns false'. Refute it at one input. -/
def fnSelfOfWrong : ChangeSpec := { name := "fnSelfOf", fn := fun _ => fun
  | [d] => { results := [.lit (.bool false)], args := [d] }
  | _ => none }
def FnSelfOfWrongFalsely : Prop := fnSelfOfRow.holds Try.pinned (OpenSpec.ofChange fnSelfOfWrong)

/-- 'laws.FnIsQuiet': WHATEVER THE INPUT: true; the input reads as it did. -/
def fnIsQuietSpec : ChangeSpec := { name := "fnIsQuiet", fn := fun _ => fun
  | [d] => { results := [.lit (.bool true)], args := [d] }
  | _ => none }
def fnIsQuietRow : OpenClaim := { program := "ythmajnfppkgflaa", sum := "d7783050650b6b117224fc736303aa9f8a7c813b793e9b3454b04af6e1fd20b1", func := "loop.example/wholewaves/laws.FnIsQuiet", spec := "fnIsQuiet", apart := false }
def FnIsQuietSaid : Prop := fnIsQuietRow.holds Try.pinned (OpenSpec.ofChange fnIsQuietSpec)

/-- ITS FALSE NEIGHBOUR: 'it returns false'. Refute it at one input. -/
def fnIsQuietWrong : ChangeSpec := { name := "fnIsQuiet", fn := fun _ => fun
  | [d] => { results := [.lit (.bool false)], args := [d] }
  | _ => none }
def FnIsQuietWrongFalsely : Prop := fnIsQuietRow.holds Try.pinned (OpenSpec.ofChange fnIsQuietWrong)

/-- 'laws.FnExactDoublePair': WHATEVER THE INPUT: true; the input reads as it did. -/
def fnExactDoublePairSpec : ChangeSpec := { name := "fnExactDoublePair", fn := fun _ => fun
  | [d1, d2] => { results := [.lit (.bool true)], args := [d1, d2] }
  | _ => none }
def fnExactDoublePairRow : OpenClaim := { program := "ythmajnfppkgflaa", sum := "d7783050650b6b117224fc736303aa9f8a7c813b793e9b3454b04af6e1fd20b1", func := "loop.example/wholewaves/laws.FnExactDoublePair", spec := "fnExactDoublePair", apart := false }
def FnExactDoublePairSaid : Prop := fnExactDoublePairRow.holds Try.pinned (OpenSpec.ofChange fnExactDoublePairSpec)

/-- ITS FALSE NEIGHBOUR: 'it returns false'. Refute it at one input. -/
def fnExactDoublePairWrong : ChangeSpec := { name := "fnExactDoublePair", fn := fun _ => fun
  | [d1, d2] => { results := [.lit (.bool false)], args := [d1, d2] }
  | _ => none }
def FnExactDoublePairWrongFalsely : Prop := fnExactDoublePairRow.holds Try.pinned (OpenSpec.ofChange fnExactDoublePairWrong)

/-- 'laws.FnArePaired': WHATEVER THE INPUT: true; the input reads as it did. -/
def fnArePairedSpec : ChangeSpec := { name := "fnArePaired", fn := fun _ => fun
  | [d] => { results := [.lit (.bool true)], args := [d] }
  | _ => none }
def fnArePairedRow : OpenClaim := { program := "ythmajnfppkgflaa", sum := "d7783050650b6b117224fc736303aa9f8a7c813b793e9b3454b04af6e1fd20b1", func := "loop.example/wholewaves/laws.FnArePaired", spec := "fnArePaired", apart := false }
def FnArePairedSaid : Prop := fnArePairedRow.holds Try.pinned (OpenSpec.ofChange fnArePairedSpec)

/-- ITS FALSE NEIGHBOUR: 'it returns false'. Refute it at one input. -/
def fnArePairedWrong : ChangeSpec := { name := "fnArePaired", fn := fun _ => fun
  | [d] => { results := [.lit (.bool false)], args := [d] }
  | _ => none }
def FnArePairedWrongFalsely : Prop := fnArePairedRow.holds Try.pinned (OpenSpec.ofChange fnArePairedWrong)

/-- 'laws.FnDoublePair': WHATEVER THE INPUT: true; the input reads as it did. -/
def fnDoublePairSpec : ChangeSpec := { name := "fnDoublePair", fn := fun _ => fun
  | [d] => { results := [.lit (.bool true)], args := [d] }
  | _ => none }
def fnDoublePairRow : OpenClaim := { program := "ythmajnfppkgflaa", sum := "d7783050650b6b117224fc736303aa9f8a7c813b793e9b3454b04af6e1fd20b1", func := "loop.example/wholewaves/laws.FnDoublePair", spec := "fnDoublePair", apart := false }
def FnDoublePairSaid : Prop := fnDoublePairRow.holds Try.pinned (OpenSpec.ofChange fnDoublePairSpec)

/-- ITS FALSE NEIGHBOUR: 'it returns false'. Refute it at one input. -/
def fnDoublePairWrong : ChangeSpec := { name := "fnDoublePair", fn := fun _ => fun
  | [d] => { results := [.lit (.bool false)], args := [d] }
  | _ => none }
def FnDoublePairWrongFalsely : Prop := fnDoublePairRow.holds Try.pinned (OpenSpec.ofChange fnDoublePairWrong)

/- THE SECOND FORM. 'bulk': how many values and letters a reading holds, each counted each time it is reached (what is shared counts as often as it is met; a slice's spare places count too). A statement '..UptoSaid' is the law's where the arguments, and the package variables that the reading takes, are together of bulk at most 1048576: NARROWER than '..Said'. Prove '..Said' where nothing that the law and all that it calls make is longer than what came in: it says more and counts as full. Else prove '..UptoSaid'. A law counts once. -/
mutual
def uptoBulk {H : Type} : DataW H → Nat
  | .lit (.string bytes) => bytes.length + 1
  | .lit _ => 1
  | .nil => 1
  | .ptr d => uptoBulk d + 1
  | .slice elems spare => uptoBulkAll elems + uptoBulkAll spare + 1
  | .agg parts => uptoBulkAll parts + 1
  | .iface _ d => uptoBulk d + 1
  | .map entries => uptoBulkEntries entries + 1
  | .held _ => 1
def uptoBulkAll {H : Type} : List (DataW H) → Nat
  | [] => 0
  | d :: r => uptoBulk d + uptoBulkAll r
def uptoBulkEntries {H : Type} : List (Lit × DataW H) → Nat
  | [] => 0
  | x :: r => uptoBulkEntry x + uptoBulkEntries r
def uptoBulkEntry {H : Type} : Lit × DataW H → Nat
  | (.string bytes, d) => bytes.length + uptoBulk d + 1
  | (_, d) => uptoBulk d + 1
 end
def uptoSmall : (H : Type) → List (DataW H) → Bool := fun _ ds => decide (uptoBulkAll ds ≤ 1048576)
def OpenSpec.upto (s : _root_.Go.ChangeSpec) : _root_.Go.OpenSpec := { _root_.Go.OpenSpec.ofChange s with cond := some uptoSmall }

/-- 'laws.FnSelfOf', WHERE WHAT IT READS IS OF BULK AT MOST 1048576: true; the input reads as it did. -/
def fnSelfOfUptoRow : OpenClaim := { program := "ythmajnfppkgflaa", sum := "d7783050650b6b117224fc736303aa9f8a7c813b793e9b3454b04af6e1fd20b1", func := "loop.example/wholewaves/laws.FnSelfOf", spec := "fnSelfOf", apart := false, narrowed := true }
def FnSelfOfUptoSaid : Prop := fnSelfOfUptoRow.holds Try.pinned (OpenSpec.upto fnSelfOfSpec)

/-- 'laws.FnIsQuiet', WHERE WHAT IT READS IS OF BULK AT MOST 1048576: true; the input reads as it did. -/
def fnIsQuietUptoRow : OpenClaim := { program := "ythmajnfppkgflaa", sum := "d7783050650b6b117224fc736303aa9f8a7c813b793e9b3454b04af6e1fd20b1", func := "loop.example/wholewaves/laws.FnIsQuiet", spec := "fnIsQuiet", apart := false, narrowed := true }
def FnIsQuietUptoSaid : Prop := fnIsQuietUptoRow.holds Try.pinned (OpenSpec.upto fnIsQuietSpec)

/-- 'laws.FnExactDoublePair', WHERE WHAT IT READS IS OF BULK AT MOST 1048576: true; the input reads as it did. -/
def fnExactDoublePairUptoRow : OpenClaim := { program := "ythmajnfppkgflaa", sum := "d7783050650b6b117224fc736303aa9f8a7c813b793e9b3454b04af6e1fd20b1", func := "loop.example/wholewaves/laws.FnExactDoublePair", spec := "fnExactDoublePair", apart := false, narrowed := true }
def FnExactDoublePairUptoSaid : Prop := fnExactDoublePairUptoRow.holds Try.pinned (OpenSpec.upto fnExactDoublePairSpec)

/-- 'laws.FnArePaired', WHERE WHAT IT READS IS OF BULK AT MOST 1048576: true; the input reads as it did. -/
def fnArePairedUptoRow : OpenClaim := { program := "ythmajnfppkgflaa", sum := "d7783050650b6b117224fc736303aa9f8a7c813b793e9b3454b04af6e1fd20b1", func := "loop.example/wholewaves/laws.FnArePaired", spec := "fnArePaired", apart := false, narrowed := true }
def FnArePairedUptoSaid : Prop := fnArePairedUptoRow.holds Try.pinned (OpenSpec.upto fnArePairedSpec)

/-- 'laws.FnDoublePair', WHERE WHAT IT READS IS OF BULK AT MOST 1048576: true; the input reads as it did. -/
def fnDoublePairUptoRow : OpenClaim := { program := "ythmajnfppkgflaa", sum := "d7783050650b6b117224fc736303aa9f8a7c813b793e9b3454b04af6e1fd20b1", func := "loop.example/wholewaves/laws.FnDoublePair", spec := "fnDoublePair", apart := false, narrowed := true }
def FnDoublePairUptoSaid : Prop := fnDoublePairUptoRow.holds Try.pinned (OpenSpec.upto fnDoublePairSpec)

end Rows
end Go.Proofs.Ythmajnfppkgflaa
