/-
  No cell of these rows narrows 'for every input' (looked for: loops, veiled, ifaces, maps, wideKeys, modest, calm, conditions, laid).
  DERIVED. THE GIVEN ROWS OF THIS SEAT. 8 by the template 'for every input the law returns true; each argument reads behind the call as it read before'; 0 by the template 'total and deterministic' (their statements: YtgnkdnlikdpffaaTotals.lean).
  GIVEN WITH THE SEED: the statements are not yours to turn. If you find one false, say at which input.
  Laid BY PROGRAM, IN A SANDBOX (cutbox-rows.mjs): the forced cells as the released guide's own fill.sh prints them over the translation 2be8fda40c7db877… (all of the seat's roots in one cut). By AI agents, Wed Nov 11 2026. No macro, syntax, notation, axiom, sorry.
-/
import Derived.Test.YtgnkdnlikdpffaaChecked
import GoSem.Claim
import GoSem.ClaimJoined
import GoSem.ClaimMapViews
import Derived.JoinedTies
import Derived.KernelRfl
namespace Go.Proofs.Ytgnkdnlikdpffaa
/- THE CELL 'sum', in the pinned program and in every row, IS THE sha256 OF THE DUMP (.gsa) THAT YtgnkdnlikdpffaaProg.lean LOADS. Nothing in Lean hashes anything: it is a label: what it is worth is what the hold of that sum in a sandbox is worth. -/
noncomputable def Try.pinned : Pinned := { name := "ytgnkdnlikdpffaa", sum := "2be8fda40c7db8779300108ac5efd7b3ae05be6b1014f834a6e45793e08fee7f", checked := Try.checked }
namespace Rows
def none {H : Type} : Left H := { results := [], args := [] }

/-- 'laws.FnExactWaveOf': WHATEVER THE INPUT: true; the input reads as it did. -/
def fnExactWaveOfSpec : ChangeSpec := { name := "fnExactWaveOf", fn := fun _ => fun
  | [d] => { results := [.lit (.bool true)], args := [d] }
  | _ => none }
def fnExactWaveOfRow : OpenClaim := { program := "ytgnkdnlikdpffaa", sum := "2be8fda40c7db8779300108ac5efd7b3ae05be6b1014f834a6e45793e08fee7f", func := "loop.example/wholewaves/laws.FnExactWaveOf", spec := "fnExactWaveOf", apart := false }
def FnExactWaveOfSaid : Prop := fnExactWaveOfRow.holds Try.pinned (OpenSpec.ofChange fnExactWaveOfSpec)

/-- ITS FALSE NEIGHBOUR: 'it returns false'. Refute it at one input. -/
def fnExactWaveOfWrong : ChangeSpec := { name := "fnExactWaveOf", fn := fun _ => fun
  | [d] => { results := [.lit (.bool false)], args := [d] }
  | _ => none }
def FnExactWaveOfWrongFalsely : Prop := fnExactWaveOfRow.holds Try.pinned (OpenSpec.ofChange fnExactWaveOfWrong)

/-- 'laws.FnExactSpreadOf': WHATEVER THE INPUT: true; the input reads as it did. -/
def fnExactSpreadOfSpec : ChangeSpec := { name := "fnExactSpreadOf", fn := fun _ => fun
  | [d] => { results := [.lit (.bool true)], args := [d] }
  | _ => none }
def fnExactSpreadOfRow : OpenClaim := { program := "ytgnkdnlikdpffaa", sum := "2be8fda40c7db8779300108ac5efd7b3ae05be6b1014f834a6e45793e08fee7f", func := "loop.example/wholewaves/laws.FnExactSpreadOf", spec := "fnExactSpreadOf", unfollowed := true, recurses := true, apart := false }
def FnExactSpreadOfSaid : Prop := fnExactSpreadOfRow.holds Try.pinned (OpenSpec.ofChange fnExactSpreadOfSpec)

/-- ITS FALSE NEIGHBOUR: 'it returns false'. Refute it at one input. -/
def fnExactSpreadOfWrong : ChangeSpec := { name := "fnExactSpreadOf", fn := fun _ => fun
  | [d] => { results := [.lit (.bool false)], args := [d] }
  | _ => none }
def FnExactSpreadOfWrongFalsely : Prop := fnExactSpreadOfRow.holds Try.pinned (OpenSpec.ofChange fnExactSpreadOfWrong)

/-- 'laws.FnTurnOf': WHATEVER THE INPUT: true; the input reads as it did. -/
def fnTurnOfSpec : ChangeSpec := { name := "fnTurnOf", fn := fun _ => fun
  | [d] => { results := [.lit (.bool true)], args := [d] }
  | _ => none }
def fnTurnOfRow : OpenClaim := { program := "ytgnkdnlikdpffaa", sum := "2be8fda40c7db8779300108ac5efd7b3ae05be6b1014f834a6e45793e08fee7f", func := "loop.example/wholewaves/laws.FnTurnOf", spec := "fnTurnOf", unfollowed := true, recurses := true, apart := false }
def FnTurnOfSaid : Prop := fnTurnOfRow.holds Try.pinned (OpenSpec.ofChange fnTurnOfSpec)

/-- ITS FALSE NEIGHBOUR: 'it returns false'. Refute it at one input. -/
def fnTurnOfWrong : ChangeSpec := { name := "fnTurnOf", fn := fun _ => fun
  | [d] => { results := [.lit (.bool false)], args := [d] }
  | _ => none }
def FnTurnOfWrongFalsely : Prop := fnTurnOfRow.holds Try.pinned (OpenSpec.ofChange fnTurnOfWrong)

/-- 'laws.FnExactUnwaveOf': WHATEVER THE INPUT: true; the input reads as it did. -/
def fnExactUnwaveOfSpec : ChangeSpec := { name := "fnExactUnwaveOf", fn := fun _ => fun
  | [d] => { results := [.lit (.bool true)], args := [d] }
  | _ => none }
def fnExactUnwaveOfRow : OpenClaim := { program := "ytgnkdnlikdpffaa", sum := "2be8fda40c7db8779300108ac5efd7b3ae05be6b1014f834a6e45793e08fee7f", func := "loop.example/wholewaves/laws.FnExactUnwaveOf", spec := "fnExactUnwaveOf", apart := false }
def FnExactUnwaveOfSaid : Prop := fnExactUnwaveOfRow.holds Try.pinned (OpenSpec.ofChange fnExactUnwaveOfSpec)

/-- ITS FALSE NEIGHBOUR: 'it returns false'. Refute it at one input. -/
def fnExactUnwaveOfWrong : ChangeSpec := { name := "fnExactUnwaveOf", fn := fun _ => fun
  | [d] => { results := [.lit (.bool false)], args := [d] }
  | _ => none }
def FnExactUnwaveOfWrongFalsely : Prop := fnExactUnwaveOfRow.holds Try.pinned (OpenSpec.ofChange fnExactUnwaveOfWrong)

/-- 'laws.FnRingOf': WHATEVER THE INPUT: true; the input reads as it did. -/
def fnRingOfSpec : ChangeSpec := { name := "fnRingOf", fn := fun _ => fun
  | [d] => { results := [.lit (.bool true)], args := [d] }
  | _ => none }
def fnRingOfRow : OpenClaim := { program := "ytgnkdnlikdpffaa", sum := "2be8fda40c7db8779300108ac5efd7b3ae05be6b1014f834a6e45793e08fee7f", func := "loop.example/wholewaves/laws.FnRingOf", spec := "fnRingOf", apart := false }
def FnRingOfSaid : Prop := fnRingOfRow.holds Try.pinned (OpenSpec.ofChange fnRingOfSpec)

/-- ITS FALSE NEIGHBOUR: 'it returns false'. Refute it at one input. -/
def fnRingOfWrong : ChangeSpec := { name := "fnRingOf", fn := fun _ => fun
  | [d] => { results := [.lit (.bool false)], args := [d] }
  | _ => none }
def FnRingOfWrongFalsely : Prop := fnRingOfRow.holds Try.pinned (OpenSpec.ofChange fnRingOfWrong)

/-- 'laws.FnSpreadOf': WHATEVER THE INPUT: true; the input reads as it did. -/
def fnSpreadOfSpec : ChangeSpec := { name := "fnSpreadOf", fn := fun _ => fun
  | [d] => { results := [.lit (.bool true)], args := [d] }
  | _ => none }
def fnSpreadOfRow : OpenClaim := { program := "ytgnkdnlikdpffaa", sum := "2be8fda40c7db8779300108ac5efd7b3ae05be6b1014f834a6e45793e08fee7f", func := "loop.example/wholewaves/laws.FnSpreadOf", spec := "fnSpreadOf", unfollowed := true, recurses := true, apart := false }
def FnSpreadOfSaid : Prop := fnSpreadOfRow.holds Try.pinned (OpenSpec.ofChange fnSpreadOfSpec)

/-- ITS FALSE NEIGHBOUR: 'it returns false'. Refute it at one input. -/
def fnSpreadOfWrong : ChangeSpec := { name := "fnSpreadOf", fn := fun _ => fun
  | [d] => { results := [.lit (.bool false)], args := [d] }
  | _ => none }
def FnSpreadOfWrongFalsely : Prop := fnSpreadOfRow.holds Try.pinned (OpenSpec.ofChange fnSpreadOfWrong)

/-- 'laws.FnUnwaveOf': WHATEVER THE INPUT: true; the input reads as it did. -/
def fnUnwaveOfSpec : ChangeSpec := { name := "fnUnwaveOf", fn := fun _ => fun
  | [d] => { results := [.lit (.bool true)], args := [d] }
  | _ => none }
def fnUnwaveOfRow : OpenClaim := { program := "ytgnkdnlikdpffaa", sum := "2be8fda40c7db8779300108ac5efd7b3ae05be6b1014f834a6e45793e08fee7f", func := "loop.example/wholewaves/laws.FnUnwaveOf", spec := "fnUnwaveOf", apart := false }
def FnUnwaveOfSaid : Prop := fnUnwaveOfRow.holds Try.pinned (OpenSpec.ofChange fnUnwaveOfSpec)

/-- ITS FALSE NEIGHBOUR: 'it returns false'. Refute it at one input. -/
def fnUnwaveOfWrong : ChangeSpec := { name := "fnUnwaveOf", fn := fun _ => fun
  | [d] => { results := [.lit (.bool false)], args := [d] }
  | _ => none }
def FnUnwaveOfWrongFalsely : Prop := fnUnwaveOfRow.holds Try.pinned (OpenSpec.ofChange fnUnwaveOfWrong)

/-- 'laws.FnWaveOf': WHATEVER THE INPUT: true; the input reads as it did. -/
def fnWaveOfSpec : ChangeSpec := { name := "fnWaveOf", fn := fun _ => fun
  | [d] => { results := [.lit (.bool true)], args := [d] }
  | _ => none }
def fnWaveOfRow : OpenClaim := { program := "ytgnkdnlikdpffaa", sum := "2be8fda40c7db8779300108ac5efd7b3ae05be6b1014f834a6e45793e08fee7f", func := "loop.example/wholewaves/laws.FnWaveOf", spec := "fnWaveOf", apart := false }
def FnWaveOfSaid : Prop := fnWaveOfRow.holds Try.pinned (OpenSpec.ofChange fnWaveOfSpec)

/-- ITS FALSE NEIGHBOUR: 'it returns false'. Refute it at one input. -/
def fnWaveOfWrong : ChangeSpec := { name := "fnWaveOf", fn := fun _ => fun
  | [d] => { results := [.lit (.bool false)], args := [d] }
  | _ => none }
def FnWaveOfWrongFalsely : Prop := fnWaveOfRow.holds Try.pinned (OpenSpec.ofChange fnWaveOfWrong)

/- THE SECOND FORM. 'bulk': how many values and letters a reading holds, each counted each time it is reached (what is shared counts as often as it is met; a slice's spare places count too). A statement '..UptoSaid' is the law's where the arguments, and the package variables that the reading takes, are together of bulk at most 1048576: NARROWER than '..Said'. Prove '..Said' where nothing that the law and all that it calls make is longer than what came in: it says more and counts as full. Else prove '..UptoSaid'. A law counts once. -/
mutual
def uptoBulk {H : Type} : DataW H → Nat
  | .lit (.string bytes) => bytes.length + 1
  | .lit _ => 1
  | .nil => 1
  | .ptr d => uptoBulk d + 1
  | .slice elems spare => uptoBulkAll elems + uptoBulkAll spare + 1
  | .agg parts => uptoBulkAll parts + 1
  | .iface _ d => uptoBulk d + 1
  | .map entries => uptoBulkEntries entries + 1
  | .held _ => 1
def uptoBulkAll {H : Type} : List (DataW H) → Nat
  | [] => 0
  | d :: r => uptoBulk d + uptoBulkAll r
def uptoBulkEntries {H : Type} : List (Lit × DataW H) → Nat
  | [] => 0
  | x :: r => uptoBulkEntry x + uptoBulkEntries r
def uptoBulkEntry {H : Type} : Lit × DataW H → Nat
  | (.string bytes, d) => bytes.length + uptoBulk d + 1
  | (_, d) => uptoBulk d + 1
 end
def uptoSmall : (H : Type) → List (DataW H) → Bool := fun _ ds => decide (uptoBulkAll ds ≤ 1048576)
def OpenSpec.upto (s : _root_.Go.ChangeSpec) : _root_.Go.OpenSpec := { _root_.Go.OpenSpec.ofChange s with cond := some uptoSmall }

/-- 'laws.FnExactWaveOf', WHERE WHAT IT READS IS OF BULK AT MOST 1048576: true; the input reads as it did. -/
def fnExactWaveOfUptoRow : OpenClaim := { program := "ytgnkdnlikdpffaa", sum := "2be8fda40c7db8779300108ac5efd7b3ae05be6b1014f834a6e45793e08fee7f", func := "loop.example/wholewaves/laws.FnExactWaveOf", spec := "fnExactWaveOf", apart := false, narrowed := true }
def FnExactWaveOfUptoSaid : Prop := fnExactWaveOfUptoRow.holds Try.pinned (OpenSpec.upto fnExactWaveOfSpec)

/-- 'laws.FnExactSpreadOf', WHERE WHAT IT READS IS OF BULK AT MOST 1048576: true; the input reads as it did. -/
def fnExactSpreadOfUptoRow : OpenClaim := { program := "ytgnkdnlikdpffaa", sum := "2be8fda40c7db8779300108ac5efd7b3ae05be6b1014f834a6e45793e08fee7f", func := "loop.example/wholewaves/laws.FnExactSpreadOf", spec := "fnExactSpreadOf", unfollowed := true, recurses := true, apart := false, narrowed := true }
def FnExactSpreadOfUptoSaid : Prop := fnExactSpreadOfUptoRow.holds Try.pinned (OpenSpec.upto fnExactSpreadOfSpec)

/-- 'laws.FnTurnOf', WHERE WHAT IT READS IS OF BULK AT MOST 1048576: true; the input reads as it did. -/
def fnTurnOfUptoRow : OpenClaim := { program := "ytgnkdnlikdpffaa", sum := "2be8fda40c7db8779300108ac5efd7b3ae05be6b1014f834a6e45793e08fee7f", func := "loop.example/wholewaves/laws.FnTurnOf", spec := "fnTurnOf", unfollowed := true, recurses := true, apart := false, narrowed := true }
def FnTurnOfUptoSaid : Prop := fnTurnOfUptoRow.holds Try.pinned (OpenSpec.upto fnTurnOfSpec)

/-- 'laws.FnExactUnwaveOf', WHERE WHAT IT READS IS OF BULK AT MOST 1048576: true; the input reads as it did. -/
def fnExactUnwaveOfUptoRow : OpenClaim := { program := "ytgnkdnlikdpffaa", sum := "2be8fda40c7db8779300108ac5efd7b3ae05be6b1014f834a6e45793e08fee7f", func := "loop.example/wholewaves/laws.FnExactUnwaveOf", spec := "fnExactUnwaveOf", apart := false, narrowed := true }
def FnExactUnwaveOfUptoSaid : Prop := fnExactUnwaveOfUptoRow.holds Try.pinned (OpenSpec.upto fnExactUnwaveOfSpec)

/-- 'laws.FnRingOf', WHERE WHAT IT READS IS OF BULK AT MOST 1048576: true; the input reads as it did. -/
def fnRingOfUptoRow : OpenClaim := { program := "ytgnkdnlikdpffaa", sum := "2be8fda40c7db8779300108ac5efd7b3ae05be6b1014f834a6e45793e08fee7f", func := "loop.example/wholewaves/laws.FnRingOf", spec := "fnRingOf", apart := false, narrowed := true }
def FnRingOfUptoSaid : Prop := fnRingOfUptoRow.holds Try.pinned (OpenSpec.upto fnRingOfSpec)

/-- 'laws.FnSpreadOf', WHERE WHAT IT READS IS OF BULK AT MOST 1048576: true; the input reads as it did. -/
def fnSpreadOfUptoRow : OpenClaim := { program := "ytgnkdnlikdpffaa", sum := "2be8fda40c7db8779300108ac5efd7b3ae05be6b1014f834a6e45793e08fee7f", func := "loop.example/wholewaves/laws.FnSpreadOf", spec := "fnSpreadOf", unfollowed := true, recurses := true, apart := false, narrowed := true }
def FnSpreadOfUptoSaid : Prop := fnSpreadOfUptoRow.holds Try.pinned (OpenSpec.upto fnSpreadOfSpec)

/-- 'laws.FnUnwaveOf', WHERE WHAT IT READS IS OF BULK AT MOST 1048576: true; the input reads as it did. -/
def fnUnwaveOfUptoRow : OpenClaim := { program := "ytgnkdnlikdpffaa", sum := "2be8fda40c7db8779300108ac5efd7b3ae05be6b1014f834a6e45793e08fee7f", func := "loop.example/wholewaves/laws.FnUnwaveOf", spec := "fnUnwaveOf", apart := false, narrowed := true }
def FnUnwaveOfUptoSaid : Prop := fnUnwaveOfUptoRow.holds Try.pinned (OpenSpec.upto fnUnwaveOfSpec)

/-- 'laws.FnWaveOf', WHERE WHAT IT READS IS OF BULK AT MOST 1048576: true; the input reads as it did. -/
def fnWaveOfUptoRow : OpenClaim := { program := "ytgnkdnlikdpffaa", sum := "2be8fda40c7db8779300108ac5efd7b3ae05be6b1014f834a6e45793e08fee7f", func := "loop.example/wholewaves/laws.FnWaveOf", spec := "fnWaveOf", apart := false, narrowed := true }
def FnWaveOfUptoSaid : Prop := fnWaveOfUptoRow.holds Try.pinned (OpenSpec.upto fnWaveOfSpec)

end Rows
end Go.Proofs.Ytgnkdnlikdpffaa
