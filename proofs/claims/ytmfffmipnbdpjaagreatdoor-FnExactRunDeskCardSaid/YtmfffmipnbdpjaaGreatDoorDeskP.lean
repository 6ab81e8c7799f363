/-
  A world for the witness of FnExactRunDesk's row, in which the listed variables hold what the row lists.
-/
import Derived.Test.YtmfffmipnbdpjaaGreatDoorDeskC
import Derived.Deep.DeepWitnessRowRef
import Derived.SevenTiedAt
namespace Go.Proofs.YtmfffmipnbdpjaaGreatDoor
open Go.ChangeShapes Go.WideShapes Go.ChangeAt Go.RowKit

theorem ownE : ownKnob Tryz.prog.godebug = none := by kernel_rfl
def lv : DataW Unit → Value
  | .lit (.int k n) => .int k n
  | _ => .bool false
def la : DataW Unit → List Value
  | .agg ds => ds.map lv
  | _ => []
def la2 : DataW Unit → List Value
  | .agg ds => ds.flatMap la
  | _ => []
def putAt (h : Array Obj) (g : Nat) (cs : List Value) : Array Obj := h.modify g fun
  | .cells _ t frozen => .cells cs.toArray t frozen
  | o => o
noncomputable def lowE : Nat := (World.holding Tryz.prog default ⟨#[], #[], []⟩).heap.size
/-- A world for the witness: the settled one, the listed variables holding what their initialisers lay. -/
noncomputable def laidWorld (os : Os) : World :=
  let w0 := World.holding Tryz.prog os ⟨#[.cells #[.string (bs [118, 97, 108, 117, 101, 32, 111, 117, 116, 32, 111, 102, 32, 114, 97, 110, 103, 101])] 116, .cells #[.string (bs [105, 110, 118, 97, 108, 105, 100, 32, 115, 121, 110, 116, 97, 120])] 116], #[], []⟩
  { w0 with heap := putAt (putAt (putAt (putAt (putAt (putAt (putAt w0.heap 1 [.iface 114 (.pointer (some ⟨lowE + 1, 0, none⟩))]) 2 [.iface 114 (.pointer (some ⟨lowE, 0, none⟩))]) 3 (la Rows.laid_internal_strconv_uint64pow10)) 4 (la Rows.laid_unicode_utf8_first)) 5 (la2 Rows.laid_unicode_utf8_acceptRanges)) 6 (la Rows.laid_math_bits_deBruijn32tab)) 7 (la Rows.laid_math_bits_deBruijn64tab) }
example : Tryz.prog.globalNamed "unicode/utf8.first" = some 4 := by kernel_rfl
example : Tryz.prog.globalNamed "unicode/utf8.acceptRanges" = some 5 := by kernel_rfl
example : Tryz.prog.globalNamed "math/bits.deBruijn32tab" = some 6 := by kernel_rfl
theorem laid_met (os : Os) : laidMet Tryz.prog Rows.fnExactRunDeskRow.laid ((laidWorld os).forCall (fun _ _ => 0) ⟨#[], #[.slice none 0 0], []⟩).memory :=
  laidMet_of_run' 8 (by kernel_rfl) (by kernel_rfl)
end Go.Proofs.YtmfffmipnbdpjaaGreatDoor
