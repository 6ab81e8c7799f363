/-
  Rows put together of means and differences: the program's unhalve.
-/
import Derived.Test.YtmfffmipnbdpjaaGreatDoorHalve
import Derived.Lib.Hide
namespace Go.Proofs.YtmfffmipnbdpjaaGreatDoor
open Go.RowKit

def uhMid (f : Nat → Int) (h k i : Nat) : Int := if i < 2 * k then uhAt f h i else 0
theorem uhMid_zero (f : Nat → Int) (h n : Nat) : tab (fun _ => 0) n = tab (uhMid f h 0) n := tab_congr fun i _ => by rw [uhMid, if_neg (by omega)]
theorem uhMid_set (f : Nat → Int) {h k : Nat} (hk : k < h) : ((tab (uhMid f h k) (2 * h)).set (2 * k) (uhAt f h (2 * k))).set (2 * k + 1) (uhAt f h (2 * k + 1)) = tab (uhMid f h (k + 1)) (2 * h) := by
  rw [set_tab' (by omega), set_tab' (by omega)]
  apply tab_congr
  intro i hi
  by_cases e1 : i = 2 * k + 1
  · subst e1; rw [if_pos rfl, uhMid, if_pos (by omega)]
  · rw [if_neg e1]
    by_cases e2 : i = 2 * k
    · subst e2; rw [if_pos rfl, uhMid, if_pos (by omega)]
    · rw [if_neg e2, uhMid, uhMid]
      by_cases c : i < 2 * k
      · rw [if_pos c, if_pos (by omega)]
      · rw [if_neg c, if_neg (by omega)]
theorem uhMid_end (f : Nat → Int) (h : Nat) : tab (uhMid f h h) (2 * h) = tab (uhAt f h) (2 * h) := tab_congr fun i hi => by rw [uhMid, if_pos hi]

end Go.Proofs.YtmfffmipnbdpjaaGreatDoor
