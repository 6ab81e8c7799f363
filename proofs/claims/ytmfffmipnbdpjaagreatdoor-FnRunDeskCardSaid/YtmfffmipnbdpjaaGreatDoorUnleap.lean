/-
  Leaps taken back: the program's UnleapOf.
-/
import Derived.Test.YtmfffmipnbdpjaaGreatDoorLeap
namespace Go.Proofs.YtmfffmipnbdpjaaGreatDoor
open Go.RowKit

theorem eAt_bd {f : Nat → Int} {h i : Nat} (hb : ∀ i, i < 2 * h → -1000 ≤ f i ∧ f i ≤ 1000) (hi : i < h) : -2001 ≤ eAt f h i ∧ eAt f h i ≤ 2001 := by
  have h1 := hb i (by omega)
  have h2 := @bef_bd (fun j => f (h + j)) 1000 i (fun j hj => hb (h + j) (by omega))
  rw [eAt]; omega
theorem Row.rest {w : World} {b off n c : Nat} {xs : List Int} (h : Row w (some ⟨b, off, none⟩) n c xs) (m : Nat) (hm : m < n) : Row w (some ⟨b, off + m, none⟩) (n - m) (c - m) (xs.drop m) :=
  ⟨by simp [h.len], by have := h.small; omega, by have := h.cap; omega, (fun e => by cases e), fun i hi => by
    obtain ⟨b1, off1, e, hlt, hc⟩ := h.cell (m + i) (by omega)
    injection e with e; injection e with e1 e2; subst e1; subst e2
    refine ⟨b, off + m, rfl, hlt, fun j hj => ?_⟩
    rw [Nat.add_assoc, hc (m + j) (by omega), el_drop]⟩
theorem el_take {xs : List Int} {m i : Nat} (h : i < m) : el (xs.take m) i = el xs i := by
  unfold el; rw [List.getD_eq_getElem?_getD, List.getD_eq_getElem?_getD, List.getElem?_take_of_lt h]
theorem mid_set2 (f : Nat → Int) {k n : Nat} (h : 2 * k + 1 < n) : ((tab (mid (2 * k) f (fun _ => 0)) n).set (2 * k) (f (2 * k))).set (2 * k + 1) (f (2 * k + 1)) = tab (mid (2 * (k + 1)) f (fun _ => 0)) n := by
  rw [mid_set f _ (by omega), mid_set f _ (by omega), show 2 * (k + 1) = 2 * k + 1 + 1 by omega]

end Go.Proofs.YtmfffmipnbdpjaaGreatDoor
