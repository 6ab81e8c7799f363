/-
  Energies, products at the same places, rows multiplied by one number.
-/
import Derived.Test.YtmfffmipnbdpjaaGreatDoorEq
import Derived.Test.YtmfffmipnbdpjaaGreatDoorNum
import Derived.Lib.Hide
import Derived.Deep.RegionHeld3
namespace Go.Proofs.YtmfffmipnbdpjaaGreatDoor
open Go.RowKit

/-- The sum of the squares. -/
def en (f : Nat → Int) (n : Nat) : Int := sm (fun i => f i * f i) n
theorem sq_bd {a M : Int} (h : -M ≤ a ∧ a ≤ M) : 0 ≤ a * a ∧ a * a ≤ M * M := by
  have h1 : 0 ≤ a * a := by
    rcases Int.le_total 0 a with h | h
    · exact Int.mul_nonneg h h
    · exact Int.mul_nonneg_of_nonpos_of_nonpos h h
  have h2 := (mul_bd h h).2
  exact ⟨h1, h2⟩
theorem en_bd {f : Nat → Int} {n : Nat} (h : ∀ i, i < n → -1000 ≤ f i ∧ f i ≤ 1000) : 0 ≤ en f n ∧ en f n ≤ 1000000 * (n : Int) := by
  unfold en
  induction n with
  | zero => simp [sm]
  | succ k ih =>
    have h1 := ih fun i hi => h i (by omega)
    have h2 := sq_bd (h k (by omega))
    rw [sm]; omega
theorem en_congr {f g : Nat → Int} {n : Nat} (h : ∀ i, i < n → f i = g i) : en f n = en g n := sm_congr fun i hi => by rw [h i hi]
end Go.Proofs.YtmfffmipnbdpjaaGreatDoor
