/-
  Changes of sign, and the order by them.
-/
import Derived.Test.YtccddkgpcgnaoaaOnes
import Derived.Test.YtccddkgpcgnaoaaExact
import Derived.Test.YtccddkgpcgnaoaaDraw2
namespace Go.Proofs.Ytccddkgpcgnaoaa
open Go.RowKit

def chgF (y : Nat) : Nat → Nat
  | 0 => 0
  | t + 1 => chgF y t + if oddB (t &&& y) != oddB ((t + 1) &&& y) then 1 else 0
/-- How often the sign changes. -/
def chg (k y : Nat) : Nat := chgF y (p2 k - 1)
theorem chgF_le (y t : Nat) : chgF y t ≤ t := by
  induction t with
  | zero => exact Nat.le_refl _
  | succ t ih => rw [chgF]; split <;> omega
def chgTab : List (List Nat) := [[0], [0, 1], [0, 3, 1, 2], [0, 7, 3, 4, 1, 6, 2, 5], [0, 15, 7, 8, 3, 12, 4, 11, 1, 14, 6, 9, 2, 13, 5, 10]]
def chgT (k y : Nat) : Nat := (chgTab.getD k []).getD y 0
theorem chg_eq : ∀ k, k < 5 → ∀ y, y < p2 k → chg k y = chgT k y := by decide +kernel
def ordF (k : Nat) : Nat → List Int
  | 0 => tab (fun _ => 0) (p2 k)
  | y + 1 => (ordF k y).set (chgT k y) y
theorem ordF_len (k y : Nat) : (ordF k y).length = p2 k := by
  induction y with
  | zero => rw [ordF, tab_length]
  | succ y ih => rw [ordF, List.length_set, ih]
def ordL (k : Nat) : List Int := ordF k (p2 k)
def ordR (k : Int) : List Int := if 0 ≤ k ∧ k ≤ 4 then ordL k.toNat else []
theorem chg_lt : ∀ k, k < 5 → ∀ y, y < p2 k → chgT k y < p2 k := by decide +kernel
theorem ord_tells : ∀ k, k < 5 → ∀ n, n < p2 k → 0 ≤ el (ordL k) n ∧ (el (ordL k) n).toNat < p2 k ∧ chgT k (el (ordL k) n).toNat = n := by decide +kernel
theorem ord_zero : ∀ k, k < 5 → el (ordL k) 0 = 0 := by decide +kernel
theorem ordR_len (k : Int) : (ordR k).length ≤ 16 := by
  unfold ordR
  split
  · rename_i h; rw [ordL, ordF_len]; exact p2_le (show k.toNat ≤ 4 by omega)
  · simp

end Go.Proofs.Ytccddkgpcgnaoaa
