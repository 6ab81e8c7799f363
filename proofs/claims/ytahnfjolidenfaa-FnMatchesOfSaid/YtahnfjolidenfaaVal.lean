/-
  Valid rows: at most 16 numbers from -1000 to 1000; the tests of the program and of the reference on them; equality of lists.
-/
import Derived.Test.YtahnfjolidenfaaBase2
import Derived.Test.YtahnfjolidenfaaBit
namespace Go.Proofs.Ytahnfjolidenfaa
open Go.RowKit

/-- The numbers from k places on are in range. -/
def okFrom (xs : List Int) : Nat → Bool
  | 0 => true
  | k + 1 => okFrom xs k && (decide (-1000 ≤ el xs k) && decide (el xs k ≤ 1000))

def valid (xs : List Int) : Bool := decide (xs.length ≤ 16) && okFrom xs xs.length

theorem okFrom_iff {xs : List Int} {n : Nat} : okFrom xs n = true ↔ ∀ i, i < n → -1000 ≤ el xs i ∧ el xs i ≤ 1000 := by
  induction n with
  | zero => simp [okFrom]
  | succ k ih =>
    simp only [okFrom, Bool.and_eq_true, decide_eq_true_eq, ih]
    constructor
    · rintro ⟨h1, h2⟩ i hi
      by_cases e : i = k
      · subst e; exact h2
      · exact h1 i (by omega)
    · intro h; exact ⟨fun i hi => h i (by omega), h k (by omega)⟩

theorem valid_iff {xs : List Int} : valid xs = true ↔ xs.length ≤ 16 ∧ ∀ i, i < xs.length → -1000 ≤ el xs i ∧ el xs i ≤ 1000 := by
  simp only [valid, Bool.and_eq_true, decide_eq_true_eq, okFrom_iff]

theorem valid_len {xs : List Int} (h : valid xs = true) : xs.length ≤ 16 := (valid_iff.1 h).1
theorem valid_bd {xs : List Int} (h : valid xs = true) {i : Nat} (hi : i < xs.length) : -1000 ≤ el xs i ∧ el xs i ≤ 1000 := (valid_iff.1 h).2 i hi
theorem valid_no {xs : List Int} {i : Nat} (hi : i < xs.length) (h : ¬ (-1000 ≤ el xs i ∧ el xs i ≤ 1000)) : valid xs = false := by
  cases hv : valid xs with
  | false => rfl
  | true => exact absurd (valid_bd hv hi) h
theorem valid_long {xs : List Int} (h : 16 < xs.length) : valid xs = false := by
  cases hv : valid xs with
  | false => rfl
  | true => exact absurd (valid_len hv) (by omega)

/-- A call that answers a truth and leaves the world alone. -/
def Tells (w w' : World) (e : Ending) (b : Bool) : Prop := e = .returned (.bool b) ∧ w = w'


/-- Whether a number is in a range. -/
def within (x lo hi : Int) : Bool := decide (lo ≤ x ∧ x ≤ hi)
theorem within_yes {x lo hi : Int} (h : lo ≤ x ∧ x ≤ hi) : within x lo hi = true := decide_eq_true h
theorem within_no {x lo hi : Int} (h : ¬ (lo ≤ x ∧ x ≤ hi)) : within x lo hi = false := decide_eq_false h


set_option maxHeartbeats 400000 in
theorem inRange_any (w : World) (x lo hi : Int) :
    Calls Try.prog 32 #[.int .i64 x, .int .i64 lo, .int .i64 hi] w fun e w' => Tells w w' e (within x lo hi) := by
  by_cases h1 : lo ≤ x
  · by_cases h2 : x ≤ hi
    · go_enter Try.func32, Try.ntmps32
      go_wp2
      go_ret
      exact ⟨ret_bool (within_yes ⟨h1, h2⟩).symm, rfl⟩
    · go_enter Try.func32, Try.ntmps32
      go_wp2
      go_ret
      exact ⟨ret_bool (within_no (by omega)).symm, rfl⟩
  · go_enter Try.func32, Try.ntmps32
    go_wp2
    go_ret
    exact ⟨ret_bool (within_no (by omega)).symm, rfl⟩


end Go.Proofs.Ytahnfjolidenfaa
