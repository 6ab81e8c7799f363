/-
  Rows of 2 to the power k numbers: the tests on them; sums over parts.
-/
import Derived.Test.YtahnfjolidenfaaEq
import Derived.Test.YtahnfjolidenfaaNum
import Derived.Test.YtahnfjolidenfaaReg
namespace Go.Proofs.Ytahnfjolidenfaa
open Go.RowKit

def isP2 (n : Nat) : Bool := n == 1 || n == 2 || n == 4 || n == 8 || n == 16
def cube (xs : List Int) : Bool := valid xs && isP2 xs.length
theorem cube_iff {xs : List Int} : cube xs = true ↔ valid xs = true ∧ isP2 xs.length = true := by simp [cube]
theorem cube_no {xs : List Int} (h : ¬ (valid xs = true ∧ isP2 xs.length = true)) : cube xs = false := by
  cases hb : cube xs with
  | false => rfl
  | true => exact absurd (cube_iff.1 hb) h
theorem isP2_iff {n : Nat} : isP2 n = true ↔ n = 1 ∨ n = 2 ∨ n = 4 ∨ n = 8 ∨ n = 16 := by simp [isP2, or_assoc]

theorem and_p2 : ∀ n : Nat, n < 17 → 0 < n → (bits .and .i64 (n : Int) ((n : Int) - 1) == 0) = isP2 n := by decide +kernel


/-- 2 to a number. Not reducible: the walk takes it for an atom. -/
def p2 (n : Nat) : Nat := 2 ^ n
theorem p2_pos (n : Nat) : 0 < p2 n := Nat.pow_pos (by decide)
theorem p2_succ (n : Nat) : p2 (n + 1) = 2 * p2 n := by rw [p2, p2, Nat.pow_succ, Nat.mul_comm]
theorem p2_le {n m : Nat} (h : n ≤ m) : p2 n ≤ p2 m := Nat.pow_le_pow_right (by decide) h
/-- A binary digit, 0 or 1. -/
def bt (x j : Nat) : Int := if x.testBit j then 1 else 0
theorem bt_div (x j : Nat) : bt x j = ((x / p2 j % 2 : Nat) : Int) := by
  unfold bt p2
  rw [Nat.testBit_eq_decide_div_mod_eq]
  have := Nat.mod_lt (x / 2 ^ j) (show 0 < 2 by decide)
  by_cases h : x / 2 ^ j % 2 = 1
  · simp [h]
  · have h0 : x / 2 ^ j % 2 = 0 := by omega
    rw [h0]; simp

set_option maxHeartbeats 400000 in
theorem power_any (w : World) (n : Nat) (hn : n ≤ 40) :
    Calls Try.prog 24 #[.int .i64 n] w fun e w' => e = .returned (.int .i64 (p2 n)) ∧ w = w' := by
  have hpow : Hid (∀ k, k ≤ n → p2 k ≤ 1099511627776) := fun k hk => Nat.le_trans (p2_le (show k ≤ 40 by omega)) (by decide)
  go_enter Try.func24, Try.ntmps24
  go_wp2
  go_loop [0, 3] (fun u y => ∃ k : Nat, k ≤ n ∧ u = .int .i64 ((n : Int) - k) ∧ y = .int .i64 (p2 k)) (fun u _ => (intOf u).toNat)
  case atStart => exact ⟨0, Nat.zero_le _, by go_num, rfl⟩
  case round =>
    obtain ⟨k, hk, rfl, rfl⟩ := hrel
    have hpb := hpow.out k hk
    by_cases hlt : k < n
    · go_wp2
      go_round
      case rel => exact ⟨k + 1, by omega, by go_num, by rw [p2_succ]; go_num⟩
      case measure => simp [intOf]; omega
    · obtain rfl : k = n := by omega
      go_wp2
      go_ret
      exact ⟨rfl, rfl⟩

set_option maxHeartbeats 400000 in
theorem bit_any (w : World) (x j : Nat) (hj : j ≤ 40) (hx : x ≤ 1099511627776) :
    Calls Try.prog 33 #[.int .i64 x, .int .i64 j] w fun e w' => e = .returned (.int .i64 (bt x j)) ∧ w = w' := by
  have hpp := p2_pos j
  have hb : Hid (bt x j = ((x / p2 j % 2 : Nat) : Int)) := bt_div x j
  have i1 : (1 : Int) ≤ (p2 j : Int) := by omega
  have i2 : 0 ≤ (x : Int) / (p2 j : Int) := Int.ediv_nonneg (by omega) (by omega)
  have i3 : (x : Int) / (p2 j : Int) ≤ 1099511627776 := by
    have e : (x : Int) / (p2 j : Int) = ((x / p2 j : Nat) : Int) := by simp
    have := Nat.div_le_self x (p2 j)
    rw [e]; omega
  go_enter Try.func33, Try.ntmps33
  go_wp2_with (go_at_call 24; refine (power_any w j hj).mono ?_; rintro e w' ⟨rfl, rfl⟩)
  go_ret
  exact ⟨ret_int (by rw [hb.out]; simp), rfl⟩

def lg (n : Nat) : Int := if n = 1 then 0 else if n = 2 then 1 else if n = 4 then 2 else if n = 8 then 3 else if n = 16 then 4 else -1
theorem lg_p2 : ∀ k, k < 5 → lg (p2 k) = (k : Int) := by decide
theorem lg_no {n : Nat} (h : ∀ i, i < 5 → n ≠ p2 i) : lg n = -1 := by
  have h0 : n ≠ 1 := h 0 (by decide)
  have h1 : n ≠ 2 := h 1 (by decide)
  have h2 : n ≠ 4 := h 2 (by decide)
  have h3 : n ≠ 8 := h 3 (by decide)
  have h4 : n ≠ 16 := h 4 (by decide)
  simp [lg, h0, h1, h2, h3, h4]
theorem lg_isP2 (n : Nat) : decide (0 ≤ lg n) = isP2 n := by
  unfold lg isP2
  by_cases h0 : n = 1; · subst h0; rfl
  by_cases h1 : n = 2; · subst h1; rfl
  by_cases h2 : n = 4; · subst h2; rfl
  by_cases h3 : n = 8; · subst h3; rfl
  by_cases h4 : n = 16; · subst h4; rfl
  simp [h0, h1, h2, h3, h4]


end Go.Proofs.Ytahnfjolidenfaa
