/-
  Rows of 2 to the power k numbers: the tests on them; sums over parts.
-/
import Derived.Test.YtmfffmipnbdpjaaGreatDoorEq
import Derived.Test.YtmfffmipnbdpjaaGreatDoorNum
import Derived.Test.YtmfffmipnbdpjaaGreatDoorReg
namespace Go.Proofs.YtmfffmipnbdpjaaGreatDoor
open Go.RowKit

def isP2 (n : Nat) : Bool := n == 1 || n == 2 || n == 4 || n == 8 || n == 16
def cube (xs : List Int) : Bool := valid xs && isP2 xs.length
theorem cube_iff {xs : List Int} : cube xs = true ↔ valid xs = true ∧ isP2 xs.length = true := by simp [cube]
theorem cube_no {xs : List Int} (h : ¬ (valid xs = true ∧ isP2 xs.length = true)) : cube xs = false := by
  cases hb : cube xs with
  | false => rfl
  | true => exact absurd (cube_iff.1 hb) h
theorem isP2_iff {n : Nat} : isP2 n = true ↔ n = 1 ∨ n = 2 ∨ n = 4 ∨ n = 8 ∨ n = 16 := by simp [isP2, or_assoc]

theorem and_p2 : ∀ n : Nat, n < 17 → 0 < n → (bits .and .i64 (n : Int) ((n : Int) - 1) == 0) = isP2 n := by decide +kernel

set_option maxHeartbeats 400000 in
theorem whole_any (w : World) (a : Option Addr) (n c : Nat) (xs : List Int) (h : Row w a n c xs) :
    Calls Tryz.prog 56 #[.slice a n c] w fun e w' => Tells w w' e (cube xs) := by
  have hlen : Hid (xs.length = n) := h.len
  cases hv : valid xs
  · go_enter Tryz.func56, Tryz.ntmps56
    go_wp2_with (go_at_call 54; refine (ValidRow_is _ a n c xs false h hv).mono ?_; rintro e w' ⟨rfl, rfl⟩)
    go_ret
    exact ⟨ret_bool (cube_no (by rw [hv]; simp)).symm, rfl⟩
  · have hn : n ≤ 16 := by have := valid_len hv; rw [hlen.out] at this; exact this
    by_cases h0 : n = 0
    · subst h0
      go_enter Tryz.func56, Tryz.ntmps56
      go_wp2_with (go_at_call 54; refine (ValidRow_is _ a 0 c xs true h hv).mono ?_; rintro e w' ⟨rfl, rfl⟩)
      go_ret
      exact ⟨ret_bool (cube_no (by rw [hlen.out]; simp [isP2])).symm, rfl⟩
    · have hp := and_p2 n (by omega) (by omega)
      have hc : cube xs = isP2 n := by rw [cube, hv, hlen.out]; rfl
      have HC : Hid (cube xs = isP2 n) := hc
      clear hc
      have hpos : (0 : Int) < n := by omega
      cases hq : isP2 n
      · rw [hq] at hp
        go_enter Tryz.func56, Tryz.ntmps56
        go_wp2_with (go_at_call 54; refine (ValidRow_is _ a n c xs true h hv).mono ?_; rintro e w' ⟨rfl, rfl⟩)
        go_ret
        exact ⟨ret_bool (by rw [HC.out, hq]; try simp), rfl⟩
      · rw [hq] at hp
        go_enter Tryz.func56, Tryz.ntmps56
        go_wp2_with (go_at_call 54; refine (ValidRow_is _ a n c xs true h hv).mono ?_; rintro e w' ⟨rfl, rfl⟩)
        go_ret
        exact ⟨ret_bool (by rw [HC.out, hq]; try simp), rfl⟩
theorem whole_is (w : World) (a : Option Addr) (n c : Nat) (xs : List Int) (v : Bool) (h : Row w a n c xs) (hv : cube xs = v) :
    Calls Tryz.prog 56 #[.slice a n c] w fun e w' => Tells w w' e v := by subst hv; exact whole_any w a n c xs h

/-- 2 to a number. Not reducible: the walk takes it for an atom. -/
def p2 (n : Nat) : Nat := 2 ^ n
theorem p2_pos (n : Nat) : 0 < p2 n := Nat.pow_pos (by decide)
theorem p2_succ (n : Nat) : p2 (n + 1) = 2 * p2 n := by rw [p2, p2, Nat.pow_succ, Nat.mul_comm]
theorem p2_le {n m : Nat} (h : n ≤ m) : p2 n ≤ p2 m := Nat.pow_le_pow_right (by decide) h
/-- A binary digit, 0 or 1. -/
def bt (x j : Nat) : Int := if x.testBit j then 1 else 0
theorem bt_div (x j : Nat) : bt x j = ((x / p2 j % 2 : Nat) : Int) := by
  unfold bt p2
  rw [Nat.testBit_eq_decide_div_mod_eq]
  have := Nat.mod_lt (x / 2 ^ j) (show 0 < 2 by decide)
  by_cases h : x / 2 ^ j % 2 = 1
  · simp [h]
  · have h0 : x / 2 ^ j % 2 = 0 := by omega
    rw [h0]; simp

set_option maxHeartbeats 400000 in
theorem power_any (w : World) (n : Nat) (hn : n ≤ 40) :
    Calls Tryz.prog 71 #[.int .i64 n] w fun e w' => e = .returned (.int .i64 (p2 n)) ∧ w = w' := by
  have hpow : Hid (∀ k, k ≤ n → p2 k ≤ 1099511627776) := fun k hk => Nat.le_trans (p2_le (show k ≤ 40 by omega)) (by decide)
  go_enter Tryz.func71, Tryz.ntmps71
  go_wp2
  go_loop [0, 3] (fun u y => ∃ k : Nat, k ≤ n ∧ u = .int .i64 ((n : Int) - k) ∧ y = .int .i64 (p2 k)) (fun u _ => (intOf u).toNat)
  case atStart => exact ⟨0, Nat.zero_le _, by go_num, rfl⟩
  case round =>
    obtain ⟨k, hk, rfl, rfl⟩ := hrel
    have hpb := hpow.out k hk
    by_cases hlt : k < n
    · go_wp2
      go_round
      case rel => exact ⟨k + 1, by omega, by go_num, by rw [p2_succ]; go_num⟩
      case measure => simp [intOf]; omega
    · obtain rfl : k = n := by omega
      go_wp2
      go_ret
      exact ⟨rfl, rfl⟩


def lg (n : Nat) : Int := if n = 1 then 0 else if n = 2 then 1 else if n = 4 then 2 else if n = 8 then 3 else if n = 16 then 4 else -1
theorem lg_p2 : ∀ k, k < 5 → lg (p2 k) = (k : Int) := by decide
theorem lg_no {n : Nat} (h : ∀ i, i < 5 → n ≠ p2 i) : lg n = -1 := by
  have h0 : n ≠ 1 := h 0 (by decide)
  have h1 : n ≠ 2 := h 1 (by decide)
  have h2 : n ≠ 4 := h 2 (by decide)
  have h3 : n ≠ 8 := h 3 (by decide)
  have h4 : n ≠ 16 := h 4 (by decide)
  simp [lg, h0, h1, h2, h3, h4]
theorem lg_isP2 (n : Nat) : decide (0 ≤ lg n) = isP2 n := by
  unfold lg isP2
  by_cases h0 : n = 1; · subst h0; rfl
  by_cases h1 : n = 2; · subst h1; rfl
  by_cases h2 : n = 4; · subst h2; rfl
  by_cases h3 : n = 8; · subst h3; rfl
  by_cases h4 : n = 16; · subst h4; rfl
  simp [h0, h1, h2, h3, h4]

set_option maxHeartbeats 400000 in
theorem bitsOf_any (w : World) (a : Option Addr) (n c : Nat) (_hn : n ≤ 16) :
    Calls Tryz.prog 46 #[.slice a n c] w fun e w' => e = .returned (.int .i64 (lg n)) ∧ w = w' := by
  go_enter Tryz.func46, Tryz.ntmps46
  go_wp2
  go_loop [3] (fun u => ∃ k : Nat, k ≤ 5 ∧ u = .int .i64 k ∧ Hid (∀ i, i < k → n ≠ p2 i)) (fun u => 5 - (intOf u).toNat)
  case atStart => exact ⟨0, Nat.zero_le _, rfl, fun i hi => by omega⟩
  case round =>
    obtain ⟨k, hk, rfl, hne⟩ := hrel
    by_cases hlt : k < 5
    · by_cases he : n = p2 k
      · have heb : ((n : Int) == (p2 k : Int)) = true := by simp; omega
        have HE : Hid (n = p2 k) := he
        clear he
        go_wp2_with (go_at_call 71; refine (power_any w k (by omega)).mono ?_; rintro e w' ⟨rfl, rfl⟩)
        go_ret
        exact ⟨ret_int (by rw [HE.out, lg_p2 k hlt]), rfl⟩
      · have heb : ((n : Int) == (p2 k : Int)) = false := by simp; omega
        have HE : Hid (n ≠ p2 k) := he
        clear he
        go_wp2_with (go_at_call 71; refine (power_any w k (by omega)).mono ?_; rintro e w' ⟨rfl, rfl⟩)
        go_round
        case rel =>
          refine ⟨k + 1, by omega, by go_num, fun i hi => ?_⟩
          by_cases e : i = k
          · subst e; exact HE.out
          · exact hne.out i (by omega)
        case measure => simp [intOf]; omega
    · obtain rfl : k = 5 := by omega
      go_wp2_with fail
      go_ret
      exact ⟨ret_int (lg_no hne.out).symm, rfl⟩

set_option maxHeartbeats 400000 in
theorem validCube_any (w : World) (a : Option Addr) (n c : Nat) (xs : List Int) (h : Row w a n c xs) :
    Calls Tryz.prog 25 #[.slice a n c] w fun e w' => Tells w w' e (cube xs) := by
  have hlen : Hid (xs.length = n) := h.len
  cases hv : valid xs
  · go_enter Tryz.func25, Tryz.ntmps25
    go_wp2_with (go_at_call 45; refine (validRow_is _ a n c xs false h hv).mono ?_; rintro e w' ⟨rfl, rfl⟩)
    go_ret
    exact ⟨ret_bool (cube_no (by rw [hv]; simp)).symm, rfl⟩
  · have hn : n ≤ 16 := by have := valid_len hv; rw [hlen.out] at this; exact this
    have HC : Hid (cube xs = decide (0 ≤ lg n)) := by rw [Hid, cube, hv, hlen.out, lg_isP2]; rfl
    go_enter Tryz.func25, Tryz.ntmps25
    go_wp2_with (first | (go_at_call 45; refine (validRow_is _ a n c xs true h hv).mono ?_; rintro e w' ⟨rfl, rfl⟩) | (go_at_call 46; refine (bitsOf_any _ a n c hn).mono ?_; rintro e w' ⟨rfl, rfl⟩))
    go_ret
    exact ⟨ret_bool HC.out.symm, rfl⟩
theorem validCube_is (w : World) (a : Option Addr) (n c : Nat) (xs : List Int) (v : Bool) (h : Row w a n c xs) (hv : cube xs = v) :
    Calls Tryz.prog 25 #[.slice a n c] w fun e w' => Tells w w' e v := by subst hv; exact validCube_any w a n c xs h
end Go.Proofs.YtmfffmipnbdpjaaGreatDoor
