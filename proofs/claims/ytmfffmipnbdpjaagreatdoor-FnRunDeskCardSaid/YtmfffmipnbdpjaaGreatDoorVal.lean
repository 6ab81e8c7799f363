/-
  Valid rows: at most 16 numbers from -1000 to 1000; the tests of the program and of the reference on them; equality of lists.
-/
import Derived.Test.YtmfffmipnbdpjaaGreatDoorBase2
import Derived.Test.YtmfffmipnbdpjaaGreatDoorBit
namespace Go.Proofs.YtmfffmipnbdpjaaGreatDoor
open Go.RowKit

/-- The numbers from k places on are in range. -/
def okFrom (xs : List Int) : Nat → Bool
  | 0 => true
  | k + 1 => okFrom xs k && (decide (-1000 ≤ el xs k) && decide (el xs k ≤ 1000))

def valid (xs : List Int) : Bool := decide (xs.length ≤ 16) && okFrom xs xs.length

theorem okFrom_iff {xs : List Int} {n : Nat} : okFrom xs n = true ↔ ∀ i, i < n → -1000 ≤ el xs i ∧ el xs i ≤ 1000 := by
  induction n with
  | zero => simp [okFrom]
  | succ k ih =>
    simp only [okFrom, Bool.and_eq_true, decide_eq_true_eq, ih]
    constructor
    · rintro ⟨h1, h2⟩ i hi
      by_cases e : i = k
      · subst e; exact h2
      · exact h1 i (by omega)
    · intro h; exact ⟨fun i hi => h i (by omega), h k (by omega)⟩

theorem valid_iff {xs : List Int} : valid xs = true ↔ xs.length ≤ 16 ∧ ∀ i, i < xs.length → -1000 ≤ el xs i ∧ el xs i ≤ 1000 := by
  simp only [valid, Bool.and_eq_true, decide_eq_true_eq, okFrom_iff]

theorem valid_len {xs : List Int} (h : valid xs = true) : xs.length ≤ 16 := (valid_iff.1 h).1
theorem valid_bd {xs : List Int} (h : valid xs = true) {i : Nat} (hi : i < xs.length) : -1000 ≤ el xs i ∧ el xs i ≤ 1000 := (valid_iff.1 h).2 i hi
theorem valid_no {xs : List Int} {i : Nat} (hi : i < xs.length) (h : ¬ (-1000 ≤ el xs i ∧ el xs i ≤ 1000)) : valid xs = false := by
  cases hv : valid xs with
  | false => rfl
  | true => exact absurd (valid_bd hv hi) h
theorem valid_long {xs : List Int} (h : 16 < xs.length) : valid xs = false := by
  cases hv : valid xs with
  | false => rfl
  | true => exact absurd (valid_len hv) (by omega)

/-- A call that answers a truth and leaves the world alone. -/
def Tells (w w' : World) (e : Ending) (b : Bool) : Prop := e = .returned (.bool b) ∧ w = w'

set_option maxHeartbeats 400000 in
theorem ValidRow_any (w : World) (a : Option Addr) (n c : Nat) (xs : List Int) (h : Row w a n c xs) :
    Calls Tryz.prog 54 #[.slice a n c] w fun e w' => Tells w w' e (valid xs) := by
  have hlen : Hid (xs.length = n) := h.len
  have hsm := h.small
  by_cases hn : 16 < n
  · go_enter Tryz.func54, Tryz.ntmps54
    go_wp2
    go_ret
    exact ⟨ret_bool (valid_long (by rw [hlen.out]; exact hn)).symm, rfl⟩
  · go_enter Tryz.func54, Tryz.ntmps54
    go_wp2
    go_loop [10] (fun u => ∃ k : Nat, k ≤ n ∧ u = .int .i64 k ∧ Hid (∀ i, i < k → -1000 ≤ el xs i ∧ el xs i ≤ 1000)) (fun u => n - (intOf u).toNat)
    case atStart => exact ⟨0, Nat.zero_le _, rfl, fun i hi => by omega⟩
    case round =>
      obtain ⟨k, hk, rfl, hall⟩ := hrel
      by_cases hlt : k < n
      · obtain ⟨b, off, rfl, hbb, hcell⟩ := h.cell k hlt
        have hc := hcell k hlt
        clear hcell
        by_cases h1 : el xs k < -1000
        · go_wp2
          go_ret
          exact ⟨ret_bool (valid_no (i := k) (by rw [hlen.out]; exact hlt) (by omega)).symm, rfl⟩
        · by_cases h2 : 1000 < el xs k
          · go_wp2
            go_ret
            exact ⟨ret_bool (valid_no (i := k) (by rw [hlen.out]; exact hlt) (by omega)).symm, rfl⟩
          · go_wp2
            go_round
            case rel =>
              refine ⟨k + 1, by omega, by go_num, fun i hi => ?_⟩
              by_cases e : i = k
              · subst e; omega
              · exact hall.out i (by omega)
            case measure => simp [intOf]; omega
      · go_wp2
        go_ret
        refine ⟨ret_bool (valid_iff.2 ⟨?_, fun i hi => hall.out i ?_⟩).symm, rfl⟩
        · rw [hlen.out]; omega
        · rw [hlen.out] at hi; omega

/-- Whether a number is in a range. -/
def within (x lo hi : Int) : Bool := decide (lo ≤ x ∧ x ≤ hi)
theorem within_yes {x lo hi : Int} (h : lo ≤ x ∧ x ≤ hi) : within x lo hi = true := decide_eq_true h
theorem within_no {x lo hi : Int} (h : ¬ (lo ≤ x ∧ x ≤ hi)) : within x lo hi = false := decide_eq_false h

theorem ValidRow_is (w : World) (a : Option Addr) (n c : Nat) (xs : List Int) (v : Bool) (h : Row w a n c xs) (hv : valid xs = v) :
    Calls Tryz.prog 54 #[.slice a n c] w fun e w' => Tells w w' e v := by
  subst hv; exact ValidRow_any w a n c xs h

set_option maxHeartbeats 400000 in
theorem inRange_any (w : World) (x lo hi : Int) :
    Calls Tryz.prog 48 #[.int .i64 x, .int .i64 lo, .int .i64 hi] w fun e w' => Tells w w' e (within x lo hi) := by
  by_cases h1 : lo ≤ x
  · by_cases h2 : x ≤ hi
    · go_enter Tryz.func48, Tryz.ntmps48
      go_wp2
      go_ret
      exact ⟨ret_bool (within_yes ⟨h1, h2⟩).symm, rfl⟩
    · go_enter Tryz.func48, Tryz.ntmps48
      go_wp2
      go_ret
      exact ⟨ret_bool (within_no (by omega)).symm, rfl⟩
  · go_enter Tryz.func48, Tryz.ntmps48
    go_wp2
    go_ret
    exact ⟨ret_bool (within_no (by omega)).symm, rfl⟩

set_option maxHeartbeats 400000 in
theorem validRow_any (w : World) (a : Option Addr) (n c : Nat) (xs : List Int) (h : Row w a n c xs) :
    Calls Tryz.prog 45 #[.slice a n c] w fun e w' => Tells w w' e (valid xs) := by
  have hlen : Hid (xs.length = n) := h.len
  have hsm := h.small
  go_enter Tryz.func45, Tryz.ntmps45
  go_wp2
  go_loop [3] (fun u => ∃ k : Nat, k ≤ n ∧ u = .int .i64 k ∧ Hid (∀ i, i < k → -1000 ≤ el xs i ∧ el xs i ≤ 1000)) (fun u => n - (intOf u).toNat)
  case atStart => exact ⟨0, Nat.zero_le _, rfl, fun i hi => by omega⟩
  case round =>
    obtain ⟨k, hk, rfl, hall⟩ := hrel
    by_cases hlt : k < n
    · obtain ⟨b, off, rfl, hbb, hcell⟩ := h.cell k hlt
      have hc := hcell k hlt
      clear hcell
      go_wp2_with fail
      refine (inRange_any w (el xs k) (-1000) 1000).mono ?_
      rintro e w' ⟨rfl, rfl⟩
      by_cases hr : -1000 ≤ el xs k ∧ el xs k ≤ 1000
      · have hd := within_yes hr
        rw [hd]
        go_wp2_with fail
        go_round
        case rel =>
          refine ⟨k + 1, by omega, by go_num, fun i hi => ?_⟩
          by_cases e : i = k
          · subst e; omega
          · exact hall.out i (by omega)
        case measure => simp [intOf]; omega
      · have hd := within_no hr
        rw [hd]
        go_wp2_with fail
        go_ret
        exact ⟨ret_bool (valid_no (i := k) (by rw [hlen.out]; exact hlt) hr).symm, rfl⟩
    · by_cases hn : n ≤ 16
      · go_wp2_with fail
        go_ret
        refine ⟨ret_bool ?_, rfl⟩
        rw [valid_iff.2 ⟨by rw [hlen.out]; omega, fun i hi => hall.out i (by rw [hlen.out] at hi; omega)⟩]
        exact decide_eq_true (by omega)
      · go_wp2_with fail
        go_ret
        refine ⟨ret_bool ?_, rfl⟩
        rw [valid_long (by rw [hlen.out]; omega)]
        exact decide_eq_false (by omega)

theorem validRow_is (w : World) (a : Option Addr) (n c : Nat) (xs : List Int) (v : Bool) (h : Row w a n c xs) (hv : valid xs = v) :
    Calls Tryz.prog 45 #[.slice a n c] w fun e w' => Tells w w' e v := by
  subst hv; exact validRow_any w a n c xs h
end Go.Proofs.YtmfffmipnbdpjaaGreatDoor
