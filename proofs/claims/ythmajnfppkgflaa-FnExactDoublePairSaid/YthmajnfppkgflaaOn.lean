/-
  Rows of 1 and -1 alone: quiet rows, paired rows: the tests of the program and of the reference.
-/
import Derived.Test.YthmajnfppkgflaaSelf
import Derived.Test.YthmajnfppkgflaaExact
namespace Go.Proofs.Ythmajnfppkgflaa
open Go.RowKit

/-- The first numbers are 1 or -1. -/
def onF (xs : List Int) : Nat → Bool
  | 0 => true
  | k + 1 => onF xs k && (decide (el xs k = 1) || decide (el xs k = -1))
theorem onF_iff {xs : List Int} {n : Nat} : onF xs n = true ↔ ∀ i, i < n → el xs i = 1 ∨ el xs i = -1 := by
  induction n with
  | zero => simp [onF]
  | succ k ih =>
    simp only [onF, Bool.and_eq_true, Bool.or_eq_true, decide_eq_true_eq, ih]
    constructor
    · rintro ⟨h1, h2⟩ i hi
      by_cases e : i = k
      · subst e; exact h2
      · exact h1 i (by omega)
    · intro h; exact ⟨fun i hi => h i (by omega), h k (by omega)⟩
theorem onF_no {xs : List Int} {n i : Nat} (hi : i < n) (h : ¬ (el xs i = 1 ∨ el xs i = -1)) : onF xs n = false := by
  cases hv : onF xs n with
  | false => rfl
  | true => exact absurd (onF_iff.1 hv i hi) h
set_option maxHeartbeats 800000 in
theorem ones_any (w : World) (a : Option Addr) (n c : Nat) (xs : List Int) (h : Row w a n c xs) :
    Calls Try.prog 37 #[.slice a n c] w fun e w' => Tells w w' e (onF xs n) := by
  have hsm := h.small
  go_enter Try.func37, Try.ntmps37
  go_wp2_with fail
  go_loop [7] (fun u => ∃ k : Nat, k ≤ n ∧ u = .int .i64 k ∧ Hid (∀ i, i < k → el xs i = 1 ∨ el xs i = -1)) (fun u => n - (intOf u).toNat)
  case atStart => exact ⟨0, Nat.zero_le _, rfl, fun i hi => by omega⟩
  case round =>
    obtain ⟨k, hk, rfl, hall⟩ := hrel
    by_cases hlt : k < n
    · obtain ⟨b, off, rfl, hbb, hcell⟩ := h.cell k hlt
      have hc := hcell k hlt
      clear hcell
      by_cases h1 : el xs k = 1
      · have hb1 : (el xs k != 1) = false := by simp [h1]
        have H1 := Lib.hid h1
        clear h1
        go_wp2_with fail
        go_round
        case rel =>
          refine ⟨k + 1, by omega, by go_num, fun i hi => ?_⟩
          by_cases e : i = k
          · subst e; exact .inl H1.out
          · exact hall.out i (by omega)
        case measure => simp [intOf]; omega
      · have hb1 : (el xs k != 1) = true := by simp [h1]
        by_cases h2 : el xs k = -1
        · have hb2 : (el xs k != -1) = false := by simp [h2]
          have H2 := Lib.hid h2
          clear h1 h2
          go_wp2_with fail
          go_round
          case rel =>
            refine ⟨k + 1, by omega, by go_num, fun i hi => ?_⟩
            by_cases e : i = k
            · subst e; exact .inr H2.out
            · exact hall.out i (by omega)
          case measure => simp [intOf]; omega
        · have hb2 : (el xs k != -1) = true := by simp [h2]
          have HN : Hid (onF xs n = false) := onF_no hlt (by omega)
          clear h1 h2
          go_wp2_with fail
          go_ret
          exact ⟨ret_bool HN.out.symm, rfl⟩
    · obtain rfl : k = n := by omega
      go_wp2_with fail
      go_ret
      exact ⟨ret_bool (onF_iff.2 hall.out).symm, rfl⟩
theorem ones_is (w : World) (a : Option Addr) (n c : Nat) (xs : List Int) (v : Bool) (h : Row w a n c xs) (hv : onF xs n = v) :
    Calls Try.prog 37 #[.slice a n c] w fun e w' => Tells w w' e v := by subst hv; exact ones_any w a n c xs h
set_option maxHeartbeats 800000 in
theorem onlySigns_any (w : World) (a : Option Addr) (n c : Nat) (xs : List Int) (h : Row w a n c xs) :
    Calls Try.prog 38 #[.slice a n c] w fun e w' => Tells w w' e (onF xs n && valid xs) := by
  have hsm := h.small
  go_enter Try.func38, Try.ntmps38
  go_wp2_with fail
  go_loop [3] (fun u => ∃ k : Nat, k ≤ n ∧ u = .int .i64 k ∧ Hid (∀ i, i < k → el xs i = 1 ∨ el xs i = -1)) (fun u => n - (intOf u).toNat)
  case atStart => exact ⟨0, Nat.zero_le _, rfl, fun i hi => by omega⟩
  case round =>
    obtain ⟨k, hk, rfl, hall⟩ := hrel
    by_cases hlt : k < n
    · obtain ⟨b, off, rfl, hbb, hcell⟩ := h.cell k hlt
      have hc := hcell k hlt
      clear hcell
      by_cases h1 : el xs k = 1
      · have hb1 : (el xs k != 1) = false := by simp [h1]
        have H1 := Lib.hid h1
        clear h1
        go_wp2_with fail
        go_round
        case rel =>
          refine ⟨k + 1, by omega, by go_num, fun i hi => ?_⟩
          by_cases e : i = k
          · subst e; exact .inl H1.out
          · exact hall.out i (by omega)
        case measure => simp [intOf]; omega
      · have hb1 : (el xs k != 1) = true := by simp [h1]
        by_cases h2 : el xs k = -1
        · have hb2 : (el xs k != -1) = false := by simp [h2]
          have H2 := Lib.hid h2
          clear h1 h2
          go_wp2_with fail
          go_round
          case rel =>
            refine ⟨k + 1, by omega, by go_num, fun i hi => ?_⟩
            by_cases e : i = k
            · subst e; exact .inr H2.out
            · exact hall.out i (by omega)
          case measure => simp [intOf]; omega
        · have hb2 : (el xs k != -1) = true := by simp [h2]
          have HN : Hid (onF xs n = false) := onF_no hlt (by omega)
          clear h1 h2
          go_wp2_with fail
          go_ret
          exact ⟨ret_bool (by rw [HN.out]; rfl), rfl⟩
    · obtain rfl : k = n := by omega
      go_wp2_with fail
      refine (validRow_any w a k c xs h).mono ?_
      rintro e w' ⟨rfl, rfl⟩
      go_wp2_with fail
      go_ret
      exact ⟨ret_bool (by rw [onF_iff.2 hall.out]; rfl), rfl⟩
theorem onlySigns_is (w : World) (a : Option Addr) (n c : Nat) (xs : List Int) (v : Bool) (h : Row w a n c xs) (hv : (onF xs n && valid xs) = v) :
    Calls Try.prog 38 #[.slice a n c] w fun e w' => Tells w w' e v := by subst hv; exact onlySigns_any w a n c xs h

/-- The first numbers are -1, 0 or 1. -/
def qtF (g : Nat → Int) : Nat → Bool
  | 0 => true
  | k + 1 => qtF g k && (decide (-1 ≤ g k) && decide (g k ≤ 1))
theorem qtF_iff {g : Nat → Int} {n : Nat} : qtF g n = true ↔ ∀ i, i < n → -1 ≤ g i ∧ g i ≤ 1 := by
  induction n with
  | zero => simp [qtF]
  | succ k ih =>
    simp only [qtF, Bool.and_eq_true, decide_eq_true_eq, ih]
    constructor
    · rintro ⟨h1, h2⟩ i hi
      by_cases e : i = k
      · subst e; exact h2
      · exact h1 i (by omega)
    · intro h; exact ⟨fun i hi => h i (by omega), h k (by omega)⟩
theorem qtF_no {g : Nat → Int} {n i : Nat} (hi : i < n) (h : ¬ (-1 ≤ g i ∧ g i ≤ 1)) : qtF g n = false := by
  cases hv : qtF g n with
  | false => rfl
  | true => exact absurd (qtF_iff.1 hv i hi) h
def sf1 (f : Nat → Int) (n k : Nat) : Int := sfAt f n (k + 1)
def quietN (xs : List Int) (n : Nat) : Bool := qtF (sf1 (el xs) n) (n - 1)
def quietB (xs : List Int) : Bool := valid xs && (decide (xs.length ≠ 0) && (onF xs xs.length && quietN xs xs.length))
theorem quiet_iff {xs : List Int} : quietB xs = true ↔ valid xs = true ∧ xs.length ≠ 0 ∧ onF xs xs.length = true ∧ quietN xs xs.length = true := by simp [quietB]
theorem quiet_no {xs : List Int} (h : ¬ (valid xs = true ∧ xs.length ≠ 0 ∧ onF xs xs.length = true ∧ quietN xs xs.length = true)) : quietB xs = false := by
  cases hv : quietB xs with
  | false => rfl
  | true => exact absurd (quiet_iff.1 hv) h
set_option maxHeartbeats 1600000 in
theorem IsQuiet_all (w : World) (a : Option Addr) (n c : Nat) (xs : List Int) (h : Row w a n c xs) :
    Calls Try.prog 16 #[.slice a n c] w fun e w' => Says w w' e (quietB xs) := by
  have HL : Hid (xs.length = n) := h.len
  cases hv : valid xs
  · have HQ : Hid (quietB xs = false) := quiet_no fun hh => by rw [hv] at hh; cases hh.1
    go_enter Try.func16, Try.ntmps16
    go_wp2_with fail
    refine (ValidRow_is w a n c xs false h hv).mono ?_
    rintro e w' ⟨rfl, rfl⟩
    go_wp2_with fail
    go_ret
    exact ⟨ret_bool HQ.out.symm, Below.refl _ _⟩
  by_cases hn0 : n = 0
  · have HQ : Hid (quietB xs = false) := quiet_no fun hh => hh.2.1 (by rw [HL.out]; exact hn0)
    have hnb : ((n : Int) == 0) = true := by simp; exact hn0
    clear hn0
    go_enter Try.func16, Try.ntmps16
    go_wp2_with fail
    refine (ValidRow_is w a n c xs true h hv).mono ?_
    rintro e w' ⟨rfl, rfl⟩
    go_wp2_with fail
    go_ret
    exact ⟨ret_bool HQ.out.symm, Below.refl _ _⟩
  have hnb : ((n : Int) == 0) = false := by simp; exact hn0
  cases ho : onF xs n
  · have HQ : Hid (quietB xs = false) := quiet_no fun hh => by have h1 := hh.2.2.1; rw [HL.out, ho] at h1; cases h1
    clear hn0
    go_enter Try.func16, Try.ntmps16
    go_wp2_with fail
    refine (ValidRow_is w a n c xs true h hv).mono ?_
    rintro e w' ⟨rfl, rfl⟩
    go_wp2_with fail
    refine (ones_is w a n c xs false h ho).mono ?_
    rintro e w' ⟨rfl, rfl⟩
    go_wp2_with fail
    go_ret
    exact ⟨ret_bool HQ.out.symm, Below.refl _ _⟩
  obtain ⟨j, rfl⟩ : ∃ j, n = j + 1 := ⟨n - 1, by omega⟩
  have HQ : Hid (quietB xs = qtF (sf1 (el xs) (j + 1)) j) := by
    rw [Hid, quietB, hv, HL.out, ho, quietN, Nat.add_sub_cancel]; simp
  go_enter Try.func16, Try.ntmps16
  go_wp2_with fail
  refine (ValidRow_is w a (j + 1) c xs true h hv).mono ?_
  rintro e w' ⟨rfl, rfl⟩
  go_wp2_with fail
  refine (ones_is w a (j + 1) c xs true h ho).mono ?_
  rintro e w' ⟨rfl, rfl⟩
  go_wp2_with fail
  refine (SelfOf_yes w a (j + 1) c xs h hv).mono ?_
  rintro e w1 ⟨a4, c4, rfl, hown4, hbl⟩
  have hr4 := hown4.row (show j + 1 ≤ 1125899906842624 by have := h.small; omega)
  have hcap4 := hr4.cap
  have hsm := h.small
  obtain ⟨b4, off4, rfl, hbb4, hcell4⟩ := hr4.at (by omega)
  have HC : Hid (∀ t, t < j → w1.cell? ⟨b4, off4 + 1 + t, none⟩ = some (.int .i64 (sf1 (el xs) (j + 1) t))) := fun t ht => by
    have := hcell4 w1 (Below.refl _ _) (t + 1) (by omega)
    rw [selfL, el_tab (by omega)] at this
    rw [Nat.add_assoc, Nat.add_comm 1 t]; exact this
  clear hcell4 hown4 hr4 hn0 hv ho
  by_cases hcx : c4 = 1
  · obtain rfl : j = 0 := by omega
    subst hcx
    clear HC
    go_wp2_with fail
    go_loop [22] (fun u => u = .int .i64 0) (fun u => 0)
    case atStart => rfl
    case round =>
      subst hrel
      go_wp2_with fail
      go_ret
      exact ⟨ret_bool (by rw [HQ.out]; rfl), hbl⟩
  · go_wp2_with fail
    go_loop [22] (fun u => ∃ k : Nat, k ≤ j ∧ u = .int .i64 k ∧ Hid (∀ i, i < k → -1 ≤ sf1 (el xs) (j + 1) i ∧ sf1 (el xs) (j + 1) i ≤ 1)) (fun u => j - (intOf u).toNat)
    case atStart => exact ⟨0, Nat.zero_le _, rfl, fun i hi => by omega⟩
    case round =>
      obtain ⟨k, hk, rfl, hall⟩ := hrel
      by_cases hlt : k < j
      · have hc := HC.out k hlt
        by_cases h1 : sf1 (el xs) (j + 1) k < -1
        · have HN : Hid (quietB xs = false) := by rw [Hid, HQ.out]; exact qtF_no hlt (by omega)
          go_wp2_with fail
          go_ret
          exact ⟨ret_bool HN.out.symm, hbl⟩
        · by_cases h2 : 1 < sf1 (el xs) (j + 1) k
          · have HN : Hid (quietB xs = false) := by rw [Hid, HQ.out]; exact qtF_no hlt (by omega)
            go_wp2_with fail
            go_ret
            exact ⟨ret_bool HN.out.symm, hbl⟩
          · go_wp2_with fail
            go_round
            case rel =>
              refine ⟨k + 1, by omega, by go_num, fun i hi => ?_⟩
              by_cases e : i = k
              · rw [e]; omega
              · exact hall.out i (by omega)
            case measure => simp [intOf]; omega
      · obtain rfl : k = j := by omega
        go_wp2_with fail
        go_ret
        exact ⟨ret_bool (by rw [HQ.out, qtF_iff.2 hall.out]), hbl⟩
set_option maxHeartbeats 1600000 in
theorem sIsQuiet_all (w : World) (a : Option Addr) (n c : Nat) (xs : List Int) (h : Row w a n c xs) :
    Calls Try.prog 17 #[.slice a n c] w fun e w' => Says w w' e (quietB xs) := by
  have HL : Hid (xs.length = n) := h.len
  cases hos : (onF xs n && valid xs)
  · have HQ : Hid (quietB xs = false) := quiet_no fun hh => by
      have h1 := hh.2.2.1
      rw [HL.out] at h1
      rw [h1, hh.1] at hos; cases hos
    go_enter Try.func17, Try.ntmps17
    go_wp2_with fail
    refine (onlySigns_is w a n c xs false h hos).mono ?_
    rintro e w' ⟨rfl, rfl⟩
    go_wp2_with fail
    go_ret
    exact ⟨ret_bool HQ.out.symm, Below.refl _ _⟩
  have hos2 := hos
  rw [Bool.and_eq_true] at hos2
  obtain ⟨ho, hv⟩ := hos2
  by_cases hn0 : n = 0
  · have HQ : Hid (quietB xs = false) := quiet_no fun hh => hh.2.1 (by rw [HL.out]; exact hn0)
    have hnb : ((n : Int) == 0) = true := by simp; exact hn0
    clear hn0
    go_enter Try.func17, Try.ntmps17
    go_wp2_with fail
    refine (onlySigns_is w a n c xs true h hos).mono ?_
    rintro e w' ⟨rfl, rfl⟩
    go_wp2_with fail
    go_ret
    exact ⟨ret_bool HQ.out.symm, Below.refl _ _⟩
  have hnb : ((n : Int) == 0) = false := by simp; exact hn0
  obtain ⟨j, rfl⟩ : ∃ j, n = j + 1 := ⟨n - 1, by omega⟩
  have HQ : Hid (quietB xs = qtF (sf1 (el xs) (j + 1)) j) := by
    rw [Hid, quietB, hv, HL.out, ho, quietN, Nat.add_sub_cancel]; simp
  go_enter Try.func17, Try.ntmps17
  go_wp2_with fail
  refine (onlySigns_is w a (j + 1) c xs true h hos).mono ?_
  rintro e w' ⟨rfl, rfl⟩
  go_wp2_with fail
  refine (itself_any w a (j + 1) c xs h hv).mono ?_
  rintro e w1 ⟨a4, c4, rfl, hown4, hbl⟩
  have hr4 := hown4.row (show j + 1 ≤ 1125899906842624 by have := h.small; omega)
  have hsm := h.small
  obtain ⟨b4, off4, rfl, hbb4, hcell4⟩ := hr4.at (by omega)
  have HC : Hid (∀ t, t < j → w1.cell? ⟨b4, off4 + (t + 1), none⟩ = some (.int .i64 (sf1 (el xs) (j + 1) t))) := fun t ht => by
    have := hcell4 w1 (Below.refl _ _) (t + 1) (by omega)
    rw [selfL, el_tab (by omega)] at this
    exact this
  clear hcell4 hown4 hr4 hn0 hv ho hos
  go_wp2_with fail
  go_loop [4] (fun u => ∃ k : Nat, k ≤ j ∧ u = .int .i64 ((k : Int) + 1) ∧ Hid (∀ i, i < k → -1 ≤ sf1 (el xs) (j + 1) i ∧ sf1 (el xs) (j + 1) i ≤ 1)) (fun u => j + 1 - (intOf u).toNat)
  case atStart => exact ⟨0, Nat.zero_le _, rfl, fun i hi => by omega⟩
  case round =>
    obtain ⟨k, hk, rfl, hall⟩ := hrel
    by_cases hlt : k < j
    · have hc := HC.out k hlt
      have hi4 : ((k : Int) + 1).toNat = k + 1 := by omega
      by_cases hr : -1 ≤ sf1 (el xs) (j + 1) k ∧ sf1 (el xs) (j + 1) k ≤ 1
      · have hw := within_yes hr
        have HR := Lib.hid hr
        clear hr
        go_wp2_with fail
        refine (inRange_any w1 (sf1 (el xs) (j + 1) k) (-1) 1).mono ?_
        rw [hw]
        rintro e w' ⟨rfl, rfl⟩
        go_wp2_with fail
        go_round
        case rel =>
          refine ⟨k + 1, by omega, by go_num, fun i hi => ?_⟩
          by_cases e : i = k
          · rw [e]; exact HR.out
          · exact hall.out i (by omega)
        case measure => simp [intOf]; omega
      · have hw := within_no hr
        have HN : Hid (quietB xs = false) := by rw [Hid, HQ.out]; exact qtF_no hlt hr
        clear hr
        go_wp2_with fail
        refine (inRange_any w1 (sf1 (el xs) (j + 1) k) (-1) 1).mono ?_
        rw [hw]
        rintro e w' ⟨rfl, rfl⟩
        go_wp2_with fail
        go_ret
        exact ⟨ret_bool HN.out.symm, hbl⟩
    · obtain rfl : k = j := by omega
      go_wp2_with fail
      go_ret
      exact ⟨ret_bool (by rw [HQ.out, qtF_iff.2 hall.out]), hbl⟩
end Go.Proofs.Ythmajnfppkgflaa
