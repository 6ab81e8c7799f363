/-
  UnsignsOf: the numbers whose signs are given.
-/
import Derived.Test.YtccddkgpcgnaoaaSigns
import Derived.Test.YtccddkgpcgnaoaaTwo
import Derived.Test.YtccddkgpcgnaoaaDraw2
namespace Go.Proofs.Ytccddkgpcgnaoaa
open Go.RowKit

/-- What a call hands back that makes a list, and a truth beside it. -/
def FreshB (w w' : World) (e : Ending) (n : Nat) (ys : List Int) (v : Bool) : Prop :=
  ∃ a c, e = .returned (.tuple #[.slice a n c, .bool v]) ∧ Own w' w.heap.size a n c ys ∧ Below w.heap.size w w'
theorem FreshB.mk' {w w' : World} {a : Option Addr} {n m c : Nat} {ys zs : List Int} {u v : Bool} (h : Own w' w.heap.size a m c zs) (hb : Below w.heap.size w w') (hm : m = n) (he : zs = ys) (hv : u = v) : FreshB w w' (.returned (.tuple #[.slice a m c, .bool u])) n ys v := by
  subst hm; subst he; subst hv; exact ⟨a, c, rfl, h, hb⟩

/-- All sums are divided by their number. -/
def divF (f : Nat → Int) (n : Nat) : Nat → Bool
  | 0 => true
  | k + 1 => divF f n k && decide (f k % (n : Int) = 0)
theorem divF_iff {f : Nat → Int} {n k : Nat} : divF f n k = true ↔ ∀ i, i < k → f i % (n : Int) = 0 := by
  induction k with
  | zero => simp [divF]
  | succ k ih =>
    simp only [divF, Bool.and_eq_true, decide_eq_true_eq, ih]
    constructor
    · rintro ⟨h1, h2⟩ i hi
      by_cases e : i = k
      · subst e; exact h2
      · exact h1 i (by omega)
    · intro h; exact ⟨fun i hi => h i (by omega), h k (by omega)⟩
def unsOk (xs : List Int) : Bool := cube xs && divF (sgAt (el xs) xs.length) xs.length xs.length
def unsAt (f : Nat → Int) (n y : Nat) : Int := sgAt f n y / n
def unsR (xs : List Int) : List Int := if unsOk xs then tab (unsAt (el xs) xs.length) xs.length else []
theorem unsOk_no {xs : List Int} {n i : Nat} (hl : xs.length = n) (hi : i < n) (h : sgAt (el xs) n i % (n : Int) ≠ 0) : unsOk xs = false := by
  cases hv : unsOk xs with
  | false => rfl
  | true =>
    rw [unsOk, Bool.and_eq_true, hl, divF_iff] at hv
    exact absurd (hv.2 i hi) h
theorem tmod_zero {a b : Int} : a.tmod b = 0 ↔ a % b = 0 := by
  rw [← Int.dvd_iff_tmod_eq_zero, Int.dvd_iff_emod_eq_zero]
theorem tdiv_exact {a b : Int} (h : a % b = 0) : a.tdiv b = a / b := by
  rw [Int.tdiv_eq_ediv_of_dvd (Int.dvd_of_emod_eq_zero h)]

set_option maxHeartbeats 1600000 in
theorem UnsignsOf_no (w : World) (a : Option Addr) (n c : Nat) (xs : List Int) (h : Row w a n c xs) (hv : cube xs = false) :
    Calls Try.prog 29 #[.slice a n c] w fun e w' => e = .returned (.tuple #[.slice none 0 0, .bool false]) ∧ w = w' := by
  go_enter Try.func29, Try.ntmps29
  go_wp2_with fail
  refine (whole_is w a n c xs false h hv).mono ?_
  rintro e w' ⟨rfl, rfl⟩
  go_wp2_with fail
  go_ret2
  exact ⟨rfl, rfl⟩
set_option maxHeartbeats 1600000 in
theorem UnsignsOf_yes (w : World) (a : Option Addr) (n c : Nat) (xs : List Int) (h : Row w a n c xs) (hv : cube xs = true) :
    Calls Try.prog 29 #[.slice a n c] w fun e w' => FreshB w w' e (unsR xs).length (unsR xs) (unsOk xs) := by
  have HL : Hid (xs.length = n) := h.len
  have hx := (cube_iff.1 hv).1
  have hn : n ≤ 16 := by have := valid_len hx; rw [HL.out] at this; exact this
  have hp : 0 < n := by have := (cube_iff.1 hv).2; rw [HL.out, isP2_iff] at this; omega
  have HB : Hid (∀ i, i < n → -1000 ≤ el xs i ∧ el xs i ≤ 1000) := fun i hi => valid_bd hx (by rw [HL.out]; exact hi)
  have HV := Lib.hid hv
  have hn1 : (1 : Int) ≤ n := by omega
  clear hx
  go_enter Try.func29, Try.ntmps29
  go_wp2_with fail
  refine (whole_is w a n c xs true h hv).mono ?_
  rintro e w' ⟨rfl, rfl⟩
  go_wp2_with fail
  refine (signs_any w a n c xs h hn HB.out).mono ?_
  rintro e w1 ⟨a1, c1, rfl, hown0, hbl0⟩
  rw [signsL, ← mid_zero (unsAt (el xs) n) (sgAt (el xs) n)] at hown0
  clear hv
  go_wp2_with fail
  go_loopw [14] (fun u wr => ∃ k : Nat, k ≤ n ∧ u = .int .i64 k ∧ Own wr w.heap.size a1 n c1 (tab (mid k (unsAt (el xs) n) (sgAt (el xs) n)) n) ∧ Below w.heap.size w wr ∧ Hid (∀ i, i < k → sgAt (el xs) n i % (n : Int) = 0)) (fun u _ => n - (intOf u).toNat)
  case atStart => exact ⟨0, Nat.zero_le _, rfl, hown0, hbl0, fun i hi => by omega⟩
  case round =>
    obtain ⟨k, hk, rfl, hown, hbl, hall⟩ := hrel
    clear hown0 hbl0
    by_cases hlt : k < n
    · obtain ⟨g, rfl, hBg, hgl, hcell, hfr⟩ := hown.at k hlt
      rw [mid_at _ _ hlt] at hcell
      have hs := @sgs_bd (el xs) 1000 n k HB.out
      have hus : unsAt (el xs) n k = sgAt (el xs) n k / n := rfl
      have HUS := Lib.hid hus
      clear hus
      by_cases hd : sgAt (el xs) n k % (n : Int) = 0
      · have ht : (sgAt (el xs) n k).tmod (n : Int) = 0 := tmod_zero.2 hd
        have hq : (sgAt (el xs) n k).tdiv (n : Int) = sgAt (el xs) n k / n := tdiv_exact hd
        have hst := hown.store k (unsAt (el xs) n k)
        rw [mid_set _ _ hlt, HUS.out] at hst
        have hb2 := hbl.setCell (p := ⟨g, k, none⟩) hBg (.int .i64 (sgAt (el xs) n k / n))
        have hall2 : Hid (∀ i, i < k + 1 → sgAt (el xs) n i % (n : Int) = 0) := fun i hi => by
          by_cases e : i = k
          · rw [e]; exact hd
          · exact hall.out i (by omega)
        have hqb : -(1000 * (n : Int)) ≤ sgAt (el xs) n k / n ∧ sgAt (el xs) n k / n ≤ 1000 * n := by
          have h1 := Int.ediv_mul_cancel (Int.dvd_of_emod_eq_zero hd)
          generalize sgAt (el xs) n k / (n : Int) = q at h1 ⊢
          have h3 : (q * (n : Int)).natAbs = q.natAbs * n := by rw [Int.natAbs_mul]; simp
          have h4 : q.natAbs * 1 ≤ q.natAbs * n := Nat.mul_le_mul_left _ hp
          omega
        clear hd
        go_wp2_with fail
        go_roundw
        case rel => exact ⟨k + 1, by omega, by go_num, hst, hb2, hall2⟩
        case measure => simp [intOf]; omega
      · have ht : ((sgAt (el xs) n k).tmod (n : Int) == 0) = false := by
          rw [beq_eq_false_iff_ne]; intro e; exact hd (tmod_zero.1 e)
        have ht2 : ((sgAt (el xs) n k).tmod (n : Int) != 0) = true := by simp only [bne, ht]; rfl
        have HOK : Hid (unsOk xs = false) := unsOk_no HL.out hlt hd
        clear hd
        go_wp2_with fail
        go_ret2
        exact FreshB.mk' (own_nil _ _) hbl (by rw [unsR, if_neg (by rw [HOK.out]; decide)]; rfl) (by rw [unsR, if_neg (by rw [HOK.out]; decide)]) HOK.out.symm
    · obtain rfl : k = n := by omega
      have HOK : Hid (unsOk xs = true) := by rw [Hid, unsOk, HV.out, HL.out, divF_iff.2 hall.out]; rfl
      go_wp2_with fail
      go_ret2
      rw [mid_end] at hown
      exact FreshB.mk' hown hbl (by rw [unsR, if_pos HOK.out, tab_length, HL.out]) (by rw [unsR, if_pos HOK.out, HL.out]) HOK.out.symm
theorem UnsignsOf_all (w : World) (a : Option Addr) (n c : Nat) (xs : List Int) (h : Row w a n c xs) :
    Calls Try.prog 29 #[.slice a n c] w fun e w' => FreshB w w' e (unsR xs).length (unsR xs) (unsOk xs) := by
  cases hv : cube xs
  · have h0 : unsOk xs = false := by rw [unsOk, hv]; rfl
    refine (UnsignsOf_no w a n c xs h hv).mono ?_
    rintro e w' ⟨rfl, rfl⟩
    rw [show unsR xs = [] by rw [unsR, h0]; rfl, h0]
    exact FreshB.mk' (own_nil _ _) (Below.refl _ _) rfl rfl rfl
  · exact UnsignsOf_yes w a n c xs h hv
set_option maxHeartbeats 1600000 in
theorem sUnsignsOf_no (w : World) (a : Option Addr) (n c : Nat) (xs : List Int) (h : Row w a n c xs) (hv : cube xs = false) :
    Calls Try.prog 28 #[.slice a n c] w fun e w' => e = .returned (.tuple #[.slice none 0 0, .bool false]) ∧ w = w' := by
  go_enter Try.func28, Try.ntmps28
  go_wp2_with fail
  refine (validCube_is w a n c xs false h hv).mono ?_
  rintro e w' ⟨rfl, rfl⟩
  go_wp2_with fail
  go_ret2
  exact ⟨rfl, rfl⟩
set_option maxHeartbeats 1600000 in
theorem sUnsignsOf_yes (w : World) (a : Option Addr) (n c : Nat) (xs : List Int) (h : Row w a n c xs) (hv : cube xs = true) :
    Calls Try.prog 28 #[.slice a n c] w fun e w' => FreshB w w' e (unsR xs).length (unsR xs) (unsOk xs) := by
  have HL : Hid (xs.length = n) := h.len
  have hx := (cube_iff.1 hv).1
  have hn : n ≤ 16 := by have := valid_len hx; rw [HL.out] at this; exact this
  have hp : 0 < n := by have := (cube_iff.1 hv).2; rw [HL.out, isP2_iff] at this; omega
  have HB : Hid (∀ i, i < n → -1000 ≤ el xs i ∧ el xs i ≤ 1000) := fun i hi => valid_bd hx (by rw [HL.out]; exact hi)
  have HV := Lib.hid hv
  have hn1 : (1 : Int) ≤ n := by omega
  clear hx
  go_enter Try.func28, Try.ntmps28
  go_wp2_with fail
  refine (validCube_is w a n c xs true h hv).mono ?_
  rintro e w' ⟨rfl, rfl⟩
  go_wp2_with fail
  refine (ssigns_any w a n c xs h hn HB.out).mono ?_
  rintro e w1 ⟨a1, c1, rfl, hown0, hbl0⟩
  rw [signsL, ← mid_zero (unsAt (el xs) n) (sgAt (el xs) n)] at hown0
  clear hv
  go_wp2_with fail
  go_loopw [5] (fun u wr => ∃ k : Nat, k ≤ n ∧ u = .int .i64 k ∧ Own wr w.heap.size a1 n c1 (tab (mid k (unsAt (el xs) n) (sgAt (el xs) n)) n) ∧ Below w.heap.size w wr ∧ Hid (∀ i, i < k → sgAt (el xs) n i % (n : Int) = 0)) (fun u _ => n - (intOf u).toNat)
  case atStart => exact ⟨0, Nat.zero_le _, rfl, hown0, hbl0, fun i hi => by omega⟩
  case round =>
    obtain ⟨k, hk, rfl, hown, hbl, hall⟩ := hrel
    clear hown0 hbl0
    by_cases hlt : k < n
    · obtain ⟨g, rfl, hBg, hgl, hcell, hfr⟩ := hown.at k hlt
      rw [mid_at _ _ hlt] at hcell
      have hs := @sgs_bd (el xs) 1000 n k HB.out
      have hus : unsAt (el xs) n k = sgAt (el xs) n k / n := rfl
      have HUS := Lib.hid hus
      clear hus
      by_cases hd : sgAt (el xs) n k % (n : Int) = 0
      · have ht : (sgAt (el xs) n k).tmod (n : Int) = 0 := tmod_zero.2 hd
        have hq : (sgAt (el xs) n k).tdiv (n : Int) = sgAt (el xs) n k / n := tdiv_exact hd
        have hst := hown.store k (unsAt (el xs) n k)
        rw [mid_set _ _ hlt, HUS.out] at hst
        have hb2 := hbl.setCell (p := ⟨g, k, none⟩) hBg (.int .i64 (sgAt (el xs) n k / n))
        have hall2 : Hid (∀ i, i < k + 1 → sgAt (el xs) n i % (n : Int) = 0) := fun i hi => by
          by_cases e : i = k
          · rw [e]; exact hd
          · exact hall.out i (by omega)
        have hqb : -(1000 * (n : Int)) ≤ sgAt (el xs) n k / n ∧ sgAt (el xs) n k / n ≤ 1000 * n := by
          have h1 := Int.ediv_mul_cancel (Int.dvd_of_emod_eq_zero hd)
          generalize sgAt (el xs) n k / (n : Int) = q at h1 ⊢
          have h3 : (q * (n : Int)).natAbs = q.natAbs * n := by rw [Int.natAbs_mul]; simp
          have h4 : q.natAbs * 1 ≤ q.natAbs * n := Nat.mul_le_mul_left _ hp
          omega
        clear hd
        go_wp2_with fail
        go_roundw
        case rel => exact ⟨k + 1, by omega, by go_num, hst, hb2, hall2⟩
        case measure => simp [intOf]; omega
      · have ht : ((sgAt (el xs) n k).tmod (n : Int) == 0) = false := by
          rw [beq_eq_false_iff_ne]; intro e; exact hd (tmod_zero.1 e)
        have ht2 : ((sgAt (el xs) n k).tmod (n : Int) != 0) = true := by simp only [bne, ht]; rfl
        have HOK : Hid (unsOk xs = false) := unsOk_no HL.out hlt hd
        clear hd
        go_wp2_with fail
        go_ret2
        exact FreshB.mk' (own_nil _ _) hbl (by rw [unsR, if_neg (by rw [HOK.out]; decide)]; rfl) (by rw [unsR, if_neg (by rw [HOK.out]; decide)]) HOK.out.symm
    · obtain rfl : k = n := by omega
      have HOK : Hid (unsOk xs = true) := by rw [Hid, unsOk, HV.out, HL.out, divF_iff.2 hall.out]; rfl
      go_wp2_with fail
      go_ret2
      rw [mid_end] at hown
      exact FreshB.mk' hown hbl (by rw [unsR, if_pos HOK.out, tab_length, HL.out]) (by rw [unsR, if_pos HOK.out, HL.out]) HOK.out.symm
theorem sUnsignsOf_all (w : World) (a : Option Addr) (n c : Nat) (xs : List Int) (h : Row w a n c xs) :
    Calls Try.prog 28 #[.slice a n c] w fun e w' => FreshB w w' e (unsR xs).length (unsR xs) (unsOk xs) := by
  cases hv : cube xs
  · have h0 : unsOk xs = false := by rw [unsOk, hv]; rfl
    refine (sUnsignsOf_no w a n c xs h hv).mono ?_
    rintro e w' ⟨rfl, rfl⟩
    rw [show unsR xs = [] by rw [unsR, h0]; rfl, h0]
    exact FreshB.mk' (own_nil _ _) (Below.refl _ _) rfl rfl rfl
  · exact sUnsignsOf_yes w a n c xs h hv
theorem unsR_len (xs : List Int) : (unsR xs).length ≤ 1000 := by
  unfold unsR
  split
  · rename_i h
    rw [unsOk, Bool.and_eq_true] at h
    have := valid_len (cube_iff.1 h.1).1
    rw [tab_length]; omega
  · simp
end Go.Proofs.Ytccddkgpcgnaoaa
