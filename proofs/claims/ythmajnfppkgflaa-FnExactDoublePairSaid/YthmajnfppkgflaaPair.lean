/-
  Paired rows: the tests of the program and of the reference; the laws of IsQuiet and ArePaired.
-/
import Derived.Test.YthmajnfppkgflaaOn
namespace Go.Proofs.Ythmajnfppkgflaa
open Go.RowKit

/-- The first numbers are 0. -/
def zrF (g : Nat → Int) : Nat → Bool
  | 0 => true
  | k + 1 => zrF g k && decide (g k = 0)
theorem zrF_iff {g : Nat → Int} {n : Nat} : zrF g n = true ↔ ∀ i, i < n → g i = 0 := by
  induction n with
  | zero => simp [zrF]
  | succ k ih =>
    simp only [zrF, Bool.and_eq_true, decide_eq_true_eq, ih]
    constructor
    · rintro ⟨h1, h2⟩ i hi
      by_cases e : i = k
      · subst e; exact h2
      · exact h1 i (by omega)
    · intro h; exact ⟨fun i hi => h i (by omega), h k (by omega)⟩
theorem zrF_no {g : Nat → Int} {n i : Nat} (hi : i < n) (h : ¬ g i = 0) : zrF g n = false := by
  cases hv : zrF g n with
  | false => rfl
  | true => exact absurd (zrF_iff.1 hv i hi) h
def pr1 (f g : Nat → Int) (n k : Nat) : Int := sfAt f n (k + 1) + sfAt g n (k + 1)
def pairOk (xs ys : List Int) : Bool := valid xs && (valid ys && (decide (xs.length ≠ 0) && (decide (xs.length = ys.length) && (onF xs xs.length && onF ys ys.length))))
theorem pairOk_iff {xs ys : List Int} : pairOk xs ys = true ↔ valid xs = true ∧ valid ys = true ∧ xs.length ≠ 0 ∧ xs.length = ys.length ∧ onF xs xs.length = true ∧ onF ys ys.length = true := by simp [pairOk]
def pairB (xs ys : List Int) : Bool := pairOk xs ys && zrF (pr1 (el xs) (el ys) xs.length) (xs.length - 1)
theorem pair_iff {xs ys : List Int} : pairB xs ys = true ↔ pairOk xs ys = true ∧ zrF (pr1 (el xs) (el ys) xs.length) (xs.length - 1) = true := by simp [pairB]
theorem pair_no {xs ys : List Int} (h : pairOk xs ys = false) : pairB xs ys = false := by rw [pairB, h]; rfl
theorem sf_bdn {f : Nat → Int} {n d : Nat} (h : ∀ i, i < n → -1000 ≤ f i ∧ f i ≤ 1000) (hn : n ≤ 16) (hd : d ≤ n) : -16000000 ≤ sfAt f n d ∧ sfAt f n d ≤ 16000000 := by
  have := @sfp_bd f n d (n - d) h (by omega)
  have e : sfp f d (n - d) = sfAt f n d := rfl
  rw [e] at this; omega

set_option maxHeartbeats 3200000 in
theorem ArePaired_all (w : World) (a b : Option Addr) (n c m d : Nat) (xs ys : List Int) (h : Row w a n c xs) (h2 : Row w b m d ys) :
    Calls Try.prog 26 #[.slice a n c, .slice b m d] w fun e w' => Says w w' e (pairB xs ys) := by
  have HL : Hid (xs.length = n) := h.len
  have HL2 : Hid (ys.length = m) := h2.len
  cases hvx : valid xs
  · have HQ : Hid (pairB xs ys = false) := pair_no (by simp [pairOk, hvx])
    go_enter Try.func26, Try.ntmps26
    go_wp2_with fail
    refine (ValidRow_is w a n c xs false h hvx).mono ?_
    rintro e w' ⟨rfl, rfl⟩
    go_wp2_with fail
    go_ret
    exact ⟨ret_bool HQ.out.symm, Below.refl _ _⟩
  cases hvy : valid ys
  · have HQ : Hid (pairB xs ys = false) := pair_no (by simp [pairOk, hvy])
    go_enter Try.func26, Try.ntmps26
    go_wp2_with fail
    refine (ValidRow_is w a n c xs true h hvx).mono ?_
    rintro e w' ⟨rfl, rfl⟩
    go_wp2_with fail
    refine (ValidRow_is w b m d ys false h2 hvy).mono ?_
    rintro e w' ⟨rfl, rfl⟩
    go_wp2_with fail
    go_ret
    exact ⟨ret_bool HQ.out.symm, Below.refl _ _⟩
  by_cases hn0 : n = 0
  · have HQ : Hid (pairB xs ys = false) := pair_no (by simp [pairOk, HL.out, hn0])
    have hnb : ((n : Int) == 0) = true := by simp; exact hn0
    clear hn0
    go_enter Try.func26, Try.ntmps26
    go_wp2_with fail
    refine (ValidRow_is w a n c xs true h hvx).mono ?_
    rintro e w' ⟨rfl, rfl⟩
    go_wp2_with fail
    refine (ValidRow_is w b m d ys true h2 hvy).mono ?_
    rintro e w' ⟨rfl, rfl⟩
    go_wp2_with fail
    go_ret
    exact ⟨ret_bool HQ.out.symm, Below.refl _ _⟩
  have hnb : ((n : Int) == 0) = false := by simp; exact hn0
  by_cases hnm : n = m
  · subst hnm
    cases hox : onF xs n
    · have HQ : Hid (pairB xs ys = false) := pair_no (by simp [pairOk, HL.out, hox])
      clear hn0
      go_enter Try.func26, Try.ntmps26
      go_wp2_with fail
      refine (ValidRow_is w a n c xs true h hvx).mono ?_
      rintro e w' ⟨rfl, rfl⟩
      go_wp2_with fail
      refine (ValidRow_is w b n d ys true h2 hvy).mono ?_
      rintro e w' ⟨rfl, rfl⟩
      go_wp2_with fail
      refine (ones_is w a n c xs false h hox).mono ?_
      rintro e w' ⟨rfl, rfl⟩
      go_wp2_with fail
      go_ret
      exact ⟨ret_bool HQ.out.symm, Below.refl _ _⟩
    cases hoy : onF ys n
    · have HQ : Hid (pairB xs ys = false) := pair_no (by simp [pairOk, HL2.out, hoy])
      clear hn0
      go_enter Try.func26, Try.ntmps26
      go_wp2_with fail
      refine (ValidRow_is w a n c xs true h hvx).mono ?_
      rintro e w' ⟨rfl, rfl⟩
      go_wp2_with fail
      refine (ValidRow_is w b n d ys true h2 hvy).mono ?_
      rintro e w' ⟨rfl, rfl⟩
      go_wp2_with fail
      refine (ones_is w a n c xs true h hox).mono ?_
      rintro e w' ⟨rfl, rfl⟩
      go_wp2_with fail
      refine (ones_is w b n d ys false h2 hoy).mono ?_
      rintro e w' ⟨rfl, rfl⟩
      go_wp2_with fail
      go_ret
      exact ⟨ret_bool HQ.out.symm, Below.refl _ _⟩
    obtain ⟨j, rfl⟩ : ∃ j, n = j + 1 := ⟨n - 1, by omega⟩
    have hn16 : j + 1 ≤ 16 := by have := valid_len hvx; rw [HL.out] at this; exact this
    have HBX : Hid (∀ i, i < j + 1 → -1000 ≤ el xs i ∧ el xs i ≤ 1000) := fun i hi => valid_bd hvx (by rw [HL.out]; exact hi)
    have HBY : Hid (∀ i, i < j + 1 → -1000 ≤ el ys i ∧ el ys i ≤ 1000) := fun i hi => valid_bd hvy (by rw [HL2.out]; exact hi)
    have HQ : Hid (pairB xs ys = zrF (pr1 (el xs) (el ys) (j + 1)) j) := by
      rw [Hid, pairB, pairOk_iff.2 ⟨hvx, hvy, by rw [HL.out]; omega, by rw [HL.out, HL2.out], by rw [HL.out]; exact hox, by rw [HL2.out]; exact hoy⟩, HL.out, Nat.add_sub_cancel]; rfl
    clear hn0
    go_enter Try.func26, Try.ntmps26
    go_wp2_with fail
    refine (ValidRow_is w a (j + 1) c xs true h hvx).mono ?_
    rintro e w' ⟨rfl, rfl⟩
    go_wp2_with fail
    refine (ValidRow_is w b (j + 1) d ys true h2 hvy).mono ?_
    rintro e w' ⟨rfl, rfl⟩
    go_wp2_with fail
    refine (ones_is w a (j + 1) c xs true h hox).mono ?_
    rintro e w' ⟨rfl, rfl⟩
    go_wp2_with fail
    refine (ones_is w b (j + 1) d ys true h2 hoy).mono ?_
    rintro e w' ⟨rfl, rfl⟩
    go_wp2_with fail
    refine (SelfOf_yes w a (j + 1) c xs h hvx).mono ?_
    rintro e w5 ⟨a5, c5, rfl, own5, b5⟩
    go_wp2_with fail
    refine (SelfOf_yes w5 b (j + 1) d ys (h2.below b5) hvy).mono ?_
    rintro e w6 ⟨a6, c6, rfl, own6, b6⟩
    clear hvx hvy hox hoy
    have hcx := own5.row (show j + 1 ≤ 1125899906842624 by omega)
    have hcy := own6.row (show j + 1 ≤ 1125899906842624 by omega)
    obtain ⟨bx, ox, rfl, hbbx, hqx⟩ := (hcx.below b6).at (by omega)
    obtain ⟨bY, oY, rfl, hbbY, hqy⟩ := hcy.at (by omega)
    have HX : Hid (∀ w', Below w6.heap.size w6 w' → ∀ t, t < j → w'.cell? ⟨bx, ox + (t + 1), none⟩ = some (.int .i64 (sfAt (el xs) (j + 1) (t + 1)))) := fun w' hb t ht => by
      have := hqx w' hb (t + 1) (by omega)
      rw [selfL, el_tab (by omega)] at this; exact this
    have HY : Hid (∀ w', Below w6.heap.size w6 w' → ∀ t, t < j → w'.cell? ⟨bY, oY + (t + 1), none⟩ = some (.int .i64 (sfAt (el ys) (j + 1) (t + 1)))) := fun w' hb t ht => by
      have := hqy w' hb (t + 1) (by omega)
      rw [selfL, el_tab (by omega)] at this; exact this
    have l6 := bstep b5 b6
    clear hcx hcy hqx hqy own5 own6 b5 b6
    go_wp2_with fail
    go_loopw [7] (fun u wr => ∃ k : Nat, k ≤ j ∧ u = .int .i64 ((k : Int) + 1) ∧ Hid (∀ i, i < k → pr1 (el xs) (el ys) (j + 1) i = 0) ∧ Below w6.heap.size w6 wr) (fun u _ => j + 1 - (intOf u).toNat)
    case atStart => exact ⟨0, Nat.zero_le _, rfl, fun i hi => by omega, Below.refl _ _⟩
    case round =>
      obtain ⟨k, hk, rfl, hall, hblr⟩ := hrel
      by_cases hlt : k < j
      · have hc1 := HX.out wr hblr k hlt
        have hc2 := HY.out wr hblr k hlt
        have hb1 := @sf_bdn (el xs) (j + 1) (k + 1) HBX.out hn16 (by omega)
        have hb2 := @sf_bdn (el ys) (j + 1) (k + 1) HBY.out hn16 (by omega)
        have hpe : pr1 (el xs) (el ys) (j + 1) k = sfAt (el xs) (j + 1) (k + 1) + sfAt (el ys) (j + 1) (k + 1) := rfl
        have HP := Lib.hid hpe
        clear hpe
        have i0 : (0 : Int) ≤ (k : Int) + 1 := by omega
        have i1 : (k : Int) + 1 < (j + 1 : Nat) := by omega
        have i11 : (k : Int) + 1 < (j : Int) + 1 := by omega
        have i12 : (k : Int) < (j : Int) := by omega
        have i2 : ((k : Int) + 1).toNat = k + 1 := by omega
        have j1 : IntKind.i64.wrap (sfAt (el xs) (j + 1) (k + 1) + sfAt (el ys) (j + 1) (k + 1)) = sfAt (el xs) (j + 1) (k + 1) + sfAt (el ys) (j + 1) (k + 1) := IntWalk.i64_in _ (by omega)
        by_cases hz : sfAt (el xs) (j + 1) (k + 1) + sfAt (el ys) (j + 1) (k + 1) = 0
        · have hzb : (sfAt (el xs) (j + 1) (k + 1) + sfAt (el ys) (j + 1) (k + 1) != 0) = false := by simp [hz]
          have HZ := Lib.hid hz
          clear hz
          go_wp2_with fail
          go_quiet (fail)
          clear j1
          go_wp2_with fail
          go_roundw
          case rel =>
            refine ⟨k + 1, by omega, by go_num, fun i hi => ?_, bdrewN hblr _⟩
            by_cases e : i = k
            · rw [e, HP.out]; exact HZ.out
            · exact hall.out i (by omega)
          case measure => simp [intOf]; omega
        · have hzb : (sfAt (el xs) (j + 1) (k + 1) + sfAt (el ys) (j + 1) (k + 1) != 0) = true := by simp [hz]
          have HN : Hid (pairB xs ys = false) := by rw [Hid, HQ.out]; exact zrF_no hlt (by rw [HP.out]; exact hz)
          clear hz
          go_wp2_with fail
          go_quiet (fail)
          clear j1
          go_wp2_with fail
          go_ret
          exact ⟨ret_bool HN.out.symm, bdrewN (bstep l6 hblr) _⟩
      · obtain rfl : k = j := by omega
        go_wp2_with fail
        go_ret
        exact ⟨ret_bool (by rw [HQ.out, zrF_iff.2 hall.out]), bstep l6 hblr⟩
  · have HQ : Hid (pairB xs ys = false) := pair_no (by simp [pairOk, HL.out, HL2.out, hnm])
    have hne : ((n : Int) != (m : Int)) = true := by simp; omega
    clear hn0 hnm
    go_enter Try.func26, Try.ntmps26
    go_wp2_with fail
    refine (ValidRow_is w a n c xs true h hvx).mono ?_
    rintro e w' ⟨rfl, rfl⟩
    go_wp2_with fail
    refine (ValidRow_is w b m d ys true h2 hvy).mono ?_
    rintro e w' ⟨rfl, rfl⟩
    go_wp2_with fail
    go_ret
    exact ⟨ret_bool HQ.out.symm, Below.refl _ _⟩
set_option maxHeartbeats 3200000 in
theorem pair_all (w : World) (a b : Option Addr) (n c m d : Nat) (xs ys : List Int) (h : Row w a n c xs) (h2 : Row w b m d ys) :
    Calls Try.prog 40 #[.slice a n c, .slice b m d] w fun e w' => Says w w' e (pairB xs ys) := by
  have HL : Hid (xs.length = n) := h.len
  have HL2 : Hid (ys.length = m) := h2.len
  cases hsx : (onF xs n && valid xs)
  · have HQ : Hid (pairB xs ys = false) := pair_no (by
      rw [Bool.and_eq_false_iff] at hsx
      rcases hsx with e | e <;> simp [pairOk, HL.out, e])
    go_enter Try.func40, Try.ntmps40
    go_wp2_with fail
    refine (onlySigns_is w a n c xs false h hsx).mono ?_
    rintro e w' ⟨rfl, rfl⟩
    go_wp2_with fail
    go_ret
    exact ⟨ret_bool HQ.out.symm, Below.refl _ _⟩
  cases hsy : (onF ys m && valid ys)
  · have HQ : Hid (pairB xs ys = false) := pair_no (by
      rw [Bool.and_eq_false_iff] at hsy
      rcases hsy with e | e <;> simp [pairOk, HL2.out, e])
    go_enter Try.func40, Try.ntmps40
    go_wp2_with fail
    refine (onlySigns_is w a n c xs true h hsx).mono ?_
    rintro e w' ⟨rfl, rfl⟩
    go_wp2_with fail
    refine (onlySigns_is w b m d ys false h2 hsy).mono ?_
    rintro e w' ⟨rfl, rfl⟩
    go_wp2_with fail
    go_ret
    exact ⟨ret_bool HQ.out.symm, Below.refl _ _⟩
  by_cases hnm : n = m
  · subst hnm
    by_cases hn0 : n = 0
    · have HQ : Hid (pairB xs ys = false) := pair_no (by simp [pairOk, HL.out, hn0])
      have hnb : ((n : Int) == 0) = true := by simp; exact hn0
      clear hn0
      go_enter Try.func40, Try.ntmps40
      go_wp2_with fail
      refine (onlySigns_is w a n c xs true h hsx).mono ?_
      rintro e w' ⟨rfl, rfl⟩
      go_wp2_with fail
      refine (onlySigns_is w b n d ys true h2 hsy).mono ?_
      rintro e w' ⟨rfl, rfl⟩
      go_wp2_with fail
      go_ret
      exact ⟨ret_bool HQ.out.symm, Below.refl _ _⟩
    have hnb : ((n : Int) == 0) = false := by simp; exact hn0
    have hsx2 := hsx
    have hsy2 := hsy
    rw [Bool.and_eq_true] at hsx2 hsy2
    obtain ⟨hox, hvx⟩ := hsx2
    obtain ⟨hoy, hvy⟩ := hsy2
    obtain ⟨j, rfl⟩ : ∃ j, n = j + 1 := ⟨n - 1, by omega⟩
    have hn16 : j + 1 ≤ 16 := by have := valid_len hvx; rw [HL.out] at this; exact this
    have HBX : Hid (∀ i, i < j + 1 → -1000 ≤ el xs i ∧ el xs i ≤ 1000) := fun i hi => valid_bd hvx (by rw [HL.out]; exact hi)
    have HBY : Hid (∀ i, i < j + 1 → -1000 ≤ el ys i ∧ el ys i ≤ 1000) := fun i hi => valid_bd hvy (by rw [HL2.out]; exact hi)
    have HQ : Hid (pairB xs ys = zrF (pr1 (el xs) (el ys) (j + 1)) j) := by
      rw [Hid, pairB, pairOk_iff.2 ⟨hvx, hvy, by rw [HL.out]; omega, by rw [HL.out, HL2.out], by rw [HL.out]; exact hox, by rw [HL2.out]; exact hoy⟩, HL.out, Nat.add_sub_cancel]; rfl
    clear hn0
    go_enter Try.func40, Try.ntmps40
    go_wp2_with fail
    refine (onlySigns_is w a (j + 1) c xs true h hsx).mono ?_
    rintro e w' ⟨rfl, rfl⟩
    go_wp2_with fail
    refine (onlySigns_is w b (j + 1) d ys true h2 hsy).mono ?_
    rintro e w' ⟨rfl, rfl⟩
    go_wp2_with fail
    refine (itself_any w a (j + 1) c xs h hvx).mono ?_
    rintro e w5 ⟨a5, c5, rfl, own5, b5⟩
    go_wp2_with fail
    refine (itself_any w5 b (j + 1) d ys (h2.below b5) hvy).mono ?_
    rintro e w6 ⟨a6, c6, rfl, own6, b6⟩
    clear hvx hvy hox hoy hsx hsy
    have hcx := own5.row (show j + 1 ≤ 1125899906842624 by omega)
    have hcy := own6.row (show j + 1 ≤ 1125899906842624 by omega)
    obtain ⟨bx, ox, rfl, hbbx, hqx⟩ := (hcx.below b6).at (by omega)
    obtain ⟨bY, oY, rfl, hbbY, hqy⟩ := hcy.at (by omega)
    have HX : Hid (∀ w', Below w6.heap.size w6 w' → ∀ t, t < j → w'.cell? ⟨bx, ox + (t + 1), none⟩ = some (.int .i64 (sfAt (el xs) (j + 1) (t + 1)))) := fun w' hb t ht => by
      have := hqx w' hb (t + 1) (by omega)
      rw [selfL, el_tab (by omega)] at this; exact this
    have HY : Hid (∀ w', Below w6.heap.size w6 w' → ∀ t, t < j → w'.cell? ⟨bY, oY + (t + 1), none⟩ = some (.int .i64 (sfAt (el ys) (j + 1) (t + 1)))) := fun w' hb t ht => by
      have := hqy w' hb (t + 1) (by omega)
      rw [selfL, el_tab (by omega)] at this; exact this
    have l6 := bstep b5 b6
    clear hcx hcy hqx hqy own5 own6 b5 b6
    go_wp2_with fail
    go_loopw [7] (fun u wr => ∃ k : Nat, k ≤ j ∧ u = .int .i64 ((k : Int) + 1) ∧ Hid (∀ i, i < k → pr1 (el xs) (el ys) (j + 1) i = 0) ∧ Below w6.heap.size w6 wr) (fun u _ => j + 1 - (intOf u).toNat)
    case atStart => exact ⟨0, Nat.zero_le _, rfl, fun i hi => by omega, Below.refl _ _⟩
    case round =>
      obtain ⟨k, hk, rfl, hall, hblr⟩ := hrel
      by_cases hlt : k < j
      · have hc1 := HX.out wr hblr k hlt
        have hc2 := HY.out wr hblr k hlt
        have hb1 := @sf_bdn (el xs) (j + 1) (k + 1) HBX.out hn16 (by omega)
        have hb2 := @sf_bdn (el ys) (j + 1) (k + 1) HBY.out hn16 (by omega)
        have hpe : pr1 (el xs) (el ys) (j + 1) k = sfAt (el xs) (j + 1) (k + 1) + sfAt (el ys) (j + 1) (k + 1) := rfl
        have HP := Lib.hid hpe
        clear hpe
        have i0 : (0 : Int) ≤ (k : Int) + 1 := by omega
        have i1 : (k : Int) + 1 < (j + 1 : Nat) := by omega
        have i11 : (k : Int) + 1 < (j : Int) + 1 := by omega
        have i12 : (k : Int) < (j : Int) := by omega
        have i2 : ((k : Int) + 1).toNat = k + 1 := by omega
        have j1 : IntKind.i64.wrap (sfAt (el xs) (j + 1) (k + 1) + sfAt (el ys) (j + 1) (k + 1)) = sfAt (el xs) (j + 1) (k + 1) + sfAt (el ys) (j + 1) (k + 1) := IntWalk.i64_in _ (by omega)
        by_cases hz : sfAt (el xs) (j + 1) (k + 1) + sfAt (el ys) (j + 1) (k + 1) = 0
        · have hzb : (sfAt (el xs) (j + 1) (k + 1) + sfAt (el ys) (j + 1) (k + 1) != 0) = false := by simp [hz]
          have HZ := Lib.hid hz
          clear hz
          go_wp2_with fail
          go_quiet (fail)
          clear j1
          go_wp2_with fail
          go_roundw
          case rel =>
            refine ⟨k + 1, by omega, by go_num, fun i hi => ?_, bdrewN hblr _⟩
            by_cases e : i = k
            · rw [e, HP.out]; exact HZ.out
            · exact hall.out i (by omega)
          case measure => simp [intOf]; omega
        · have hzb : (sfAt (el xs) (j + 1) (k + 1) + sfAt (el ys) (j + 1) (k + 1) != 0) = true := by simp [hz]
          have HN : Hid (pairB xs ys = false) := by rw [Hid, HQ.out]; exact zrF_no hlt (by rw [HP.out]; exact hz)
          clear hz
          go_wp2_with fail
          go_quiet (fail)
          clear j1
          go_wp2_with fail
          go_ret
          exact ⟨ret_bool HN.out.symm, bdrewN (bstep l6 hblr) _⟩
      · obtain rfl : k = j := by omega
        go_wp2_with fail
        go_ret
        exact ⟨ret_bool (by rw [HQ.out, zrF_iff.2 hall.out]), bstep l6 hblr⟩
  · have HQ : Hid (pairB xs ys = false) := pair_no (by simp [pairOk, HL.out, HL2.out, hnm])
    have hne : ((n : Int) != (m : Int)) = true := by simp; omega
    clear hnm
    go_enter Try.func40, Try.ntmps40
    go_wp2_with fail
    refine (onlySigns_is w a n c xs true h hsx).mono ?_
    rintro e w' ⟨rfl, rfl⟩
    go_wp2_with fail
    refine (onlySigns_is w b m d ys true h2 hsy).mono ?_
    rintro e w' ⟨rfl, rfl⟩
    go_wp2_with fail
    go_ret
    exact ⟨ret_bool HQ.out.symm, Below.refl _ _⟩
theorem sArePaired_all (w : World) (a b : Option Addr) (n c m d : Nat) (xs ys : List Int) (h : Row w a n c xs) (h2 : Row w b m d ys) :
    Calls Try.prog 27 #[.slice a n c, .slice b m d] w fun e w' => Says w w' e (pairB xs ys) := by
  go_enter Try.func27, Try.ntmps27
  go_wp2_with fail
  refine (pair_all w a b n c m d xs ys h h2).mono ?_
  rintro e w' ⟨rfl, hb⟩
  go_wp2_with fail
  go_ret
  exact ⟨rfl, hb⟩
end Go.Proofs.Ythmajnfppkgflaa
