/-
  ChangesIn, the program's and the reference's, and OrderOf.
-/
import Derived.Test.YtccddkgpcgnaoaaOrder
namespace Go.Proofs.Ytccddkgpcgnaoaa
open Go.RowKit

theorem shl_p2 (k : Nat) (hk : k < 5) : wrap64 ((2 : Int) ^ k) = (p2 k : Int) := by
  have : ∀ k, k < 5 → wrap64 ((2 : Int) ^ k) = (p2 k : Int) := by decide +kernel
  exact this k hk

set_option maxHeartbeats 1600000 in
theorem ChangesIn_any (w : World) (k y : Nat) (hk : k < 5) (hy : y < p2 k) :
    Calls Try.prog 23 #[.int .i64 k, .int .i64 y] w fun e w' => e = .returned (.int .i64 (chgT k y)) ∧ w = w' := by
  have HC : Hid (chgT k y = chgF y (p2 k - 1)) := by rw [Hid, ← chg_eq k hk y hy]; rfl
  have hp := p2_pos k
  have hp16 : p2 k ≤ 16 := p2_le (show k ≤ 4 by omega)
  have hsh := shl_p2 k hk
  generalize p2 k = P at hsh hp hp16 HC hy
  have hd1 : decide ((k : Int) < 0) = false := decide_eq_false (by omega)
  have hd2 : decide (4 < (k : Int)) = false := decide_eq_false (by omega)
  have hd3 : decide ((y : Int) < 0) = false := decide_eq_false (by omega)
  have hd4 : decide ((P : Int) ≤ (y : Int)) = false := decide_eq_false (by omega)
  have hd5 : decide (P ≤ y) = false := decide_eq_false (by omega)
  go_enter Try.func23, Try.ntmps23
  go_wp2_with fail
  simp only [hsh]
  go_loop [5, 6] (fun n u => ∃ x : Nat, x ≤ P - 1 ∧ u = .int .i64 x ∧ n = .int .i64 (chgF y x)) (fun _ u => P - (intOf u).toNat)
  case atStart => exact ⟨0, Nat.zero_le _, rfl, rfl⟩
  case round =>
    obtain ⟨x, hx, rfl, rfl⟩ := hrel
    have hle := chgF_le y x
    by_cases hlt : x + 1 < P
    · have hand : bits .and .i64 (x : Int) (y : Int) = ((x &&& y : Nat) : Int) := i64_and x y (by omega) (by omega)
      have hand2 : bits .and .i64 ((x : Int) + 1) (y : Int) = (((x + 1) &&& y : Nat) : Int) := i64_and (x + 1) y (by omega) (by omega)
      have hz : x &&& y < 8192 := Nat.lt_of_le_of_lt Nat.and_le_left (by omega)
      have hz2 : (x + 1) &&& y < 8192 := Nat.lt_of_le_of_lt Nat.and_le_left (by omega)
      have hss : chgF y (x + 1) = chgF y x + if oddB (x &&& y) != oddB ((x + 1) &&& y) then 1 else 0 := rfl
      have HS := Lib.hid hss
      clear hss
      generalize x &&& y = z at hand hz HS
      generalize (x + 1) &&& y = z2 at hand2 hz2 HS
      cases hq : (oddB z != oddB z2)
      all_goals
        have HQ := Lib.hid hq
        have hq2 : (!oddB z == oddB z2) = (oddB z != oddB z2) := by cases oddB z <;> cases oddB z2 <;> rfl
        rw [hq] at hq2
        clear hq
        go_wp2_with fail
        refine (odd_any _ z hz).mono ?_
        rintro e w' ⟨rfl, rfl⟩
        go_wp2_with fail
        refine (odd_any _ z2 hz2).mono ?_
        rintro e w' ⟨rfl, rfl⟩
        go_wp2_with fail
        go_round
        case rel => exact ⟨x + 1, by omega, by go_num, by rw [HS.out, HQ.out]; simp⟩
        case measure => simp [intOf]; omega
    · obtain rfl : x = P - 1 := by omega
      go_wp2_with fail
      go_ret
      exact ⟨ret_int (by rw [HC.out]), rfl⟩
set_option maxHeartbeats 1600000 in
theorem sChangesIn_any (w : World) (k y : Nat) (hk : k < 5) (hy : y < p2 k) :
    Calls Try.prog 46 #[.int .i64 k, .int .i64 y] w fun e w' => e = .returned (.int .i64 (chgT k y)) ∧ w = w' := by
  have HC : Hid (chgT k y = chgF y (p2 k - 1)) := by rw [Hid, ← chg_eq k hk y hy]; rfl
  have hp := p2_pos k
  have hp16 : p2 k ≤ 16 := p2_le (show k ≤ 4 by omega)
  have HP : Hid (∀ w, Calls Try.prog 45 #[.int .i64 k] w fun e w' => e = .returned (.int .i64 (p2 k)) ∧ w = w') := fun w => power_any w k (by omega)
  have hr1 : within (k : Int) 0 4 = true := within_yes (by omega)
  have hr2 : within (y : Int) 0 ((p2 k : Int) - 1) = true := within_yes (by omega)
  generalize p2 k = P at hp hp16 HC hy HP hr2
  go_enter Try.func46, Try.ntmps46
  go_wp2_with fail
  refine (inRange_any _ _ _ _).mono ?_
  rw [hr1]
  rintro e w' ⟨rfl, rfl⟩
  go_wp2_with fail
  refine (HP.out _).mono ?_
  rintro e w' ⟨rfl, rfl⟩
  go_wp2_with fail
  refine (inRange_any _ _ _ _).mono ?_
  rw [hr2]
  rintro e w' ⟨rfl, rfl⟩
  clear hr1 hr2
  go_wp2_with fail
  go_loop [5, 6] (fun n u => ∃ x : Nat, x ≤ P - 1 ∧ u = .int .i64 ((x : Int) + 1) ∧ n = .int .i64 (chgF y x)) (fun _ u => P - (intOf u).toNat)
  case atStart => exact ⟨0, Nat.zero_le _, rfl, rfl⟩
  case round =>
    obtain ⟨x, hx, rfl, rfl⟩ := hrel
    have hle := chgF_le y x
    by_cases hlt : x + 1 < P
    · have hand : bits .and .i64 (x : Int) (y : Int) = ((x &&& y : Nat) : Int) := i64_and x y (by omega) (by omega)
      have hand2 : bits .and .i64 ((x : Int) + 1) (y : Int) = (((x + 1) &&& y : Nat) : Int) := i64_and (x + 1) y (by omega) (by omega)
      have hz : x &&& y < 8192 := Nat.lt_of_le_of_lt Nat.and_le_left (by omega)
      have hz2 : (x + 1) &&& y < 8192 := Nat.lt_of_le_of_lt Nat.and_le_left (by omega)
      have hss : chgF y (x + 1) = chgF y x + if oddB (x &&& y) != oddB ((x + 1) &&& y) then 1 else 0 := rfl
      have HS := Lib.hid hss
      clear hss
      generalize x &&& y = z at hand hz HS
      generalize (x + 1) &&& y = z2 at hand2 hz2 HS
      have hpe : (oddB z != oddB z2) = ((pop z2 : Int) % 2 != (pop z : Int) % 2) := by
        unfold oddB
        rw [Bool.eq_iff_iff]
        simp
        omega
      cases hq : (oddB z != oddB z2)
      all_goals
        have HQ := Lib.hid hq
        rw [hq] at hpe
        have hpe2 := hpe.symm
        clear hpe hq
        go_wp2_with fail
        refine (HP.out _).mono ?_
        rintro e w' ⟨rfl, rfl⟩
        go_wp2_with fail
        refine (sones_any _ z2 hz2).mono ?_
        rintro e w' ⟨rfl, rfl⟩
        go_wp2_with fail
        refine (sones_any _ z hz).mono ?_
        rintro e w' ⟨rfl, rfl⟩
        go_wp2_with fail
        go_round
        case rel => exact ⟨x + 1, by omega, by go_num, by rw [HS.out, HQ.out]; simp⟩
        case measure => simp [intOf]; omega
    · obtain rfl : x = P - 1 := by omega
      go_wp2_with fail
      refine (HP.out _).mono ?_
      rintro e w' ⟨rfl, rfl⟩
      go_wp2_with fail
      go_ret
      exact ⟨ret_int (by rw [HC.out]), rfl⟩
set_option maxHeartbeats 1600000 in
theorem OrderOf_all (w : World) (k : Int) :
    Calls Try.prog 20 #[.int .i64 k] w fun e w' => Fresh w w' e (ordR k).length (ordR k) := by
  by_cases h0 : 0 ≤ k ∧ k ≤ 4
  · have hR : ordR k = ordL k.toNat := by rw [ordR, if_pos h0]
    obtain ⟨t, rfl⟩ := Int.eq_ofNat_of_zero_le h0.1
    rw [hR, show ((t : Int)).toNat = t by omega]
    have ht : t < 5 := by omega
    clear hR h0
    have hp := p2_pos t
    have hp16 : p2 t ≤ 16 := p2_le (show t ≤ 4 by omega)
    have hsh := shl_p2 t ht
    have HCH : Hid (∀ w y, y < p2 t → Calls Try.prog 23 #[.int .i64 t, .int .i64 y] w fun e w' => e = .returned (.int .i64 (chgT t y)) ∧ w = w') := fun w y hy => ChangesIn_any w t y ht hy
    have HLT : Hid (∀ y, y < p2 t → chgT t y < p2 t) := chg_lt t ht
    have HLL : Hid (ordL t = ordF t (p2 t)) := rfl
    have HL : Hid ((ordL t).length = p2 t) := ordF_len _ _
    have HZ : Hid (tab (fun _ => 0) (p2 t) = ordF t 0) := rfl
    have HO : Hid (∀ y, (ordF t y).set (chgT t y) y = ordF t (y + 1)) := fun y => rfl
    generalize p2 t = P at hp hp16 hsh HCH HLT HLL HL HZ
    have hd1 : decide ((t : Int) < 0) = false := decide_eq_false (by omega)
    have hd2 : decide (4 < (t : Int)) = false := decide_eq_false (by omega)
    go_enter Try.func20, Try.ntmps20
    go_wp2_with (at_make; go_must (refine make_int w rfl _ _ rfl .i64 .i64 _ _ P rfl rfl hsh hsh (by omega) ?_); intro w0 hown0 hb0 hsz0)
    (try simp only [hsh])
    rw [HZ.out] at hown0
    go_loopw [16] (fun u wr => ∃ y : Nat, y ≤ P ∧ u = .int .i64 y ∧ Own wr w.heap.size (some ⟨w.heap.size, 0, none⟩) P P (ordF t y) ∧ Below w.heap.size w wr) (fun u _ => P - (intOf u).toNat)
    case atStart => exact ⟨0, Nat.zero_le _, rfl, hown0, hb0⟩
    case round =>
      obtain ⟨y, hy, rfl, hown, hbl⟩ := hrel
      clear hown0 hb0
      by_cases hlt : y < P
      · have hcl := HLT.out y hlt
        obtain ⟨g, hg, hBg, hgl, hcell, hfr⟩ := hown.at (chgT t y) hcl
        injection hg with hg; injection hg with hg; subst hg
        have hst := hown.store (chgT t y) y
        rw [HO.out] at hst
        go_wp2_with fail
        refine (HCH.out _ y hlt).mono ?_
        rintro e w' ⟨rfl, rfl⟩
        go_wp2_with fail
        go_roundw
        case rel => exact ⟨y + 1, by omega, by go_num, hst, hbl.setCell (p := ⟨w.heap.size, chgT t y, none⟩) hBg _⟩
        case measure => simp [intOf]; omega
      · obtain rfl : y = P := by omega
        go_wp2_with fail
        go_ret
        exact Fresh.mk' hown hbl HL.out.symm HLL.out.symm
  · rw [show ordR k = [] by rw [ordR, if_neg h0]]
    by_cases h1 : k < 0
    · clear h0
      go_enter Try.func20, Try.ntmps20
      go_wp2_with fail
      go_ret
      exact Fresh.mk (own_nil _ _) (Below.refl _ _)
    · have h2 : 4 < k := by omega
      clear h0
      go_enter Try.func20, Try.ntmps20
      go_wp2_with fail
      go_ret
      exact Fresh.mk (own_nil _ _) (Below.refl _ _)
set_option maxHeartbeats 1600000 in
theorem sOrderOf_all (w : World) (k : Int) :
    Calls Try.prog 19 #[.int .i64 k] w fun e w' => Fresh w w' e (ordR k).length (ordR k) := by
  by_cases h0 : 0 ≤ k ∧ k ≤ 4
  · have hR : ordR k = ordL k.toNat := by rw [ordR, if_pos h0]
    obtain ⟨t, rfl⟩ := Int.eq_ofNat_of_zero_le h0.1
    rw [hR, show ((t : Int)).toNat = t by omega]
    have ht : t < 5 := by omega
    have hr1 : within (t : Int) 0 4 = true := within_yes h0
    clear hR h0
    have hp := p2_pos t
    have hp16 : p2 t ≤ 16 := p2_le (show t ≤ 4 by omega)
    have HP : Hid (∀ w, Calls Try.prog 45 #[.int .i64 t] w fun e w' => e = .returned (.int .i64 (p2 t)) ∧ w = w') := fun w => power_any w t (by omega)
    have HCH : Hid (∀ w y, y < p2 t → Calls Try.prog 46 #[.int .i64 t, .int .i64 y] w fun e w' => e = .returned (.int .i64 (chgT t y)) ∧ w = w') := fun w y hy => sChangesIn_any w t y ht hy
    have HLT : Hid (∀ y, y < p2 t → chgT t y < p2 t) := chg_lt t ht
    have HLL : Hid (ordL t = ordF t (p2 t)) := rfl
    have HL : Hid ((ordL t).length = p2 t) := ordF_len _ _
    have HZ : Hid (tab (fun _ => 0) (p2 t) = ordF t 0) := rfl
    have HO : Hid (∀ y, (ordF t y).set (chgT t y) y = ordF t (y + 1)) := fun y => rfl
    generalize p2 t = P at hp hp16 HP HCH HLT HLL HL HZ
    go_enter Try.func19, Try.ntmps19
    go_wp2_with fail
    refine (inRange_any _ _ _ _).mono ?_
    rw [hr1]
    rintro e w' ⟨rfl, rfl⟩
    clear hr1
    go_wp2_with fail
    refine (HP.out _).mono ?_
    rintro e w' ⟨rfl, rfl⟩
    go_wp2_with (at_make; go_must (refine make_int w rfl _ _ rfl .i64 .i64 _ _ P rfl rfl rfl rfl (by omega) ?_); intro w0 hown0 hb0 hsz0)
    rw [HZ.out] at hown0
    go_loopw [4] (fun u wr => ∃ y : Nat, y ≤ P ∧ u = .int .i64 y ∧ Own wr w.heap.size (some ⟨w.heap.size, 0, none⟩) P P (ordF t y) ∧ Below w.heap.size w wr) (fun u _ => P - (intOf u).toNat)
    case atStart => exact ⟨0, Nat.zero_le _, rfl, hown0, hb0⟩
    case round =>
      obtain ⟨y, hy, rfl, hown, hbl⟩ := hrel
      clear hown0 hb0
      by_cases hlt : y < P
      · have hcl := HLT.out y hlt
        obtain ⟨g, hg, hBg, hgl, hcell, hfr⟩ := hown.at (chgT t y) hcl
        injection hg with hg; injection hg with hg; subst hg
        have hst := hown.store (chgT t y) y
        rw [HO.out] at hst
        go_wp2_with fail
        refine (HP.out _).mono ?_
        rintro e w' ⟨rfl, rfl⟩
        go_wp2_with fail
        refine (HCH.out _ y hlt).mono ?_
        rintro e w' ⟨rfl, rfl⟩
        go_wp2_with fail
        go_roundw
        case rel => exact ⟨y + 1, by omega, by go_num, hst, hbl.setCell (p := ⟨w.heap.size, chgT t y, none⟩) hBg _⟩
        case measure => simp [intOf]; omega
      · obtain rfl : y = P := by omega
        go_wp2_with fail
        refine (HP.out _).mono ?_
        rintro e w' ⟨rfl, rfl⟩
        go_wp2_with fail
        go_ret
        exact Fresh.mk' hown hbl HL.out.symm HLL.out.symm
  · rw [show ordR k = [] by rw [ordR, if_neg h0]]
    have hr1 : within k 0 4 = false := within_no h0
    clear h0
    go_enter Try.func19, Try.ntmps19
    go_wp2_with fail
    refine (inRange_any _ _ _ _).mono ?_
    rw [hr1]
    rintro e w' ⟨rfl, rfl⟩
    go_wp2_with fail
    go_ret
    exact Fresh.mk (own_nil _ _) (Below.refl _ _)
end Go.Proofs.Ytccddkgpcgnaoaa
