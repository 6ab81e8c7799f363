/-
  Numbers divided by 2 or 4, rounded down: the program's way and the reference's.
-/
import Derived.Test.YtmfffmipnbdpjaaGreatDoorEq
namespace Go.Proofs.YtmfffmipnbdpjaaGreatDoor
open Go.RowKit

theorem tmod_neg (n d : Int) (h : n < 0) : n.tmod d = -((-n) % d) := by
  have : (-(-n)).tmod d = -((-n).tmod d) := Int.neg_tmod _ _
  rw [Int.neg_neg] at this
  rw [this, Int.tmod_eq_emod_of_nonneg (by omega)]
theorem tdiv_neg' (n d : Int) (h : n < 0) : n.tdiv d = -((-n) / d) := by
  have : (-(-n)).tdiv d = -((-n).tdiv d) := Int.neg_tdiv _ _
  rw [Int.neg_neg] at this
  rw [this, Int.tdiv_eq_ediv_of_nonneg (by omega)]

set_option maxHeartbeats 400000 in
theorem down2_any (w : World) (n : Int) (h1 : -1000000000000 ≤ n) (h2 : n ≤ 1000000000000) :
    Calls Tryz.prog 63 #[.int .i64 n, .int .i64 2] w fun e w' => e = .returned (.int .i64 (n / 2)) ∧ w = w' := by
  by_cases h0 : 0 ≤ n
  · have hr : ¬ n % 2 < 0 := by omega
    have hq : 0 ≤ n - n % 2 := by omega
    go_enter Tryz.func63, Tryz.ntmps63
    go_wp2
    go_ret
    exact ⟨ret_int (by omega), rfl⟩
  · have ht := tmod_neg n 2 (by omega)
    have hb : -(2) < n.tmod 2 ∧ n.tmod 2 ≤ 0 := by rw [ht]; omega
    by_cases hz : n % 2 = 0
    · have e0 : n.tmod 2 = 0 := by rw [ht]; omega
      have hq := tdiv_neg' n 2 (by omega)
      have hres : n.tdiv 2 = n / 2 := by rw [hq]; omega
      have HR : Hid (n.tdiv 2 = n / 2) := hres
      clear ht hz hq hres hb
      go_enter Tryz.func63, Tryz.ntmps63
      go_wp2
      go_ret
      exact ⟨ret_int (by simpa using HR.out), rfl⟩
    · have hneg : n.tmod 2 < 0 := by rw [ht]; omega
      have hn0 : n - (n.tmod 2 + 2) < 0 := by omega
      have hq := tdiv_neg' (n - (n.tmod 2 + 2)) 2 hn0
      have hres : (n - (n.tmod 2 + 2)).tdiv 2 = n / 2 := by rw [hq, ht]; omega
      have HR : Hid ((n - (n.tmod 2 + 2)).tdiv 2 = n / 2) := hres
      clear ht hz hq hres
      go_enter Tryz.func63, Tryz.ntmps63
      go_wp2
      go_ret
      exact ⟨ret_int HR.out, rfl⟩
set_option maxHeartbeats 400000 in
theorem down4_any (w : World) (n : Int) (h1 : -1000000000000 ≤ n) (h2 : n ≤ 1000000000000) :
    Calls Tryz.prog 63 #[.int .i64 n, .int .i64 4] w fun e w' => e = .returned (.int .i64 (n / 4)) ∧ w = w' := by
  by_cases h0 : 0 ≤ n
  · have hr : ¬ n % 4 < 0 := by omega
    have hq : 0 ≤ n - n % 4 := by omega
    go_enter Tryz.func63, Tryz.ntmps63
    go_wp2
    go_ret
    exact ⟨ret_int (by omega), rfl⟩
  · have ht := tmod_neg n 4 (by omega)
    have hb : -(4) < n.tmod 4 ∧ n.tmod 4 ≤ 0 := by rw [ht]; omega
    by_cases hz : n % 4 = 0
    · have e0 : n.tmod 4 = 0 := by rw [ht]; omega
      have hq := tdiv_neg' n 4 (by omega)
      have hres : n.tdiv 4 = n / 4 := by rw [hq]; omega
      have HR : Hid (n.tdiv 4 = n / 4) := hres
      clear ht hz hq hres hb
      go_enter Tryz.func63, Tryz.ntmps63
      go_wp2
      go_ret
      exact ⟨ret_int (by simpa using HR.out), rfl⟩
    · have hneg : n.tmod 4 < 0 := by rw [ht]; omega
      have hn0 : n - (n.tmod 4 + 4) < 0 := by omega
      have hq := tdiv_neg' (n - (n.tmod 4 + 4)) 4 hn0
      have hres : (n - (n.tmod 4 + 4)).tdiv 4 = n / 4 := by rw [hq, ht]; omega
      have HR : Hid ((n - (n.tmod 4 + 4)).tdiv 4 = n / 4) := hres
      clear ht hz hq hres
      go_enter Tryz.func63, Tryz.ntmps63
      go_wp2
      go_ret
      exact ⟨ret_int HR.out, rfl⟩
set_option maxHeartbeats 400000 in
theorem floor2_any (w : World) (n : Int) (h1 : -1000000000000 ≤ n) (h2 : n ≤ 1000000000000) :
    Calls Tryz.prog 51 #[.int .i64 n, .int .i64 2] w fun e w' => e = .returned (.int .i64 (n / 2)) ∧ w = w' := by
  by_cases h0 : 0 ≤ n
  · have h0' : ¬ n < 0 := by omega
    go_enter Tryz.func51, Tryz.ntmps51
    go_wp2
    go_ret
    exact ⟨rfl, rfl⟩
  · have h0' : n < 0 := by omega
    go_enter Tryz.func51, Tryz.ntmps51
    go_wp2
    go_ret
    exact ⟨ret_int (by omega), rfl⟩
set_option maxHeartbeats 400000 in
theorem floor4_any (w : World) (n : Int) (h1 : -1000000000000 ≤ n) (h2 : n ≤ 1000000000000) :
    Calls Tryz.prog 51 #[.int .i64 n, .int .i64 4] w fun e w' => e = .returned (.int .i64 (n / 4)) ∧ w = w' := by
  by_cases h0 : 0 ≤ n
  · have h0' : ¬ n < 0 := by omega
    go_enter Tryz.func51, Tryz.ntmps51
    go_wp2
    go_ret
    exact ⟨rfl, rfl⟩
  · have h0' : n < 0 := by omega
    go_enter Tryz.func51, Tryz.ntmps51
    go_wp2
    go_ret
    exact ⟨ret_int (by omega), rfl⟩
end Go.Proofs.YtmfffmipnbdpjaaGreatDoor
