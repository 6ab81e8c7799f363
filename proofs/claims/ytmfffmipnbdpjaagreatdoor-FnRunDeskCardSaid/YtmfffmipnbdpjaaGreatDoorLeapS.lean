/-
  The reference's leap.
-/
import Derived.Test.YtmfffmipnbdpjaaGreatDoorUnleap
namespace Go.Proofs.YtmfffmipnbdpjaaGreatDoor
open Go.RowKit

set_option maxRecDepth 100000 in
set_option maxHeartbeats 1600000 in
theorem details_any (w : World) (a : Option Addr) (n c h : Nat) (xs : List Int) (hr : Row w a n c xs) (hnh : n = 2 * h) (hn : n ≤ 16) (hb : ∀ i, i < n → -1000 ≤ el xs i ∧ el xs i ≤ 1000) :
    Calls Tryz.prog 52 #[.slice a n c] w fun e w' => Fresh w w' e h (tab (dAt (el xs) h) h) := by
  have hbd := Lib.hid hb
  have HN := Lib.hid hnh
  have hnle : n ≤ 2 * h := by omega
  have hnge : 2 * h ≤ n := by omega
  clear hb hnh
  go_enter Tryz.func52, Tryz.ntmps52
  go_wp2_with fail
  go_loopw [3, 5] (fun v u wr => ∃ (k : Nat) (a1 : Option Addr) (c1 : Nat), k ≤ h ∧ u = .int .i64 (2 * (k : Int) + 1) ∧ v = .slice a1 k c1 ∧ Own wr w.heap.size a1 k c1 (tab (dAt (el xs) h) k) ∧ Below w.heap.size w wr ∧ w.heap.size + 1 ≤ wr.heap.size) (fun v _ _ => h - lenOf v)
  case atStart => exact ⟨0, _, 0, Nat.zero_le _, rfl, rfl, own_empty w, (Below.refl _ _).alloc (Nat.le_refl _) _, by simp⟩
  case round =>
    obtain ⟨k, a1, c1, hk, rfl, rfl, hown, hbl, hsz⟩ := hrel
    by_cases hlt : k < h
    · obtain ⟨b, off, rfl, hbb, hcell⟩ := hr.at (by omega)
      have HC : Hid (∀ w', Below w.heap.size w w' → ∀ j, j < n → w'.cell? ⟨b, off + j, none⟩ = some (.int .i64 (el xs j))) := hcell
      have hc0 := hcell wr hbl (2 * k) (by omega)
      have hc1 := hcell wr hbl (2 * k + 1) (by omega)
      clear hcell
      have he0 := hbd.out (2 * k) (by omega)
      have he1 := hbd.out (2 * k + 1) (by omega)
      by_cases hlt2 : k + 1 < h
      · have hc2 := HC.out wr hbl (2 * (k + 1)) (by omega)
        have he2 := hbd.out (2 * (k + 1)) (by omega)
        have hq : (2 * (k : Int) + 1 + 1).toNat = 2 * (k + 1) := by omega
        have hA : arr (fun j => el xs (2 * j)) h k = el xs (2 * k) + el xs (2 * (k + 1)) := by rw [arr]; first | rw [if_pos (by omega)] | (rw [if_neg (by omega)]; omega)
        have hD : dAt (el xs) h k = el xs (2 * k + 1) - (el xs (2 * k) + el xs (2 * (k + 1))) / 2 := by rw [dAt, hA]
        have HD := Lib.hid hD
        clear hA hD
        have i1 : (0 : Int) ≤ 2 * (k : Int) := by omega
        have i2 : 2 * (k : Int) < n := by omega
        have i3 : (2 * (k : Int)).toNat = 2 * k := by omega
        have i4 : (0 : Int) ≤ 2 * (k : Int) + 1 := by omega
        have i5 : 2 * (k : Int) + 1 < n := by omega
        have i6 : (2 * (k : Int) + 1).toNat = 2 * k + 1 := by omega
        have i7 : (0 : Int) ≤ 2 * (k : Int) + 1 - 1 := by omega
        have i8 : 2 * (k : Int) + 1 - 1 < n := by omega
        have i9 : (2 * (k : Int) + 1 - 1).toNat = 2 * k := by omega
        have j1 : IntKind.i64.wrap (2 * (k : Int) + 1 - 1) = 2 * (k : Int) := IntWalk.i64_in _ (by omega) |>.trans (by omega)
        have j4 : IntKind.i64.wrap (2 * (k : Int)) = 2 * (k : Int) := IntWalk.i64_in _ (by omega)
        have j2 : IntKind.i64.wrap (el xs (2 * k) + el xs (2 * (k + 1))) = el xs (2 * k) + el xs (2 * (k + 1)) := IntWalk.i64_in _ (by omega)
        have j3 : IntKind.i64.wrap (el xs (2 * k + 1) - (el xs (2 * k) + el xs (2 * (k + 1))) / 2) = el xs (2 * k + 1) - (el xs (2 * k) + el xs (2 * (k + 1))) / 2 := IntWalk.i64_in _ (by omega)
        go_wp2_with fail
        go_region_held3 (fun w' => w'.cell? ⟨b, off + 2 * k, none⟩ = some (.int .i64 (el xs (2 * k))) ∧ w'.cell? ⟨b, off + (2 * k + 1), none⟩ = some (.int .i64 (el xs (2 * k + 1)))) (first | go_keep | exact ⟨HC.out _ hblX _ (by omega), HC.out _ hblX _ (by omega)⟩)
          (first
            | (go_at_call 51; refine (floor2_any _ _ (by omega) (by omega)).mono ?_; rintro e w' ⟨rfl, rfl⟩)
            | (refine step_app_own _ (by rfl) _ _ (by rfl) w.heap.size _ _ _ _ (by rfl) (by exact (hown.alloc _).drew) _ 1 1 [el xs (2 * k + 1) - (el xs (2 * k) + el xs (2 * (k + 1))) / 2] (by rfl) (by exact (Own.row (own_lit wr wr.heap.size [el xs (2 * k + 1) - (el xs (2 * k) + el xs (2 * (k + 1))) / 2] rfl (by omega) (by simp)) (by simp)).drew) (by omega) (by simp; omega) ?_; intro aX cX wX hownX hgrX; have hblX := below_app (hbl.alloc (by omega) _).drew hgrX (hown.alloc _).drew (Nat.le_refl _) (by simp; omega)))
        clear j1 j2 j3 j4
        go_wp2_with fail
        rw [← HD.out] at hownX
        go_roundw
        case rel => exact ⟨k + 1, aX, cX, by omega, by go_num, rfl, hownX, hblX, by have := hgrX.size; simp at this; omega⟩
        case measure => simp [lenOf]; omega
      · have hA : arr (fun j => el xs (2 * j)) h k = el xs (2 * k) + el xs (2 * k) := by rw [arr]; first | rw [if_pos (by omega)] | (rw [if_neg (by omega)]; omega)
        have hD : dAt (el xs) h k = el xs (2 * k + 1) - (el xs (2 * k) + el xs (2 * k)) / 2 := by rw [dAt, hA]
        have HD := Lib.hid hD
        clear hA hD
        have i1 : (0 : Int) ≤ 2 * (k : Int) := by omega
        have i2 : 2 * (k : Int) < n := by omega
        have i3 : (2 * (k : Int)).toNat = 2 * k := by omega
        have i4 : (0 : Int) ≤ 2 * (k : Int) + 1 := by omega
        have i5 : 2 * (k : Int) + 1 < n := by omega
        have i6 : (2 * (k : Int) + 1).toNat = 2 * k + 1 := by omega
        have i7 : (0 : Int) ≤ 2 * (k : Int) + 1 - 1 := by omega
        have i8 : 2 * (k : Int) + 1 - 1 < n := by omega
        have i9 : (2 * (k : Int) + 1 - 1).toNat = 2 * k := by omega
        have j1 : IntKind.i64.wrap (2 * (k : Int) + 1 - 1) = 2 * (k : Int) := IntWalk.i64_in _ (by omega) |>.trans (by omega)
        have j4 : IntKind.i64.wrap (2 * (k : Int)) = 2 * (k : Int) := IntWalk.i64_in _ (by omega)
        have j2 : IntKind.i64.wrap (el xs (2 * k) + el xs (2 * k)) = el xs (2 * k) + el xs (2 * k) := IntWalk.i64_in _ (by omega)
        have j3 : IntKind.i64.wrap (el xs (2 * k + 1) - (el xs (2 * k) + el xs (2 * k)) / 2) = el xs (2 * k + 1) - (el xs (2 * k) + el xs (2 * k)) / 2 := IntWalk.i64_in _ (by omega)
        go_wp2_with fail
        go_region_held3 (fun w' => w'.cell? ⟨b, off + 2 * k, none⟩ = some (.int .i64 (el xs (2 * k))) ∧ w'.cell? ⟨b, off + (2 * k + 1), none⟩ = some (.int .i64 (el xs (2 * k + 1)))) (first | go_keep | exact ⟨HC.out _ hblX _ (by omega), HC.out _ hblX _ (by omega)⟩)
          (first
            | (go_at_call 51; refine (floor2_any _ _ (by omega) (by omega)).mono ?_; rintro e w' ⟨rfl, rfl⟩)
            | (refine step_app_own _ (by rfl) _ _ (by rfl) w.heap.size _ _ _ _ (by rfl) (by exact (hown.alloc _).drew) _ 1 1 [el xs (2 * k + 1) - (el xs (2 * k) + el xs (2 * k)) / 2] (by rfl) (by exact (Own.row (own_lit wr wr.heap.size [el xs (2 * k + 1) - (el xs (2 * k) + el xs (2 * k)) / 2] rfl (by omega) (by simp)) (by simp)).drew) (by omega) (by simp; omega) ?_; intro aX cX wX hownX hgrX; have hblX := below_app (hbl.alloc (by omega) _).drew hgrX (hown.alloc _).drew (Nat.le_refl _) (by simp; omega)))
        clear j1 j2 j3 j4
        go_wp2_with fail
        rw [← HD.out] at hownX
        go_roundw
        case rel => exact ⟨k + 1, aX, cX, by omega, by go_num, rfl, hownX, hblX, by have := hgrX.size; simp at this; omega⟩
        case measure => simp [lenOf]; omega
    · obtain rfl : k = h := by omega
      go_wp2_with fail
      go_ret
      exact Fresh.mk hown hbl
set_option maxRecDepth 100000 in
set_option maxHeartbeats 1600000 in
theorem leap_any (w : World) (a : Option Addr) (n c h : Nat) (xs : List Int) (hr : Row w a n c xs) (hnh : n = 2 * h) (hn : n ≤ 16) (hb : ∀ i, i < n → -1000 ≤ el xs i ∧ el xs i ≤ 1000) :
    Calls Tryz.prog 31 #[.slice a n c] w fun e w' => Fresh w w' e n (leapL xs h) := by
  have hbd := Lib.hid hb
  have HN := Lib.hid hnh
  have hnle : n ≤ 2 * h := by omega
  have hnge : 2 * h ≤ n := by omega
  clear hb hnh
  go_enter Tryz.func31, Tryz.ntmps31
  go_wp2_with fail
  refine (details_any w a n c h xs hr HN.out hn hbd.out).mono ?_
  rintro e w1 ⟨ad, cd, rfl, ownd, hb1⟩
  have hrd := ownd.row (by omega)
  go_wp2_with fail
  go_loopw [4, 5] (fun v u wr => ∃ (k : Nat) (a1 : Option Addr) (c1 : Nat), k ≤ h ∧ u = .int .i64 k ∧ v = .slice a1 k c1 ∧ Own wr w1.heap.size a1 k c1 (tab (sAt (el xs) h) k) ∧ Below w1.heap.size w1 wr ∧ w1.heap.size + 1 ≤ wr.heap.size) (fun v _ _ => h - lenOf v)
  case atStart => exact ⟨0, _, 0, Nat.zero_le _, rfl, rfl, own_empty w1, (Below.refl _ _).alloc (Nat.le_refl _) _, by simp⟩
  case round =>
    obtain ⟨k, a1, c1, hk, rfl, rfl, hown, hbl, hsz⟩ := hrel
    by_cases hlt : k < h
    · obtain ⟨b, off, rfl, hbb, hcell⟩ := hr.at (by omega)
      have HC : Hid (∀ w', Below w.heap.size w w' → ∀ j, j < n → w'.cell? ⟨b, off + j, none⟩ = some (.int .i64 (el xs j))) := hcell
      clear hcell
      obtain ⟨bd, offd, rfl, hbbd, hcelld⟩ := hrd.at (by omega)
      have HCD : Hid (∀ w', Below w1.heap.size w1 w' → ∀ j, j < h → w'.cell? ⟨bd, offd + j, none⟩ = some (.int .i64 (dAt (el xs) h j))) := fun w' hb j hj => by rw [hcelld w' hb j hj, el_tab hj]
      clear hcelld
      have hc0 := HC.out wr (hb1.trans (hbl.mono hb1.size)) (2 * k) (by omega)
      have hd0 := HCD.out wr hbl k hlt
      have he0 := hbd.out (2 * k) (by omega)
      have he1 := dAt_bd (f := el xs) (h := h) (fun t ht => hbd.out t (by omega)) hlt
      by_cases hk0 : 0 < k
      · have hd1 := HCD.out wr hbl (k - 1) (by omega)
        have he2 := dAt_bd (f := el xs) (h := h) (i := k - 1) (fun t ht => hbd.out t (by omega)) (by omega)
        have hq : ((k : Int) - 1).toNat = k - 1 := by omega
        have hB : bef (dAt (el xs) h) k = dAt (el xs) h (k - 1) + dAt (el xs) h k := by rw [bef]; first | (rw [if_pos (by omega)]; omega) | (rw [if_neg (by omega)]; omega)
        have hD : sAt (el xs) h k = el xs (2 * k) + (dAt (el xs) h (k - 1) + dAt (el xs) h k + 2) / 4 := by rw [sAt, hB]
        have HD := Lib.hid hD
        clear hB hD
        have i1 : (0 : Int) ≤ 2 * (k : Int) := by omega
        have i2 : 2 * (k : Int) < n := by omega
        have i3 : (2 * (k : Int)).toNat = 2 * k := by omega
        have i4 : (0 : Int) ≤ (k : Int) := by omega
        have i5 : (k : Int) < h := by omega
        have j1 : IntKind.i64.wrap (2 * (k : Int)) = 2 * (k : Int) := IntWalk.i64_in _ (by omega)
        have j2 : IntKind.i64.wrap (dAt (el xs) h (k - 1) + dAt (el xs) h k) = dAt (el xs) h (k - 1) + dAt (el xs) h k := IntWalk.i64_in _ (by omega)
        have j4 : IntKind.i64.wrap (dAt (el xs) h (k - 1) + dAt (el xs) h k + 2) = dAt (el xs) h (k - 1) + dAt (el xs) h k + 2 := IntWalk.i64_in _ (by omega)
        have j3 : IntKind.i64.wrap (el xs (2 * k) + (dAt (el xs) h (k - 1) + dAt (el xs) h k + 2) / 4) = el xs (2 * k) + (dAt (el xs) h (k - 1) + dAt (el xs) h k + 2) / 4 := IntWalk.i64_in _ (by omega)
        go_wp2_with fail
        go_region_held3 (fun w' => w'.cell? ⟨b, off + 2 * k, none⟩ = some (.int .i64 (el xs (2 * k))) ∧ w'.cell? ⟨bd, offd + k, none⟩ = some (.int .i64 (dAt (el xs) h k))) (first | go_keep | exact ⟨HC.out _ (hb1.trans (hblX.mono hb1.size)) _ (by omega), HCD.out _ hblX _ (by omega)⟩)
          (first
            | (go_at_call 51; refine (floor4_any _ _ (by omega) (by omega)).mono ?_; rintro e w' ⟨rfl, rfl⟩)
            | (refine step_app_own _ (by rfl) _ _ (by rfl) w1.heap.size _ _ _ _ (by rfl) (by exact (hown.alloc _).drew) _ 1 1 [el xs (2 * k) + (dAt (el xs) h (k - 1) + dAt (el xs) h k + 2) / 4] (by rfl) (by exact (Own.row (own_lit wr wr.heap.size [el xs (2 * k) + (dAt (el xs) h (k - 1) + dAt (el xs) h k + 2) / 4] rfl (by omega) (by simp)) (by simp)).drew) (by omega) (by simp; omega) ?_; intro aX cX wX hownX hgrX; have hblX := below_app (hbl.alloc (by omega) _).drew hgrX (hown.alloc _).drew (Nat.le_refl _) (by simp; omega)))
        clear j1 j2 j3 j4
        go_wp2_with fail
        rw [← HD.out] at hownX
        go_roundw
        case rel => exact ⟨k + 1, aX, cX, by omega, by go_num, rfl, hownX, hblX, by have := hgrX.size; simp at this; omega⟩
        case measure => simp [lenOf]; omega
      · have hB : bef (dAt (el xs) h) k = dAt (el xs) h k + dAt (el xs) h k := by rw [bef]; first | (rw [if_pos (by omega)]; omega) | (rw [if_neg (by omega)]; omega)
        have hD : sAt (el xs) h k = el xs (2 * k) + (dAt (el xs) h k + dAt (el xs) h k + 2) / 4 := by rw [sAt, hB]
        have HD := Lib.hid hD
        clear hB hD
        have i1 : (0 : Int) ≤ 2 * (k : Int) := by omega
        have i2 : 2 * (k : Int) < n := by omega
        have i3 : (2 * (k : Int)).toNat = 2 * k := by omega
        have i4 : (0 : Int) ≤ (k : Int) := by omega
        have i5 : (k : Int) < h := by omega
        have j1 : IntKind.i64.wrap (2 * (k : Int)) = 2 * (k : Int) := IntWalk.i64_in _ (by omega)
        have j2 : IntKind.i64.wrap (dAt (el xs) h k + dAt (el xs) h k) = dAt (el xs) h k + dAt (el xs) h k := IntWalk.i64_in _ (by omega)
        have j4 : IntKind.i64.wrap (dAt (el xs) h k + dAt (el xs) h k + 2) = dAt (el xs) h k + dAt (el xs) h k + 2 := IntWalk.i64_in _ (by omega)
        have j3 : IntKind.i64.wrap (el xs (2 * k) + (dAt (el xs) h k + dAt (el xs) h k + 2) / 4) = el xs (2 * k) + (dAt (el xs) h k + dAt (el xs) h k + 2) / 4 := IntWalk.i64_in _ (by omega)
        go_wp2_with fail
        go_region_held3 (fun w' => w'.cell? ⟨b, off + 2 * k, none⟩ = some (.int .i64 (el xs (2 * k))) ∧ w'.cell? ⟨bd, offd + k, none⟩ = some (.int .i64 (dAt (el xs) h k))) (first | go_keep | exact ⟨HC.out _ (hb1.trans (hblX.mono hb1.size)) _ (by omega), HCD.out _ hblX _ (by omega)⟩)
          (first
            | (go_at_call 51; refine (floor4_any _ _ (by omega) (by omega)).mono ?_; rintro e w' ⟨rfl, rfl⟩)
            | (refine step_app_own _ (by rfl) _ _ (by rfl) w1.heap.size _ _ _ _ (by rfl) (by exact (hown.alloc _).drew) _ 1 1 [el xs (2 * k) + (dAt (el xs) h k + dAt (el xs) h k + 2) / 4] (by rfl) (by exact (Own.row (own_lit wr wr.heap.size [el xs (2 * k) + (dAt (el xs) h k + dAt (el xs) h k + 2) / 4] rfl (by omega) (by simp)) (by simp)).drew) (by omega) (by simp; omega) ?_; intro aX cX wX hownX hgrX; have hblX := below_app (hbl.alloc (by omega) _).drew hgrX (hown.alloc _).drew (Nat.le_refl _) (by simp; omega)))
        clear j1 j2 j3 j4
        go_wp2_with fail
        rw [← HD.out] at hownX
        go_roundw
        case rel => exact ⟨k + 1, aX, cX, by omega, by go_num, rfl, hownX, hblX, by have := hgrX.size; simp at this; omega⟩
        case measure => simp [lenOf]; omega
    · obtain rfl : k = h := by omega
      have hsrc := hrd.below hbl
      go_wp2_with (at_builtin; go_must (refine wpList_app_own wr rfl _ _ rfl w1.heap.size _ _ _ _ rfl hown _ _ _ _ rfl hsrc (by omega) (by omega) ?_); intro aX cX wX hownX hgrX)
      go_ret
      exact Fresh.mk' (hownX.mono hb1.size) (hb1.trans ((below_app hbl hgrX hown (Nat.le_refl _) (by omega)).mono hb1.size)) (by omega) rfl
end Go.Proofs.YtmfffmipnbdpjaaGreatDoor
