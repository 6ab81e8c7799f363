/-
  The reference's halve and unhalve.
-/
import Derived.Test.YtmfffmipnbdpjaaGreatDoorUnhalve
import Derived.Test.YtmfffmipnbdpjaaGreatDoorTwo
import Derived.Deep.RegionHeld3
namespace Go.Proofs.YtmfffmipnbdpjaaGreatDoor
open Go.RowKit

theorem halveL_join (xs : List Int) (h : Nat) : tab (fun i => hvAt (el xs) h i) h ++ tab (fun i => hvAt (el xs) h (h + i)) h = halveL xs h := by
  apply el_ext
  · simp [halveL, tab_length]; omega
  · intro i hi
    have hi' : i < 2 * h := by simp [tab_length] at hi; omega
    rw [halveL, el_tab hi']
    by_cases hlt : i < h
    · rw [el_append_left (by rw [tab_length]; exact hlt), el_tab hlt]
    · obtain ⟨j, rfl⟩ : ∃ j, i = h + j := ⟨i - h, by omega⟩
      unfold el
      rw [List.getD_eq_getElem?_getD, List.getElem?_append_right (by rw [tab_length]; omega), tab_length, show h + j - h = j by omega]
      have := el_tab (f := fun i => hvAt (el xs) h (h + i)) (n := h) (i := j) (by omega)
      unfold el at this
      rw [List.getD_eq_getElem?_getD] at this
      exact this

set_option maxRecDepth 100000 in
set_option maxHeartbeats 1600000 in
theorem shalve_any (w : World) (a : Option Addr) (n c h : Nat) (xs : List Int) (hr : Row w a n c xs) (hnh : n = 2 * h) (hn : n ≤ 1000) (hb : ∀ i, i < n → -1000000000 ≤ el xs i ∧ el xs i ≤ 1000000000) :
    Calls Tryz.prog 30 #[.slice a n c] w fun e w' => Fresh w w' e n (halveL xs h) := by
  have hbd := Lib.hid hb
  have hN := Lib.hid hnh
  have hnle : n ≤ 2 * h := by omega
  have hnge : 2 * h ≤ n := by omega
  clear hb hnh
  go_enter Tryz.func30, Tryz.ntmps30
  go_wp2_with fail
  go_loopw [3, 4, 5] (fun v1 v2 u wr => ∃ (k : Nat) (a1 a2 : Option Addr) (c1 c2 : Nat), k ≤ h ∧ u = .int .i64 (2 * (k : Int)) ∧ v1 = .slice a1 k c1 ∧ v2 = .slice a2 k c2 ∧ Own wr w.heap.size a1 k c1 (tab (fun i => hvAt (el xs) h i) k) ∧ Own wr w.heap.size a2 k c2 (tab (fun i => hvAt (el xs) h (h + i)) k) ∧ Apart a1 a2 ∧ Below w.heap.size w wr ∧ w.heap.size + 1 ≤ wr.heap.size) (fun v1 _ _ _ => h - lenOf v1)
  case atStart =>
    refine ⟨0, _, _, 0, 0, Nat.zero_le _, rfl, rfl, rfl, (own_empty w).alloc _, ?_, ?_, ((Below.refl _ _).alloc (Nat.le_refl _) _).alloc (by simp) _, by simp⟩
    · have h2 := own_empty (w.alloc (.cells #[] 3))
      rw [show (w.alloc (.cells #[] 3)).heap.size = w.heap.size + 1 by simp] at h2
      exact Own.mono (B' := w.heap.size) h2 (by omega)
    · intro p q hp hq; injection hp with hp; injection hq with hq; subst hp; subst hq; simp
  case round =>
    obtain ⟨k, a1, a2, c1, c2, hk, rfl, rfl, rfl, hown, hown2, hap, hbl, hsz⟩ := hrel
    by_cases hlt : k < h
    · obtain ⟨b, off, rfl, hbb, hcell⟩ := hr.at (by omega)
      have HC : Hid (∀ w', Below w.heap.size w w' → ∀ j, j < n → w'.cell? ⟨b, off + j, none⟩ = some (.int .i64 (el xs j))) := hcell
      have hc1 := hcell wr hbl (2 * k) (by omega)
      have hc2 := hcell wr hbl (2 * k + 1) (by omega)
      clear hcell
      have he1 := hbd.out (2 * k) (by omega)
      have he2 := hbd.out (2 * k + 1) (by omega)
      have hd1 : -2000000001 ≤ (el xs (2 * k + 1) - el xs (2 * k)) / 2 ∧ (el xs (2 * k + 1) - el xs (2 * k)) / 2 ≤ 2000000001 := by omega
      have hv1 : hvAt (el xs) h k = el xs (2 * k) + (el xs (2 * k + 1) - el xs (2 * k)) / 2 := by rw [hvAt, if_pos hlt]
      have hv2 : hvAt (el xs) h (h + k) = el xs (2 * k + 1) - el xs (2 * k) := by rw [hvAt, if_neg (by omega), show h + k - h = k by omega]
      have HV1 := Lib.hid hv1
      have HV2 := Lib.hid hv2
      clear hv1 hv2
      have i1 : (0 : Int) ≤ 2 * (k : Int) := by omega
      have i2 : 2 * (k : Int) < n := by omega
      have i3 : (0 : Int) ≤ 2 * (k : Int) + 1 := by omega
      have i4 : 2 * (k : Int) + 1 < n := by omega
      have i5 : (2 * (k : Int)).toNat = 2 * k := by omega
      have i6 : (2 * (k : Int) + 1).toNat = 2 * k + 1 := by omega
      have j2 : IntKind.i64.wrap (2 * (k : Int) + 1) = 2 * (k : Int) + 1 := IntWalk.i64_in _ (by omega)
      have j3 : IntKind.i64.wrap (el xs (2 * k + 1) - el xs (2 * k)) = el xs (2 * k + 1) - el xs (2 * k) := IntWalk.i64_in _ (by omega)
      go_wp2_with fail
      go_quiet (fail)
      have hblq := bdrewN hbl nq
      have hownq : Own (wr.drewN nq) w.heap.size a1 k c1 (tab (fun i => hvAt (el xs) h i) k) := hown
      have hownq2 : Own (wr.drewN nq) w.heap.size a2 k c2 (tab (fun i => hvAt (el xs) h (h + i)) k) := hown2
      have hszq : w.heap.size + 1 ≤ (wr.drewN nq).heap.size := hsz
      generalize hwq : wr.drewN nq = wq at hblq hownq hownq2 hszq ⊢
      go_wp2_with fail
      clear hwq hown hown2 hbl hc1 hc2 hsz
      have hc1 := HC.out wq hblq (2 * k) (by omega)
      have j4 : IntKind.i64.wrap (el xs (2 * k) + (el xs (2 * k + 1) - el xs (2 * k)) / 2) = el xs (2 * k) + (el xs (2 * k + 1) - el xs (2 * k)) / 2 := IntWalk.i64_in _ (by omega)
      go_region_held3 (fun w' => w'.cell? ⟨b, off + 2 * k, none⟩ = some (.int .i64 (el xs (2 * k)))) (first | go_keep | exact HC.out _ hblX _ (by omega))
        (first
          | (go_at_call 51; refine (floor2_any _ _ (by omega) (by omega)).mono ?_; rintro e w' ⟨rfl, rfl⟩)
          | (refine step_app_two _ (by rfl) _ _ (by rfl) w.heap.size _ _ _ _ (by rfl) (by exact (hownq.alloc _).drew) _ _ _ _ (by exact (hownq2.alloc _).drew) hap _ 1 1 [el xs (2 * k) + (el xs (2 * k + 1) - el xs (2 * k)) / 2] (by rfl) (by exact (Own.row (own_lit wq wq.heap.size [el xs (2 * k) + (el xs (2 * k + 1) - el xs (2 * k)) / 2] rfl (by omega) (by simp)) (by simp)).drew) (by omega) (by omega) (by simp; omega) ?_; intro aX cX wX hownX hownY hapX hgrX; have hblX := below_app (hblq.alloc (by omega) _).drew hgrX (hownq.alloc _).drew (Nat.le_refl _) (by simp; omega)))
      clear j2 j3 j4
      have hszX : w.heap.size + 1 ≤ wX.heap.size := by have := hgrX.size; simp at this; omega
      go_wp2_with (at_builtin; go_must (refine app_int_two wX rfl _ _ rfl w.heap.size _ _ _ _ _ rfl hownY _ _ _ _ hownX hapX.symm rfl (by omega) (by omega) ?_); intro aZ cZ wZ hownZ hownV hapZ hgrZ hszZ)
      have hblZ := below_app hblX hgrZ hownY (Nat.le_refl _) (by omega)
      go_roundw
      case rel =>
        rw [← HV1.out] at hownV
        rw [← HV2.out] at hownZ
        exact ⟨k + 1, _, _, _, _, by omega, by go_num, rfl, rfl, hownV, hownZ, hapZ.symm, hblZ, by omega⟩
      case measure => simp [lenOf]; omega
    · obtain rfl : k = h := by omega
      have hsrc := hown2.row (by omega)
      go_wp2_with (at_builtin; go_must (refine wpList_app_own wr rfl _ _ rfl w.heap.size _ _ _ _ rfl hown _ _ _ _ rfl hsrc (by omega) (by omega) ?_); intro aX cX wX hownX hgrX)
      go_ret
      rw [halveL_join] at hownX
      exact Fresh.mk' hownX (below_app hbl hgrX hown (Nat.le_refl _) (by omega)) (by omega) rfl
end Go.Proofs.YtmfffmipnbdpjaaGreatDoor
