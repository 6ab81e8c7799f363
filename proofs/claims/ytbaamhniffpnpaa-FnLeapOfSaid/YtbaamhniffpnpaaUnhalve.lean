/-
  Rows put together of means and differences: the program's unhalve.
-/
import Derived.Test.YtbaamhniffpnpaaHalve
import Derived.Lib.Hide
namespace Go.Proofs.Ytbaamhniffpnpaa
open Go.RowKit

def uhMid (f : Nat → Int) (h k i : Nat) : Int := if i < 2 * k then uhAt f h i else 0
theorem uhMid_zero (f : Nat → Int) (h n : Nat) : tab (fun _ => 0) n = tab (uhMid f h 0) n := tab_congr fun i _ => by rw [uhMid, if_neg (by omega)]
theorem uhMid_set (f : Nat → Int) {h k : Nat} (hk : k < h) : ((tab (uhMid f h k) (2 * h)).set (2 * k) (uhAt f h (2 * k))).set (2 * k + 1) (uhAt f h (2 * k + 1)) = tab (uhMid f h (k + 1)) (2 * h) := by
  rw [set_tab' (by omega), set_tab' (by omega)]
  apply tab_congr
  intro i hi
  by_cases e1 : i = 2 * k + 1
  · subst e1; rw [if_pos rfl, uhMid, if_pos (by omega)]
  · rw [if_neg e1]
    by_cases e2 : i = 2 * k
    · subst e2; rw [if_pos rfl, uhMid, if_pos (by omega)]
    · rw [if_neg e2, uhMid, uhMid]
      by_cases c : i < 2 * k
      · rw [if_pos c, if_pos (by omega)]
      · rw [if_neg c, if_neg (by omega)]
theorem uhMid_end (f : Nat → Int) (h : Nat) : tab (uhMid f h h) (2 * h) = tab (uhAt f h) (2 * h) := tab_congr fun i hi => by rw [uhMid, if_pos hi]

set_option maxHeartbeats 1600000 in
theorem unhalve_any (w : World) (a : Option Addr) (n c h : Nat) (xs : List Int) (hr : Row w a n c xs) (hnh : n = 2 * h) (hn : n ≤ 1000) (hb : ∀ i, i < n → -1000000000 ≤ el xs i ∧ el xs i ≤ 1000000000) :
    Calls Try.prog 46 #[.slice a n c] w fun e w' => Fresh w w' e n (unhalveL xs h) := by
  have hbd : Hid (∀ i, i < n → -1000000000 ≤ el xs i ∧ el xs i ≤ 1000000000) := hb
  have hN : Hid (n = 2 * h) := hnh
  have hnle : n ≤ 2 * h := by omega
  have hnge : 2 * h ≤ n := by omega
  have hhalf : (n : Int) / 2 = h := by omega
  clear hb hnh
  go_enter Try.func46, Try.ntmps46
  go_wp2_with (at_make; go_must (refine make_int w rfl _ _ rfl .i64 .i64 _ _ n rfl rfl rfl rfl (by omega) ?_); intro w0 hown0 hb0 hsz0)
  rw [uhMid_zero (el xs) h n] at hown0
  go_loopw [13] (fun u wr => ∃ k : Nat, k ≤ h ∧ u = .int .i64 k ∧ Own wr w.heap.size (some ⟨w.heap.size, 0, none⟩) n n (tab (uhMid (el xs) h k) n) ∧ Below w.heap.size w wr) (fun u _ => h - (intOf u).toNat)
  case atStart => exact ⟨0, Nat.zero_le _, rfl, hown0, hb0⟩
  case round =>
    obtain ⟨k, hk, rfl, hown, hbl⟩ := hrel
    clear hown0 hb0
    by_cases hlt : k < h
    · obtain ⟨b, off, rfl, hbb, hcell⟩ := hr.at (by omega)
      have HC : Hid (∀ w', Below w.heap.size w w' → ∀ j, j < n → w'.cell? ⟨b, off + j, none⟩ = some (.int .i64 (el xs j))) := hcell
      have hc1 := hcell wr hbl k (by omega)
      have hc2 := hcell wr hbl (h + k) (by omega)
      clear hcell
      have he1 := hbd.out k (by omega)
      have he2 := hbd.out (h + k) (by omega)
      have hdv1 : -1000000001 ≤ el xs (h + k) / 2 ∧ el xs (h + k) / 2 ≤ 1000000001 := by omega
      have i1 : (0 : Int) ≤ 2 * (k : Int) := by omega
      have i2 : 2 * (k : Int) < n := by omega
      have i3 : (0 : Int) ≤ 2 * (k : Int) + 1 := by omega
      have i4 : 2 * (k : Int) + 1 < n := by omega
      have i5 : (2 * (k : Int)).toNat = 2 * k := by omega
      have i6 : (2 * (k : Int) + 1).toNat = 2 * k + 1 := by omega
      have i7 : (0 : Int) ≤ (k : Int) := by omega
      have i8 : (k : Int) < n := by omega
      have i9 : (0 : Int) ≤ (h : Int) + k := by omega
      have i10 : (h : Int) + k < n := by omega
      have i11 : ((h : Int) + k).toNat = h + k := by omega
      obtain ⟨g, hg, hBg, hgl, hcell, hfr⟩ := hown.at (2 * k) (by omega)
      injection hg with hg; injection hg with hg; subst hg
      have hv1 : uhAt (el xs) h (2 * k) = el xs k - el xs (h + k) / 2 := by rw [uhAt, if_pos (by omega), show 2 * k / 2 = k by omega]
      have hv2 : uhAt (el xs) h (2 * k + 1) = el xs k - el xs (h + k) / 2 + el xs (h + k) := by rw [uhAt, if_neg (by omega), show (2 * k + 1) / 2 = k by omega]
      have hset := uhMid_set (el xs) (h := h) (k := k) hlt
      rw [← hN.out, hv1, hv2] at hset
      have HSET := Lib.hid hset
      clear hset hv1 hv2
      have hST : Own (wr.setCell ⟨w.heap.size, 2 * k, none⟩ (.int .i64 (el xs k - el xs (h + k) / 2))).drew w.heap.size (some ⟨w.heap.size, 0, none⟩) n n ((tab (uhMid (el xs) h k) n).set (2 * k) (el xs k - el xs (h + k) / 2)) := (hown.store (2 * k) (el xs k - el xs (h + k) / 2)).drew
      have hblS : Below w.heap.size w (wr.setCell ⟨w.heap.size, 2 * k, none⟩ (.int .i64 (el xs k - el xs (h + k) / 2))).drew := (hbl.setCell (p := ⟨w.heap.size, 2 * k, none⟩) hBg (.int .i64 (el xs k - el xs (h + k) / 2))).drew
      have j1 : IntKind.i64.wrap (2 * (k : Int)) = 2 * (k : Int) := IntWalk.i64_in _ (by omega)
      have j2 : IntKind.i64.wrap (2 * (k : Int) + 1) = 2 * (k : Int) + 1 := IntWalk.i64_in _ (by omega)
      have j3 : IntKind.i64.wrap ((h : Int) + k) = (h : Int) + k := IntWalk.i64_in _ (by omega)
      have j4 : IntKind.i64.wrap (el xs k - el xs (h + k) / 2) = el xs k - el xs (h + k) / 2 := IntWalk.i64_in _ (by omega)
      have j5 : IntKind.i64.wrap (el xs k - el xs (h + k) / 2 + el xs (h + k)) = el xs k - el xs (h + k) / 2 + el xs (h + k) := IntWalk.i64_in _ (by omega)
      go_wp2_with fail
      go_still_tail 16, (by kernel_rfl)
      still_call ((down2_any _ _ (by omega) (by omega)).mono fun _ _ h => ⟨h.1, h.2.symm⟩)
      repeat still_step
      refine wpStill_nil ?_
      change wpList _ _ _ _ _ wr.drew
      go_wp2_with fail
      generalize hwq : (wr.setCell ⟨w.heap.size, 2 * k, none⟩ (.int .i64 (el xs k - el xs (h + k) / 2))).drew = wq at hST hblS ⊢
      clear hwq hc1 hc2 hcell hfr hown hbl
      obtain ⟨g1, hg1, _, _, hcell1, hfr1⟩ := hST.at (2 * k) (by omega)
      injection hg1 with hg1; injection hg1 with hg1; subst hg1
      obtain ⟨g2, hg2, _, _, hcell2, hfr2⟩ := hST.at (2 * k + 1) (by omega)
      injection hg2 with hg2; injection hg2 with hg2; subst hg2
      rw [el_set' (by rw [tab_length]; omega), if_pos rfl] at hcell1
      have hc3 := HC.out wq hblS (h + k) (by omega)
      have hST2 := hST.store (2 * k + 1) (el xs k - el xs (h + k) / 2 + el xs (h + k))
      rw [HSET.out] at hST2
      go_still_tail 17, (by kernel_rfl)
      change wpList _ _ _ _ _ wq.drew
      clear j1 j2 j3 j4 j5
      go_wp2_with fail
      go_roundw
      case rel => exact ⟨k + 1, by omega, by go_num, hST2, (hblS.drew.setCell (p := ⟨w.heap.size, 2 * k + 1, none⟩) hBg _)⟩
      case measure => simp [intOf]; omega
    · obtain rfl : k = h := by omega
      have he : tab (uhMid (el xs) k k) n = unhalveL xs k := by rw [hN.out]; exact uhMid_end _ _
      rw [he] at hown
      clear he
      go_wp2_with fail
      go_ret
      exact Fresh.mk hown hbl
end Go.Proofs.Ytbaamhniffpnpaa
