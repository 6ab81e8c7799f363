/-
  Halves: means and differences of numbers two by two, and put together again.
-/
import Derived.Test.YtmfffmipnbdpjaaGreatDoorDown
import Derived.Test.YtmfffmipnbdpjaaGreatDoorMk
import Derived.Test.YtmfffmipnbdpjaaGreatDoorNum
import Derived.Test.YtmfffmipnbdpjaaGreatDoorReg
import Derived.Test.YtmfffmipnbdpjaaGreatDoorCube
import Derived.StillTailTactics
namespace Go.Proofs.YtmfffmipnbdpjaaGreatDoor
open Go.RowKit

/-- The number at i of the halves of a row of 2 h numbers. -/
def hvAt (f : Nat → Int) (h i : Nat) : Int := if i < h then f (2 * i) + (f (2 * i + 1) - f (2 * i)) / 2 else f (2 * (i - h) + 1) - f (2 * (i - h))
def halveL (xs : List Int) (h : Nat) : List Int := tab (hvAt (el xs) h) (2 * h)
/-- The number at i of the row that is put together. -/
def uhAt (f : Nat → Int) (h i : Nat) : Int := if i % 2 = 0 then f (i / 2) - f (h + i / 2) / 2 else f (i / 2) - f (h + i / 2) / 2 + f (h + i / 2)
def unhalveL (xs : List Int) (h : Nat) : List Int := tab (uhAt (el xs) h) (2 * h)

/-- In the middle: the first k pairs are done. -/
def hvMid (f : Nat → Int) (h k i : Nat) : Int := if (i < h ∧ i < k) ∨ (h ≤ i ∧ i - h < k) then hvAt f h i else 0
theorem el_set' {xs : List Int} {i k : Nat} {y : Int} (hi : i < xs.length) : el (xs.set i y) k = if k = i then y else el xs k := by
  unfold el
  by_cases e : k = i
  · subst e; simp [List.getD, hi]
  · rw [if_neg e]; simp [List.getD, List.getElem?_set, Ne.symm e]
theorem set_tab' {f : Nat → Int} {n i : Nat} {y : Int} (hi : i < n) : (tab f n).set i y = tab (fun x => if x = i then y else f x) n := by
  apply el_ext
  · simp [tab_length]
  · intro k hk
    have hk' : k < n := by simpa [tab_length] using hk
    rw [el_set' (by rw [tab_length]; exact hi), el_tab hk', el_tab hk']
theorem hvMid_zero (f : Nat → Int) (h n : Nat) : tab (fun _ => 0) n = tab (hvMid f h 0) n := tab_congr fun i _ => by rw [hvMid, if_neg (by omega)]
theorem hvMid_set (f : Nat → Int) {h k : Nat} (hk : k < h) : ((tab (hvMid f h k) (2 * h)).set k (hvAt f h k)).set (h + k) (hvAt f h (h + k)) = tab (hvMid f h (k + 1)) (2 * h) := by
  rw [set_tab' (by omega), set_tab' (by omega)]
  apply tab_congr
  intro i hi
  by_cases e1 : i = h + k
  · subst e1; rw [if_pos rfl, hvMid, if_pos (by omega)]
  · rw [if_neg e1]
    by_cases e2 : i = k
    · subst e2; rw [if_pos rfl, hvMid, if_pos (by omega)]
    · rw [if_neg e2, hvMid, hvMid]
      by_cases c : (i < h ∧ i < k) ∨ (h ≤ i ∧ i - h < k)
      · rw [if_pos c, if_pos (by omega)]
      · rw [if_neg c, if_neg (by omega)]
theorem hvMid_end (f : Nat → Int) (h : Nat) : tab (hvMid f h h) (2 * h) = tab (hvAt f h) (2 * h) := tab_congr fun i hi => by rw [hvMid, if_pos (by omega)]
set_option maxRecDepth 100000 in
set_option maxHeartbeats 1600000 in
theorem halve_any (w : World) (a : Option Addr) (n c h : Nat) (xs : List Int) (hr : Row w a n c xs) (hnh : n = 2 * h) (hn : n ≤ 1000) (hb : ∀ i, i < n → -1000000000 ≤ el xs i ∧ el xs i ≤ 1000000000) :
    Calls Tryz.prog 62 #[.slice a n c] w fun e w' => Fresh w w' e n (halveL xs h) := by
  have hbd : Hid (∀ i, i < n → -1000000000 ≤ el xs i ∧ el xs i ≤ 1000000000) := hb
  have hN : Hid (n = 2 * h) := hnh
  have hnle : n ≤ 2 * h := by omega
  have hnge : 2 * h ≤ n := by omega
  have hhalf : (n : Int) / 2 = h := by omega
  have HH : Hid ((n : Int) / 2 = h) := hhalf
  clear hb hnh
  go_enter Tryz.func62, Tryz.ntmps62
  go_wp2_with (at_make; go_must (refine make_int w rfl _ _ rfl .i64 .i64 _ _ n rfl rfl rfl rfl (by omega) ?_); intro w0 hown0 hb0 hsz0)
  rw [hvMid_zero (el xs) h n] at hown0
  go_loopw [14] (fun u wr => ∃ k : Nat, k ≤ h ∧ u = .int .i64 k ∧ Own wr w.heap.size (some ⟨w.heap.size, 0, none⟩) n n (tab (hvMid (el xs) h k) n) ∧ Below w.heap.size w wr) (fun u _ => h - (intOf u).toNat)
  case atStart => exact ⟨0, Nat.zero_le _, rfl, hown0, hb0⟩
  case round =>
    obtain ⟨k, hk, rfl, hown, hbl⟩ := hrel
    clear hown0 hb0
    by_cases hlt : k < h
    · obtain ⟨b, off, rfl, hbb, hcell⟩ := hr.at (by omega)
      have HC : Hid (∀ w', Below w.heap.size w w' → ∀ j, j < n → w'.cell? ⟨b, off + j, none⟩ = some (.int .i64 (el xs j))) := hcell
      have hc1 := hcell wr hbl (2 * k) (by omega)
      have hc2 := hcell wr hbl (2 * k + 1) (by omega)
      clear hcell
      have he1 := hbd.out (2 * k) (by omega)
      have he2 := hbd.out (2 * k + 1) (by omega)
      have i1 : (0 : Int) ≤ 2 * (k : Int) := by omega
      have i2 : 2 * (k : Int) < n := by omega
      have i3 : (0 : Int) ≤ 2 * (k : Int) + 1 := by omega
      have i4 : 2 * (k : Int) + 1 < n := by omega
      have i5 : (2 * (k : Int)).toNat = 2 * k := by omega
      have i6 : (2 * (k : Int) + 1).toNat = 2 * k + 1 := by omega
      have j1 : IntKind.i64.wrap (2 * (k : Int)) = 2 * (k : Int) := IntWalk.i64_in _ (by omega)
      have j2 : IntKind.i64.wrap (2 * (k : Int) + 1) = 2 * (k : Int) + 1 := IntWalk.i64_in _ (by omega)
      have j3 : IntKind.i64.wrap (el xs (2 * k + 1) - el xs (2 * k)) = el xs (2 * k + 1) - el xs (2 * k) := IntWalk.i64_in _ (by omega)
      go_wp2_with fail
      go_quiet (fail)
      have hbl2 := bdrewN hbl nq
      have hown2 : Own (wr.drewN nq) w.heap.size (some ⟨w.heap.size, 0, none⟩) n n (tab (hvMid (el xs) h k) n) := hown
      generalize hwq : wr.drewN nq = wq at hbl2 hown2 ⊢
      go_wp2_with fail
      clear hwq hown hbl hc1 hc2
      have hc1 := HC.out wq hbl2 (2 * k) (by omega)
      have hdv1 : -2000000001 ≤ (el xs (2 * k + 1) - el xs (2 * k)) / 2 ∧ (el xs (2 * k + 1) - el xs (2 * k)) / 2 ≤ 2000000001 := by omega
      have j4 : IntKind.i64.wrap (el xs (2 * k) + (el xs (2 * k + 1) - el xs (2 * k)) / 2) = el xs (2 * k) + (el xs (2 * k + 1) - el xs (2 * k)) / 2 := IntWalk.i64_in _ (by omega)
      have i7 : (0 : Int) ≤ (k : Int) := by omega
      have i8 : (k : Int) < n := by omega
      obtain ⟨g, hg, hBg, hgl, hcell, hfr⟩ := hown2.at k (by omega)
      injection hg with hg; injection hg with hg; subst hg
      have HST := hown2.store k (el xs (2 * k) + (el xs (2 * k + 1) - el xs (2 * k)) / 2)
      obtain ⟨g2, hg2, _, _, hcell2, hfr2⟩ := HST.drew.at (h + k) (by omega)
      injection hg2 with hg2; injection hg2 with hg2; subst hg2
      have i9 : (0 : Int) ≤ (h : Int) + k := by omega
      have i10 : (h : Int) + k < n := by omega
      have i11 : ((h : Int) + k).toNat = h + k := by omega
      have hv1 : hvAt (el xs) h k = el xs (2 * k) + (el xs (2 * k + 1) - el xs (2 * k)) / 2 := by rw [hvAt, if_pos hlt]
      have hv2 : hvAt (el xs) h (h + k) = el xs (2 * k + 1) - el xs (2 * k) := by rw [hvAt, if_neg (by omega), show h + k - h = k by omega]
      have HST2 := HST.drew.store (h + k) (el xs (2 * k + 1) - el xs (2 * k))
      rw [← hv1, ← hv2] at HST2
      have hset := hvMid_set (el xs) (h := h) (k := k) hlt
      rw [← hN.out] at hset
      rw [hset, hv1, hv2] at HST2
      clear hset hv1 hv2
      go_still_tail 11, (by kernel_rfl)
      still_call ((down2_any _ _ (by omega) (by omega)).mono fun _ _ h => ⟨h.1, h.2.symm⟩)
      repeat still_step
      refine wpStill_nil ?_
      change wpList _ _ _ _ _ wq.drew
      clear j1 j2 j3 j4
      go_wp2_with fail
      go_roundw
      case rel => exact ⟨k + 1, by omega, by go_num, HST2, ((hbl2.setCell hBg _).drew).setCell hBg _⟩
      case measure => simp [intOf]; omega
    · obtain rfl : k = h := by omega
      have he : tab (hvMid (el xs) k k) n = halveL xs k := by rw [hN.out]; exact hvMid_end _ _
      rw [he] at hown
      clear he
      go_wp2_with fail
      go_ret
      exact Fresh.mk hown hbl
end Go.Proofs.YtmfffmipnbdpjaaGreatDoor
