/-
  TimesOf, the program's and the reference's.
-/
import Derived.Test.YtommnhpihophbaaTimes
import Derived.Deep.RegionWith
namespace Go.Proofs.Ytommnhpihophbaa
open Go.RowKit

def prodL (xs ys : List Int) (n m : Nat) : List Int := tab (cv (el xs) (el ys) n) (n + m - 1)
theorem pst_start (f g : Nat → Int) (N : Nat) : tab (fun _ => 0) N = tab (pst f g 0 0) N := tab_congr fun i _ => by simp [pst, cv, sm]

set_option maxHeartbeats 1600000 in
theorem TimesOf_yes (w : World) (a b : Option Addr) (n m c d : Nat) (xs ys : List Int) (h : Row w a n c xs) (h2 : Row w b m d ys) (hv : valid xs = true) (hw : valid ys = true) (hn0 : 0 < n) (hm0 : 0 < m) :
    Calls Try.prog 24 #[.slice a n c, .slice b m d] w fun e w' => Fresh w w' e (n + m - 1) (prodL xs ys n m) := by
  have hlen : Hid (xs.length = n) := h.len
  have hlen2 : Hid (ys.length = m) := h2.len
  have hn : n ≤ 16 := by have := valid_len hv; rw [hlen.out] at this; exact this
  have hm : m ≤ 16 := by have := valid_len hw; rw [hlen2.out] at this; exact this
  have hbx : Hid (∀ i, -1000 ≤ el xs i ∧ el xs i ≤ 1000) := el_bd fun i hi => valid_bd hv hi
  have hby : Hid (∀ i, -1000 ≤ el ys i ∧ el ys i ≤ 1000) := el_bd fun i hi => valid_bd hw hi
  have hyz : Hid (∀ k, m ≤ k → el ys k = 0) := fun k hk => el_out (by rw [hlen2.out]; exact hk)
  have hnb : ((n : Int) == 0) = false := by simp; omega
  have hmb : ((m : Int) == 0) = false := by simp; omega
  obtain ⟨bx, ox, rfl, hbbx, hcx⟩ := h.at hn0
  obtain ⟨bY, oY, rfl, hbbY, hcY⟩ := h2.at hm0
  have HX : Hid (∀ w', Below w.heap.size w w' → ∀ j, j < n → w'.cell? ⟨bx, ox + j, none⟩ = some (.int .i64 (el xs j))) := hcx
  have HY : Hid (∀ w', Below w.heap.size w w' → ∀ j, j < m → w'.cell? ⟨bY, oY + j, none⟩ = some (.int .i64 (el ys j))) := hcY
  clear hcx hcY
  have e1 : (n : Int) + m - 1 = ((n + m - 1 : Nat) : Int) := by omega
  have E1 : Hid ((n : Int) + m - 1 = ((n + m - 1 : Nat) : Int)) := e1
  clear e1
  go_enter Try.func24, Try.ntmps24
  go_wp2_with (first
    | (go_at_call_of 22 (bx); refine (ValidRow_is w _ n c xs true h hv).mono ?_; rintro e w' ⟨rfl, rfl⟩)
    | (go_at_call 22; refine (ValidRow_is w _ m d ys true h2 hw).mono ?_; rintro e w' ⟨rfl, rfl⟩)
    | (at_make; go_must (refine make_int w rfl _ _ rfl .i64 .i64 _ _ (n + m - 1) rfl rfl E1.out E1.out (by omega) ?_); intro w0 hown0 hb0 hsz0))
  have hst0 : tab (fun _ => 0) (n + m - 1) = tab (pst (el xs) (el ys) 0 0) (n + m - 1) := pst_start _ _ _
  rw [hst0] at hown0
  clear hst0
  go_loopw [36] (fun u wr => ∃ i : Nat, i ≤ n ∧ u = .int .i64 i ∧ Own wr w.heap.size (some ⟨w.heap.size, 0, none⟩) (n + m - 1) (n + m - 1) (tab (pst (el xs) (el ys) i 0) (n + m - 1)) ∧ Below w.heap.size w wr) (fun u _ => n - (intOf u).toNat)
  case atStart => exact ⟨0, Nat.zero_le _, rfl, hown0, hb0⟩
  case round =>
    obtain ⟨i, hi, rfl, hown, hbl⟩ := hrel
    clear hown0 hb0
    by_cases hlt : i < n
    · have hc := HX.out wr hbl i hlt
      go_wp2_with fail
      obtain ⟨wo, rfl⟩ : ∃ wo : World, wo = wr := ⟨_, rfl⟩
      go_loopw [43] (fun u wr => ∃ k : Nat, k ≤ m ∧ u = .int .i64 k ∧ Own wr w.heap.size (some ⟨w.heap.size, 0, none⟩) (n + m - 1) (n + m - 1) (tab (pst (el xs) (el ys) i k) (n + m - 1)) ∧ Below w.heap.size w wr) (fun u _ => m - (intOf u).toNat)
      case atStart => exact ⟨0, Nat.zero_le _, rfl, hown, hbl⟩
      case round =>
        obtain ⟨k, hk, rfl, hown2, hbl2⟩ := hrel
        clear hown hbl hc
        by_cases hkm : k < m
        · have hcy := HY.out wr hbl2 k hkm
          obtain ⟨g, hg, hBg, hgl, hcell, hfr⟩ := hown2.at (i + k) (by omega)
          injection hg with hg; injection hg with hg; subst hg
          rw [el_tab (by omega)] at hcell
          have HST := hown2.store (i + k) (pst (el xs) (el ys) i k (i + k) + el xs i * el ys k)
          rw [pst_set (el xs) (el ys) (by omega)] at HST
          have hp := pst_bd hbx.out hby.out i k (i + k)
          have hq := @mul_bd (el xs i) (el ys k) 1000 1000 (hbx.out i) (hby.out k)
          have hik : ((i : Int) + k).toNat = i + k := by omega
          go_wp2_with fail
          go_roundw
          case rel => exact ⟨k + 1, by omega, by go_num, HST, hbl2.setCell hBg _⟩
          case measure => simp [intOf]; omega
        · obtain rfl : k = m := by omega
          have he : tab (pst (el xs) (el ys) i k) (n + k - 1) = tab (pst (el xs) (el ys) (i + 1) 0) (n + k - 1) := tab_congr fun r _ => by rw [pst_end hyz.out, pst_zero]
          rw [he] at hown2
          clear he
          go_wp2_with fail
          go_roundw
          case rel => exact ⟨i + 1, by omega, by go_num, hown2, hbl2⟩
          case measure => simp [intOf]; omega
    · obtain rfl : i = n := by omega
      have he : tab (pst (el xs) (el ys) i 0) (i + m - 1) = prodL xs ys i m := tab_congr fun r _ => pst_zero _ _ _ _
      rw [he] at hown
      clear he
      go_wp2_with fail
      go_ret
      exact Fresh.mk hown hbl
set_option maxHeartbeats 1600000 in
theorem product_yes (w : World) (a b : Option Addr) (n m c d : Nat) (xs ys : List Int) (h : Row w a n c xs) (h2 : Row w b m d ys) (hv : valid xs = true) (hw : valid ys = true) (hn0 : 0 < n) (hm0 : 0 < m) :
    Calls Try.prog 65 #[.slice a n c, .slice b m d] w fun e w' => Fresh w w' e (n + m - 1) (prodL xs ys n m) := by
  have hlen : Hid (xs.length = n) := h.len
  have hlen2 : Hid (ys.length = m) := h2.len
  have hn : n ≤ 16 := by have := valid_len hv; rw [hlen.out] at this; exact this
  have hm : m ≤ 16 := by have := valid_len hw; rw [hlen2.out] at this; exact this
  have hbx : Hid (∀ i, -1000 ≤ el xs i ∧ el xs i ≤ 1000) := el_bd fun i hi => valid_bd hv hi
  have hby : Hid (∀ i, -1000 ≤ el ys i ∧ el ys i ≤ 1000) := el_bd fun i hi => valid_bd hw hi
  have hyz : Hid (∀ k, m ≤ k → el ys k = 0) := fun k hk => el_out (by rw [hlen2.out]; exact hk)
  have hnb : ((n : Int) == 0) = false := by simp; omega
  have hmb : ((m : Int) == 0) = false := by simp; omega
  obtain ⟨bx, ox, rfl, hbbx, hcx⟩ := h.at hn0
  obtain ⟨bY, oY, rfl, hbbY, hcY⟩ := h2.at hm0
  have HX : Hid (∀ w', Below w.heap.size w w' → ∀ j, j < n → w'.cell? ⟨bx, ox + j, none⟩ = some (.int .i64 (el xs j))) := hcx
  have HY : Hid (∀ w', Below w.heap.size w w' → ∀ j, j < m → w'.cell? ⟨bY, oY + j, none⟩ = some (.int .i64 (el ys j))) := hcY
  clear hcx hcY hv hw
  have E1 : Hid ((n : Int) + m - 1 = ((n + m - 1 : Nat) : Int)) := by rw [Hid]; omega
  go_enter Try.func65, Try.ntmps65
  go_wp2_with (at_make; go_must (refine make_int w rfl _ _ rfl .i64 .i64 _ _ (n + m - 1) rfl rfl E1.out E1.out (by omega) ?_); intro w0 hown0 hb0 hsz0)
  have hst0 : tab (fun _ => 0) (n + m - 1) = tab (pst (el xs) (el ys) 0 0) (n + m - 1) := pst_start _ _ _
  rw [hst0] at hown0
  clear hst0
  go_loopw [6] (fun u wr => ∃ i : Nat, i ≤ n ∧ u = .int .i64 i ∧ Own wr w.heap.size (some ⟨w.heap.size, 0, none⟩) (n + m - 1) (n + m - 1) (tab (pst (el xs) (el ys) i 0) (n + m - 1)) ∧ Below w.heap.size w wr) (fun u _ => n - (intOf u).toNat)
  case atStart => exact ⟨0, Nat.zero_le _, rfl, hown0, hb0⟩
  case round =>
    obtain ⟨i, hi, rfl, hown, hbl⟩ := hrel
    clear hown0 hb0
    by_cases hlt : i < n
    · go_wp2_with fail
      obtain ⟨wo, rfl⟩ : ∃ wo : World, wo = wr := ⟨_, rfl⟩
      go_loopw [7] (fun u wr => ∃ k : Nat, k ≤ m ∧ u = .int .i64 k ∧ Own wr w.heap.size (some ⟨w.heap.size, 0, none⟩) (n + m - 1) (n + m - 1) (tab (pst (el xs) (el ys) i k) (n + m - 1)) ∧ Below w.heap.size w wr) (fun u _ => m - (intOf u).toNat)
      case atStart => exact ⟨0, Nat.zero_le _, rfl, hown, hbl⟩
      case round =>
        obtain ⟨k, hk, rfl, hown2, hbl2⟩ := hrel
        clear hown hbl
        by_cases hkm : k < m
        · have hcy := HY.out wr hbl2 k hkm
          have hcx := HX.out wr hbl2 i hlt
          obtain ⟨g, hg, hBg, hgl, hcell, hfr⟩ := hown2.at (i + k) (by omega)
          injection hg with hg; injection hg with hg; subst hg
          rw [el_tab (by omega)] at hcell
          have HST := hown2.store (i + k) (pst (el xs) (el ys) i k (i + k) + el xs i * el ys k)
          rw [pst_set (el xs) (el ys) (by omega)] at HST
          have hp := pst_bd hbx.out hby.out i k (i + k)
          have hq := @mul_bd (el xs i) (el ys k) 1000 1000 (hbx.out i) (hby.out k)
          have i1 : (0 : Int) ≤ (i : Int) := by omega
          have i2 : (i : Int) < n := by omega
          have i3 : (0 : Int) ≤ (k : Int) := by omega
          have i4 : (k : Int) < m := by omega
          have i5 : (0 : Int) ≤ (i : Int) + k := by omega
          have i6 : (i : Int) + k < ((n + m - 1 : Nat) : Int) := by omega
          have hik : ((i : Int) + k).toNat = i + k := by omega
          have j1 : IntKind.i64.wrap ((i : Int) + k) = (i : Int) + k := IntWalk.i64_in _ (by omega)
          have j2 : IntKind.i64.wrap (el xs i * el ys k) = el xs i * el ys k := IntWalk.i64_in _ (by omega)
          have j3 : IntKind.i64.wrap (pst (el xs) (el ys) i k (i + k) + el xs i * el ys k) = pst (el xs) (el ys) i k (i + k) + el xs i * el ys k := IntWalk.i64_in _ (by omega)
          go_wp2_with fail
          go_still_tail 21, (by kernel_rfl)
          change wpList _ _ _ _ _ wr.drew
          clear j1 j2 j3
          go_wp2_with fail
          go_roundw
          case rel => exact ⟨k + 1, by omega, by go_num, HST.drew, (hbl2.setCell hBg _).drew⟩
          case measure => simp [intOf]; omega
        · obtain rfl : k = m := by omega
          have he : tab (pst (el xs) (el ys) i k) (n + k - 1) = tab (pst (el xs) (el ys) (i + 1) 0) (n + k - 1) := tab_congr fun r _ => by rw [pst_end hyz.out, pst_zero]
          rw [he] at hown2
          clear he
          go_wp2_with fail
          go_roundw
          case rel => exact ⟨i + 1, by omega, by go_num, hown2, hbl2⟩
          case measure => simp [intOf]; omega
    · obtain rfl : i = n := by omega
      have he : tab (pst (el xs) (el ys) i 0) (i + m - 1) = prodL xs ys i m := tab_congr fun r _ => pst_zero _ _ _ _
      rw [he] at hown
      clear he
      go_wp2_with fail
      go_ret
      exact Fresh.mk hown hbl
end Go.Proofs.Ytommnhpihophbaa
