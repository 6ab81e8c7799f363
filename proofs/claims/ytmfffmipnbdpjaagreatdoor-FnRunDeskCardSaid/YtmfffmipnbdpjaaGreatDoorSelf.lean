/-
  SelfOf, the program's and the reference's, and its law.
-/
import Derived.Test.YtmfffmipnbdpjaaGreatDoorPSelf
import Derived.Test.YtmfffmipnbdpjaaGreatDoorFold
import Derived.Test.YtmfffmipnbdpjaaGreatDoorDraw2
import Derived.Test.YtmfffmipnbdpjaaGreatDoorReg
namespace Go.Proofs.YtmfffmipnbdpjaaGreatDoor
open Go.RowKit

def sfp (f : Nat → Int) (d i : Nat) : Int := sm (fun t => f t * f (t + d)) i
theorem sfp_bd {f : Nat → Int} {n d i : Nat} (h : ∀ i, i < n → -1000 ≤ f i ∧ f i ≤ 1000) (hi : i + d ≤ n) : -(1000000 * (i : Int)) ≤ sfp f d i ∧ sfp f d i ≤ 1000000 * (i : Int) :=
  sm_bd fun t ht => mul_bd (h t (by omega)) (h (t + d) (by omega))
set_option maxHeartbeats 1600000 in
theorem itself_any (w : World) (a : Option Addr) (n c : Nat) (xs : List Int) (h : Row w a n c xs) (hv : valid xs = true) :
    Calls Tryz.prog 32 #[.slice a n c] w fun e w' => Fresh w w' e n (selfL xs n) := by
  have HL : Hid (xs.length = n) := h.len
  have hn : n ≤ 16 := by have := valid_len hv; rw [HL.out] at this; exact this
  have HB : Hid (∀ i, i < n → -1000 ≤ el xs i ∧ el xs i ≤ 1000) := fun i hi => valid_bd hv (by rw [HL.out]; exact hi)
  go_enter Tryz.func32, Tryz.ntmps32
  go_wp2_with fail
  go_loopw [3, 4] (fun v u wr => ∃ (k : Nat) (a1 : Option Addr) (c1 : Nat), k ≤ n ∧ u = .int .i64 k ∧ v = .slice a1 k c1 ∧ Own wr w.heap.size a1 k c1 (tab (sfAt (el xs) n) k) ∧ Below w.heap.size w wr ∧ w.heap.size + 1 ≤ wr.heap.size) (fun v _ _ => n - lenOf v)
  case atStart => exact ⟨0, _, 0, Nat.zero_le _, rfl, rfl, own_empty w, (Below.refl _ _).alloc (Nat.le_refl _) _, by simp⟩
  case round =>
    obtain ⟨k, a1, c1, hk, rfl, rfl, hown, hbl, hsz⟩ := hrel
    by_cases hlt : k < n
    · obtain ⟨bx, ox, rfl, hbbx, hcx⟩ := h.at (by omega)
      have HX := Lib.hid hcx
      clear hcx
      go_wp2_with fail
      obtain ⟨wo, rfl⟩ : ∃ wo : World, wo = wr := ⟨_, rfl⟩
      go_loopw [5, 6] (fun s u wr => ∃ i : Nat, i + k ≤ n ∧ u = .int .i64 i ∧ s = .int .i64 (sfp (el xs) k i) ∧ Below wo.heap.size wo wr) (fun _ u _ => n - (intOf u).toNat)
      case atStart => exact ⟨0, by omega, rfl, rfl, Below.refl _ _⟩
      case round =>
        obtain ⟨i, hi, rfl, rfl, hbl5⟩ := hrel
        have hbl6 := hbl.trans (hbl5.mono (by omega))
        by_cases hin : i + k < n
        · have hc1 := HX.out wr hbl6 i (by omega)
          have hc2 := HX.out wr hbl6 (i + k) hin
          have hsb := @sfp_bd (el xs) n k i HB.out hi
          have hmm := mul_bd (HB.out i (by omega)) (HB.out (i + k) hin)
          have hss : sfp (el xs) k (i + 1) = sfp (el xs) k i + el xs i * el xs (i + k) := rfl
          have HSS := Lib.hid hss
          clear hss
          have i0 : (0 : Int) ≤ (i : Int) := by omega
          have i1 : (i : Int) < n := by omega
          have i2 : (0 : Int) ≤ (i : Int) + (k : Int) := by omega
          have i3 : (i : Int) + (k : Int) < n := by omega
          have i4 : ((i : Int) + (k : Int)).toNat = i + k := by omega
          have j1 : IntKind.i64.wrap ((i : Int) + (k : Int)) = (i : Int) + (k : Int) := IntWalk.i64_in _ (by omega)
          have j2 : IntKind.i64.wrap (el xs i * el xs (i + k)) = el xs i * el xs (i + k) := IntWalk.i64_in _ (by omega)
          have j3 : IntKind.i64.wrap (sfp (el xs) k i + el xs i * el xs (i + k)) = sfp (el xs) k i + el xs i * el xs (i + k) := IntWalk.i64_in _ (by omega)
          go_wp2_with fail
          go_quiet (fail)
          clear j1 j2 j3
          go_wp2_with fail
          go_roundw
          case rel => exact ⟨i + 1, by omega, by go_num, by rw [HSS.out], bdrewN hbl5 _⟩
          case measure => simp [intOf]; omega
        · have hik : i = n - k := by omega
          have hown5 := hown.below hbl5
          have hsz5 := hbl5.size
          have HAT : Hid (tab (sfAt (el xs) n) k ++ [sfp (el xs) k i] = tab (sfAt (el xs) n) (k + 1)) := by rw [Hid, hik]; rfl
          clear hik
          go_wp2_with (at_builtin; go_must (refine app_int wr rfl _ _ rfl w.heap.size _ _ _ _ _ rfl hown5 rfl (by omega) (by omega) ?_); intro a2 c2 w2 hown2 hgr2 hsz2)
          rw [HAT.out] at hown2
          go_roundw
          case rel => exact ⟨k + 1, a2, c2, by omega, by go_num, rfl, hown2, below_app hbl6 hgr2 hown5 (Nat.le_refl _) (by omega), by omega⟩
          case measure => simp [lenOf]; omega
    · obtain rfl : k = n := by omega
      go_wp2_with fail
      go_ret
      exact Fresh.mk hown hbl
set_option maxHeartbeats 1600000 in
theorem SelfOf_yes (w : World) (a : Option Addr) (n c : Nat) (xs : List Int) (h : Row w a n c xs) (hv : valid xs = true) :
    Calls Tryz.prog 39 #[.slice a n c] w fun e w' => Fresh w w' e n (selfL xs n) := by
  have HL : Hid (xs.length = n) := h.len
  have hn : n ≤ 16 := by have := valid_len hv; rw [HL.out] at this; exact this
  have HB : Hid (∀ i, i < n → -1000 ≤ el xs i ∧ el xs i ≤ 1000) := fun i hi => valid_bd hv (by rw [HL.out]; exact hi)
  go_enter Tryz.func39, Tryz.ntmps39
  go_wp2_with fail
  refine (ValidRow_is w a n c xs true h hv).mono ?_
  rintro e w' ⟨rfl, rfl⟩
  go_wp2_with fail
  go_loopw [3, 13] (fun v u wr => ∃ (k : Nat) (a1 : Option Addr) (c1 : Nat), k ≤ n ∧ u = .int .i64 k ∧ v = .slice a1 k c1 ∧ Own wr w.heap.size a1 k c1 (tab (sfAt (el xs) n) k) ∧ Below w.heap.size w wr ∧ w.heap.size + 1 ≤ wr.heap.size) (fun v _ _ => n - lenOf v)
  case atStart => exact ⟨0, _, 0, Nat.zero_le _, rfl, rfl, own_empty w, (Below.refl _ _).alloc (Nat.le_refl _) _, by simp⟩
  case round =>
    obtain ⟨k, a1, c1, hk, rfl, rfl, hown, hbl, hsz⟩ := hrel
    by_cases hlt : k < n
    · obtain ⟨bx, ox, rfl, hbbx, hcx⟩ := h.at (by omega)
      have HX := Lib.hid hcx
      clear hcx
      go_wp2_with fail
      obtain ⟨wo, rfl⟩ : ∃ wo : World, wo = wr := ⟨_, rfl⟩
      go_loopw [5, 6] (fun s u wr => ∃ i : Nat, i + k ≤ n ∧ u = .int .i64 i ∧ s = .int .i64 (sfp (el xs) k i) ∧ Below wo.heap.size wo wr) (fun _ u _ => n - (intOf u).toNat)
      case atStart => exact ⟨0, by omega, rfl, rfl, Below.refl _ _⟩
      case round =>
        obtain ⟨i, hi, rfl, rfl, hbl5⟩ := hrel
        have hbl6 := hbl.trans (hbl5.mono (by omega))
        by_cases hin : i + k < n
        · have hc1 := HX.out wr hbl6 i (by omega)
          have hc2 := HX.out wr hbl6 (i + k) hin
          have hsb := @sfp_bd (el xs) n k i HB.out hi
          have hmm := mul_bd (HB.out i (by omega)) (HB.out (i + k) hin)
          have hss : sfp (el xs) k (i + 1) = sfp (el xs) k i + el xs i * el xs (i + k) := rfl
          have HSS := Lib.hid hss
          clear hss
          have i0 : (0 : Int) ≤ (i : Int) := by omega
          have i1 : (i : Int) < n := by omega
          have i2 : (0 : Int) ≤ (i : Int) + (k : Int) := by omega
          have i3 : (i : Int) + (k : Int) < n := by omega
          have i4 : ((i : Int) + (k : Int)).toNat = i + k := by omega
          have j1 : IntKind.i64.wrap ((i : Int) + (k : Int)) = (i : Int) + (k : Int) := IntWalk.i64_in _ (by omega)
          have j2 : IntKind.i64.wrap (el xs i * el xs (i + k)) = el xs i * el xs (i + k) := IntWalk.i64_in _ (by omega)
          have j3 : IntKind.i64.wrap (sfp (el xs) k i + el xs i * el xs (i + k)) = sfp (el xs) k i + el xs i * el xs (i + k) := IntWalk.i64_in _ (by omega)
          go_wp2_with fail
          go_quiet (fail)
          clear j1 j2 j3
          go_wp2_with fail
          go_roundw
          case rel => exact ⟨i + 1, by omega, by go_num, by rw [HSS.out], bdrewN hbl5 _⟩
          case measure => simp [intOf]; omega
        · have hik : i = n - k := by omega
          have hown5 := hown.below hbl5
          have hsz5 := hbl5.size
          have HAT : Hid (tab (sfAt (el xs) n) k ++ [sfp (el xs) k i] = tab (sfAt (el xs) n) (k + 1)) := by rw [Hid, hik]; rfl
          clear hik
          go_wp2_with (at_builtin; go_must (refine app_int wr rfl _ _ rfl w.heap.size _ _ _ _ _ rfl hown5 rfl (by omega) (by omega) ?_); intro a2 c2 w2 hown2 hgr2 hsz2)
          rw [HAT.out] at hown2
          go_roundw
          case rel => exact ⟨k + 1, a2, c2, by omega, by go_num, rfl, hown2, below_app hbl6 hgr2 hown5 (Nat.le_refl _) (by omega), by omega⟩
          case measure => simp [lenOf]; omega
    · obtain rfl : k = n := by omega
      go_wp2_with fail
      go_ret
      exact Fresh.mk hown hbl
set_option maxHeartbeats 400000 in
theorem SelfOf_no (w : World) (a : Option Addr) (n c : Nat) (xs : List Int) (h : Row w a n c xs) (hv : valid xs = false) :
    Calls Tryz.prog 39 #[.slice a n c] w fun e w' => e = .returned (.slice none 0 0) ∧ w = w' := by
  go_enter Tryz.func39, Tryz.ntmps39
  go_wp2_with fail
  refine (ValidRow_is w a n c xs false h hv).mono ?_
  rintro e w' ⟨rfl, rfl⟩
  go_wp2_with fail
  go_ret
  exact ⟨rfl, rfl⟩
def selfR (xs : List Int) : List Int := if valid xs then selfL xs xs.length else []
theorem selfR_len (xs : List Int) : (selfR xs).length ≤ 1000 := by
  unfold selfR
  split
  · rename_i h; have := valid_len h; rw [selfL, tab_length]; omega
  · simp
theorem SelfOf_all (w : World) (a : Option Addr) (n c : Nat) (xs : List Int) (h : Row w a n c xs) :
    Calls Tryz.prog 39 #[.slice a n c] w fun e w' => Fresh w w' e (selfR xs).length (selfR xs) := by
  cases hv : valid xs
  · rw [show selfR xs = [] by simp [selfR, hv]]
    refine (SelfOf_no w a n c xs h hv).mono ?_
    rintro e w' ⟨rfl, rfl⟩
    exact Fresh.mk (own_nil _ _) (Below.refl _ _)
  · refine (SelfOf_yes w a n c xs h hv).mono ?_
    rintro e w' ⟨a1, c1, rfl, hown, hbl⟩
    have hl := h.len
    exact Fresh.mk' hown hbl (by rw [selfR, if_pos hv, selfL, tab_length, hl]) (by rw [selfR, if_pos hv, hl])
theorem turned_valid {xs : List Int} {n : Nat} (hl : xs.length = n) (hv : valid xs = true) : valid (tab (fun i => el xs (n - 1 - i)) n) = true := by
  obtain ⟨h1, h2⟩ := valid_iff.1 hv
  rw [hl] at h1 h2
  exact valid_iff.2 ⟨by rw [tab_length]; exact h1, fun i hi => by rw [tab_length] at hi; rw [el_tab hi]; exact h2 _ (by omega)⟩
theorem turned_self {xs : List Int} {n : Nat} : selfL (tab (fun i => el xs (n - 1 - i)) n) n = selfL xs n := tab_congr fun d hd => by
  have e : sfAt (el (tab (fun i => el xs (n - 1 - i)) n)) n d = sfAt (fun i => el xs (n - 1 - i)) n d := sf_congr fun i hi => el_tab hi
  rw [e]
  exact sf_turn (el xs) hd
end Go.Proofs.YtmfffmipnbdpjaaGreatDoor
