/-
  Waves, taken and taken back: the program's and the reference's.
-/
import Derived.Test.YtmfffmipnbdpjaaGreatDoorWRest
import Derived.Test.YtmfffmipnbdpjaaGreatDoorTwo
import Derived.Test.YtmfffmipnbdpjaaGreatDoorEq
import Derived.Test.YtmfffmipnbdpjaaGreatDoorMk
import Derived.StillTailTactics
namespace Go.Proofs.YtmfffmipnbdpjaaGreatDoor
open Go.RowKit

def pwI (r i : Nat) : Int := (pw r i : Int)
theorem pwI_bd (r i : Nat) : 0 ≤ pwI r i ∧ pwI r i < 97 := by have := pw_lt r i; unfold pwI; omega
theorem pwI_succ (r k : Nat) : pwI r (k + 1) = pwI r k * r % 97 := by unfold pwI; rw [pw_succ]; simp
/-- The sum of a wave, as far as i. -/
def wsm (r : Nat) (f : Nat → Int) (n k i : Nat) : Int := sm (fun t => f t * (pw r (t * k % n) : Int)) i
theorem mul96 {a b : Int} (h1 : 0 ≤ a ∧ a < 97) (h2 : 0 ≤ b ∧ b < 97) : 0 ≤ a * b ∧ a * b ≤ 9216 := by
  have := Int.mul_nonneg h1.1 h2.1
  have : a * b ≤ 96 * 96 := Int.mul_le_mul (by omega) (by omega) h2.1 (by omega)
  omega
theorem wsm_bd {r : Nat} {f : Nat → Int} {n k i : Nat} (h : ∀ t, t < i → 0 ≤ f t ∧ f t < 97) : 0 ≤ wsm r f n k i ∧ wsm r f n k i ≤ 9216 * (i : Int) := by
  unfold wsm
  induction i with
  | zero => simp [sm]
  | succ i ih =>
    have h1 := ih fun t ht => h t (by omega)
    have h2 := pwI_bd r (i * k % n)
    have h3 := mul96 (h i (by omega)) h2
    unfold pwI at h3
    rw [sm]; omega

set_option maxHeartbeats 1600000 in
theorem wave_any (w : World) (a : Option Addr) (n c : Nat) (xs : List Int) (r : Nat) (h : Row w a n c xs) (hn1 : 1 ≤ n) (hn : n ≤ 96) (hr : r ≤ 96) (hb : ∀ i, i < n → 0 ≤ el xs i ∧ el xs i < 97) :
    Calls Tryz.prog 59 #[.slice a n c, .int .i64 r] w fun e w' => Fresh w w' e n (wvL r xs n) := by
  have hbd := Lib.hid hb
  clear hb
  have hp1 : Hid (tab (pwI r) 1 = [1]) := by simp [Hid, tab, pwI, pw_zero]
  go_enter Tryz.func59, Tryz.ntmps59
  go_wp2_with fail
  go_loopw [5, 15] (fun v u wr => ∃ (m : Nat) (a1 : Option Addr) (c1 : Nat), 1 ≤ m ∧ m ≤ n ∧ u = .int .i64 ((m : Int) - 1) ∧ v = .slice a1 m c1 ∧ Own wr w.heap.size a1 m c1 (tab (pwI r) m) ∧ Below w.heap.size w wr ∧ w.heap.size + 1 ≤ wr.heap.size) (fun v _ _ => n - lenOf v)
  case atStart => exact ⟨1, _, _, Nat.le_refl _, hn1, rfl, rfl, by rw [hp1.out]; exact own_lit w w.heap.size [1] rfl (Nat.le_refl _) (by decide), (Below.refl _ _).alloc (Nat.le_refl _) _, by simp⟩
  case round =>
    obtain ⟨m, a1, c1, hm1, hm, rfl, rfl, hown, hbl, hsz⟩ := hrel
    by_cases hlt : m < n
    · obtain ⟨j, rfl⟩ : ∃ j, m = j + 1 := ⟨m - 1, by omega⟩
      obtain ⟨g, rfl, hBg, hgl, hcell, hfr⟩ := hown.at j (by omega)
      rw [el_tab (by omega)] at hcell
      have hpb := pwI_bd r j
      have hpm := mul96 hpb (show 0 ≤ (r : Int) ∧ (r : Int) < 97 by omega)
      have HPS := Lib.hid (pwI_succ r (j))
      have i1 : (((j + 1 : Nat) : Int) - 1) = j := by omega
      rw [i1]
      have i2 : ((j : Int) < (n : Int) - 1) := by omega
      have i3 : (0 : Int) ≤ (j : Int) := by omega
      go_wp2_with (at_builtin; go_must (refine app_int wr rfl _ _ rfl w.heap.size _ _ _ _ _ rfl hown rfl (by omega) (by omega) ?_); intro a2 c2 w2 hown2 hgr2 hsz2)
      have hown3 : Own w2 w.heap.size a2 (j + 1 + 1) c2 (tab (pwI r) (j + 1 + 1)) := by
        show Own _ _ _ _ _ (tab (pwI r) (j + 1) ++ [pwI r (j + 1)])
        rw [HPS.out]; exact hown2
      go_roundw
      case rel => exact ⟨j + 1 + 1, a2, c2, by omega, by omega, by go_num, rfl, hown3, below_app hbl hgr2 hown (Nat.le_refl _) (by omega), by omega⟩
      case measure => simp [lenOf]; omega
    · obtain rfl : m = n := by omega
      obtain ⟨wp, rfl⟩ : ∃ wp : World, wp = wr := ⟨_, rfl⟩
      obtain ⟨bp, op, rfl, hbbp, hcp⟩ := (hown.row (by omega)).at (by omega)
      obtain ⟨bx, ox, rfl, hbbx, hcx⟩ := h.at (by omega)
      have HP := Lib.hid hcp
      have HX := Lib.hid hcx
      clear hcp hcx
      go_wp2_with fail
      go_loopw [6, 33] (fun v u wr => ∃ (k : Nat) (a1 : Option Addr) (c1 : Nat), k ≤ m ∧ u = .int .i64 k ∧ v = .slice a1 k c1 ∧ Own wr wp.heap.size a1 k c1 (tab (wvAt r (el xs) m) k) ∧ Below wp.heap.size wp wr ∧ wp.heap.size + 1 ≤ wr.heap.size) (fun v _ _ => m - lenOf v)
      case atStart => exact ⟨0, _, 0, Nat.zero_le _, rfl, rfl, own_empty wp, (Below.refl _ _).alloc (Nat.le_refl _) _, by simp⟩
      case round =>
        obtain ⟨k, a2, c2, hk, rfl, rfl, hown2, hbl2, hsz2⟩ := hrel
        have hblw : Below w.heap.size w wr := hbl.trans (hbl2.mono (by omega))
        by_cases hkn : k < m
        · go_wp2_with fail
          obtain ⟨wo, rfl⟩ : ∃ wo : World, wo = wr := ⟨_, rfl⟩
          go_loop [8, 38] (fun s u => ∃ i : Nat, i ≤ m ∧ u = .int .i64 i ∧ s = .int .i64 (wsm r (el xs) m k i)) (fun _ u => m - (intOf u).toNat)
          case atStart => exact ⟨0, Nat.zero_le _, rfl, rfl⟩
          case round =>
            obtain ⟨i, hi, rfl, rfl⟩ := hrel
            by_cases hin : i < m
            · have n : Nat := m
              obtain ⟨n, hnm⟩ : ∃ n, n = m := ⟨_, rfl⟩
              subst hnm
              have hxb := hbd.out i hin
              have hik := Nat.mul_le_mul (show i ≤ 96 by omega) (show k ≤ 96 by omega)
              have hikc : ((i * k : Nat) : Int) = (i : Int) * (k : Int) := Int.natCast_mul _ _
              have hikm : ((i * k % n : Nat) : Int) = (i : Int) * (k : Int) % (n : Int) := by simp
              have hmlt := Nat.mod_lt (i * k) (show 0 < n by omega)
              have f1 : 0 ≤ (i : Int) * (k : Int) ∧ (i : Int) * (k : Int) ≤ 9216 := by omega
              have f2 : 0 ≤ (i : Int) * (k : Int) % (n : Int) := by omega
              have f3 : (i : Int) * (k : Int) % (n : Int) < n := by omega
              have f4 : ((i : Int) * (k : Int) % (n : Int)).toNat = i * k % n := by omega
              have hsb := @wsm_bd r (el xs) n k i (fun t ht => hbd.out t (by omega))
              have hss : wsm r (el xs) n k (i + 1) = wsm r (el xs) n k i + el xs i * pwI r (i * k % n) := rfl
              have hpb := pwI_bd r (i * k % n)
              have hc1 := HX.out wo hblw i hin
              have hc2 := HP.out wo hbl2 (i * k % n) hmlt
              rw [el_tab hmlt] at hc2
              have HSS := Lib.hid hss
              clear hss hik hikc
              have hxp := mul96 hxb hpb
              go_wp2_with fail
              go_round
              case rel => exact ⟨i + 1, by omega, by go_num, by rw [HSS.out]⟩
              case measure => simp [intOf]; omega
            · obtain rfl : i = m := by omega
              have hsb := @wsm_bd r (el xs) i k i hbd.out
              go_wp2_with (at_builtin; go_must (refine app_int wo rfl _ _ rfl wp.heap.size _ _ _ _ _ rfl hown2 rfl (by omega) (by omega) ?_); intro a3 c3 w3 hown3 hgr3 hsz3)
              go_roundw
              case rel => exact ⟨k + 1, a3, c3, by omega, by go_num, rfl, hown3, below_app hbl2 hgr3 hown2 (Nat.le_refl _) (by omega), by omega⟩
              case measure => simp [lenOf]; omega
        · obtain rfl : k = m := by omega
          go_wp2_with fail
          go_ret
          exact Fresh.mk (hown2.mono (by omega)) hblw
theorem raise_at (w : World) (x : Nat) (e : Int) (m : Nat) (he : e = (m : Int)) (hx : x ≤ 96) (hn : m ≤ 10000) :
    Calls Tryz.prog 73 #[.int .i64 x, .int .i64 e] w fun e w' => e = .returned (.int .i64 (pwI x m)) ∧ w = w' := by
  subst he; exact raise_any w x m hx hn
set_option maxHeartbeats 1600000 in
theorem swave_any (w : World) (a : Option Addr) (n c : Nat) (xs : List Int) (r : Nat) (h : Row w a n c xs) (hn1 : 1 ≤ n) (hn : n ≤ 96) (hr : r ≤ 96) (hb : ∀ i, i < n → 0 ≤ el xs i ∧ el xs i < 97) :
    Calls Tryz.prog 49 #[.slice a n c, .int .i64 r] w fun e w' => Fresh w w' e n (wvL r xs n) := by
  have hbd := Lib.hid hb
  clear hb
  go_enter Tryz.func49, Tryz.ntmps49
  go_wp2_with fail
  go_loopw [5, 6] (fun v u wr => ∃ (k : Nat) (a1 : Option Addr) (c1 : Nat), k ≤ n ∧ u = .int .i64 k ∧ v = .slice a1 k c1 ∧ Own wr w.heap.size a1 k c1 (tab (wvAt r (el xs) n) k) ∧ Below w.heap.size w wr ∧ w.heap.size + 1 ≤ wr.heap.size) (fun v _ _ => n - lenOf v)
  case atStart => exact ⟨0, _, 0, Nat.zero_le _, rfl, rfl, own_empty w, (Below.refl _ _).alloc (Nat.le_refl _) _, by simp⟩
  case round =>
    obtain ⟨k, a1, c1, hk, rfl, rfl, hown, hbl, hsz⟩ := hrel
    by_cases hlt : k < n
    · obtain ⟨bx, ox, rfl, hbbx, hcx⟩ := h.at (by omega)
      have HX := Lib.hid hcx
      clear hcx
      go_wp2_with fail
      obtain ⟨wo, rfl⟩ : ∃ wo : World, wo = wr := ⟨_, rfl⟩
      go_loopw [7, 8] (fun s u wr => ∃ i : Nat, i ≤ n ∧ u = .int .i64 i ∧ s = .int .i64 (wsm r (el xs) n k i % 97) ∧ Below wo.heap.size wo wr) (fun _ u _ => n - (intOf u).toNat)
      case atStart => exact ⟨0, Nat.zero_le _, rfl, rfl, Below.refl _ _⟩
      case round =>
        obtain ⟨i, hi, rfl, rfl, hbl5⟩ := hrel
        have hbl6 := hbl.trans (hbl5.mono (by omega))
        by_cases hin : i < n
        · have hxb := hbd.out i hin
          have hik := Nat.mul_le_mul (show i ≤ 96 by omega) (show k ≤ 96 by omega)
          have hikc : ((i * k : Nat) : Int) = (i : Int) * (k : Int) := Int.natCast_mul _ _
          have hikm : ((i * k % n : Nat) : Int) = (i : Int) * (k : Int) % (n : Int) := by simp
          have hmlt := Nat.mod_lt (i * k) (show 0 < n by omega)
          have f1 : 0 ≤ (i : Int) * (k : Int) ∧ (i : Int) * (k : Int) ≤ 9216 := by omega
          have f2 : 0 ≤ (i : Int) * (k : Int) % (n : Int) := by omega
          have f3 : (i : Int) * (k : Int) % (n : Int) < n := by omega
          have f4 : ((i : Int) * (k : Int) % (n : Int)).toNat = i * k % n := by omega
          have hsb := @wsm_bd r (el xs) n k i (fun t ht => hbd.out t (by omega))
          have hss : wsm r (el xs) n k (i + 1) = wsm r (el xs) n k i + el xs i * pwI r (i * k % n) := rfl
          have hpb := pwI_bd r (i * k % n)
          have hc1 := HX.out wr hbl6 i hin
          have hse : wsm r (el xs) n k (i + 1) % 97 = (wsm r (el xs) n k i % 97 + el xs i * pwI r (i * k % n)) % 97 := by rw [hss, Int.emod_add_emod]
          have HSE := Lib.hid hse
          have hs97 : 0 ≤ wsm r (el xs) n k i % 97 ∧ wsm r (el xs) n k i % 97 < 97 := by omega
          clear hse hss hik hikc hsb
          have hxp := mul96 hxb hpb
          have i0 : (0 : Int) ≤ (i : Int) := by omega
          have i1 : (i : Int) < n := by omega
          have i5 : IntKind.i64.wrap (el xs i * pwI r (i * k % n)) = el xs i * pwI r (i * k % n) := IntWalk.i64_in _ (by omega)
          have i6 : IntKind.i64.wrap (wsm r (el xs) n k i % 97 + el xs i * pwI r (i * k % n)) = wsm r (el xs) n k i % 97 + el xs i * pwI r (i * k % n) := IntWalk.i64_in _ (by omega)
          have i7 : IntKind.i64.wrap ((i : Int) * (k : Int)) = (i : Int) * (k : Int) := IntWalk.i64_in _ (by omega)
          go_wp2_with fail
          go_quiet (first | (go_at_call 73; exact quiet_same (raise_at _ r _ (i * k % n) hikm.symm hr (by omega))) | (go_at_call 72; exact quiet_same (mod_any _ _ (by omega) (by omega))))
          clear i5 i6 i7
          go_wp2_with fail
          go_roundw
          case rel => exact ⟨i + 1, by omega, by go_num, by rw [HSE.out], bdrewN hbl5 _⟩
          case measure => simp [intOf]; omega
        · obtain rfl : i = n := by omega
          have hown5 := hown.below hbl5
          have hsz5 := hbl5.size
          go_wp2_with (at_builtin; go_must (refine app_int wr rfl _ _ rfl w.heap.size _ _ _ _ _ rfl hown5 rfl (by omega) (by omega) ?_); intro a2 c2 w2 hown2 hgr2 hsz2)
          go_roundw
          case rel => exact ⟨k + 1, a2, c2, by omega, by go_num, rfl, hown2, below_app hbl6 hgr2 hown5 (Nat.le_refl _) (by omega), by omega⟩
          case measure => simp [lenOf]; omega
    · obtain rfl : k = n := by omega
      go_wp2_with fail
      go_ret
      exact Fresh.mk hown hbl
end Go.Proofs.YtmfffmipnbdpjaaGreatDoor
