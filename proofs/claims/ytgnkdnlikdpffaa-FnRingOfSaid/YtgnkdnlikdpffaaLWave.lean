/-
  The laws of SpreadOf, UnwaveOf, TurnOf.
-/
import Derived.Test.YtgnkdnlikdpffaaWSpr
import Derived.Test.YtgnkdnlikdpffaaWDraw
import Derived.Test.YtgnkdnlikdpffaaExact
namespace Go.Proofs.Ytgnkdnlikdpffaa
open Go.RowKit

theorem tab_rests {f : Nat → Int} {n : Nat} (h : dv n = true) (hb : ∀ i, i < n → 0 ≤ f i ∧ f i < 97) : rests (tab f n) = true :=
  rests_iff.2 ⟨by rw [tab_length]; exact h, fun i hi => by rw [tab_length] at hi; rw [el_tab hi]; exact hb i hi⟩
theorem spA_bd (xs : List Int) : -1 ≤ spA xs ∧ spA xs ≤ 96 := by
  unfold spA
  split
  · rename_i h; have h1 := rests_len h rfl; have h2 := nz_bd (el xs) xs.length; omega
  · omega
theorem spB_bd (xs : List Int) : -1 ≤ spB xs ∧ spB xs ≤ 96 := by
  unfold spB
  split
  · rename_i h; have h1 := rests_len h rfl; have h2 := nz_bd (wvAt (rootN xs.length) (el xs) xs.length) xs.length; omega
  · omega
theorem sp_spread (xs : List Int) : (spA xs < 0) ∨ ((spA xs = 0 ∧ spB xs = 0) ∨ (xs.length : Int) ≤ spA xs * spB xs) := by
  unfold spA spB
  cases hv : rests xs
  · left; simp
  · right
    have h1 := rests_iff.1 hv
    exact spread h1.1 (el xs) h1.2
theorem unwave_all {xs ys : List Int} (hv : rests xs = true) (hy : ys = uwR xs) : rests ys = true ∧ wvR ys = xs := by
  obtain ⟨hd, hb⟩ := rests_iff.1 hv
  have hys : ys = tab (uwAt (el xs) xs.length) xs.length := by rw [hy, uwR, if_pos hv]
  have hr : rests ys = true := by rw [hys]; exact tab_rests hd fun i _ => uwAt_bd _ _ _
  have hl : ys.length = xs.length := by rw [hys, tab_length]
  refine ⟨hr, ?_⟩
  rw [wvR, if_pos hr, hl, wvL]
  apply el_ext
  · rw [tab_length]
  · intro i hi
    rw [tab_length] at hi
    rw [el_tab hi, wv_congr (g := uwAt (el xs) xs.length) fun j hj => by rw [hys, el_tab hj], unwave_back hd _ hi]
    have := hb i hi; omega
theorem wave_all {xs ys : List Int} (hv : rests xs = true) (hy : ys = wvR xs) : rests ys = true ∧ uwR ys = xs := by
  obtain ⟨hd, hb⟩ := rests_iff.1 hv
  have hys : ys = wvL (rootN xs.length) xs xs.length := by rw [hy, wvR, if_pos hv]
  have hr : rests ys = true := by rw [hys, wvL]; exact tab_rests hd fun i _ => wvAt_bd _ _ _ _
  have hl : ys.length = xs.length := by rw [hys, wvL, tab_length]
  refine ⟨hr, ?_⟩
  rw [uwR, if_pos hr, hl]
  apply el_ext
  · rw [tab_length]
  · intro i hi
    rw [tab_length] at hi
    have e : uwAt (el ys) xs.length i = uwAt (wvAt (rootN xs.length) (el xs) xs.length) xs.length i := by
      unfold uwAt
      rw [wv_congr (g := wvAt (rootN xs.length) (el xs) xs.length) fun j hj => by rw [hys, wvL, el_tab hj]]
    rw [el_tab hi, e, wave_back hd _ hi]
    have := hb i hi; omega
theorem wvR_pos {xs : List Int} {k : Nat} (hk : k = (wvR xs).length) (h0 : ¬ k = 0) : rests xs = true := by
  cases hv : rests xs with
  | true => rfl
  | false => rw [wvR, hv] at hk; exact absurd hk h0
theorem uwR_pos {xs : List Int} {k : Nat} (hk : k = (uwR xs).length) (h0 : ¬ k = 0) : rests xs = true := by
  cases hv : rests xs with
  | true => rfl
  | false => rw [uwR, hv] at hk; exact absurd hk h0

set_option maxHeartbeats 1600000 in
theorem law_FnExactSpreadOf (w : World) (a : Option Addr) (n c : Nat) (xs : List Int) (hR : n ≤ 1125899906842624 → Row w a n c xs) (hM : n ≤ 9223372036854775807) :
    Calls Try.prog 4 #[.slice a n c] w fun e w' => Says w w' e true := by
  by_cases hbig : 1048576 < n
  · clear hR
    go_enter Try.func4, Try.ntmps4
    go_wp2
    go_ret
    exact ⟨rfl, Below.refl _ _⟩
  have hrow := hR (by omega)
  clear hR
  go_enter Try.func4, Try.ntmps4
  go_wp2_with fail
  refine (toIntS_any w a n c xs hrow (by omega)).mono ?_
  rintro e w1 ⟨a1, c1, rfl, own1, b1⟩
  go_wp2_with fail
  refine (sSpreadOf_all w1 a1 n c1 xs (own1.row (by omega))).mono ?_
  rintro e w2 ⟨rfl, b2⟩
  have l2 := bstep b1 b2
  go_wp2_with fail
  refine (toIntS_any w2 a n c xs (hrow.below l2) (by omega)).mono ?_
  rintro e w3 ⟨a3, c3, rfl, own3, b3⟩
  have l3 := bstep l2 b3
  go_wp2_with fail
  refine (SpreadOf_all w3 a3 n c3 xs (own3.row (by omega))).mono ?_
  rintro e w4 ⟨rfl, b4⟩
  have l4 := bstep l3 b4
  have r4 := (own3.below b4).row (by omega)
  have e1 : (spA xs != spA xs) = false := by simp
  have e2 : (spB xs != spB xs) = false := by simp
  go_wp2_with fail
  refine (toIntS_any w4 a n c xs (hrow.below l4) (by omega)).mono ?_
  rintro e w5 ⟨a5, c5, rfl, own5, b5⟩
  have l5 := bstep l4 b5
  go_wp2_with fail
  refine (eqIntS_any_eq w5 a3 a5 n n c3 c5 _ _ (r4.below b5) (own5.row (by omega)) rfl).mono ?_
  rintro e w6 ⟨rfl, b6⟩
  go_wp2_with fail
  go_ret
  exact ⟨ret_bool (by simp), bstep l5 b6⟩
set_option maxHeartbeats 1600000 in
theorem law_SpreadOf (w : World) (a : Option Addr) (n c : Nat) (h : Bts w a n w.heap.size) (hnc : n ≤ c) :
    Calls Try.prog 8 #[.slice a n c] w fun e w' => Says w w' e true := by
  by_cases hbig : 1048576 < n
  · go_enter Try.func8, Try.ntmps8
    go_wp2
    go_ret
    exact ⟨rfl, Below.refl _ _⟩
  go_enter Try.func8, Try.ntmps8
  go_wp2_with fail
  refine (DrawSpreadOf_any w a n c h hnc (by omega)).mono ?_
  rintro e w1 ⟨a1, m, c1, xs, rfl, hm, hown, hbl⟩
  have hrow := hown.row (by omega)
  have hlen : Hid (xs.length = m) := hrow.len
  go_wp2_with fail
  refine (SpreadOf_all w1 a1 m c1 xs hrow).mono ?_
  rintro e w2 ⟨rfl, b2⟩
  have hbl2 := bstep hbl b2
  go_wp2_with fail
  refine (sSpreadOf_all w2 a1 m c1 xs (hrow.below b2)).mono ?_
  rintro e w3 ⟨rfl, b3⟩
  have hbl3 := bstep hbl2 b3
  have hA := spA_bd xs
  have hB := spB_bd xs
  have hS := sp_spread xs
  rw [hlen.out] at hS
  have e1 : (spA xs != spA xs) = false := by simp
  have e2 : (spB xs != spB xs) = false := by simp
  generalize spA xs = A at *
  generalize spB xs = B at *
  have hAB : -96 ≤ A * B ∧ A * B ≤ 9216 := by
    have h1 : (A * B).natAbs ≤ 96 * 96 := by rw [Int.natAbs_mul]; exact Nat.mul_le_mul (by omega) (by omega)
    by_cases ha : 0 ≤ A
    · by_cases hb : 0 ≤ B
      · have := Int.mul_nonneg ha hb; omega
      · have : B = -1 := by omega
        subst this; omega
    · have : A = -1 := by omega
      subst this; omega
  by_cases hneg : A < 0
  · clear hS
    go_wp2_with fail
    go_ret
    exact ⟨ret_bool (by simp), hbl3⟩
  · by_cases hz : A = 0 ∧ B = 0
    · obtain ⟨rfl, rfl⟩ := hz
      clear hS
      go_wp2_with fail
      go_ret
      exact ⟨ret_bool (by simp), hbl3⟩
    · have hle : (m : Int) ≤ A * B := by omega
      clear hS
      by_cases ha : A = 0
      · subst ha
        have hb0 : (B == 0) = false := by simp; omega
        clear hz
        go_wp2_with fail
        go_ret
        exact ⟨ret_bool (by simp <;> omega), hbl3⟩
      · have ha0 : (A == 0) = false := by simp; omega
        clear hz ha
        go_wp2_with fail
        go_ret
        exact ⟨ret_bool (by simp <;> omega), hbl3⟩
set_option maxHeartbeats 1600000 in
theorem law_UnwaveOf (w : World) (a : Option Addr) (n c : Nat) (h : Bts w a n w.heap.size) (hnc : n ≤ c) :
    Calls Try.prog 9 #[.slice a n c] w fun e w' => Says w w' e true := by
  by_cases hbig : 1048576 < n
  · go_enter Try.func9, Try.ntmps9
    go_wp2
    go_ret
    exact ⟨rfl, Below.refl _ _⟩
  go_enter Try.func9, Try.ntmps9
  go_wp2_with fail
  refine (DrawUnwaveOf_any w a n c h hnc (by omega)).mono ?_
  rintro e w1 ⟨a1, m, c1, xs, rfl, hm, hown, hbl⟩
  have hrow := hown.row (by omega)
  have hlen : Hid (xs.length = m) := hrow.len
  obtain ⟨ys, hys⟩ : ∃ ys, ys = uwR xs := ⟨_, rfl⟩
  obtain ⟨k, hk⟩ : ∃ k, k = ys.length := ⟨_, rfl⟩
  have hk1 : k ≤ 1000 := by rw [hk, hys]; exact uwR_len xs
  have HI : Hid (∀ w a c, Row w a m c xs → Calls Try.prog 24 #[.slice a m c] w fun e w' => Fresh w w' e k ys) := by
    intro w a c h; rw [hk, hys]; exact UnwaveOf_all w a m c xs h
  have HS : Hid (∀ w a c, Row w a m c xs → Calls Try.prog 23 #[.slice a m c] w fun e w' => Fresh w w' e k ys) := by
    intro w a c h; rw [hk, hys]; exact sUnwaveOf_all w a m c xs h
  have HYS := Lib.hid hys
  have HK := Lib.hid hk
  clear hys hk
  go_wp2_with fail
  refine (HI.out w1 a1 c1 hrow).mono ?_
  rintro e w2 ⟨a2, c2, rfl, hown2, hb2⟩
  have hbl2 := bstep hbl hb2
  have hrow2 := hrow.below hb2
  go_wp2_with fail
  refine (HS.out w2 a1 c1 hrow2).mono ?_
  rintro e w3 ⟨a3, c3, rfl, hown3, hb3⟩
  have hbl3 := bstep hbl2 hb3
  have hrow3 := hrow2.below hb3
  have hr3 := (hown2.below hb3).row (by omega)
  go_wp2_with fail
  refine (equalInts_any_eq w3 a2 a3 k k c2 c3 _ _ hr3 (hown3.row (by omega)) rfl).mono ?_
  rintro e w4 ⟨rfl, hb4⟩
  have hbl4 := bstep hbl3 hb4
  have hrow4 := hrow3.below hb4
  have hr4 := hr3.below hb4
  clear hown hown2 hown3 hb2 hb3 hb4 hrow hrow2 hrow3 hr3 hbl hbl2 hbl3
  by_cases hk0 : k = 0
  · have hkb : ((k : Int) == 0) = true := by simp; omega
    clear hk0
    go_wp2_with fail
    refine (HS.out w4 a1 c1 hrow4).mono ?_
    rintro e w5 ⟨a5, c5, rfl, hown5, hb5⟩
    go_wp2_with fail
    refine (equalInts_any_eq w5 a2 a5 k k c2 c5 _ _ (hr4.below hb5) (hown5.row (by omega)) rfl).mono ?_
    rintro e w6 ⟨rfl, hb6⟩
    go_wp2_with fail
    go_ret
    exact ⟨ret_bool rfl, bstep (bstep hbl4 hb5) hb6⟩
  have hkb : ((k : Int) == 0) = false := by simp; omega
  have hv := uwR_pos (xs := xs) (k := k) (by rw [HK.out, HYS.out]) hk0
  obtain ⟨hry, hwy⟩ := unwave_all hv HYS.out
  have HWY := Lib.hid hwy
  have hRb : (wvR ys).length ≤ 1000 := wvR_len ys
  clear hv hwy
  go_wp2_with fail
  refine (WaveOf_all w4 _ _ _ ys hr4).mono ?_
  rintro e w5 ⟨a5, c5, rfl, own5, b5⟩
  go_wp2_with fail
  refine (equalInts_any_eq w5 a5 _ _ _ c5 _ _ _ (own5.row (by omega)) (hrow4.below b5) HWY.out).mono ?_
  rintro e w6 ⟨rfl, b6⟩
  have hr6 := (hr4.below b5).below b6
  go_wp2_with fail
  refine (ValidRests_is w6 _ _ _ ys true hr6 hry).mono ?_
  rintro e w' ⟨rfl, rfl⟩
  go_wp2_with fail
  go_ret
  exact ⟨ret_bool (by simp), bstep (bstep hbl4 b5) b6⟩
end Go.Proofs.Ytgnkdnlikdpffaa
