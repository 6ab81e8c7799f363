/-
  The laws of HalveOf, HalveAll.
-/
import Derived.Test.YtbaamhniffpnpaaPHalve
import Derived.Test.YtbaamhniffpnpaaLHalve
namespace Go.Proofs.Ytbaamhniffpnpaa
open Go.RowKit

set_option maxRecDepth 100000 in
set_option maxHeartbeats 3200000 in
theorem law_HalveOf (w : World) (a : Option Addr) (n c : Nat) (h : Bts w a n w.heap.size) (hnc : n ≤ c) :
    Calls Try.prog 8 #[.slice a n c] w fun e w' => Says w w' e true := by
  by_cases hbig : 1048576 < n
  · go_enter Try.func8, Try.ntmps8
    go_wp2
    go_ret
    exact ⟨rfl, Below.refl _ _⟩
  go_enter Try.func8, Try.ntmps8
  go_wp2_with fail
  refine (DrawHalveOf_any w a n c h hnc (by omega)).mono ?_
  rintro e w1 ⟨a1, m, c1, xs, rfl, hm, hown, hbl⟩
  have hrow := hown.row (by omega)
  have hlen : Hid (xs.length = m) := hrow.len
  obtain ⟨ys, hys⟩ : ∃ ys, ys = halfR xs := ⟨_, rfl⟩
  obtain ⟨k, hk⟩ : ∃ k, k = ys.length := ⟨_, rfl⟩
  have hk1 : k ≤ 1000 := by rw [hk, hys]; exact halfR_len xs
  have HI : Hid (∀ w a c, Row w a m c xs → Calls Try.prog 30 #[.slice a m c] w fun e w' => Fresh w w' e k ys) := by
    intro w a c h; rw [hk, hys]; exact HalveOf_all w a m c xs h
  have HS : Hid (∀ w a c, Row w a m c xs → Calls Try.prog 32 #[.slice a m c] w fun e w' => Fresh w w' e k ys) := by
    intro w a c h; rw [hk, hys]; exact sHalveOf_all w a m c xs h
  have HYS := Lib.hid hys
  have HK := Lib.hid hk
  clear hys hk
  go_wp2_with fail
  refine (HI.out w1 a1 c1 hrow).mono ?_
  rintro e w2 ⟨a2, c2, rfl, hown2, hb2⟩
  have hbl2 := bstep hbl hb2
  have hrow2 := hrow.below hb2
  go_wp2_with fail
  refine (HS.out w2 a1 c1 hrow2).mono ?_
  rintro e w3 ⟨a3, c3, rfl, hown3, hb3⟩
  have hbl3 := bstep hbl2 hb3
  have hrow3 := hrow2.below hb3
  have hr3 := (hown2.below hb3).row (by omega)
  go_wp2_with fail
  refine (equalInts_any_eq w3 a2 a3 k k c2 c3 _ _ hr3 (hown3.row (by omega)) rfl).mono ?_
  rintro e w4 ⟨rfl, hb4⟩
  have hbl4 := bstep hbl3 hb4
  have hrow4 := hrow3.below hb4
  have hr4 := hr3.below hb4
  clear hown hown2 hown3 hb2 hb3 hb4 hrow hrow2 hrow3 hr3 hbl hbl2 hbl3
  by_cases hk0 : k = 0
  · have hkb : ((k : Int) == 0) = true := by simp; omega
    clear hk0
    go_wp2_with fail
    refine (HS.out w4 a1 c1 hrow4).mono ?_
    rintro e w5 ⟨a5, c5, rfl, hown5, hb5⟩
    go_wp2_with fail
    refine (equalInts_any_eq w5 a2 a5 k k c2 c5 _ _ (hr4.below hb5) (hown5.row (by omega)) rfl).mono ?_
    rintro e w6 ⟨rfl, hb6⟩
    go_wp2_with fail
    go_ret
    exact ⟨ret_bool rfl, bstep (bstep hbl4 hb5) hb6⟩
  have hkb : ((k : Int) == 0) = false := by simp; omega
  have hv := evenR_pos (xs := xs) (L := halveL) (k := k) (by rw [HK.out, HYS.out]; rfl) hk0
  obtain ⟨t, h1, h2, h16, hvx⟩ := even_two hv hlen.out
  have hkm : k = m := by rw [HK.out, HYS.out, halfR, if_pos hv, h2, halveL, tab_length, h1]
  have HB : Hid (valid ys = true → unhalfR ys = xs) := fun hy => unhalf_back hlen.out HYS.out hv hy
  have hY : ys = halveL xs t := by rw [HYS.out, halfR, if_pos hv, h2]
  have HY1 : Hid (∀ i, i < t → el ys i = el xs (2 * i) + (el xs (2 * i + 1) - el xs (2 * i)) / 2) := fun i hi => by rw [hY, halveL, el_tab (by omega), hvAt, if_pos hi]
  have HY2 : Hid (∀ i, i < t → el ys (t + i) = el xs (2 * i + 1) - el xs (2 * i)) := fun i hi => by rw [hY, halveL, el_tab (by omega), hvAt, if_neg (by omega), show t + i - t = i by omega]
  have hbd : Hid (∀ i, i < m → -1000 ≤ el xs i ∧ el xs i ≤ 1000) := fun i hi => valid_bd hvx (by rw [hlen.out]; exact hi)
  have hm2 : 2 * t ≤ m := by omega
  have hm3 : m ≤ 2 * t := by omega
  have hmh : (m : Int) / 2 = t := by omega
  clear hv h2 hY h1
  subst hkm
  go_wp2_with fail
  go_loopw [6] (fun u wr => ∃ j : Nat, j ≤ t ∧ u = .int .i64 j ∧ Below w4.heap.size w4 wr) (fun u _ => t - (intOf u).toNat)
  case atStart => exact ⟨0, Nat.zero_le _, rfl, Below.refl _ _⟩
  case round =>
    obtain ⟨j, hj, rfl, hblr⟩ := hrel
    by_cases hjt : j < t
    · obtain ⟨b, off, rfl, _, hcx⟩ := (hrow4.below hblr).cell (2 * j) (by omega)
      obtain ⟨b2, off2, rfl, _, hcy⟩ := (hr4.below hblr).cell j (by omega)
      have e0 := hcx (2 * j) (by omega)
      have e1 := hcx (2 * j + 1) (by omega)
      have d0 := hcy j (by omega)
      have d1 := hcy (t + j) (by omega)
      rw [HY1.out j hjt] at d0
      rw [HY2.out j hjt] at d1
      clear hcx hcy
      have q0 := hbd.out (2 * j) (by omega)
      have q1 := hbd.out (2 * j + 1) (by omega)
      have i1 : (0 : Int) ≤ 2 * (j : Int) := by omega
      have i2 : 2 * (j : Int) < k := by omega
      have i3 : (0 : Int) ≤ 2 * (j : Int) + 1 := by omega
      have i4 : 2 * (j : Int) + 1 < k := by omega
      have i5 : (2 * (j : Int)).toNat = 2 * j := by omega
      have i6 : (2 * (j : Int) + 1).toNat = 2 * j + 1 := by omega
      have i7 : (0 : Int) ≤ (j : Int) := by omega
      have i8 : (j : Int) < k := by omega
      have i9 : (0 : Int) ≤ (t : Int) + j := by omega
      have i10 : (t : Int) + j < k := by omega
      have i11 : ((t : Int) + j).toNat = t + j := by omega
      generalize el xs (2 * j) = X at *
      generalize el xs (2 * j + 1) = Y at *
      have k1 : decide (X + Y < 2 * (X + (Y - X) / 2)) = false := decide_eq_false (by omega)
      have k2 : decide (2 * (X + (Y - X) / 2) + 1 < X + Y) = false := decide_eq_false (by omega)
      have j1 : IntKind.i64.wrap (2 * (j : Int)) = 2 * (j : Int) := IntWalk.i64_in _ (by omega)
      have j2 : IntKind.i64.wrap (2 * (j : Int) + 1) = 2 * (j : Int) + 1 := IntWalk.i64_in _ (by omega)
      have j3 : IntKind.i64.wrap ((t : Int) + j) = (t : Int) + j := IntWalk.i64_in _ (by omega)
      have j4 : IntKind.i64.wrap (Y - X) = Y - X := IntWalk.i64_in _ (by omega)
      have j5 : IntKind.i64.wrap (2 * (X + (Y - X) / 2)) = 2 * (X + (Y - X) / 2) := IntWalk.i64_in _ (by omega)
      have j6 : IntKind.i64.wrap (2 * (X + (Y - X) / 2) + 1) = 2 * (X + (Y - X) / 2) + 1 := IntWalk.i64_in _ (by omega)
      have j7 : IntKind.i64.wrap (X + Y) = X + Y := IntWalk.i64_in _ (by omega)
      go_wp2_with fail
      go_quiet (fail)
      clear j1 j2 j3 j4 j5 j6 j7
      go_wp2_with fail
      go_roundw
      case rel => exact ⟨j + 1, by omega, by go_num, bdrewN hblr _⟩
      case measure => simp [intOf]; omega
    · obtain rfl : j = t := by omega
      have hbl5 := bstep hbl4 hblr
      have hrow5 := hrow4.below hblr
      have hr5 := hr4.below hblr
      clear hrow4 hr4 hbl4 hblr
      cases hvy : valid ys
      · go_wp2_with fail
        refine (ValidRow_is wr _ _ _ ys false hr5 hvy).mono ?_
        rintro e w' ⟨rfl, rfl⟩
        go_wp2_with fail
        go_ret
        exact ⟨ret_bool (by simp), hbl5⟩
      · have hvY := Lib.hid hvy
        go_wp2_with fail
        refine (ValidRow_is wr _ _ _ ys true hr5 hvy).mono ?_
        rintro e w' ⟨rfl, rfl⟩
        clear hvy
        have hRb : (unhalfR ys).length ≤ 1000 := unhalfR_len ys
        go_wp2_with fail
        refine (UnhalveOf_all wr _ _ _ ys hr5).mono ?_
        rintro e w5 ⟨a5, c5, rfl, hown5, hb5⟩
        go_wp2_with fail
        refine (equalInts_any_eq w5 a5 _ _ _ c5 _ _ _ (hown5.row (by omega)) (hrow5.below hb5) (HB.out hvY.out)).mono ?_
        rintro e w6 ⟨rfl, hb6⟩
        go_wp2_with fail
        go_ret
        exact ⟨ret_bool (by simp), bstep (bstep hbl5 hb5) hb6⟩
theorem Hd_range {f : Nat → Int} {N : Nat} {lo hi : Int} (h : ∀ i, i < N → lo ≤ f i ∧ f i ≤ hi) (d : Nat) : ∀ j, p2 (j + d) ≤ N → ∀ i, i < p2 j → lo ≤ Hd d j f i ∧ Hd d j f i ≤ hi := by
  induction d with
  | zero => intro j hj i hi; exact h i (by rw [Nat.add_zero] at hj; omega)
  | succ d ih =>
    intro j hj i hi
    have ih' := ih (j + 1) (by rw [show j + 1 + d = j + (d + 1) by omega]; exact hj)
    rw [p2_succ] at ih'
    have h1 := ih' (2 * i) (by omega)
    have h2 := ih' (2 * i + 1) (by omega)
    rw [Hd, hst, if_pos (by omega), hvAt, if_pos hi]
    omega
set_option maxRecDepth 100000 in
set_option maxHeartbeats 3200000 in
theorem law_HalveAll (w : World) (a : Option Addr) (n c : Nat) (h : Bts w a n w.heap.size) (hnc : n ≤ c) :
    Calls Try.prog 12 #[.slice a n c] w fun e w' => Says w w' e true := by
  by_cases hbig : 1048576 < n
  · go_enter Try.func12, Try.ntmps12
    go_wp2
    go_ret
    exact ⟨rfl, Below.refl _ _⟩
  go_enter Try.func12, Try.ntmps12
  go_wp2_with fail
  refine (DrawHalveAll_any w a n c h hnc (by omega)).mono ?_
  rintro e w1 ⟨a1, m, c1, xs, rfl, hm, hown, hbl⟩
  have hrow := hown.row (by omega)
  have hlen : Hid (xs.length = m) := hrow.len
  obtain ⟨ys, hys⟩ : ∃ ys, ys = hallR xs := ⟨_, rfl⟩
  obtain ⟨k, hk⟩ : ∃ k, k = ys.length := ⟨_, rfl⟩
  have hk1 : k ≤ 1000 := by rw [hk, hys]; exact hallR_len xs
  have HI : Hid (∀ w a c, Row w a m c xs → Calls Try.prog 22 #[.slice a m c] w fun e w' => Fresh w w' e k ys) := by
    intro w a c h; rw [hk, hys]; exact HalveAll_all w a m c xs h
  have HS : Hid (∀ w a c, Row w a m c xs → Calls Try.prog 21 #[.slice a m c] w fun e w' => Fresh w w' e k ys) := by
    intro w a c h; rw [hk, hys]; exact sHalveAll_all w a m c xs h
  have HYS := Lib.hid hys
  have HK := Lib.hid hk
  clear hys hk
  go_wp2_with fail
  refine (HI.out w1 a1 c1 hrow).mono ?_
  rintro e w2 ⟨a2, c2, rfl, hown2, hb2⟩
  have hbl2 := bstep hbl hb2
  have hrow2 := hrow.below hb2
  go_wp2_with fail
  refine (HS.out w2 a1 c1 hrow2).mono ?_
  rintro e w3 ⟨a3, c3, rfl, hown3, hb3⟩
  have hbl3 := bstep hbl2 hb3
  have hrow3 := hrow2.below hb3
  have hr3 := (hown2.below hb3).row (by omega)
  go_wp2_with fail
  refine (equalInts_any_eq w3 a2 a3 k k c2 c3 _ _ hr3 (hown3.row (by omega)) rfl).mono ?_
  rintro e w4 ⟨rfl, hb4⟩
  have hbl4 := bstep hbl3 hb4
  have hrow4 := hrow3.below hb4
  have hr4 := hr3.below hb4
  clear hown hown2 hown3 hb2 hb3 hb4 hrow hrow2 hrow3 hr3 hbl hbl2 hbl3
  by_cases hk0 : k = 0
  · have hkb : ((k : Int) == 0) = true := by simp; omega
    clear hk0
    go_wp2_with fail
    refine (HS.out w4 a1 c1 hrow4).mono ?_
    rintro e w5 ⟨a5, c5, rfl, hown5, hb5⟩
    go_wp2_with fail
    refine (equalInts_any_eq w5 a2 a5 k k c2 c5 _ _ (hr4.below hb5) (hown5.row (by omega)) rfl).mono ?_
    rintro e w6 ⟨rfl, hb6⟩
    go_wp2_with fail
    go_ret
    exact ⟨ret_bool rfl, bstep (bstep hbl4 hb5) hb6⟩
  have hkb : ((k : Int) == 0) = false := by simp; omega
  have hv := cubeR_pos (xs := xs) (L := hallL) (k := k) (by rw [HK.out, HYS.out]; rfl) hk0
  obtain ⟨kk, h1, h2, h3, hbd0⟩ := cube_kk hv hlen.out
  have hkm : k = m := by rw [HK.out, HYS.out, hallR, if_pos hv, hlen.out, ← h1, hallL, tab_length, h2]
  have HB : Hid (valid ys = true → uallR ys = xs) := fun hy => uall_back hlen.out HYS.out hv hy
  have hm16 : m ≤ 16 := by rw [h2]; exact p2_16 h3
  have HR : Hid (∀ lo hi, (∀ i, i < m → lo ≤ el xs i ∧ el xs i ≤ hi) → lo ≤ el ys 0 ∧ el ys 0 ≤ hi) := fun lo hi hh => by
    have hp := p2_pos kk
    have := @Hd_range (el xs) m lo hi hh kk 0 (by rw [Nat.zero_add, h2]; exact Nat.le_refl _) 0 (by decide)
    rw [HYS.out, hallR, if_pos hv, hlen.out, ← h1, hallL, el_tab hp]
    exact this
  have hbd := Lib.hid hbd0
  clear hv h1 h2 h3 hbd0
  subst hkm
  have hk1 : 0 < k := by omega
  obtain ⟨b, off, rfl, _, hcx⟩ := hrow4.cell 0 hk1
  have e0 : w4.cell? ⟨b, off, none⟩ = some (.int .i64 (el xs 0)) := hcx 0 hk1
  have HCX := Lib.hid hcx
  clear hcx hk0
  have q0 := hbd.out 0 hk1
  go_wp2_with fail
  go_loop [5, 6, 7] (fun l m u => ∃ (t : Nat) (lo hi : Int), 1 ≤ t ∧ t ≤ k ∧ u = .int .i64 t ∧ l = .int .i64 lo ∧ m = .int .i64 hi ∧ Hid (∀ i, i < t → lo ≤ el xs i ∧ el xs i ≤ hi) ∧ -1000 ≤ lo ∧ lo ≤ 1000 ∧ -1000 ≤ hi ∧ hi ≤ 1000) (fun _ _ u => k - (intOf u).toNat)
  case atStart => exact ⟨1, _, _, Nat.le_refl _, hk1, rfl, rfl, rfl, (fun i h0 => by have e : i = 0 := (by omega); rw [e]; exact ⟨Int.le_refl _, Int.le_refl _⟩), by omega, by omega, by omega, by omega⟩
  case round =>
    obtain ⟨t, lo, hi, ht1, htk, rfl, rfl, rfl, HT, hl1, hl2, hh1, hh2⟩ := hrel
    by_cases hlt : t < k
    · have e1 := HCX.out t hlt
      have q1 := hbd.out t hlt
      go_wp2_with fail
      go_roundw
      case rel =>
        refine ⟨t + 1, _, _, by omega, by omega, by go_num, rfl, rfl, fun i h0 => ?_, ?_, ?_, ?_, ?_⟩
        · by_cases e : i = t
          · subst e; constructor <;> split <;> omega
          · have := HT.out i (by omega); constructor <;> split <;> omega
        all_goals (split <;> omega)
      case measure => simp [intOf]; omega
    · obtain rfl : t = k := by omega
      obtain ⟨b2, off2, rfl, _, hcy⟩ := hr4.cell 0 hk1
      have d0 : w4.cell? ⟨b2, off2, none⟩ = some (.int .i64 (el ys 0)) := hcy 0 hk1
      have hrg := HR.out lo hi HT.out
      clear hcy e0 q0
      cases hvy : valid ys
      · go_wp2_with fail
        refine (ValidRow_is w4 _ _ _ ys false hr4 hvy).mono ?_
        rintro e w' ⟨rfl, rfl⟩
        go_wp2_with fail
        go_ret
        exact ⟨ret_bool (by simp), hbl4⟩
      · have hvY := Lib.hid hvy
        go_wp2_with fail
        refine (ValidRow_is w4 _ _ _ ys true hr4 hvy).mono ?_
        rintro e w' ⟨rfl, rfl⟩
        clear hvy
        have hRb : (uallR ys).length ≤ 1000 := uallR_len ys
        go_wp2_with fail
        refine (UnhalveAll_all w4 _ _ _ ys hr4).mono ?_
        rintro e w5 ⟨a5, c5, rfl, hown5, hb5⟩
        go_wp2_with fail
        refine (equalInts_any_eq w5 a5 _ _ _ c5 _ _ _ (hown5.row (by omega)) (hrow4.below hb5) (HB.out hvY.out)).mono ?_
        rintro e w6 ⟨rfl, hb6⟩
        go_wp2_with fail
        go_ret
        exact ⟨ret_bool (by simp), bstep (bstep hbl4 hb5) hb6⟩
end Go.Proofs.Ytbaamhniffpnpaa
