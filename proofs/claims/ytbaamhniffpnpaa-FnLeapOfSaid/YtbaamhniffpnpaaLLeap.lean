/-
  The law of LeapOf.
-/
import Derived.Test.YtbaamhniffpnpaaLHalve
namespace Go.Proofs.Ytbaamhniffpnpaa
open Go.RowKit

theorem leap_steps {f : Nat → Int} {h : Nat} (hs : ∀ i, 2 ≤ i → i < 2 * h → f i - f (i - 1) = f 1 - f 0) : ∀ i, i < 2 * h → f i = f 0 + (i : Int) * (f 1 - f 0) := by
  intro i
  induction i with
  | zero => intro _; simp
  | succ i ih =>
    intro hi
    have h1 := ih (by omega)
    by_cases h0 : i = 0
    · subst h0; simp; omega
    · have h2 := hs (i + 1) (by omega) hi
      rw [show i + 1 - 1 = i by omega] at h2
      have e : ((i + 1 : Nat) : Int) * (f 1 - f 0) = (i : Int) * (f 1 - f 0) + (f 1 - f 0) := by rw [Int.natCast_add, Int.add_mul]; simp
      rw [e]; omega
theorem leap_zero {f : Nat → Int} {h : Nat} (hs : ∀ i, 2 ≤ i → i < 2 * h → f i - f (i - 1) = f 1 - f 0) (j : Nat) (hj : j + 1 < h) : dAt f h j = 0 := by
  have hl := leap_steps hs
  rw [dAt, arr, if_pos hj]
  have a1 := hl (2 * j + 1) (by omega)
  have a2 := hl (2 * j) (by omega)
  have a3 := hl (2 * (j + 1)) (by omega)
  show f (2 * j + 1) - (f (2 * j) + f (2 * (j + 1))) / 2 = 0
  generalize f 1 - f 0 = s at *
  have e1 : ((2 * j + 1 : Nat) : Int) * s = ((2 * j : Nat) : Int) * s + s := by rw [Int.natCast_add, Int.add_mul]; simp
  have e2 : ((2 * (j + 1) : Nat) : Int) * s = ((2 * j : Nat) : Int) * s + 2 * s := by rw [Nat.mul_add, Int.natCast_add, Int.add_mul]; simp
  rw [e1] at a1
  rw [e2] at a3
  omega

set_option maxRecDepth 100000 in
set_option maxHeartbeats 3200000 in
theorem law_LeapOf (w : World) (a : Option Addr) (n c : Nat) (h : Bts w a n w.heap.size) (hnc : n ≤ c) :
    Calls Try.prog 10 #[.slice a n c] w fun e w' => Says w w' e true := by
  by_cases hbig : 1048576 < n
  · go_enter Try.func10, Try.ntmps10
    go_wp2
    go_ret
    exact ⟨rfl, Below.refl _ _⟩
  go_enter Try.func10, Try.ntmps10
  go_wp2_with fail
  refine (DrawLeapOf_any w a n c h hnc (by omega)).mono ?_
  rintro e w1 ⟨a1, m, c1, xs, rfl, hm, hown, hbl⟩
  have hrow := hown.row (by omega)
  have hlen : Hid (xs.length = m) := hrow.len
  obtain ⟨ys, hys⟩ : ∃ ys, ys = leapR xs := ⟨_, rfl⟩
  obtain ⟨k, hk⟩ : ∃ k, k = ys.length := ⟨_, rfl⟩
  have hk1 : k ≤ 1000 := by rw [hk, hys]; exact leapR_len xs
  have HI : Hid (∀ w a c, Row w a m c xs → Calls Try.prog 24 #[.slice a m c] w fun e w' => Fresh w w' e k ys) := by
    intro w a c h; rw [hk, hys]; exact LeapOf_all w a m c xs h
  have HS : Hid (∀ w a c, Row w a m c xs → Calls Try.prog 23 #[.slice a m c] w fun e w' => Fresh w w' e k ys) := by
    intro w a c h; rw [hk, hys]; exact sLeapOf_all w a m c xs h
  have HYS := Lib.hid hys
  have HK := Lib.hid hk
  clear hys hk
  go_wp2_with fail
  refine (HI.out w1 a1 c1 hrow).mono ?_
  rintro e w2 ⟨a2, c2, rfl, hown2, hb2⟩
  have hbl2 := bstep hbl hb2
  have hrow2 := hrow.below hb2
  go_wp2_with fail
  refine (HS.out w2 a1 c1 hrow2).mono ?_
  rintro e w3 ⟨a3, c3, rfl, hown3, hb3⟩
  have hbl3 := bstep hbl2 hb3
  have hrow3 := hrow2.below hb3
  have hr3 := (hown2.below hb3).row (by omega)
  go_wp2_with fail
  refine (equalInts_any_eq w3 a2 a3 k k c2 c3 _ _ hr3 (hown3.row (by omega)) rfl).mono ?_
  rintro e w4 ⟨rfl, hb4⟩
  have hbl4 := bstep hbl3 hb4
  have hrow4 := hrow3.below hb4
  have hr4 := hr3.below hb4
  clear hown hown2 hown3 hb2 hb3 hb4 hrow hrow2 hrow3 hr3 hbl hbl2 hbl3
  by_cases hk0 : k = 0
  · have hkb : ((k : Int) == 0) = true := by simp; omega
    clear hk0
    go_wp2_with fail
    refine (HS.out w4 a1 c1 hrow4).mono ?_
    rintro e w5 ⟨a5, c5, rfl, hown5, hb5⟩
    go_wp2_with fail
    refine (equalInts_any_eq w5 a2 a5 k k c2 c5 _ _ (hr4.below hb5) (hown5.row (by omega)) rfl).mono ?_
    rintro e w6 ⟨rfl, hb6⟩
    go_wp2_with fail
    go_ret
    exact ⟨ret_bool rfl, bstep (bstep hbl4 hb5) hb6⟩
  have hkb : ((k : Int) == 0) = false := by simp; omega
  have hv := evenR_pos (xs := xs) (L := leapL) (k := k) (by rw [HK.out, HYS.out]; rfl) hk0
  obtain ⟨t, h1, h2, h16, hvx⟩ := even_two hv hlen.out
  have hkm : k = m := by rw [HK.out, HYS.out, leapR, if_pos hv, h2]; simp [leapL, tab_length]; omega
  have HB : Hid (valid ys = true → unleapR ys = xs) := fun hy => unleap_back hlen.out HYS.out hv hy
  have hY : ys = leapL xs t := by rw [HYS.out, leapR, if_pos hv, h2]
  have HY2 : Hid ((∀ i, 2 ≤ i → i < m → el xs i - el xs (i - 1) = el xs 1 - el xs 0) → ∀ i, i + 1 < t → el ys (t + i) = 0) := fun hs i hi => by rw [hY, el_leap2 (by omega)]; exact leap_zero (fun j hj hj2 => hs j hj (by omega)) i hi
  have hbd : Hid (∀ i, i < m → -1000 ≤ el xs i ∧ el xs i ≤ 1000) := fun i hi => valid_bd hvx (by rw [hlen.out]; exact hi)
  have hm2 : 2 * t ≤ m := by omega
  have hm3 : m ≤ 2 * t := by omega
  have hmh : (m : Int) / 2 = t := by omega
  have hk2 : 2 ≤ m := by omega
  clear hv h2 hY h1
  subst hkm
  obtain ⟨b, off, rfl, _, hcx⟩ := hrow4.at (by omega)
  have HC : Hid (∀ w', Below w4.heap.size w4 w' → ∀ j, j < k → w'.cell? ⟨b, off + j, none⟩ = some (.int .i64 (el xs j))) := hcx
  clear hcx hk0
  go_wp2_with fail
  go_loopw [6, 7] (fun v u wr => ∃ (j : Nat) (e : Bool), 2 ≤ j ∧ j ≤ k ∧ u = .int .i64 j ∧ v = .bool e ∧ Hid (e = true → ∀ i, 2 ≤ i → i < j → el xs i - el xs (i - 1) = el xs 1 - el xs 0) ∧ Below w4.heap.size w4 wr) (fun _ u _ => k - (intOf u).toNat)
  case atStart => exact ⟨2, true, by omega, by omega, rfl, rfl, (fun _ i h0 h1 => by omega), Below.refl _ _⟩
  case round =>
    obtain ⟨j, e, hj2, hj, rfl, rfl, HE, hblr⟩ := hrel
    by_cases hjt : j < k
    · have e0 := HC.out wr hblr 0 (by omega)
      rw [Nat.add_zero] at e0
      have e1 := HC.out wr hblr 1 (by omega)
      have e2 := HC.out wr hblr j (by omega)
      have e3 := HC.out wr hblr (j - 1) (by omega)
      have q0 := hbd.out 0 (by omega)
      have q1 := hbd.out 1 (by omega)
      have q2 := hbd.out j (by omega)
      have q3 := hbd.out (j - 1) (by omega)
      have i1 : (0 : Int) ≤ (j : Int) := by omega
      have i2 : (j : Int) < k := by omega
      have i3 : (0 : Int) ≤ (j : Int) - 1 := by omega
      have i33 : (1 : Int) ≤ (j : Int) := by omega
      have i4 : (j : Int) - 1 < k := by omega
      have i5 : ((j : Int) - 1).toNat = j - 1 := by omega
      have i6 : (0 : Int) < k := by omega
      have i7 : (1 : Int) < k := by omega
      have i8 : 0 < k := by omega
      have i9 : 1 < k := by omega
      cases e
      · go_wp2_with fail
        go_quiet (fail)
        go_wp2_with fail
        go_roundw
        case rel => exact ⟨j + 1, false, by omega, by omega, by go_num, rfl, (fun h0 => by cases h0), bdrewN hblr _⟩
        case measure => simp [intOf]; omega
      · have hst : Hid (el xs j - el xs (j - 1) = el xs 1 - el xs 0 → ∀ i, 2 ≤ i → i < j + 1 → el xs i - el xs (i - 1) = el xs 1 - el xs 0) := fun hh i h0 h1 => by
          by_cases e : i = j
          · rw [e]; exact hh
          · exact HE.out rfl i h0 (by omega)
        have j1 : IntKind.i64.wrap ((j : Int) - 1) = (j : Int) - 1 := IntWalk.i64_in _ (by omega)
        have j2 : IntKind.i64.wrap (el xs j - el xs (j - 1)) = el xs j - el xs (j - 1) := IntWalk.i64_in _ (by omega)
        have j3 : IntKind.i64.wrap (el xs 1 - el xs 0) = el xs 1 - el xs 0 := IntWalk.i64_in _ (by omega)
        by_cases hq : el xs j - el xs (j - 1) = el xs 1 - el xs 0
        · have hqb : (el xs j - el xs (j - 1) == el xs 1 - el xs 0) = true := by simp [hq]
          have HQ := Lib.hid hq
          clear hq
          go_wp2_with fail
          go_quiet (fail)
          clear j1 j2 j3
          go_wp2_with fail
          go_roundw
          case rel => exact ⟨j + 1, true, by omega, by omega, by go_num, rfl, fun _ => hst.out HQ.out, bdrewN hblr _⟩
          case measure => simp [intOf]; omega
        · have hqb : (el xs j - el xs (j - 1) == el xs 1 - el xs 0) = false := by simp [hq]
          clear hq
          go_wp2_with fail
          go_quiet (fail)
          clear j1 j2 j3
          go_wp2_with fail
          go_roundw
          case rel => exact ⟨j + 1, false, by omega, by omega, by go_num, rfl, (fun h0 => by cases h0), bdrewN hblr _⟩
          case measure => simp [intOf]; omega
    · obtain rfl : j = k := by omega
      have hbl5 := bstep hbl4 hblr
      have hrow5 := hrow4.below hblr
      have hr5 := hr4.below hblr
      clear hrow4 hr4 hbl4 hblr
      have HZ : Hid (e = true → ∀ i, i + 1 < t → el ys (t + i) = 0) := fun h0 => HY2.out (HE.out h0)
      obtain ⟨wo, rfl⟩ : ∃ wo : World, wo = wr := ⟨_, rfl⟩
      go_wp2_with fail
      go_loop [8] (fun u => ∃ i : Nat, i ≤ t ∧ u = .int .i64 i) (fun u => t - (intOf u).toNat)
      case atStart => exact ⟨0, Nat.zero_le _, rfl⟩
      case round =>
        obtain ⟨i, hi, rfl⟩ := hrel
        by_cases hit : i + 1 < t ∧ e = true
        · obtain ⟨hit1, rfl⟩ := hit
          obtain ⟨b2, off2, rfl, _, hcy⟩ := hr5.cell (t + i) (by omega)
          have d0 := hcy (t + i) (by omega)
          rw [HZ.out rfl i hit1] at d0
          clear hcy
          go_wp2_with fail
          go_round
          case rel => exact ⟨i + 1, by omega, by go_num⟩
          case measure => simp [intOf]; omega
        · by_cases hit1 : i + 1 < t
          · obtain rfl : e = false := by cases e; rfl; exact absurd ⟨hit1, rfl⟩ hit
            clear hit
            cases hvy : valid ys
            · go_wp2_with fail
              refine (ValidRow_is wo _ _ _ ys false hr5 hvy).mono ?_
              rintro e w' ⟨rfl, rfl⟩
              go_wp2_with fail
              go_ret
              exact ⟨ret_bool (by simp), hbl5⟩
            · have hvY := Lib.hid hvy
              go_wp2_with fail
              refine (ValidRow_is wo _ _ _ ys true hr5 hvy).mono ?_
              rintro e w' ⟨rfl, rfl⟩
              clear hvy
              have hRb : (unleapR ys).length ≤ 1000 := unleapR_len ys
              go_wp2_with fail
              refine (UnleapOf_all wo _ _ _ ys hr5).mono ?_
              rintro e w5 ⟨a5, c5, rfl, hown5, hb5⟩
              go_wp2_with fail
              refine (equalInts_any_eq w5 a5 _ _ _ c5 _ _ _ (hown5.row (by omega)) (hrow5.below hb5) (HB.out hvY.out)).mono ?_
              rintro e w6 ⟨rfl, hb6⟩
              go_wp2_with fail
              go_ret
              exact ⟨ret_bool (by simp), bstep (bstep hbl5 hb5) hb6⟩
          · clear hit
            cases hvy : valid ys
            · go_wp2_with fail
              refine (ValidRow_is wo _ _ _ ys false hr5 hvy).mono ?_
              rintro e w' ⟨rfl, rfl⟩
              go_wp2_with fail
              go_ret
              exact ⟨ret_bool (by simp), hbl5⟩
            · have hvY := Lib.hid hvy
              go_wp2_with fail
              refine (ValidRow_is wo _ _ _ ys true hr5 hvy).mono ?_
              rintro e w' ⟨rfl, rfl⟩
              clear hvy
              have hRb : (unleapR ys).length ≤ 1000 := unleapR_len ys
              go_wp2_with fail
              refine (UnleapOf_all wo _ _ _ ys hr5).mono ?_
              rintro e w5 ⟨a5, c5, rfl, hown5, hb5⟩
              go_wp2_with fail
              refine (equalInts_any_eq w5 a5 _ _ _ c5 _ _ _ (hown5.row (by omega)) (hrow5.below hb5) (HB.out hvY.out)).mono ?_
              rintro e w6 ⟨rfl, hb6⟩
              go_wp2_with fail
              go_ret
              exact ⟨ret_bool (by simp), bstep (bstep hbl5 hb5) hb6⟩
end Go.Proofs.Ytbaamhniffpnpaa
