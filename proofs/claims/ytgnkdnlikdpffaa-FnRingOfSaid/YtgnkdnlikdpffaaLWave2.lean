/-
  The laws of TurnOf, WaveOf, RingOf.
-/
import Derived.Test.YtgnkdnlikdpffaaLWave
import Derived.Test.YtgnkdnlikdpffaaFold
import Derived.Test.YtgnkdnlikdpffaaReg
namespace Go.Proofs.Ytgnkdnlikdpffaa
open Go.RowKit

theorem tn_rests {xs : List Int} {n t : Nat} (hl : xs.length = n) (hv : rests xs = true) : rests (tab (tnAt (el xs) n t) n) = true := by
  obtain ⟨hd, hb⟩ := rests_iff.1 hv
  rw [hl] at hd hb
  exact tab_rests hd fun i hi => tn_bd (lo := 0) (hi := 97) hb hi
theorem tn_spA {xs : List Int} {n t : Nat} (hl : xs.length = n) (hv : rests xs = true) : spA (tab (tnAt (el xs) n t) n) = spA xs := by
  rw [spA, if_pos (tn_rests hl hv), spA, if_pos hv, tab_length, hl, nz_tab, tn_nz]
theorem tn_spB {xs : List Int} {n t : Nat} (hl : xs.length = n) (hv : rests xs = true) : spB (tab (tnAt (el xs) n t) n) = spB xs := by
  have hd := (rests_iff.1 hv).1
  rw [hl] at hd
  rw [spB, if_pos (tn_rests hl hv), spB, if_pos hv, tab_length, hl]
  have e : nz (wvAt (rootN n) (el (tab (tnAt (el xs) n t) n)) n) n = nz (wvAt (rootN n) (tnAt (el xs) n t) n) n := nz_congr fun i _ => wv_congr fun j hj => el_tab hj
  rw [e, tn_wave_nz _ hd]
theorem tn_twice {xs : List Int} {n t : Nat} : tab (tnAt (el (tab (tnAt (el xs) n t) n)) n 1) n = tab (tnAt (el xs) n (t + 1)) n := tab_congr fun j hj => by
  rw [← tn_add (el xs) hj, tnAt, el_tab (Nat.mod_lt _ (by omega)), tnAt, tnAt, tnAt]
set_option maxHeartbeats 3200000 in
theorem law_TurnOf (w : World) (a : Option Addr) (n c : Nat) (h : Bts w a n w.heap.size) (hnc : n ≤ c) :
    Calls Try.prog 5 #[.slice a n c] w fun e w' => Says w w' e true := by
  by_cases hbig : 1048576 < n
  · go_enter Try.func5, Try.ntmps5
    go_wp2
    go_ret
    exact ⟨rfl, Below.refl _ _⟩
  go_enter Try.func5, Try.ntmps5
  go_wp2_with fail
  refine (DrawTurnOf_any w a n c h hnc (by omega)).mono ?_
  rintro e w1 ⟨a1, m, c1, xs, t, rfl, hm, ht0, ht1, hown, hbl⟩
  have hrow := hown.row (by omega)
  have hlen : Hid (xs.length = m) := hrow.len
  by_cases hok : rests xs = true ∧ 0 ≤ t ∧ t ≤ 16
  · obtain ⟨hv, h0, h16⟩ := hok
    obtain ⟨q, rfl⟩ := Int.eq_ofNat_of_zero_le h0
    obtain ⟨hd, hm1, hm96⟩ := rests_len hv hlen.out
    have hq : q ≤ 16 := by omega
    have HRT : Hid (rests (tab (tnAt (el xs) m q) m) = true) := tn_rests hlen.out hv
    have HA : Hid (spA (tab (tnAt (el xs) m q) m) = spA xs) := tn_spA hlen.out hv
    have HB : Hid (spB (tab (tnAt (el xs) m q) m) = spB xs) := tn_spB hlen.out hv
    have HT : Hid (tab (tnAt (el (tab (tnAt (el xs) m q) m)) m 1) m = tab (tnAt (el xs) m (q + 1)) m) := tn_twice
    have hmb : ((m : Int) == 0) = false := by simp; omega
    go_wp2_with fail
    refine (TurnOf_yes w1 a1 m c1 q xs hrow hv hq).mono ?_
    rintro e w2 ⟨a2, c2, rfl, own2, b2⟩
    go_wp2_with fail
    refine (sTurnOf_yes w2 a1 m c1 q xs (hrow.below b2) hv hq).mono ?_
    rintro e w3 ⟨a3, c3, rfl, own3, b3⟩
    have l3 := bstep (bstep hbl b2) b3
    have rx := (hrow.below b2).below b3
    have ry := (own2.below b3).row (show m ≤ 1125899906842624 by omega)
    go_wp2_with fail
    refine (equalInts_any_eq w3 a2 a3 m m c2 c3 _ _ ry (own3.row (by omega)) rfl).mono ?_
    rintro e w4 ⟨rfl, b4⟩
    have l4 := bstep l3 b4
    have rx4 := rx.below b4
    have ry4 := ry.below b4
    clear own2 own3 rx ry l3 b2 b3 b4 hown
    go_wp2_with fail
    refine (SpreadOf_all w4 a2 m c2 _ ry4).mono ?_
    rw [HA.out, HB.out]
    rintro e w5 ⟨rfl, b5⟩
    have l5 := bstep l4 b5
    go_wp2_with fail
    refine (SpreadOf_all w5 a1 m c1 xs (rx4.below b5)).mono ?_
    rintro e w6 ⟨rfl, b6⟩
    have l6 := bstep l5 b6
    have rx6 := (rx4.below b5).below b6
    have ry6 := (ry4.below b5).below b6
    clear l5 l4 b5 b6 rx4 ry4
    have ea : (spA xs == spA xs) = true := by simp
    have eb : (spB xs == spB xs) = true := by simp
    by_cases hq16 : q = 16
    · subst hq16
      go_wp2_with fail
      go_ret
      exact ⟨ret_bool (by simp), l6⟩
    · have hqb : ((q : Int) == 16) = false := by simp; omega
      have hq1 : q + 1 ≤ 16 := by omega
      clear hq16
      have HC : Hid (Calls Try.prog 20 #[.slice a1 m c1, .int .i64 ((q : Int) + 1)] w6 fun e w' => Fresh w6 w' e m (tab (tnAt (el xs) m (q + 1)) m)) := by
        have := TurnOf_yes w6 a1 m c1 (q + 1) xs rx6 hv hq1
        rw [Int.natCast_add] at this; exact this
      go_wp2_with fail
      refine (HC.out).mono ?_
      rintro e w7 ⟨a7, c7, rfl, own7, b7⟩
      have l7 := bstep l6 b7
      have ry7 := ry6.below b7
      have HC2 : Hid (Calls Try.prog 20 #[.slice a2 m c2, .int .i64 1] w7 fun e w' => Fresh w7 w' e m (tab (tnAt (el xs) m (q + 1)) m)) := by
        have := TurnOf_yes w7 a2 m c2 1 _ ry7 HRT.out (by omega)
        rw [HT.out] at this; exact this
      go_wp2_with fail
      refine (HC2.out).mono ?_
      rintro e w8 ⟨a8, c8, rfl, own8, b8⟩
      have l8 := bstep l7 b8
      go_wp2_with fail
      refine (equalInts_any_eq w8 a7 a8 m m c7 c8 _ _ ((own7.below b8).row (by omega)) (own8.row (by omega)) rfl).mono ?_
      rintro e w9 ⟨rfl, b9⟩
      go_wp2_with fail
      go_ret
      exact ⟨ret_bool (by simp), bstep l8 b9⟩
  · go_wp2_with fail
    refine (TurnOf_no w1 a1 m c1 xs t hrow hok).mono ?_
    rintro e w' ⟨rfl, rfl⟩
    go_wp2_with fail
    refine (sTurnOf_no _ a1 m c1 xs t hrow hok).mono ?_
    rintro e w' ⟨rfl, rfl⟩
    go_wp2_with fail
    refine (equalInts_any_eq _ none none 0 0 0 0 [] [] (row_nil _) (row_nil _) rfl).mono ?_
    rintro e w2 ⟨rfl, b2⟩
    have l2 := bstep hbl b2
    go_wp2_with fail
    refine (sTurnOf_no _ a1 m c1 xs t (hrow.below b2) hok).mono ?_
    rintro e w' ⟨rfl, rfl⟩
    go_wp2_with fail
    refine (equalInts_any_eq _ none none 0 0 0 0 [] [] (row_nil _) (row_nil _) rfl).mono ?_
    rintro e w3 ⟨rfl, b3⟩
    go_wp2_with fail
    go_ret
    exact ⟨ret_bool rfl, bstep l2 b3⟩
theorem wv_first {f : Nat → Int} {r n : Nat} : wvAt r f n 0 = sm f n % 97 := by
  unfold wvAt
  exact sm_cg fun i _ => by simp [pw_zero]
set_option maxRecDepth 100000 in
set_option maxHeartbeats 6400000 in
theorem law_WaveOf (w : World) (a : Option Addr) (n c : Nat) (h : Bts w a n w.heap.size) (hnc : n ≤ c) :
    Calls Try.prog 10 #[.slice a n c] w fun e w' => Says w w' e true := by
  by_cases hbig : 1048576 < n
  · go_enter Try.func10, Try.ntmps10
    go_wp2
    go_ret
    exact ⟨rfl, Below.refl _ _⟩
  go_enter Try.func10, Try.ntmps10
  go_wp2_with fail
  refine (DrawWaveOf_any w a n c h hnc (by omega)).mono ?_
  rintro e w1 ⟨a1, m, c1, xs, rfl, hm, hown, hbl⟩
  have hrow := hown.row (by omega)
  have hlen : Hid (xs.length = m) := hrow.len
  obtain ⟨ys, hys⟩ : ∃ ys, ys = wvR xs := ⟨_, rfl⟩
  obtain ⟨k, hk⟩ : ∃ k, k = ys.length := ⟨_, rfl⟩
  have hk1 : k ≤ 1000 := by rw [hk, hys]; exact wvR_len xs
  have HI : Hid (∀ w a c, Row w a m c xs → Calls Try.prog 13 #[.slice a m c] w fun e w' => Fresh w w' e k ys) := by
    intro w a c h; rw [hk, hys]; exact WaveOf_all w a m c xs h
  have HS : Hid (∀ w a c, Row w a m c xs → Calls Try.prog 11 #[.slice a m c] w fun e w' => Fresh w w' e k ys) := by
    intro w a c h; rw [hk, hys]; exact sWaveOf_all w a m c xs h
  have HYS := Lib.hid hys
  have HK := Lib.hid hk
  clear hys hk
  go_wp2_with fail
  refine (HI.out w1 a1 c1 hrow).mono ?_
  rintro e w2 ⟨a2, c2, rfl, hown2, hb2⟩
  have hbl2 := bstep hbl hb2
  have hrow2 := hrow.below hb2
  go_wp2_with fail
  refine (HS.out w2 a1 c1 hrow2).mono ?_
  rintro e w3 ⟨a3, c3, rfl, hown3, hb3⟩
  have hbl3 := bstep hbl2 hb3
  have hrow3 := hrow2.below hb3
  have hr3 := (hown2.below hb3).row (by omega)
  go_wp2_with fail
  refine (equalInts_any_eq w3 a2 a3 k k c2 c3 _ _ hr3 (hown3.row (by omega)) rfl).mono ?_
  rintro e w4 ⟨rfl, hb4⟩
  have hbl4 := bstep hbl3 hb4
  have hrow4 := hrow3.below hb4
  have hr4 := hr3.below hb4
  clear hown hown2 hown3 hb2 hb3 hb4 hrow hrow2 hrow3 hr3 hbl hbl2 hbl3
  by_cases hk0 : k = 0
  · have hkb : ((k : Int) == 0) = true := by simp; omega
    clear hk0
    go_wp2_with fail
    refine (HS.out w4 a1 c1 hrow4).mono ?_
    rintro e w5 ⟨a5, c5, rfl, hown5, hb5⟩
    go_wp2_with fail
    refine (equalInts_any_eq w5 a2 a5 k k c2 c5 _ _ (hr4.below hb5) (hown5.row (by omega)) rfl).mono ?_
    rintro e w6 ⟨rfl, hb6⟩
    go_wp2_with fail
    go_ret
    exact ⟨ret_bool rfl, bstep (bstep hbl4 hb5) hb6⟩
  have hkb : ((k : Int) == 0) = false := by simp; omega
  have hv := wvR_pos (xs := xs) (k := k) (by rw [HK.out, HYS.out]) hk0
  have hys : ys = wvL (rootN m) xs m := by rw [HYS.out, wvR, if_pos hv, hlen.out]
  have hkm : k = m := by rw [HK.out, hys, wvL, tab_length]
  subst hkm
  obtain ⟨hd, hm1, hm96⟩ := rests_len hv hlen.out
  have hr96 := (root_facts hd).2.1
  have hbd : Hid (∀ i, i < k → 0 ≤ el xs i ∧ el xs i < 97) := fun i hi => (rests_iff.1 hv).2 i (by rw [hlen.out]; exact hi)
  have hy : ∀ i, i < k → el ys i = wvAt (rootN k) (el xs) k i := fun i hi => by rw [hys, wvL, el_tab hi]
  obtain ⟨zs, hzs⟩ : ∃ zs, zs = wvR (tab (tnAt (el xs) k 1) k) := ⟨_, rfl⟩
  have hrt := tn_rests (t := 1) hlen.out hv
  have hzl : zs.length = k := by rw [hzs, wvR, if_pos hrt, wvL, tab_length, tab_length]
  have HZ : Hid (∀ i, i < k → el zs i = el ys i * (pw (rootN k) i : Int) % 97) := fun i hi => by
    rw [hzs, wvR, if_pos hrt, tab_length, wvL, el_tab hi, hy i hi]
    rw [wv_congr (g := tnAt (el xs) k 1) fun j hj => el_tab hj, tn_wave (el xs) hd, Nat.one_mul]
  have HYB : Hid (∀ i, i < k → 0 ≤ el ys i ∧ el ys i < 97) := fun i hi => by rw [hy i hi]; exact wvAt_bd _ _ _ _
  have he0 : el ys 0 = sm (el xs) k % 97 := by rw [hy 0 (by omega)]; exact wv_first
  obtain ⟨hry, huy⟩ := wave_all hv HYS.out
  have HUY := Lib.hid huy
  have hrl : (uwR ys).length ≤ 1000 := uwR_len ys
  have HTU : Hid (∀ w a c, Row w a k c xs → Calls Try.prog 20 #[.slice a k c, .int .i64 1] w fun e w' => Fresh w w' e k (tab (tnAt (el xs) k 1) k)) := fun w a c h => TurnOf_yes w a k c 1 xs h hv (by omega)
  have HWT : Hid (∀ w a c, Row w a k c (tab (tnAt (el xs) k 1) k) → Calls Try.prog 13 #[.slice a k c] w fun e w' => Fresh w w' e k zs) := fun w a c h => by
    have := WaveOf_all w a k c _ h
    rw [← hzs, hzl] at this; exact this
  have HRO : Hid (∀ w, Calls Try.prog 33 #[.int .i64 k] w fun e w' => e = .returned (.int .i64 (rootN k)) ∧ w = w') := fun w => RootOf_any w k hd
  have HE0 := Lib.hid he0
  clear hy he0 hys hzs hrt hzl hv huy hd
  go_wp2_with fail
  refine (HRO.out w4).mono ?_
  rintro e w' ⟨rfl, rfl⟩
  go_wp2_with fail
  refine (HTU.out w4 a1 c1 hrow4).mono ?_
  rintro e w5 ⟨a5, c5, rfl, own5, b5⟩
  have l5 := bstep hbl4 b5
  go_wp2_with fail
  refine (HWT.out w5 a5 c5 (own5.row (by omega))).mono ?_
  rintro e w6 ⟨a6, c6, rfl, own6, b6⟩
  have l6 := bstep l5 b6
  have rx6 := (hrow4.below b5).below b6
  have ry6 := (hr4.below b5).below b6
  have rz6 := own6.row (show k ≤ 1125899906842624 by omega)
  clear own5 own6 l5 hrow4 hr4 hbl4 b5 b6
  go_wp2_with fail
  go_loopw [8] (fun u wr => ∃ j : Nat, j ≤ k ∧ u = .int .i64 j ∧ Below w6.heap.size w6 wr) (fun u _ => k - (intOf u).toNat)
  case atStart => exact ⟨0, Nat.zero_le _, rfl, Below.refl _ _⟩
  case round =>
    obtain ⟨j, hj, rfl, hblr⟩ := hrel
    by_cases hlt : j < k
    · obtain ⟨by1, oy1, rfl, _, hcy⟩ := (ry6.below hblr).cell j hlt
      obtain ⟨bz1, oz1, rfl, _, hcz⟩ := (rz6.below hblr).cell j hlt
      have hc1 := hcy j hlt
      have hc2 := hcz j hlt
      rw [HZ.out j hlt] at hc2
      clear hcy hcz
      have hyb := HYB.out j hlt
      have hpb : 0 ≤ (pw (rootN k) j : Int) ∧ (pw (rootN k) j : Int) < 97 := pwI_bd _ _
      have hmm := mul96 hyb hpb
      obtain ⟨X, hX⟩ : ∃ X, X = el ys j := ⟨_, rfl⟩
      rw [← hX] at hc1 hc2 hyb hmm
      clear hX
      have i0 : (0 : Int) ≤ (j : Int) := by omega
      have i1 : (j : Int) < k := by omega
      have j1 : IntKind.i64.wrap (X * (pw (rootN k) j : Int)) = X * (pw (rootN k) j : Int) := IntWalk.i64_in _ (by omega)
      have j2 : (X * (pw (rootN k) j : Int)).tmod 97 = X * (pw (rootN k) j : Int) % 97 := Int.tmod_eq_emod_of_nonneg hmm.1
      have j3 : (X * (pw (rootN k) j : Int) % 97 != X * (pw (rootN k) j : Int) % 97) = false := by simp
      go_wp2_with fail
      go_quiet ((go_at_call 34; exact quiet_same (raised_any _ (rootN k) j hr96 (by omega))))
      clear j1 j2
      go_wp2_with fail
      go_roundw
      case rel => exact ⟨j + 1, by omega, by go_num, bdrewN hblr _⟩
      case measure => simp [intOf]; omega
    · obtain rfl : j = k := by omega
      have l7 := bstep l6 hblr
      have rx7 := rx6.below hblr
      have ry7 := ry6.below hblr
      clear rx6 ry6 rz6 l6 hblr HZ HTU HWT HRO hk0 hkb
      obtain ⟨b2, off2, rfl, hbb2, hcell2⟩ := ry7.at (by omega)
      have HC2 : Hid (∀ w', Below wr.heap.size wr w' → w'.cell? ⟨b2, off2, none⟩ = some (.int .i64 (sm (el xs) j % 97))) := fun w' hb => by
        have := hcell2 w' hb 0 (by omega)
        rw [HE0.out] at this; exact this
      clear hcell2
      have hj1000 : j ≤ 1000 := by omega
      have j1 : (0 : Int) < (j : Int) := by omega
      have j0 : 0 < j := by omega
      have HBM : Hid (∀ i, i < j → -97 ≤ el xs i ∧ el xs i ≤ 97) := fun i hi => by have := hbd.out i hi; omega
      have hsn : 0 ≤ sm (el xs) j := by
        have : ∀ n, (∀ i, i < n → 0 ≤ el xs i) → 0 ≤ sm (el xs) n := by
          intro n
          induction n with
          | zero => intro _; exact Int.le_refl _
          | succ n ih => intro hh; rw [sm]; have := ih fun i hi => hh i (by omega); have := hh n (by omega); omega
        exact this j fun i hi => (hbd.out i hi).1
      have j2 : (sm (el xs) j).tmod 97 = sm (el xs) j % 97 := Int.tmod_eq_emod_of_nonneg hsn
      go_wp2_with fail
      refine wp_region_held_drew (S := fun w' => Below wr.heap.size wr w') (by kernel_rfl) ((Below.refl _ wr).drew) fun hS => ?_
      refine takeH 0 56 rfl rfl (by kernel_rfl) (by kernel_rfl) (by kernel_rfl) (fun _ _ _ h => h) (by rfl) (v := ?_) ?_ hS ?_
      rotate_left 1
      · (intro w hSw; (try dsimp only at hSw); go_simp; all_goals (with_reducible rfl))
      (try simp only [Act.put, List.setIfInBounds_toArray, List.set])
      refine takeH 2 58 rfl rfl (by kernel_rfl) (by kernel_rfl) (by kernel_rfl) (fun _ _ _ h => h) (by rfl) (v := ?_) ?_ hS ?_
      rotate_left 1
      · (intro w hSw; (try dsimp only at hSw); go_simp; all_goals (with_reducible rfl))
      (try simp only [Act.put, List.setIfInBounds_toArray, List.set])
      refine wpAnyH_ready (rs := [1]) (by kernel_rfl) (by simp) ?_
      refine AllReadyH.cons rfl (fun K hK => ?_) AllReadyH.nil
      go_simp
      ((with_reducible refine (UnwaveOf_all _ _ _ _ ys (ry7.below hS)).mono ?_); rintro e w5 ⟨a5, c5, rfl, hown5, hb5⟩)
      refine hK.out _ _ (bstep hS hb5) fun hS => ?_
      clear hK K
      (try simp only [Act.put, List.setIfInBounds_toArray, List.set])
      refine wpAnyH_ready (rs := [3]) (by kernel_rfl) (by simp) ?_
      refine AllReadyH.cons rfl (fun K hK => ?_) AllReadyH.nil
      go_simp
      ((with_reducible refine (equalInts_any_eq _ _ _ _ _ _ _ _ _ (hown5.row (by omega)) (rx7.below hS) HUY.out).mono ?_); rintro e w6 ⟨rfl, hb6⟩)
      refine hK.out _ _ (bstep hS hb6) fun hS => ?_
      clear hK K
      (try simp only [Act.put, List.setIfInBounds_toArray, List.set])
      refine takeH 4 60 rfl rfl (by kernel_rfl) (by kernel_rfl) (by kernel_rfl) (fun _ _ _ h => h) (by rfl) (v := ?_) ?_ hS ?_
      rotate_left 1
      · (intro w hSw; (try dsimp only at hSw); go_simp; all_goals (with_reducible rfl))
      (try simp only [Act.put, List.setIfInBounds_toArray, List.set])
      refine takeH 5 61 rfl rfl (by kernel_rfl) (by kernel_rfl) (by kernel_rfl) (fun _ _ _ h => h) (by rfl) (v := ?_) ?_ hS ?_
      rotate_left 1
      · (intro w hSw; (try dsimp only at hSw); go_simp; all_goals (with_reducible rfl))
      (try simp only [Act.put, List.setIfInBounds_toArray, List.set])
      refine takeH 6 62 rfl rfl (by kernel_rfl) (by kernel_rfl) (by kernel_rfl) (fun _ _ _ h => h) (by rfl) (v := ?_) ?_ hS ?_
      rotate_left 1
      · (intro w hSw; (try dsimp only at hSw); go_simp; all_goals (with_reducible rfl))
      (try simp only [Act.put, List.setIfInBounds_toArray, List.set])
      refine takeH 7 63 rfl rfl (by kernel_rfl) (by kernel_rfl) (by kernel_rfl) (fun _ _ _ h => h) (by rfl) (v := ?_) ?_ hS ?_
      rotate_left 1
      · (intro w hSw; (try dsimp only at hSw); have hq2 := HC2.out _ hSw; go_simp; all_goals (with_reducible rfl))
      (try simp only [Act.put, List.setIfInBounds_toArray, List.set])
      refine takeH 8 64 rfl rfl (by kernel_rfl) (by kernel_rfl) (by kernel_rfl) (fun _ _ _ h => h) (by rfl) (v := ?_) ?_ hS ?_
      rotate_left 1
      · (intro w hSw; (try dsimp only at hSw); go_simp; all_goals (with_reducible rfl))
      (try simp only [Act.put, List.setIfInBounds_toArray, List.set])
      refine wpAnyH_ready (rs := [9]) (by kernel_rfl) (by simp) ?_
      refine AllReadyH.cons rfl (fun K hK => ?_) AllReadyH.nil
      go_simp
      ((with_reducible refine (total_any _ _ _ _ xs 97 (rx7.below hS) hj1000 (by decide) HBM.out).mono ?_); rintro e w' ⟨rfl, rfl⟩)
      refine hK.out _ _ (hS) fun hS => ?_
      clear hK K
      (try simp only [Act.put, List.setIfInBounds_toArray, List.set])
      refine takeH 10 66 rfl rfl (by kernel_rfl) (by kernel_rfl) (by kernel_rfl) (fun _ _ _ h => h) (by rfl) (v := ?_) ?_ hS ?_
      rotate_left 1
      · (intro w hSw; (try dsimp only at hSw); go_simp; all_goals (with_reducible rfl))
      (try simp only [Act.put, List.setIfInBounds_toArray, List.set])
      refine takeH 11 67 rfl rfl (by kernel_rfl) (by kernel_rfl) (by kernel_rfl) (fun _ _ _ h => h) (by rfl) (v := ?_) ?_ hS ?_
      rotate_left 1
      · (intro w hSw; (try dsimp only at hSw); go_simp; all_goals (with_reducible rfl))
      (try simp only [Act.put, List.setIfInBounds_toArray, List.set])
      refine takeH 12 68 rfl rfl (by kernel_rfl) (by kernel_rfl) (by kernel_rfl) (fun _ _ _ h => h) (by rfl) (v := ?_) ?_ hS ?_
      rotate_left 1
      · (intro w hSw; (try dsimp only at hSw); go_simp; all_goals (with_reducible rfl))
      (try simp only [Act.put, List.setIfInBounds_toArray, List.set])
      refine takeH 13 2 rfl rfl (by kernel_rfl) (by kernel_rfl) (by kernel_rfl) (fun _ _ _ h => h) (by rfl) (v := ?_) ?_ hS ?_
      rotate_left 1
      · (intro w hSw; (try dsimp only at hSw); go_simp; all_goals (with_reducible rfl))
      (try simp only [Act.put, List.setIfInBounds_toArray, List.set])
      refine wpAnyH_done (by kernel_rfl) ?_ _
      go_wp2_with fail
      go_ret
      exact ⟨ret_bool (by simp), bstep l7 hS⟩
set_option maxHeartbeats 6400000 in
theorem law_RingOf (w : World) (a : Option Addr) (n c : Nat) (h : Bts w a n w.heap.size) (hnc : n ≤ c) :
    Calls Try.prog 7 #[.slice a n c] w fun e w' => Says w w' e true := by
  by_cases hbig : 1048576 < n
  · go_enter Try.func7, Try.ntmps7
    go_wp2
    go_ret
    exact ⟨rfl, Below.refl _ _⟩
  go_enter Try.func7, Try.ntmps7
  go_wp2_with fail
  refine (DrawRingOf_any w a n c h hnc (by omega)).mono ?_
  rintro e w1 ⟨a1, d1, m, c1, m2, f1, xs, ys, rfl, hm, hm2, hown, hown2, hbl⟩
  have rx := hown.row (show m ≤ 1125899906842624 by omega)
  have ry := hown2.row (show m2 ≤ 1125899906842624 by omega)
  have hlen : Hid (xs.length = m) := rx.len
  have hlen2 : Hid (ys.length = m2) := ry.len
  clear hown hown2
  cases hok : rgOk xs ys
  · go_wp2_with fail
    refine (RingOf_no w1 a1 d1 m c1 m2 f1 xs ys rx ry hok).mono ?_
    rintro e w2 ⟨a2, c2, rfl, own2, b2⟩
    go_wp2_with fail
    refine (sRingOf_no w2 a1 d1 m c1 m2 f1 xs ys (rx.below b2) (ry.below b2) hok).mono ?_
    rintro e w3 ⟨a3, c3, rfl, own3, b3⟩
    have l3 := bstep (bstep hbl b2) b3
    have r2 := (own2.below b3).row (by omega)
    go_wp2_with fail
    refine (equalInts_any_eq w3 a2 a3 0 0 c2 c3 _ _ r2 (own3.row (by omega)) rfl).mono ?_
    rintro e w4 ⟨rfl, b4⟩
    have l4 := bstep l3 b4
    go_wp2_with fail
    refine (sRingOf_no w4 a1 d1 m c1 m2 f1 xs ys (((rx.below b2).below b3).below b4) (((ry.below b2).below b3).below b4) hok).mono ?_
    rintro e w5 ⟨a5, c5, rfl, own5, b5⟩
    go_wp2_with fail
    refine (equalInts_any_eq w5 a2 a5 0 0 c2 c5 _ _ ((r2.below b4).below b5) (own5.row (by omega)) rfl).mono ?_
    rintro e w6 ⟨rfl, b6⟩
    go_wp2_with fail
    go_ret
    exact ⟨ret_bool rfl, bstep (bstep l4 b5) b6⟩
  · obtain ⟨hx, hy, hxy⟩ := rgOk_iff.1 hok
    have hmm : m2 = m := by have h1 := hlen.out; have h2 := hlen2.out; omega
    subst hmm
    obtain ⟨hd, hm1, hm96⟩ := rests_len hx hlen.out
    have hb1 : ∀ i, i < m2 → 0 ≤ el xs i ∧ el xs i < 97 := fun i hi => (rests_iff.1 hx).2 i (by rw [hlen.out]; exact hi)
    have hb2 : ∀ i, i < m2 → 0 ≤ el ys i ∧ el ys i < 97 := fun i hi => (rests_iff.1 hy).2 i (by rw [hlen2.out]; exact hi)
    obtain ⟨zs, hzs⟩ : ∃ zs, zs = tab (ringF m2 (el xs) (el ys)) m2 := ⟨_, rfl⟩
    have hrz : rests zs = true := by rw [hzs]; exact tab_rests hd fun i _ => rg_bd _ _ _ _ _ _
    have HZ1 : Hid (∀ w a b c d, Row w a m2 c xs → Row w b m2 d ys → Calls Try.prog 26 #[.slice a m2 c, .slice b m2 d] w fun e w' => Fresh w w' e m2 zs) := fun w a b c d h1 h2 => by
      rw [hzs]; exact RingOf_yes w a b m2 c d xs ys h1 h2 hx hy
    have HZ2 : Hid (∀ w a b c d, Row w a m2 c xs → Row w b m2 d ys → Calls Try.prog 27 #[.slice a m2 c, .slice b m2 d] w fun e w' => Fresh w w' e m2 zs) := fun w a b c d h1 h2 => by
      rw [hzs]; exact sRingOf_yes w a b m2 c d xs ys h1 h2 hx hy
    have HZ3 : Hid (∀ w a b c d, Row w a m2 c ys → Row w b m2 d xs → Calls Try.prog 26 #[.slice a m2 c, .slice b m2 d] w fun e w' => Fresh w w' e m2 zs) := fun w a b c d h1 h2 => by
      rw [hzs, tab_congr fun i _ => ring_comm m2 (el xs) (el ys) i]; exact RingOf_yes w a b m2 c d ys xs h1 h2 hy hx
    have HWX : Hid (∀ w a c, Row w a m2 c xs → Calls Try.prog 13 #[.slice a m2 c] w fun e w' => Fresh w w' e m2 (wvL (rootN m2) xs m2)) := fun w a c h => WaveOf_yes w a m2 c xs h hx
    have HWY : Hid (∀ w a c, Row w a m2 c ys → Calls Try.prog 13 #[.slice a m2 c] w fun e w' => Fresh w w' e m2 (wvL (rootN m2) ys m2)) := fun w a c h => WaveOf_yes w a m2 c ys h hy
    have HWZ : Hid (∀ w a c, Row w a m2 c zs → Calls Try.prog 13 #[.slice a m2 c] w fun e w' => Fresh w w' e m2 (wvL (rootN m2) zs m2)) := fun w a c h => WaveOf_yes w a m2 c zs h hrz
    have hwz : ∀ i, i < m2 → el (wvL (rootN m2) zs m2) i = el (wvL (rootN m2) xs m2) i * el (wvL (rootN m2) ys m2) i % 97 := fun i hi => by
      rw [wvL, el_tab hi, wvL, el_tab hi, wvL, el_tab hi, hzs, wv_congr (g := ringF m2 (el xs) (el ys)) fun j hj => el_tab hj]
      exact ring_wave (el xs) (el ys) hd
    have hwb : ∀ zs i, i < m2 → 0 ≤ el (wvL (rootN m2) zs m2) i ∧ el (wvL (rootN m2) zs m2) i < 97 := fun zs i hi => by rw [wvL, el_tab hi]; exact wvAt_bd _ _ _ _
    have hwl : ∀ zs, (wvL (rootN m2) zs m2).length = m2 := fun zs => by rw [wvL, tab_length]
    obtain ⟨U, hU⟩ : ∃ U, U = wvL (rootN m2) xs m2 := ⟨_, rfl⟩
    obtain ⟨V, hV⟩ : ∃ V, V = wvL (rootN m2) ys m2 := ⟨_, rfl⟩
    obtain ⟨W, hW⟩ : ∃ W, W = wvL (rootN m2) zs m2 := ⟨_, rfl⟩
    have HUB := Lib.hid (hwb xs)
    have HVB := Lib.hid (hwb ys)
    have hWl := hwl zs
    rw [← hU, ← hV, ← hW] at hwz
    rw [← hU] at HWX HUB
    rw [← hV] at HWY HVB
    rw [← hW] at HWZ hWl
    have HWE : Hid (W = tab (fun i => el U i * el V i % 97) m2) := el_ext (by rw [tab_length]; exact hWl) fun i hi => by rw [hWl] at hi; rw [el_tab hi]; exact hwz i hi
    clear hU hV hW hwz hwb hwl hWl hzs hrz hb1 hb2 hd hxy hok hx hy
    have hmb : ((m2 : Int) == 0) = false := by simp; omega
    have hm10 : m2 ≤ 1000 := by omega
    go_wp2_with fail
    refine (HZ1.out w1 a1 d1 c1 f1 rx ry).mono ?_
    rintro e w2 ⟨a2, c2, rfl, own2, b2⟩
    go_wp2_with fail
    refine (HZ2.out w2 a1 d1 c1 f1 (rx.below b2) (ry.below b2)).mono ?_
    rintro e w3 ⟨a3, c3, rfl, own3, b3⟩
    have l3 := bstep (bstep hbl b2) b3
    have rx3 := (rx.below b2).below b3
    have ry3 := (ry.below b2).below b3
    have rz3 := (own2.below b3).row (show m2 ≤ 1125899906842624 by omega)
    go_wp2_with fail
    refine (equalInts_any_eq w3 a2 a3 m2 m2 c2 c3 _ _ rz3 (own3.row (by omega)) rfl).mono ?_
    rintro e w4 ⟨rfl, b4⟩
    have l4 := bstep l3 b4
    have rx4 := rx3.below b4
    have ry4 := ry3.below b4
    have rz4 := rz3.below b4
    clear rx ry rx3 ry3 rz3 own2 own3 l3 b2 b3 b4 hbl
    go_wp2_with fail
    refine (HWX.out w4 a1 c1 rx4).mono ?_
    rintro e w5 ⟨a5, c5, rfl, own5, b5⟩
    go_wp2_with fail
    refine (HWY.out w5 d1 f1 (ry4.below b5)).mono ?_
    rintro e w6 ⟨a6, c6, rfl, own6, b6⟩
    have HPB : Hid (∀ i, i < m2 → -1000000000000 ≤ el U i * el V i ∧ el U i * el V i ≤ 1000000000000) := fun i hi => by have := mul96 (HUB.out i hi) (HVB.out i hi); omega
    go_wp2_with fail
    refine (times_any w6 a5 a6 m2 c5 c6 U V ((own5.below b6).row (by omega)) (own6.row (by omega)) hm10 HPB.out).mono ?_
    rintro e w7 ⟨a7, c7, rfl, own7, b7⟩
    have l6 := bstep (bstep l4 b5) b6
    have rx6 := (rx4.below b5).below b6
    have ry6 := (ry4.below b5).below b6
    have rz6 := (rz4.below b5).below b6
    clear own5 own6 rx4 ry4 rz4 l4 b5 b6 HWX HWY HZ1 HZ2
    rw [← mid_zero (fun i => el U i * el V i % 97) (fun i => el U i * el V i)] at own7
    go_wp2_with fail
    go_loopw [7] (fun u wr => ∃ j : Nat, j ≤ m2 ∧ u = .int .i64 j ∧ Own wr w6.heap.size a7 m2 c7 (tab (mid j (fun i => el U i * el V i % 97) (fun i => el U i * el V i)) m2) ∧ Below w6.heap.size w6 wr) (fun u _ => m2 - (intOf u).toNat)
    case atStart => exact ⟨0, Nat.zero_le _, rfl, own7, b7⟩
    case round =>
      obtain ⟨j, hj, rfl, ownr, hblr⟩ := hrel
      clear own7 b7
      by_cases hlt : j < m2
      · obtain ⟨g, rfl, hBg, hgl, hcell, hfr⟩ := ownr.at j hlt
        rw [mid_at _ _ hlt] at hcell
        have hst := ownr.store j (el U j * el V j % 97)
        rw [mid_set (fun i => el U i * el V i % 97) _ hlt] at hst
        have hb2 := hblr.setCell (p := ⟨g, j, none⟩) hBg (.int .i64 (el U j * el V j % 97))
        have hmm := mul96 (HUB.out j hlt) (HVB.out j hlt)
        have f5 : (el U j * el V j).tmod 97 = el U j * el V j % 97 := Int.tmod_eq_emod_of_nonneg hmm.1
        go_wp2_with fail
        go_roundw
        case rel => exact ⟨j + 1, by omega, by go_num, hst, hb2⟩
        case measure => simp [intOf]; omega
      · obtain rfl : j = m2 := by omega
        rw [mid_end, ← HWE.out] at ownr
        have l8 := bstep l6 hblr
        have rx8 := rx6.below hblr
        have ry8 := ry6.below hblr
        have rz8 := rz6.below hblr
        clear l6 rx6 ry6 rz6 hblr
        go_wp2_with fail
        refine (HWZ.out wr a2 c2 rz8).mono ?_
        rintro e w8 ⟨a8, c8, rfl, own8, b8⟩
        have l9 := bstep l8 b8
        go_wp2_with fail
        refine (equalInts_any_eq w8 a8 a7 j j c8 c7 _ _ (own8.row (by omega)) ((ownr.below b8).row (by omega)) rfl).mono ?_
        rintro e w9 ⟨rfl, b9⟩
        have l10 := bstep l9 b9
        go_wp2_with fail
        refine (HZ3.out w9 d1 a1 f1 c1 ((ry8.below b8).below b9) ((rx8.below b8).below b9)).mono ?_
        rintro e w10 ⟨a10, c10, rfl, own10, b10⟩
        have l11 := bstep l10 b10
        go_wp2_with fail
        refine (equalInts_any_eq w10 a10 a2 j j c10 c2 _ _ (own10.row (by omega)) (((rz8.below b8).below b9).below b10) rfl).mono ?_
        rintro e w11 ⟨rfl, b11⟩
        go_wp2_with fail
        go_ret
        exact ⟨ret_bool (by simp), bstep l11 b11⟩
end Go.Proofs.Ytgnkdnlikdpffaa
