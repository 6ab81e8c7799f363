/-
  The laws of SignsOf, UnsignsOf, IsBent.
-/
import Derived.Test.YtccddkgpcgnaoaaBent
import Derived.Test.YtccddkgpcgnaoaaDraw3
namespace Go.Proofs.Ytccddkgpcgnaoaa
open Go.RowKit

theorem signsR_pos {xs : List Int} {k : Nat} (hk : k = (signsR xs).length) (h0 : ¬ k = 0) : cube xs = true := by
  cases hv : cube xs with
  | true => rfl
  | false => rw [signsR, hv] at hk; exact absurd hk h0
set_option maxRecDepth 100000 in
set_option maxHeartbeats 6400000 in
theorem law_SignsOf (w : World) (a : Option Addr) (n c : Nat) (h : Bts w a n w.heap.size) (hnc : n ≤ c) :
    Calls Try.prog 10 #[.slice a n c] w fun e w' => Says w w' e true := by
  by_cases hbig : 1048576 < n
  · go_enter Try.func10, Try.ntmps10
    go_wp2
    go_ret
    exact ⟨rfl, Below.refl _ _⟩
  go_enter Try.func10, Try.ntmps10
  go_wp2_with fail
  refine (DrawSignsOf_any w a n c h hnc (by omega)).mono ?_
  rintro e w1 ⟨a1, m, c1, xs, rfl, hm, hown, hbl⟩
  have hrow := hown.row (by omega)
  have hlen : Hid (xs.length = m) := hrow.len
  obtain ⟨ys, hys⟩ : ∃ ys, ys = signsR xs := ⟨_, rfl⟩
  obtain ⟨k, hk⟩ : ∃ k, k = ys.length := ⟨_, rfl⟩
  have hk1 : k ≤ 1000 := by rw [hk, hys]; exact signsR_len xs
  have HI : Hid (∀ w a c, Row w a m c xs → Calls Try.prog 25 #[.slice a m c] w fun e w' => Fresh w w' e k ys) := by
    intro w a c h; rw [hk, hys]; exact SignsOf_all w a m c xs h
  have HS : Hid (∀ w a c, Row w a m c xs → Calls Try.prog 24 #[.slice a m c] w fun e w' => Fresh w w' e k ys) := by
    intro w a c h; rw [hk, hys]; exact sSignsOf_all w a m c xs h
  have HYS := Lib.hid hys
  have HK := Lib.hid hk
  clear hys hk
  go_wp2_with fail
  refine (HI.out w1 a1 c1 hrow).mono ?_
  rintro e w2 ⟨a2, c2, rfl, hown2, hb2⟩
  have hbl2 := bstep hbl hb2
  have hrow2 := hrow.below hb2
  go_wp2_with fail
  refine (HS.out w2 a1 c1 hrow2).mono ?_
  rintro e w3 ⟨a3, c3, rfl, hown3, hb3⟩
  have hbl3 := bstep hbl2 hb3
  have hrow3 := hrow2.below hb3
  have hr3 := (hown2.below hb3).row (by omega)
  go_wp2_with fail
  refine (equalInts_any_eq w3 a2 a3 k k c2 c3 _ _ hr3 (hown3.row (by omega)) rfl).mono ?_
  rintro e w4 ⟨rfl, hb4⟩
  have hbl4 := bstep hbl3 hb4
  have hrow4 := hrow3.below hb4
  have hr4 := hr3.below hb4
  clear hown hown2 hown3 hb2 hb3 hb4 hrow hrow2 hrow3 hr3 hbl hbl2 hbl3
  by_cases hk0 : k = 0
  · have hkb : ((k : Int) == 0) = true := by simp; omega
    clear hk0
    go_wp2_with fail
    refine (HS.out w4 a1 c1 hrow4).mono ?_
    rintro e w5 ⟨a5, c5, rfl, hown5, hb5⟩
    go_wp2_with fail
    refine (equalInts_any_eq w5 a2 a5 k k c2 c5 _ _ (hr4.below hb5) (hown5.row (by omega)) rfl).mono ?_
    rintro e w6 ⟨rfl, hb6⟩
    go_wp2_with fail
    go_ret
    exact ⟨ret_bool rfl, bstep (bstep hbl4 hb5) hb6⟩
  have hkb : ((k : Int) == 0) = false := by simp; omega
  have hv := signsR_pos (xs := xs) (k := k) (by rw [HK.out, HYS.out]) hk0
  have hys : ys = signsL xs m := by rw [HYS.out, signsR, if_pos hv, hlen.out]
  have hkm : k = m := by rw [HK.out, hys, signsL, tab_length]
  subst hkm
  obtain ⟨kq, hkq, hnq, hbq⟩ := cube_p2 hv hlen.out
  have hn16 : k ≤ 16 := by rw [hnq]; exact p2_le (show kq ≤ 4 by omega)
  have hk1 : 0 < k := by omega
  have hbd := Lib.hid hbq
  have hvx := (cube_iff.1 hv).1
  have he0 : el ys 0 = sm (el xs) k := by rw [hys, signs_el hk1, hnq]; exact sg_first (el xs) hkq
  have HE : Hid (en (el ys) k = (k : Int) * en (el xs) k) := by
    rw [Hid, en_congr (g := sgAt (el xs) k) fun i hi => by rw [hys, signs_el hi]]
    have := sg_energy (el xs) hkq
    rw [← hnq] at this; exact this
  have HT : Hid (valid ys = true → signsR ys = tab (fun i => (k : Int) * el xs i) k) := fun hy => signs_twice hlen.out HYS.out hv hy
  have HRL : Hid ((signsR ys).length ≤ 1000) := signsR_len ys
  have HSB : Hid (∀ i, i < k → -1000000000000 ≤ (k : Int) * el xs i ∧ (k : Int) * el xs i ≤ 1000000000000) := fun i hi => by
    have := @mul_bd (k : Int) (el xs i) 16 1000 (by omega) (hbq i hi); omega
  clear hnq hbq hv hys
  obtain ⟨b2, off2, rfl, hbb2, hcell2⟩ := hr4.at hk1
  have HC2 : Hid (∀ w', Below w4.heap.size w4 w' → w'.cell? ⟨b2, off2, none⟩ = some (.int .i64 (sm (el xs) k))) := fun w' hb => by
    have := hcell2 w' hb 0 hk1
    rw [he0] at this; exact this
  clear hcell2 he0
  have hk1000 : k ≤ 1000 := by omega
  have j1 : (0 : Int) < (k : Int) := by omega
  cases hv2 : valid ys
  · go_wp2_with fail
    refine wp_region_held_drew (S := fun w' => Below w4.heap.size w4 w') (by kernel_rfl) ((Below.refl _ w4).drew) fun hS => ?_
    refine takeH 0 29 rfl rfl (by kernel_rfl) (by kernel_rfl) (by kernel_rfl) (fun _ _ _ h => h) (by rfl) (v := ?_) ?_ hS ?_
    rotate_left 1
    · (intro w hSw; (try dsimp only at hSw); go_simp; all_goals (with_reducible rfl))
    (try simp only [Act.put, List.setIfInBounds_toArray, List.set])
    refine takeH 1 30 rfl rfl (by kernel_rfl) (by kernel_rfl) (by kernel_rfl) (fun _ _ _ h => h) (by rfl) (v := ?_) ?_ hS ?_
    rotate_left 1
    · (intro w hSw; (try dsimp only at hSw); go_simp; all_goals (with_reducible rfl))
    (try simp only [Act.put, List.setIfInBounds_toArray, List.set])
    refine takeH 2 31 rfl rfl (by kernel_rfl) (by kernel_rfl) (by kernel_rfl) (fun _ _ _ h => h) (by rfl) (v := ?_) ?_ hS ?_
    rotate_left 1
    · (intro w hSw; (try dsimp only at hSw); have hq2 := HC2.out _ hSw; go_simp; all_goals (with_reducible rfl))
    (try simp only [Act.put, List.setIfInBounds_toArray, List.set])
    refine takeH 3 32 rfl rfl (by kernel_rfl) (by kernel_rfl) (by kernel_rfl) (fun _ _ _ h => h) (by rfl) (v := ?_) ?_ hS ?_
    rotate_left 1
    · (intro w hSw; (try dsimp only at hSw); go_simp; all_goals (with_reducible rfl))
    (try simp only [Act.put, List.setIfInBounds_toArray, List.set])
    refine wpAnyH_ready (rs := [4]) (by kernel_rfl) (by simp) ?_
    refine AllReadyH.cons rfl (fun K hK => ?_) AllReadyH.nil
    go_simp
    ((with_reducible refine (total_any _ _ _ _ xs 1000 (hrow4.below hS) hk1000 (by decide) hbd.out).mono ?_); rintro e w' ⟨rfl, rfl⟩)
    refine hK.out _ _ (hS) fun hS => ?_
    clear hK K
    (try simp only [Act.put, List.setIfInBounds_toArray, List.set])
    refine takeH 5 34 rfl rfl (by kernel_rfl) (by kernel_rfl) (by kernel_rfl) (fun _ _ _ h => h) (by rfl) (v := ?_) ?_ hS ?_
    rotate_left 1
    · (intro w hSw; (try dsimp only at hSw); go_simp; all_goals (with_reducible rfl))
    (try simp only [Act.put, List.setIfInBounds_toArray, List.set])
    refine takeH 6 35 rfl rfl (by kernel_rfl) (by kernel_rfl) (by kernel_rfl) (fun _ _ _ h => h) (by rfl) (v := ?_) ?_ hS ?_
    rotate_left 1
    · (intro w hSw; (try dsimp only at hSw); go_simp; all_goals (with_reducible rfl))
    (try simp only [Act.put, List.setIfInBounds_toArray, List.set])
    refine takeH 7 36 rfl rfl (by kernel_rfl) (by kernel_rfl) (by kernel_rfl) (fun _ _ _ h => h) (by rfl) (v := ?_) ?_ hS ?_
    rotate_left 1
    · (intro w hSw; (try dsimp only at hSw); go_simp; all_goals (with_reducible rfl))
    (try simp only [Act.put, List.setIfInBounds_toArray, List.set])
    refine wpAnyH_ready (rs := [8]) (by kernel_rfl) (by simp) ?_
    refine AllReadyH.cons rfl (fun K hK => ?_) AllReadyH.nil
    go_simp
    ((with_reducible refine (ValidRow_is _ _ _ _ _ false (hr4.below hS) hv2).mono ?_); rintro e w' ⟨rfl, rfl⟩)
    refine hK.out _ _ (hS) fun hS => ?_
    clear hK K
    (try simp only [Act.put, List.setIfInBounds_toArray, List.set])
    refine takeH 9 38 rfl rfl (by kernel_rfl) (by kernel_rfl) (by kernel_rfl) (fun _ _ _ h => h) (by rfl) (v := ?_) ?_ hS ?_
    rotate_left 1
    · (intro w hSw; (try dsimp only at hSw); go_simp; all_goals (with_reducible rfl))
    (try simp only [Act.put, List.setIfInBounds_toArray, List.set])
    refine takeH 10 39 rfl rfl (by kernel_rfl) (by kernel_rfl) (by kernel_rfl) (fun _ _ _ h => h) (by rfl) (v := ?_) ?_ hS ?_
    rotate_left 1
    · (intro w hSw; (try dsimp only at hSw); go_simp; all_goals (with_reducible rfl))
    (try simp only [Act.put, List.setIfInBounds_toArray, List.set])
    refine passH 11 40 rfl rfl (by kernel_rfl) (by kernel_rfl) (by kernel_rfl) (fun _ _ _ h => h) (by rfl) hS ?_
    (try simp only [Act.put, List.setIfInBounds_toArray, List.set])
    refine passH 12 41 rfl rfl (by kernel_rfl) (by kernel_rfl) (by kernel_rfl) (fun _ _ _ h => h) (by rfl) hS ?_
    (try simp only [Act.put, List.setIfInBounds_toArray, List.set])
    refine passH 13 42 rfl rfl (by kernel_rfl) (by kernel_rfl) (by kernel_rfl) (fun _ _ _ h => h) (by rfl) hS ?_
    (try simp only [Act.put, List.setIfInBounds_toArray, List.set])
    refine passH 14 43 rfl rfl (by kernel_rfl) (by kernel_rfl) (by kernel_rfl) (fun _ _ _ h => h) (by rfl) hS ?_
    (try simp only [Act.put, List.setIfInBounds_toArray, List.set])
    refine passH 15 44 rfl rfl (by kernel_rfl) (by kernel_rfl) (by kernel_rfl) (fun _ _ _ h => h) (by rfl) hS ?_
    (try simp only [Act.put, List.setIfInBounds_toArray, List.set])
    refine passH 16 45 rfl rfl (by kernel_rfl) (by kernel_rfl) (by kernel_rfl) (fun _ _ _ h => h) (by rfl) hS ?_
    (try simp only [Act.put, List.setIfInBounds_toArray, List.set])
    refine passH 17 46 rfl rfl (by kernel_rfl) (by kernel_rfl) (by kernel_rfl) (fun _ _ _ h => h) (by rfl) hS ?_
    (try simp only [Act.put, List.setIfInBounds_toArray, List.set])
    refine passH 18 47 rfl rfl (by kernel_rfl) (by kernel_rfl) (by kernel_rfl) (fun _ _ _ h => h) (by rfl) hS ?_
    (try simp only [Act.put, List.setIfInBounds_toArray, List.set])
    refine passH 19 48 rfl rfl (by kernel_rfl) (by kernel_rfl) (by kernel_rfl) (fun _ _ _ h => h) (by rfl) hS ?_
    (try simp only [Act.put, List.setIfInBounds_toArray, List.set])
    refine passH 20 49 rfl rfl (by kernel_rfl) (by kernel_rfl) (by kernel_rfl) (fun _ _ _ h => h) (by rfl) hS ?_
    (try simp only [Act.put, List.setIfInBounds_toArray, List.set])
    refine passH 21 50 rfl rfl (by kernel_rfl) (by kernel_rfl) (by kernel_rfl) (fun _ _ _ h => h) (by rfl) hS ?_
    (try simp only [Act.put, List.setIfInBounds_toArray, List.set])
    refine passH 22 51 rfl rfl (by kernel_rfl) (by kernel_rfl) (by kernel_rfl) (fun _ _ _ h => h) (by rfl) hS ?_
    (try simp only [Act.put, List.setIfInBounds_toArray, List.set])
    refine passH 23 52 rfl rfl (by kernel_rfl) (by kernel_rfl) (by kernel_rfl) (fun _ _ _ h => h) (by rfl) hS ?_
    (try simp only [Act.put, List.setIfInBounds_toArray, List.set])
    refine passH 24 53 rfl rfl (by kernel_rfl) (by kernel_rfl) (by kernel_rfl) (fun _ _ _ h => h) (by rfl) hS ?_
    (try simp only [Act.put, List.setIfInBounds_toArray, List.set])
    refine passH 25 54 rfl rfl (by kernel_rfl) (by kernel_rfl) (by kernel_rfl) (fun _ _ _ h => h) (by rfl) hS ?_
    (try simp only [Act.put, List.setIfInBounds_toArray, List.set])
    refine takeH 26 55 rfl rfl (by kernel_rfl) (by kernel_rfl) (by kernel_rfl) (fun _ _ _ h => h) (by rfl) (v := ?_) ?_ hS ?_
    rotate_left 1
    · (intro w hSw; (try dsimp only at hSw); go_simp; all_goals (with_reducible rfl))
    (try simp only [Act.put, List.setIfInBounds_toArray, List.set])
    refine takeH 27 56 rfl rfl (by kernel_rfl) (by kernel_rfl) (by kernel_rfl) (fun _ _ _ h => h) (by rfl) (v := ?_) ?_ hS ?_
    rotate_left 1
    · (intro w hSw; (try dsimp only at hSw); go_simp; all_goals (with_reducible rfl))
    (try simp only [Act.put, List.setIfInBounds_toArray, List.set])
    refine takeH 28 2 rfl rfl (by kernel_rfl) (by kernel_rfl) (by kernel_rfl) (fun _ _ _ h => h) (by rfl) (v := ?_) ?_ hS ?_
    rotate_left 1
    · (intro w hSw; (try dsimp only at hSw); go_simp; all_goals (with_reducible rfl))
    (try simp only [Act.put, List.setIfInBounds_toArray, List.set])
    refine wpAnyH_done (by kernel_rfl) ?_ _
    go_wp2_with fail
    go_ret
    exact ⟨ret_bool (by simp), bstep hbl4 hS⟩
  · have HEX := Lib.hid (@en_bd (el xs) k hbd.out)
    have j5 : IntKind.i64.wrap ((k : Int) * en (el xs) k) = (k : Int) * en (el xs) k := by
      have h1 := HEX.out
      have h2 := @mul_bd (k : Int) (en (el xs) k) 16 16000000 (by omega) (by omega)
      exact IntWalk.i64_in _ (by omega)
    have hrl := HRL.out
    go_wp2_with fail
    refine wp_region_held_drew (S := fun w' => Below w4.heap.size w4 w') (by kernel_rfl) ((Below.refl _ w4).drew) fun hS => ?_
    refine takeH 0 29 rfl rfl (by kernel_rfl) (by kernel_rfl) (by kernel_rfl) (fun _ _ _ h => h) (by rfl) (v := ?_) ?_ hS ?_
    rotate_left 1
    · (intro w hSw; (try dsimp only at hSw); go_simp; all_goals (with_reducible rfl))
    (try simp only [Act.put, List.setIfInBounds_toArray, List.set])
    refine takeH 1 30 rfl rfl (by kernel_rfl) (by kernel_rfl) (by kernel_rfl) (fun _ _ _ h => h) (by rfl) (v := ?_) ?_ hS ?_
    rotate_left 1
    · (intro w hSw; (try dsimp only at hSw); go_simp; all_goals (with_reducible rfl))
    (try simp only [Act.put, List.setIfInBounds_toArray, List.set])
    refine takeH 2 31 rfl rfl (by kernel_rfl) (by kernel_rfl) (by kernel_rfl) (fun _ _ _ h => h) (by rfl) (v := ?_) ?_ hS ?_
    rotate_left 1
    · (intro w hSw; (try dsimp only at hSw); have hq2 := HC2.out _ hSw; go_simp; all_goals (with_reducible rfl))
    (try simp only [Act.put, List.setIfInBounds_toArray, List.set])
    refine takeH 3 32 rfl rfl (by kernel_rfl) (by kernel_rfl) (by kernel_rfl) (fun _ _ _ h => h) (by rfl) (v := ?_) ?_ hS ?_
    rotate_left 1
    · (intro w hSw; (try dsimp only at hSw); go_simp; all_goals (with_reducible rfl))
    (try simp only [Act.put, List.setIfInBounds_toArray, List.set])
    refine wpAnyH_ready (rs := [4]) (by kernel_rfl) (by simp) ?_
    refine AllReadyH.cons rfl (fun K hK => ?_) AllReadyH.nil
    go_simp
    ((with_reducible refine (total_any _ _ _ _ xs 1000 (hrow4.below hS) hk1000 (by decide) hbd.out).mono ?_); rintro e w' ⟨rfl, rfl⟩)
    refine hK.out _ _ (hS) fun hS => ?_
    clear hK K
    (try simp only [Act.put, List.setIfInBounds_toArray, List.set])
    refine takeH 5 34 rfl rfl (by kernel_rfl) (by kernel_rfl) (by kernel_rfl) (fun _ _ _ h => h) (by rfl) (v := ?_) ?_ hS ?_
    rotate_left 1
    · (intro w hSw; (try dsimp only at hSw); go_simp; all_goals (with_reducible rfl))
    (try simp only [Act.put, List.setIfInBounds_toArray, List.set])
    refine takeH 6 35 rfl rfl (by kernel_rfl) (by kernel_rfl) (by kernel_rfl) (fun _ _ _ h => h) (by rfl) (v := ?_) ?_ hS ?_
    rotate_left 1
    · (intro w hSw; (try dsimp only at hSw); go_simp; all_goals (with_reducible rfl))
    (try simp only [Act.put, List.setIfInBounds_toArray, List.set])
    refine takeH 7 36 rfl rfl (by kernel_rfl) (by kernel_rfl) (by kernel_rfl) (fun _ _ _ h => h) (by rfl) (v := ?_) ?_ hS ?_
    rotate_left 1
    · (intro w hSw; (try dsimp only at hSw); go_simp; all_goals (with_reducible rfl))
    (try simp only [Act.put, List.setIfInBounds_toArray, List.set])
    refine wpAnyH_ready (rs := [8]) (by kernel_rfl) (by simp) ?_
    refine AllReadyH.cons rfl (fun K hK => ?_) AllReadyH.nil
    go_simp
    ((with_reducible refine (ValidRow_is _ _ _ _ _ true (hr4.below hS) hv2).mono ?_); rintro e w' ⟨rfl, rfl⟩)
    refine hK.out _ _ (hS) fun hS => ?_
    clear hK K
    (try simp only [Act.put, List.setIfInBounds_toArray, List.set])
    refine takeH 9 38 rfl rfl (by kernel_rfl) (by kernel_rfl) (by kernel_rfl) (fun _ _ _ h => h) (by rfl) (v := ?_) ?_ hS ?_
    rotate_left 1
    · (intro w hSw; (try dsimp only at hSw); go_simp; all_goals (with_reducible rfl))
    (try simp only [Act.put, List.setIfInBounds_toArray, List.set])
    refine takeH 10 39 rfl rfl (by kernel_rfl) (by kernel_rfl) (by kernel_rfl) (fun _ _ _ h => h) (by rfl) (v := ?_) ?_ hS ?_
    rotate_left 1
    · (intro w hSw; (try dsimp only at hSw); go_simp; all_goals (with_reducible rfl))
    (try simp only [Act.put, List.setIfInBounds_toArray, List.set])
    refine takeH 11 40 rfl rfl (by kernel_rfl) (by kernel_rfl) (by kernel_rfl) (fun _ _ _ h => h) (by rfl) (v := ?_) ?_ hS ?_
    rotate_left 1
    · (intro w hSw; (try dsimp only at hSw); go_simp; all_goals (with_reducible rfl))
    (try simp only [Act.put, List.setIfInBounds_toArray, List.set])
    refine takeH 13 42 rfl rfl (by kernel_rfl) (by kernel_rfl) (by kernel_rfl) (fun _ _ _ h => h) (by rfl) (v := ?_) ?_ hS ?_
    rotate_left 1
    · (intro w hSw; (try dsimp only at hSw); go_simp; all_goals (with_reducible rfl))
    (try simp only [Act.put, List.setIfInBounds_toArray, List.set])
    refine takeH 14 43 rfl rfl (by kernel_rfl) (by kernel_rfl) (by kernel_rfl) (fun _ _ _ h => h) (by rfl) (v := ?_) ?_ hS ?_
    rotate_left 1
    · (intro w hSw; (try dsimp only at hSw); go_simp; all_goals (with_reducible rfl))
    (try simp only [Act.put, List.setIfInBounds_toArray, List.set])
    refine wpAnyH_ready (rs := [12]) (by kernel_rfl) (by simp) ?_
    refine AllReadyH.cons rfl (fun K hK => ?_) AllReadyH.nil
    go_simp
    ((with_reducible refine (SignsOf_all _ _ _ _ ys (hr4.below hS)).mono ?_); rintro e w5 ⟨a5, c5, rfl, hown5, hb5⟩)
    refine hK.out _ _ (bstep hS hb5) fun hS => ?_
    clear hK K
    (try simp only [Act.put, List.setIfInBounds_toArray, List.set])
    refine wpAnyH_ready (rs := [15]) (by kernel_rfl) (by simp) ?_
    refine AllReadyH.cons rfl (fun K hK => ?_) AllReadyH.nil
    go_simp
    ((with_reducible refine (scaled_any _ _ _ _ xs k (hrow4.below hS) hk1000 HSB.out).mono ?_); rintro e w6 ⟨a6, c6, rfl, hown6, hb6⟩)
    refine hK.out _ _ (bstep hS hb6) fun hS => ?_
    clear hK K
    (try simp only [Act.put, List.setIfInBounds_toArray, List.set])
    refine wpAnyH_ready (rs := [16]) (by kernel_rfl) (by simp) ?_
    refine AllReadyH.cons rfl (fun K hK => ?_) AllReadyH.nil
    go_simp
    ((with_reducible refine (equalInts_any_eq _ _ _ _ _ _ _ _ _ ((hown5.below hb6).row (by omega)) (hown6.row (by omega)) (HT.out hv2)).mono ?_); rintro e w7 ⟨rfl, hb7⟩)
    refine hK.out _ _ (bstep hS hb7) fun hS => ?_
    clear hK K
    (try simp only [Act.put, List.setIfInBounds_toArray, List.set])
    refine takeH 17 46 rfl rfl (by kernel_rfl) (by kernel_rfl) (by kernel_rfl) (fun _ _ _ h => h) (by rfl) (v := ?_) ?_ hS ?_
    rotate_left 1
    · (intro w hSw; (try dsimp only at hSw); go_simp; all_goals (with_reducible rfl))
    (try simp only [Act.put, List.setIfInBounds_toArray, List.set])
    refine takeH 18 47 rfl rfl (by kernel_rfl) (by kernel_rfl) (by kernel_rfl) (fun _ _ _ h => h) (by rfl) (v := ?_) ?_ hS ?_
    rotate_left 1
    · (intro w hSw; (try dsimp only at hSw); go_simp; all_goals (with_reducible rfl))
    (try simp only [Act.put, List.setIfInBounds_toArray, List.set])
    refine takeH 20 49 rfl rfl (by kernel_rfl) (by kernel_rfl) (by kernel_rfl) (fun _ _ _ h => h) (by rfl) (v := ?_) ?_ hS ?_
    rotate_left 1
    · (intro w hSw; (try dsimp only at hSw); go_simp; all_goals (with_reducible rfl))
    (try simp only [Act.put, List.setIfInBounds_toArray, List.set])
    refine takeH 21 50 rfl rfl (by kernel_rfl) (by kernel_rfl) (by kernel_rfl) (fun _ _ _ h => h) (by rfl) (v := ?_) ?_ hS ?_
    rotate_left 1
    · (intro w hSw; (try dsimp only at hSw); go_simp; all_goals (with_reducible rfl))
    (try simp only [Act.put, List.setIfInBounds_toArray, List.set])
    refine wpAnyH_ready (rs := [19]) (by kernel_rfl) (by simp) ?_
    refine AllReadyH.cons rfl (fun K hK => ?_) AllReadyH.nil
    go_simp
    ((with_reducible refine (EnergyOf_yes _ _ _ _ ys (hr4.below hS) hv2).mono ?_); rw [HE.out]; rintro e w' ⟨rfl, rfl⟩)
    refine hK.out _ _ (hS) fun hS => ?_
    clear hK K
    (try simp only [Act.put, List.setIfInBounds_toArray, List.set])
    refine wpAnyH_ready (rs := [22]) (by kernel_rfl) (by simp) ?_
    refine AllReadyH.cons rfl (fun K hK => ?_) AllReadyH.nil
    go_simp
    ((with_reducible refine (EnergyOf_yes _ _ _ _ xs (hrow4.below hS) hvx).mono ?_); rintro e w' ⟨rfl, rfl⟩)
    refine hK.out _ _ (hS) fun hS => ?_
    clear hK K
    (try simp only [Act.put, List.setIfInBounds_toArray, List.set])
    refine takeH 23 52 rfl rfl (by kernel_rfl) (by kernel_rfl) (by kernel_rfl) (fun _ _ _ h => h) (by rfl) (v := ?_) ?_ hS ?_
    rotate_left 1
    · (intro w hSw; (try dsimp only at hSw); go_simp; all_goals (with_reducible rfl))
    (try simp only [Act.put, List.setIfInBounds_toArray, List.set])
    refine takeH 24 53 rfl rfl (by kernel_rfl) (by kernel_rfl) (by kernel_rfl) (fun _ _ _ h => h) (by rfl) (v := ?_) ?_ hS ?_
    rotate_left 1
    · (intro w hSw; (try dsimp only at hSw); go_simp; all_goals (with_reducible rfl))
    (try simp only [Act.put, List.setIfInBounds_toArray, List.set])
    refine takeH 25 54 rfl rfl (by kernel_rfl) (by kernel_rfl) (by kernel_rfl) (fun _ _ _ h => h) (by rfl) (v := ?_) ?_ hS ?_
    rotate_left 1
    · (intro w hSw; (try dsimp only at hSw); go_simp; all_goals (with_reducible rfl))
    (try simp only [Act.put, List.setIfInBounds_toArray, List.set])
    refine takeH 26 55 rfl rfl (by kernel_rfl) (by kernel_rfl) (by kernel_rfl) (fun _ _ _ h => h) (by rfl) (v := ?_) ?_ hS ?_
    rotate_left 1
    · (intro w hSw; (try dsimp only at hSw); go_simp; all_goals (with_reducible rfl))
    (try simp only [Act.put, List.setIfInBounds_toArray, List.set])
    refine takeH 27 56 rfl rfl (by kernel_rfl) (by kernel_rfl) (by kernel_rfl) (fun _ _ _ h => h) (by rfl) (v := ?_) ?_ hS ?_
    rotate_left 1
    · (intro w hSw; (try dsimp only at hSw); go_simp; all_goals (with_reducible rfl))
    (try simp only [Act.put, List.setIfInBounds_toArray, List.set])
    refine takeH 28 2 rfl rfl (by kernel_rfl) (by kernel_rfl) (by kernel_rfl) (fun _ _ _ h => h) (by rfl) (v := ?_) ?_ hS ?_
    rotate_left 1
    · (intro w hSw; (try dsimp only at hSw); go_simp; all_goals (with_reducible rfl))
    (try simp only [Act.put, List.setIfInBounds_toArray, List.set])
    refine wpAnyH_done (by kernel_rfl) ?_ _
    clear j5
    go_wp2_with fail
    go_ret
    exact ⟨ret_bool (by simp), bstep hbl4 hS⟩
theorem unsR_pos {xs : List Int} (h : unsOk xs = true) : (unsR xs).length = xs.length := by rw [unsR, if_pos h, tab_length]
set_option maxHeartbeats 3200000 in
theorem law_UnsignsOf (w : World) (a : Option Addr) (n c : Nat) (h : Bts w a n w.heap.size) (hnc : n ≤ c) :
    Calls Try.prog 11 #[.slice a n c] w fun e w' => Says w w' e true := by
  by_cases hbig : 1048576 < n
  · go_enter Try.func11, Try.ntmps11
    go_wp2
    go_ret
    exact ⟨rfl, Below.refl _ _⟩
  go_enter Try.func11, Try.ntmps11
  go_wp2_with fail
  refine (DrawUnsignsOf_any w a n c h hnc (by omega)).mono ?_
  rintro e w1 ⟨a1, m, c1, xs, rfl, hm, hown, hbl⟩
  have hrow := hown.row (by omega)
  have hlen : Hid (xs.length = m) := hrow.len
  obtain ⟨ys, hys⟩ : ∃ ys, ys = unsR xs := ⟨_, rfl⟩
  obtain ⟨k, hk⟩ : ∃ k, k = ys.length := ⟨_, rfl⟩
  obtain ⟨v, hvv⟩ : ∃ v, v = unsOk xs := ⟨_, rfl⟩
  have hk1 : k ≤ 1000 := by rw [hk, hys]; exact unsR_len xs
  have HI : Hid (∀ w a c, Row w a m c xs → Calls Try.prog 29 #[.slice a m c] w fun e w' => FreshB w w' e k ys v) := by
    intro w a c h; rw [hk, hys, hvv]; exact UnsignsOf_all w a m c xs h
  have HS : Hid (∀ w a c, Row w a m c xs → Calls Try.prog 28 #[.slice a m c] w fun e w' => FreshB w w' e k ys v) := by
    intro w a c h; rw [hk, hys, hvv]; exact sUnsignsOf_all w a m c xs h
  have HB : Hid (v = true → valid ys = true ∧ signsR ys = xs) := fun h0 => unsigns_back hlen.out hys (by rw [← hvv]; exact h0)
  have hRb : (signsR ys).length ≤ 1000 := signsR_len ys
  clear hys hk hvv
  go_wp2_with fail
  refine (HI.out w1 a1 c1 hrow).mono ?_
  rintro e w2 ⟨a2, c2, rfl, own2, b2⟩
  go_wp2_with fail
  refine (HS.out w2 a1 c1 (hrow.below b2)).mono ?_
  rintro e w3 ⟨a3, c3, rfl, own3, b3⟩
  have l3 := bstep (bstep hbl b2) b3
  have r2 := (own2.below b3).row (by omega)
  have rx := (hrow.below b2).below b3
  go_wp2_with fail
  refine (equalInts_any_eq w3 a2 a3 k k c2 c3 _ _ r2 (own3.row (by omega)) rfl).mono ?_
  rintro e w4 ⟨rfl, b4⟩
  have l4 := bstep l3 b4
  have r4 := r2.below b4
  have rx4 := rx.below b4
  cases v
  · go_wp2_with fail
    refine (equalInts_any_eq w4 a2 a3 k k c2 c3 _ _ r4 ((own3.below b4).row (by omega)) rfl).mono ?_
    rintro e w5 ⟨rfl, b5⟩
    go_wp2_with fail
    go_ret
    exact ⟨ret_bool (by simp), bstep l4 b5⟩
  · obtain ⟨hvy, hsy⟩ := HB.out rfl
    have HSY := Lib.hid hsy
    clear hsy
    go_wp2_with fail
    refine (ValidRow_is w4 a2 k c2 ys true r4 hvy).mono ?_
    rintro e w' ⟨rfl, rfl⟩
    go_wp2_with fail
    refine (SignsOf_all w4 a2 k c2 ys r4).mono ?_
    rintro e w5 ⟨a5, c5, rfl, own5, b5⟩
    go_wp2_with fail
    refine (equalInts_any_eq w5 a5 a1 _ _ c5 _ _ _ (own5.row (by omega)) (rx4.below b5) HSY.out).mono ?_
    rintro e w6 ⟨rfl, b6⟩
    go_wp2_with fail
    go_ret
    exact ⟨ret_bool (by simp), bstep (bstep l4 b5) b6⟩
theorem sm_same (c : Int) (n : Nat) : sm (fun _ => c) n = n * c := by
  induction n with
  | zero => simp [sm]
  | succ n ih => rw [sm, ih, Int.natCast_add, Int.add_mul]; simp
/-- Where a row is bent all numbers of its signs, by themselves, are as many as there are. -/
theorem bent_sq {xs : List Int} {n : Nat} (hl : xs.length = n) (hb : bentB xs = true) : ∀ i, i < n → sgAt (el xs) n i * sgAt (el xs) n i = n := by
  obtain ⟨hc, ho, hs⟩ := bent_iff.1 hb
  rw [hl] at ho hs
  obtain ⟨k, hk, hn, hbd⟩ := cube_p2 hc hl
  have hp : 0 < n := by rw [hn]; exact p2_pos k
  have h1 : en (el xs) n = n := by
    have : en (el xs) n = sm (fun _ => 1) n := sm_congr fun i hi => by
      rcases onF_iff.1 ho i hi with e | e <;> rw [e] <;> rfl
    rw [this, sm_same, Int.mul_one]
  have hall : ∀ i, i < n → sgAt (el xs) n i * sgAt (el xs) n i = sgAt (el xs) n 0 * sgAt (el xs) n 0 := fun i hi => sq_eq.2 (bsF_iff.1 hs i hi)
  have h2 : en (sgAt (el xs) n) n = n * (sgAt (el xs) n 0 * sgAt (el xs) n 0) := by
    have e1 : en (sgAt (el xs) n) n = sm (fun _ => sgAt (el xs) n 0 * sgAt (el xs) n 0) n := sm_congr fun i hi => hall i hi
    rw [e1, sm_same]
  have h3 : en (sgAt (el xs) n) n = n * en (el xs) n := by
    have := sg_energy (el xs) hk
    rw [← hn] at this; exact this
  intro i hi
  rw [hall i hi]
  rw [h2, h1] at h3
  exact Int.eq_of_mul_eq_mul_left (by omega) h3
theorem bent_turn {xs : List Int} {n : Nat} (hl : xs.length = n) (hb : bentB xs = true) : bentB (tab (fun i => el xs (n - 1 - i)) n) = true := by
  have hsq := bent_sq hl hb
  obtain ⟨hc, ho, hs⟩ := bent_iff.1 hb
  rw [hl] at ho hs
  obtain ⟨k, hk, hn, hbd⟩ := cube_p2 hc hl
  have hp : 0 < n := by rw [hn]; exact p2_pos k
  have hle : ∀ i, i < n → el (tab (fun i => el xs (n - 1 - i)) n) i = el xs (n - 1 - i) := fun i hi => el_tab hi
  refine bent_iff.2 ⟨cube_iff.2 ⟨valid_iff.2 ⟨by rw [tab_length, hn]; exact p2_le (show k ≤ 4 by omega), fun i hi => ?_⟩, by rw [tab_length, hn]; exact isP2_p2 k hk⟩, ?_, ?_⟩
  · rw [tab_length] at hi
    rw [hle i hi]; exact hbd _ (by omega)
  · rw [tab_length]
    exact onF_iff.2 fun i hi => by rw [hle i hi]; exact onF_iff.1 ho _ (by omega)
  · rw [tab_length]
    have hg : ∀ i, i < n → sgAt (el (tab (fun i => el xs (n - 1 - i)) n)) n i * sgAt (el (tab (fun i => el xs (n - 1 - i)) n)) n i = n := fun i hi => by
      have e1 : sgAt (el (tab (fun i => el xs (n - 1 - i)) n)) n i = sgAt (fun i => el xs (n - 1 - i)) n i := sg_congr fun j hj => hle j hj
      have e2 : sgAt (fun i => el xs (n - 1 - i)) n i = sgn (n - 1) i * sgAt (el xs) n i := by
        have := sg_turn (el xs) hk (y := i) (by omega)
        rw [← hn] at this; exact this
      rw [e1, e2]
      have e3 : sgn (n - 1) i * sgAt (el xs) n i * (sgn (n - 1) i * sgAt (el xs) n i) = (sgn (n - 1) i * sgn (n - 1) i) * (sgAt (el xs) n i * sgAt (el xs) n i) := by ac_rfl
      rw [e3, sgn_sq, Int.one_mul, hsq i hi]
    exact bsF_iff.2 fun i hi => sq_eq.1 (by rw [hg i hi, hg 0 hp])
set_option maxHeartbeats 3200000 in
theorem law_IsBent (w : World) (a : Option Addr) (n c : Nat) (h : Bts w a n w.heap.size) (hnc : n ≤ c) :
    Calls Try.prog 9 #[.slice a n c] w fun e w' => Says w w' e true := by
  by_cases hbig : 1048576 < n
  · go_enter Try.func9, Try.ntmps9
    go_wp2
    go_ret
    exact ⟨rfl, Below.refl _ _⟩
  go_enter Try.func9, Try.ntmps9
  go_wp2_with fail
  refine (DrawIsBent_any w a n c h hnc (by omega)).mono ?_
  rintro e w1 ⟨a1, m, c1, xs, rfl, hm, hown, hbl⟩
  have hrow := hown.row (by omega)
  have hlen : Hid (xs.length = m) := hrow.len
  obtain ⟨v, hvv⟩ : ∃ v, v = bentB xs := ⟨_, rfl⟩
  have HS : Hid (∀ w a c, Row w a m c xs → Calls Try.prog 26 #[.slice a m c] w fun e w' => Says w w' e v) := by
    intro w a c h; rw [hvv]; exact sIsBent_all w a m c xs h
  have HI : Hid (∀ w a c, Row w a m c xs → Calls Try.prog 27 #[.slice a m c] w fun e w' => Says w w' e v) := by
    intro w a c h; rw [hvv]; exact IsBent_all w a m c xs h
  have HV : Hid (v = true → bentB xs = true) := fun h0 => by rw [← hvv]; exact h0
  clear hvv
  go_wp2_with fail
  refine (HI.out w1 a1 c1 hrow).mono ?_
  rintro e w2 ⟨rfl, b2⟩
  go_wp2_with fail
  refine (HS.out w2 a1 c1 (hrow.below b2)).mono ?_
  rintro e w3 ⟨rfl, b3⟩
  have l3 := bstep (bstep hbl b2) b3
  have r3 := (hrow.below b2).below b3
  cases v
  · go_wp2_with fail
    refine (HS.out w3 a1 c1 r3).mono ?_
    rintro e w4 ⟨rfl, b4⟩
    go_wp2_with fail
    go_ret
    exact ⟨ret_bool (by simp), bstep l3 b4⟩
  · have hb := HV.out rfl
    have HSQ := Lib.hid (bent_sq hlen.out hb)
    have HTU := Lib.hid (bent_turn hlen.out hb)
    have hcx := (bent_iff.1 hb).1
    have hm16 : m ≤ 16 := by have := valid_len (cube_iff.1 hcx).1; rw [hlen.out] at this; exact this
    have HB : Hid (∀ i, i < m → -1000 ≤ el xs i ∧ el xs i ≤ 1000) := fun i hi => valid_bd (cube_iff.1 hcx).1 (by rw [hlen.out]; exact hi)
    have hsl : signsR xs = signsL xs m := by rw [signsR, if_pos hcx, hlen.out]
    have HCON : Hid (Calls Try.prog 25 #[.slice a1 m c1] w3 fun e w' => Fresh w3 w' e m (signsL xs m)) := by
      have := SignsOf_all w3 a1 m c1 xs r3
      rw [hsl, signsL, tab_length] at this; exact this
    clear hb hcx hsl
    go_wp2_with fail
    refine (HCON.out).mono ?_
    rintro e w4 ⟨a4, c4, rfl, own4, b4⟩
    have l4 := bstep l3 b4
    have r4 := r3.below b4
    have ry := own4.row (show m ≤ 1125899906842624 by omega)
    go_wp2_with fail
    go_loopw [6] (fun u wr => ∃ j : Nat, j ≤ m ∧ u = .int .i64 j ∧ Below w4.heap.size w4 wr) (fun u _ => m - (intOf u).toNat)
    case atStart => exact ⟨0, Nat.zero_le _, rfl, Below.refl _ _⟩
    case round =>
      obtain ⟨j, hj, rfl, hblr⟩ := hrel
      by_cases hlt : j < m
      · obtain ⟨b5, o5, rfl, _, hcy⟩ := (ry.below hblr).cell j hlt
        have hc := hcy j hlt
        rw [signs_el hlt] at hc
        clear hcy
        have hsq := HSQ.out j hlt
        have sk := @sgs_bd (el xs) 1000 m j HB.out
        obtain ⟨X, hX⟩ : ∃ X, X = sgAt (el xs) m j := ⟨_, rfl⟩
        rw [← hX] at hc hsq sk
        clear hX
        have i0 : (0 : Int) ≤ (j : Int) := by omega
        have i1 : (j : Int) < m := by omega
        have j1 : IntKind.i64.wrap (X * X) = (m : Int) := by rw [hsq]; exact IntWalk.i64_in _ (by omega)
        clear hsq
        go_wp2_with fail
        go_quiet (fail)
        clear j1
        go_wp2_with fail
        go_roundw
        case rel => exact ⟨j + 1, by omega, by go_num, bdrewN hblr _⟩
        case measure => simp [intOf]; omega
      · obtain rfl : j = m := by omega
        have l5 := bstep l4 hblr
        go_wp2_with fail
        refine (turned_any wr a1 j c1 xs (r4.below hblr) (by omega)).mono ?_
        rintro e w6 ⟨a6, c6, rfl, own6, b6⟩
        go_wp2_with fail
        refine (IsBent_all w6 a6 j c6 _ (own6.row (by omega))).mono ?_
        rw [HTU.out]
        rintro e w7 ⟨rfl, b7⟩
        go_wp2_with fail
        go_ret
        exact ⟨rfl, bstep (bstep l5 b6) b7⟩
end Go.Proofs.Ytccddkgpcgnaoaa
