/-
  The laws of BelowOf and UnbelowOf for drawn rows: the walks of laws.FnBelowOf and laws.FnUnbelowOf answer true, given that the codes lie in memory.
-/
import Derived.Test.YtommnhpihophbaaPar2
import Derived.Test.YtommnhpihophbaaDraw2
namespace Go.Proofs.Ytommnhpihophbaa
open Go.RowKit

theorem par_inv (s t : Int) (xs : List Int) (kk n : Nat) (h : xs.length = n) (hi : ∀ i, i < n → Gs t (el (parL s xs kk n)) kk i = el xs i) : parL t (parL s xs kk n) kk n = xs := by
  apply el_ext
  · rw [parL, tab_length, h]
  · intro i hi'
    rw [parL, tab_length] at hi'
    rw [parL, el_tab hi']
    exact hi i hi'


set_option maxHeartbeats 3200000 in
theorem law_BelowOf (w : World) (a : Option Addr) (n c : Nat) (h : Bts w a n w.heap.size) (hnc : n ≤ c) :
    Calls Try.prog 11 #[.slice a n c] w fun e w' => Says w w' e true := by
  by_cases hbig : 1048576 < n
  · go_enter Try.func11, Try.ntmps11
    go_wp2
    go_ret
    exact ⟨rfl, Below.refl _ _⟩
  go_enter Try.func11, Try.ntmps11
  go_wp2_with fail
  refine (DrawBelowOf_any w a n c h hnc (by omega)).mono ?_
  rintro e w1 ⟨a1, m, c1, xs, rfl, hm, hown, hbl⟩
  have hrow := hown.row (by omega)
  have hlen : Hid (xs.length = m) := hrow.len
  cases hv : cube xs
  · go_wp2_with fail
    refine (BelowOf_no w1 a1 m c1 xs hrow hv).mono ?_
    rintro e w2 ⟨rfl, rfl⟩
    go_wp2_with fail
    refine (sBelowOf_no _ a1 m c1 xs hrow hv).mono ?_
    rintro e w2 ⟨rfl, rfl⟩
    go_wp2_with fail
    refine (equalInts_any_eq _ none none 0 0 0 0 [] [] (row_nil _) (row_nil _) rfl).mono ?_
    rintro e w2 ⟨rfl, hb2⟩
    have hbl2 := bstep hbl hb2
    have hrow2 := hrow.below hb2
    go_wp2_with fail
    refine (sBelowOf_no _ a1 m c1 xs hrow2 hv).mono ?_
    rintro e w3 ⟨rfl, rfl⟩
    go_wp2_with fail
    refine (equalInts_any_eq _ none none 0 0 0 0 [] [] (row_nil _) (row_nil _) rfl).mono ?_
    rintro e w4 ⟨rfl, hb4⟩
    go_wp2_with fail
    go_ret
    exact ⟨ret_bool rfl, bstep hbl2 hb4⟩
  · obtain ⟨hv0, hvp⟩ := cube_iff.1 hv
    rw [hlen.out] at hvp
    obtain ⟨kk, hkk, hnk⟩ := isP2_k hvp
    have HK : Hid (m = p2 kk) := hnk
    have hm16 : m ≤ 16 := by have := valid_len hv0; rw [hlen.out] at this; exact this
    have hbd : Hid (∀ i, i < m → -1000 ≤ el xs i ∧ el xs i ≤ 1000) := fun i hi => valid_bd hv0 (by rw [hlen.out]; exact hi)
    have hm1 : 0 < m := by rw [hnk]; exact p2_pos kk
    clear hnk
    go_wp2_with fail
    refine (BelowOf_yes w1 a1 m c1 xs kk hkk HK.out hrow hv).mono ?_
    rintro e w2 ⟨a2, c2, rfl, hown2, hb2⟩
    have hbl2 := bstep hbl hb2
    have hrow2 := hrow.below hb2
    go_wp2_with fail
    refine (sBelowOf_yes w2 a1 m c1 xs kk hkk HK.out hrow2 hv).mono ?_
    rintro e w3 ⟨a3, c3, rfl, hown3, hb3⟩
    have hbl3 := bstep hbl2 hb3
    have hrow3 := hrow2.below hb3
    have hr3 := (hown2.below hb3).row (by omega)
    have hmb : ((m : Int) == 0) = false := by simp; omega
    go_wp2_with fail
    refine (equalInts_any_eq w3 a2 a3 m m c2 c3 _ _ hr3 (hown3.row (by omega)) rfl).mono ?_
    rintro e w4 ⟨rfl, hb4⟩
    have hbl4 := bstep hbl3 hb4
    have hrow4 := hrow3.below hb4
    have hr4 := hr3.below hb4
    clear hown hown2 hown3 hb2 hb3 hb4 hrow hrow2 hrow3 hr3 hbl hbl2 hbl3
    obtain ⟨b2, off2, rfl, hbb2, hcell2⟩ := hr4.at hm1
    obtain ⟨b1, off1, rfl, hbb1, hcell1⟩ := hrow4.at hm1
    have hd0 : el (parL (1) xs kk m) 0 = el xs 0 := by rw [parL, el_tab hm1, Gs_0 _ _ _ hkk]
    have HC2 : Hid (∀ w', Below w4.heap.size w4 w' → w'.cell? ⟨b2, off2, none⟩ = some (.int .i64 (el xs 0))) := fun w' hb => by
      have := hcell2 w' hb 0 hm1
      rw [hd0] at this; exact this
    have HC1 : Hid (∀ w', Below w4.heap.size w4 w' → w'.cell? ⟨b1, off1, none⟩ = some (.int .i64 (el xs 0))) := fun w' hb => hcell1 w' hb 0 hm1
    have HCB : Hid (∀ w', Below w4.heap.size w4 w' → w'.cell? ⟨b1, off1 + (m - 1), none⟩ = some (.int .i64 (el xs (m - 1)))) := fun w' hb => hcell1 w' hb (m - 1) (by omega)
    have HCA : Hid (∀ w', Below w4.heap.size w4 w' → w'.cell? ⟨b2, off2 + (m - 1), none⟩ = some (.int .i64 (el (parL (1) xs kk m) (m - 1)))) := fun w' hb => hcell2 w' hb (m - 1) (by omega)
    clear hcell1 hcell2 hd0
    have j1 : (0 : Int) < (m : Int) := by omega
    have j2 : (0 : Int) ≤ (m : Int) - 1 := by omega
    have j3 : (m : Int) - 1 < m := by omega
    have j4 : ((m : Int) - 1).toNat = m - 1 := by omega
    have j6 : (1 : Int) ≤ (m : Int) := by omega
    have j5 : IntKind.i64.wrap ((m : Int) - 1) = (m : Int) - 1 := IntWalk.i64_in _ (by omega)
    have hm1000 : m ≤ 1000 := by omega
    have htot : el (parL 1 xs kk m) (m - 1) = sm (el xs) m := by
      rw [parL, el_tab (by omega), HK.out]; exact (tot_a (el xs) kk hkk).symm
    rw [htot] at HCA
    clear htot
    cases hv2 : valid (parL 1 xs kk m)
    · go_wp2_with fail
      refine wp_region_held_drew (S := fun w' => Below w4.heap.size w4 w') (by kernel_rfl) ((Below.refl _ w4).drew) fun hS => ?_
      refine takeH 0 26 rfl rfl (by kernel_rfl) (by kernel_rfl) (by kernel_rfl) (fun _ _ _ h => h) (by rfl) (v := ?_) ?_ hS ?_
      rotate_left 1
      · (intro w hSw; (try dsimp only at hSw); go_simp; all_goals (with_reducible rfl))
      (try simp only [Act.put, List.setIfInBounds_toArray, List.set])
      refine wpAnyH_ready (rs := [1]) (by kernel_rfl) (by simp) ?_
      refine AllReadyH.cons rfl (fun K hK => ?_) AllReadyH.nil
      go_simp
      ((with_reducible refine (ValidRow_is _ _ _ _ _ false (hr4.below hS) hv2).mono ?_); rintro e w' ⟨rfl, rfl⟩)
      refine hK.out _ _ (hS) fun hS => ?_
      clear hK K
      (try simp only [Act.put, List.setIfInBounds_toArray, List.set])
      refine takeH 2 28 rfl rfl (by kernel_rfl) (by kernel_rfl) (by kernel_rfl) (fun _ _ _ h => h) (by rfl) (v := ?_) ?_ hS ?_
      rotate_left 1
      · (intro w hSw; (try dsimp only at hSw); go_simp; all_goals (with_reducible rfl))
      (try simp only [Act.put, List.setIfInBounds_toArray, List.set])
      refine takeH 3 29 rfl rfl (by kernel_rfl) (by kernel_rfl) (by kernel_rfl) (fun _ _ _ h => h) (by rfl) (v := ?_) ?_ hS ?_
      rotate_left 1
      · (intro w hSw; (try dsimp only at hSw); go_simp; all_goals (with_reducible rfl))
      (try simp only [Act.put, List.setIfInBounds_toArray, List.set])
      refine passH 4 30 rfl rfl (by kernel_rfl) (by kernel_rfl) (by kernel_rfl) (fun _ _ _ h => h) (by rfl) hS ?_
      (try simp only [Act.put, List.setIfInBounds_toArray, List.set])
      refine passH 5 31 rfl rfl (by kernel_rfl) (by kernel_rfl) (by kernel_rfl) (fun _ _ _ h => h) (by rfl) hS ?_
      (try simp only [Act.put, List.setIfInBounds_toArray, List.set])
      refine passH 6 32 rfl rfl (by kernel_rfl) (by kernel_rfl) (by kernel_rfl) (fun _ _ _ h => h) (by rfl) hS ?_
      (try simp only [Act.put, List.setIfInBounds_toArray, List.set])
      refine passH 7 33 rfl rfl (by kernel_rfl) (by kernel_rfl) (by kernel_rfl) (fun _ _ _ h => h) (by rfl) hS ?_
      (try simp only [Act.put, List.setIfInBounds_toArray, List.set])
      refine takeH 8 34 rfl rfl (by kernel_rfl) (by kernel_rfl) (by kernel_rfl) (fun _ _ _ h => h) (by rfl) (v := ?_) ?_ hS ?_
      rotate_left 1
      · (intro w hSw; (try dsimp only at hSw); go_simp; all_goals (with_reducible rfl))
      (try simp only [Act.put, List.setIfInBounds_toArray, List.set])
      refine takeH 9 35 rfl rfl (by kernel_rfl) (by kernel_rfl) (by kernel_rfl) (fun _ _ _ h => h) (by rfl) (v := ?_) ?_ hS ?_
      rotate_left 1
      · (intro w hSw; (try dsimp only at hSw); go_simp; all_goals (with_reducible rfl))
      (try simp only [Act.put, List.setIfInBounds_toArray, List.set])
      refine takeH 10 36 rfl rfl (by kernel_rfl) (by kernel_rfl) (by kernel_rfl) (fun _ _ _ h => h) (by rfl) (v := ?_) ?_ hS ?_
      rotate_left 1
      · (intro w hSw; (try dsimp only at hSw); go_simp; all_goals (with_reducible rfl))
      (try simp only [Act.put, List.setIfInBounds_toArray, List.set])
      refine takeH 11 37 rfl rfl (by kernel_rfl) (by kernel_rfl) (by kernel_rfl) (fun _ _ _ h => h) (by rfl) (v := ?_) ?_ hS ?_
      rotate_left 1
      · (intro w hSw; (try dsimp only at hSw); go_simp; all_goals (with_reducible rfl))
      (try simp only [Act.put, List.setIfInBounds_toArray, List.set])
      refine takeH 12 38 rfl rfl (by kernel_rfl) (by kernel_rfl) (by kernel_rfl) (fun _ _ _ h => h) (by rfl) (v := ?_) ?_ hS ?_
      rotate_left 1
      · (intro w hSw; (try dsimp only at hSw); have hq1 := HC1.out _ hSw; have hq2 := HC2.out _ hSw; have hq3 := HCA.out _ hSw; go_simp; all_goals (with_reducible rfl))
      (try simp only [Act.put, List.setIfInBounds_toArray, List.set])
      refine takeH 13 39 rfl rfl (by kernel_rfl) (by kernel_rfl) (by kernel_rfl) (fun _ _ _ h => h) (by rfl) (v := ?_) ?_ hS ?_
      rotate_left 1
      · (intro w hSw; (try dsimp only at hSw); go_simp; all_goals (with_reducible rfl))
      (try simp only [Act.put, List.setIfInBounds_toArray, List.set])
      refine takeH 14 40 rfl rfl (by kernel_rfl) (by kernel_rfl) (by kernel_rfl) (fun _ _ _ h => h) (by rfl) (v := ?_) ?_ hS ?_
      rotate_left 1
      · (intro w hSw; (try dsimp only at hSw); go_simp; all_goals (with_reducible rfl))
      (try simp only [Act.put, List.setIfInBounds_toArray, List.set])
      refine takeH 15 41 rfl rfl (by kernel_rfl) (by kernel_rfl) (by kernel_rfl) (fun _ _ _ h => h) (by rfl) (v := ?_) ?_ hS ?_
      rotate_left 1
      · (intro w hSw; (try dsimp only at hSw); have hq1 := HC1.out _ hSw; have hq2 := HC2.out _ hSw; have hq3 := HCA.out _ hSw; go_simp; all_goals (with_reducible rfl))
      (try simp only [Act.put, List.setIfInBounds_toArray, List.set])
      refine takeH 16 42 rfl rfl (by kernel_rfl) (by kernel_rfl) (by kernel_rfl) (fun _ _ _ h => h) (by rfl) (v := ?_) ?_ hS ?_
      rotate_left 1
      · (intro w hSw; (try dsimp only at hSw); go_simp; all_goals (with_reducible rfl))
      (try simp only [Act.put, List.setIfInBounds_toArray, List.set])
      refine takeH 17 43 rfl rfl (by kernel_rfl) (by kernel_rfl) (by kernel_rfl) (fun _ _ _ h => h) (by rfl) (v := ?_) ?_ hS ?_
      rotate_left 1
      · (intro w hSw; (try dsimp only at hSw); go_simp; all_goals (with_reducible rfl))
      (try simp only [Act.put, List.setIfInBounds_toArray, List.set])
      refine takeH 18 44 rfl rfl (by kernel_rfl) (by kernel_rfl) (by kernel_rfl) (fun _ _ _ h => h) (by rfl) (v := ?_) ?_ hS ?_
      rotate_left 1
      · (intro w hSw; (try dsimp only at hSw); go_simp; all_goals (with_reducible rfl))
      (try simp only [Act.put, List.setIfInBounds_toArray, List.set])
      refine takeH 19 45 rfl rfl (by kernel_rfl) (by kernel_rfl) (by kernel_rfl) (fun _ _ _ h => h) (by rfl) (v := ?_) ?_ hS ?_
      rotate_left 1
      · (intro w hSw; (try dsimp only at hSw); go_simp; all_goals (with_reducible rfl))
      (try simp only [Act.put, List.setIfInBounds_toArray, List.set])
      refine takeH 20 46 rfl rfl (by kernel_rfl) (by kernel_rfl) (by kernel_rfl) (fun _ _ _ h => h) (by rfl) (v := ?_) ?_ hS ?_
      rotate_left 1
      · (intro w hSw; (try dsimp only at hSw); go_simp; all_goals (with_reducible rfl))
      (try simp only [Act.put, List.setIfInBounds_toArray, List.set])
      refine takeH 21 47 rfl rfl (by kernel_rfl) (by kernel_rfl) (by kernel_rfl) (fun _ _ _ h => h) (by rfl) (v := ?_) ?_ hS ?_
      rotate_left 1
      · (intro w hSw; (try dsimp only at hSw); go_simp; all_goals (with_reducible rfl))
      (try simp only [Act.put, List.setIfInBounds_toArray, List.set])
      refine takeH 22 48 rfl rfl (by kernel_rfl) (by kernel_rfl) (by kernel_rfl) (fun _ _ _ h => h) (by rfl) (v := ?_) ?_ hS ?_
      rotate_left 1
      · (intro w hSw; (try dsimp only at hSw); go_simp; all_goals (with_reducible rfl))
      (try simp only [Act.put, List.setIfInBounds_toArray, List.set])
      refine takeH 23 49 rfl rfl (by kernel_rfl) (by kernel_rfl) (by kernel_rfl) (fun _ _ _ h => h) (by rfl) (v := ?_) ?_ hS ?_
      rotate_left 1
      · (intro w hSw; (try dsimp only at hSw); go_simp; all_goals (with_reducible rfl))
      (try simp only [Act.put, List.setIfInBounds_toArray, List.set])
      refine takeH 24 50 rfl rfl (by kernel_rfl) (by kernel_rfl) (by kernel_rfl) (fun _ _ _ h => h) (by rfl) (v := ?_) ?_ hS ?_
      rotate_left 1
      · (intro w hSw; (try dsimp only at hSw); have hq1 := HC1.out _ hSw; have hq2 := HC2.out _ hSw; have hq3 := HCA.out _ hSw; go_simp; all_goals (with_reducible rfl))
      (try simp only [Act.put, List.setIfInBounds_toArray, List.set])
      refine takeH 25 51 rfl rfl (by kernel_rfl) (by kernel_rfl) (by kernel_rfl) (fun _ _ _ h => h) (by rfl) (v := ?_) ?_ hS ?_
      rotate_left 1
      · (intro w hSw; (try dsimp only at hSw); go_simp; all_goals (with_reducible rfl))
      (try simp only [Act.put, List.setIfInBounds_toArray, List.set])
      refine wpAnyH_ready (rs := [26]) (by kernel_rfl) (by simp) ?_
      refine AllReadyH.cons rfl (fun K hK => ?_) AllReadyH.nil
      go_simp
      ((with_reducible refine (total_any _ _ _ _ xs 1000 (hrow4.below hS) hm1000 (by decide) hbd.out).mono ?_); rintro e w' ⟨rfl, rfl⟩)
      refine hK.out _ _ (hS) fun hS => ?_
      clear hK K
      (try simp only [Act.put, List.setIfInBounds_toArray, List.set])
      refine takeH 27 53 rfl rfl (by kernel_rfl) (by kernel_rfl) (by kernel_rfl) (fun _ _ _ h => h) (by rfl) (v := ?_) ?_ hS ?_
      rotate_left 1
      · (intro w hSw; (try dsimp only at hSw); go_simp; all_goals (with_reducible rfl))
      (try simp only [Act.put, List.setIfInBounds_toArray, List.set])
      refine takeH 28 54 rfl rfl (by kernel_rfl) (by kernel_rfl) (by kernel_rfl) (fun _ _ _ h => h) (by rfl) (v := ?_) ?_ hS ?_
      rotate_left 1
      · (intro w hSw; (try dsimp only at hSw); go_simp; all_goals (with_reducible rfl))
      (try simp only [Act.put, List.setIfInBounds_toArray, List.set])
      refine takeH 29 2 rfl rfl (by kernel_rfl) (by kernel_rfl) (by kernel_rfl) (fun _ _ _ h => h) (by rfl) (v := ?_) ?_ hS ?_
      rotate_left 1
      · (intro w hSw; (try dsimp only at hSw); go_simp; all_goals (with_reducible rfl))
      (try simp only [Act.put, List.setIfInBounds_toArray, List.set])
      refine wpAnyH_done (by kernel_rfl) ?_ _
      clear j5
      go_wp2_with fail
      go_ret
      exact ⟨ret_bool (by simp), bstep hbl4 hS⟩
    · have hcu : cube (parL 1 xs kk m) = true := cube_iff.2 ⟨hv2, by rw [parL, tab_length]; exact hvp⟩
      have HE : Hid (parL (-1) (parL 1 xs kk m) kk m = xs) := par_inv 1 (-1) xs kk m hlen.out fun i hi => inv_a (el xs) _ kk hkk (fun t ht => by rw [parL, el_tab (by rw [HK.out]; exact ht)]) i (by rw [← HK.out]; exact hi)
      go_wp2_with fail
      refine wp_region_held_drew (S := fun w' => Below w4.heap.size w4 w') (by kernel_rfl) ((Below.refl _ w4).drew) fun hS => ?_
      refine takeH 0 26 rfl rfl (by kernel_rfl) (by kernel_rfl) (by kernel_rfl) (fun _ _ _ h => h) (by rfl) (v := ?_) ?_ hS ?_
      rotate_left 1
      · (intro w hSw; (try dsimp only at hSw); go_simp; all_goals (with_reducible rfl))
      (try simp only [Act.put, List.setIfInBounds_toArray, List.set])
      refine wpAnyH_ready (rs := [1]) (by kernel_rfl) (by simp) ?_
      refine AllReadyH.cons rfl (fun K hK => ?_) AllReadyH.nil
      go_simp
      ((with_reducible refine (ValidRow_is _ _ _ _ _ true (hr4.below hS) hv2).mono ?_); rintro e w' ⟨rfl, rfl⟩)
      refine hK.out _ _ (hS) fun hS => ?_
      clear hK K
      (try simp only [Act.put, List.setIfInBounds_toArray, List.set])
      refine takeH 2 28 rfl rfl (by kernel_rfl) (by kernel_rfl) (by kernel_rfl) (fun _ _ _ h => h) (by rfl) (v := ?_) ?_ hS ?_
      rotate_left 1
      · (intro w hSw; (try dsimp only at hSw); go_simp; all_goals (with_reducible rfl))
      (try simp only [Act.put, List.setIfInBounds_toArray, List.set])
      refine takeH 3 29 rfl rfl (by kernel_rfl) (by kernel_rfl) (by kernel_rfl) (fun _ _ _ h => h) (by rfl) (v := ?_) ?_ hS ?_
      rotate_left 1
      · (intro w hSw; (try dsimp only at hSw); go_simp; all_goals (with_reducible rfl))
      (try simp only [Act.put, List.setIfInBounds_toArray, List.set])
      refine takeH 4 30 rfl rfl (by kernel_rfl) (by kernel_rfl) (by kernel_rfl) (fun _ _ _ h => h) (by rfl) (v := ?_) ?_ hS ?_
      rotate_left 1
      · (intro w hSw; (try dsimp only at hSw); go_simp; all_goals (with_reducible rfl))
      (try simp only [Act.put, List.setIfInBounds_toArray, List.set])
      refine takeH 6 32 rfl rfl (by kernel_rfl) (by kernel_rfl) (by kernel_rfl) (fun _ _ _ h => h) (by rfl) (v := ?_) ?_ hS ?_
      rotate_left 1
      · (intro w hSw; (try dsimp only at hSw); go_simp; all_goals (with_reducible rfl))
      (try simp only [Act.put, List.setIfInBounds_toArray, List.set])
      refine wpAnyH_ready (rs := [5]) (by kernel_rfl) (by simp) ?_
      refine AllReadyH.cons rfl (fun K hK => ?_) AllReadyH.nil
      go_simp
      ((with_reducible refine (UnbelowOf_yes _ _ _ _ _ kk hkk HK.out (hr4.below hS) hcu).mono ?_); rintro e w5 ⟨a5, c5, rfl, hown5, hb5⟩)
      refine hK.out _ _ (bstep hS hb5) fun hS => ?_
      clear hK K
      (try simp only [Act.put, List.setIfInBounds_toArray, List.set])
      refine wpAnyH_ready (rs := [7]) (by kernel_rfl) (by simp) ?_
      refine AllReadyH.cons rfl (fun K hK => ?_) AllReadyH.nil
      go_simp
      ((with_reducible refine (equalInts_any_eq _ _ _ _ _ _ _ _ _ (hown5.row (by omega)) (hrow4.below hS) HE.out).mono ?_); rintro e w6 ⟨rfl, hb6⟩)
      refine hK.out _ _ (bstep hS hb6) fun hS => ?_
      clear hK K
      (try simp only [Act.put, List.setIfInBounds_toArray, List.set])
      refine takeH 8 34 rfl rfl (by kernel_rfl) (by kernel_rfl) (by kernel_rfl) (fun _ _ _ h => h) (by rfl) (v := ?_) ?_ hS ?_
      rotate_left 1
      · (intro w hSw; (try dsimp only at hSw); go_simp; all_goals (with_reducible rfl))
      (try simp only [Act.put, List.setIfInBounds_toArray, List.set])
      refine takeH 9 35 rfl rfl (by kernel_rfl) (by kernel_rfl) (by kernel_rfl) (fun _ _ _ h => h) (by rfl) (v := ?_) ?_ hS ?_
      rotate_left 1
      · (intro w hSw; (try dsimp only at hSw); go_simp; all_goals (with_reducible rfl))
      (try simp only [Act.put, List.setIfInBounds_toArray, List.set])
      refine takeH 10 36 rfl rfl (by kernel_rfl) (by kernel_rfl) (by kernel_rfl) (fun _ _ _ h => h) (by rfl) (v := ?_) ?_ hS ?_
      rotate_left 1
      · (intro w hSw; (try dsimp only at hSw); go_simp; all_goals (with_reducible rfl))
      (try simp only [Act.put, List.setIfInBounds_toArray, List.set])
      refine takeH 11 37 rfl rfl (by kernel_rfl) (by kernel_rfl) (by kernel_rfl) (fun _ _ _ h => h) (by rfl) (v := ?_) ?_ hS ?_
      rotate_left 1
      · (intro w hSw; (try dsimp only at hSw); go_simp; all_goals (with_reducible rfl))
      (try simp only [Act.put, List.setIfInBounds_toArray, List.set])
      refine takeH 12 38 rfl rfl (by kernel_rfl) (by kernel_rfl) (by kernel_rfl) (fun _ _ _ h => h) (by rfl) (v := ?_) ?_ hS ?_
      rotate_left 1
      · (intro w hSw; (try dsimp only at hSw); have hq1 := HC1.out _ hSw; have hq2 := HC2.out _ hSw; have hq3 := HCA.out _ hSw; go_simp; all_goals (with_reducible rfl))
      (try simp only [Act.put, List.setIfInBounds_toArray, List.set])
      refine takeH 13 39 rfl rfl (by kernel_rfl) (by kernel_rfl) (by kernel_rfl) (fun _ _ _ h => h) (by rfl) (v := ?_) ?_ hS ?_
      rotate_left 1
      · (intro w hSw; (try dsimp only at hSw); go_simp; all_goals (with_reducible rfl))
      (try simp only [Act.put, List.setIfInBounds_toArray, List.set])
      refine takeH 14 40 rfl rfl (by kernel_rfl) (by kernel_rfl) (by kernel_rfl) (fun _ _ _ h => h) (by rfl) (v := ?_) ?_ hS ?_
      rotate_left 1
      · (intro w hSw; (try dsimp only at hSw); go_simp; all_goals (with_reducible rfl))
      (try simp only [Act.put, List.setIfInBounds_toArray, List.set])
      refine takeH 15 41 rfl rfl (by kernel_rfl) (by kernel_rfl) (by kernel_rfl) (fun _ _ _ h => h) (by rfl) (v := ?_) ?_ hS ?_
      rotate_left 1
      · (intro w hSw; (try dsimp only at hSw); have hq1 := HC1.out _ hSw; have hq2 := HC2.out _ hSw; have hq3 := HCA.out _ hSw; go_simp; all_goals (with_reducible rfl))
      (try simp only [Act.put, List.setIfInBounds_toArray, List.set])
      refine takeH 16 42 rfl rfl (by kernel_rfl) (by kernel_rfl) (by kernel_rfl) (fun _ _ _ h => h) (by rfl) (v := ?_) ?_ hS ?_
      rotate_left 1
      · (intro w hSw; (try dsimp only at hSw); go_simp; all_goals (with_reducible rfl))
      (try simp only [Act.put, List.setIfInBounds_toArray, List.set])
      refine takeH 17 43 rfl rfl (by kernel_rfl) (by kernel_rfl) (by kernel_rfl) (fun _ _ _ h => h) (by rfl) (v := ?_) ?_ hS ?_
      rotate_left 1
      · (intro w hSw; (try dsimp only at hSw); go_simp; all_goals (with_reducible rfl))
      (try simp only [Act.put, List.setIfInBounds_toArray, List.set])
      refine takeH 18 44 rfl rfl (by kernel_rfl) (by kernel_rfl) (by kernel_rfl) (fun _ _ _ h => h) (by rfl) (v := ?_) ?_ hS ?_
      rotate_left 1
      · (intro w hSw; (try dsimp only at hSw); go_simp; all_goals (with_reducible rfl))
      (try simp only [Act.put, List.setIfInBounds_toArray, List.set])
      refine takeH 19 45 rfl rfl (by kernel_rfl) (by kernel_rfl) (by kernel_rfl) (fun _ _ _ h => h) (by rfl) (v := ?_) ?_ hS ?_
      rotate_left 1
      · (intro w hSw; (try dsimp only at hSw); go_simp; all_goals (with_reducible rfl))
      (try simp only [Act.put, List.setIfInBounds_toArray, List.set])
      refine takeH 20 46 rfl rfl (by kernel_rfl) (by kernel_rfl) (by kernel_rfl) (fun _ _ _ h => h) (by rfl) (v := ?_) ?_ hS ?_
      rotate_left 1
      · (intro w hSw; (try dsimp only at hSw); go_simp; all_goals (with_reducible rfl))
      (try simp only [Act.put, List.setIfInBounds_toArray, List.set])
      refine takeH 21 47 rfl rfl (by kernel_rfl) (by kernel_rfl) (by kernel_rfl) (fun _ _ _ h => h) (by rfl) (v := ?_) ?_ hS ?_
      rotate_left 1
      · (intro w hSw; (try dsimp only at hSw); go_simp; all_goals (with_reducible rfl))
      (try simp only [Act.put, List.setIfInBounds_toArray, List.set])
      refine takeH 22 48 rfl rfl (by kernel_rfl) (by kernel_rfl) (by kernel_rfl) (fun _ _ _ h => h) (by rfl) (v := ?_) ?_ hS ?_
      rotate_left 1
      · (intro w hSw; (try dsimp only at hSw); go_simp; all_goals (with_reducible rfl))
      (try simp only [Act.put, List.setIfInBounds_toArray, List.set])
      refine takeH 23 49 rfl rfl (by kernel_rfl) (by kernel_rfl) (by kernel_rfl) (fun _ _ _ h => h) (by rfl) (v := ?_) ?_ hS ?_
      rotate_left 1
      · (intro w hSw; (try dsimp only at hSw); go_simp; all_goals (with_reducible rfl))
      (try simp only [Act.put, List.setIfInBounds_toArray, List.set])
      refine takeH 24 50 rfl rfl (by kernel_rfl) (by kernel_rfl) (by kernel_rfl) (fun _ _ _ h => h) (by rfl) (v := ?_) ?_ hS ?_
      rotate_left 1
      · (intro w hSw; (try dsimp only at hSw); have hq1 := HC1.out _ hSw; have hq2 := HC2.out _ hSw; have hq3 := HCA.out _ hSw; go_simp; all_goals (with_reducible rfl))
      (try simp only [Act.put, List.setIfInBounds_toArray, List.set])
      refine takeH 25 51 rfl rfl (by kernel_rfl) (by kernel_rfl) (by kernel_rfl) (fun _ _ _ h => h) (by rfl) (v := ?_) ?_ hS ?_
      rotate_left 1
      · (intro w hSw; (try dsimp only at hSw); go_simp; all_goals (with_reducible rfl))
      (try simp only [Act.put, List.setIfInBounds_toArray, List.set])
      refine wpAnyH_ready (rs := [26]) (by kernel_rfl) (by simp) ?_
      refine AllReadyH.cons rfl (fun K hK => ?_) AllReadyH.nil
      go_simp
      ((with_reducible refine (total_any _ _ _ _ xs 1000 (hrow4.below hS) hm1000 (by decide) hbd.out).mono ?_); rintro e w' ⟨rfl, rfl⟩)
      refine hK.out _ _ (hS) fun hS => ?_
      clear hK K
      (try simp only [Act.put, List.setIfInBounds_toArray, List.set])
      refine takeH 27 53 rfl rfl (by kernel_rfl) (by kernel_rfl) (by kernel_rfl) (fun _ _ _ h => h) (by rfl) (v := ?_) ?_ hS ?_
      rotate_left 1
      · (intro w hSw; (try dsimp only at hSw); go_simp; all_goals (with_reducible rfl))
      (try simp only [Act.put, List.setIfInBounds_toArray, List.set])
      refine takeH 28 54 rfl rfl (by kernel_rfl) (by kernel_rfl) (by kernel_rfl) (fun _ _ _ h => h) (by rfl) (v := ?_) ?_ hS ?_
      rotate_left 1
      · (intro w hSw; (try dsimp only at hSw); go_simp; all_goals (with_reducible rfl))
      (try simp only [Act.put, List.setIfInBounds_toArray, List.set])
      refine takeH 29 2 rfl rfl (by kernel_rfl) (by kernel_rfl) (by kernel_rfl) (fun _ _ _ h => h) (by rfl) (v := ?_) ?_ hS ?_
      rotate_left 1
      · (intro w hSw; (try dsimp only at hSw); go_simp; all_goals (with_reducible rfl))
      (try simp only [Act.put, List.setIfInBounds_toArray, List.set])
      refine wpAnyH_done (by kernel_rfl) ?_ _
      clear j5
      go_wp2_with fail
      go_ret
      exact ⟨ret_bool (by simp), bstep hbl4 hS⟩
set_option maxHeartbeats 3200000 in
theorem law_UnbelowOf (w : World) (a : Option Addr) (n c : Nat) (h : Bts w a n w.heap.size) (hnc : n ≤ c) :
    Calls Try.prog 12 #[.slice a n c] w fun e w' => Says w w' e true := by
  by_cases hbig : 1048576 < n
  · go_enter Try.func12, Try.ntmps12
    go_wp2
    go_ret
    exact ⟨rfl, Below.refl _ _⟩
  go_enter Try.func12, Try.ntmps12
  go_wp2_with fail
  refine (DrawUnbelowOf_any w a n c h hnc (by omega)).mono ?_
  rintro e w1 ⟨a1, m, c1, xs, rfl, hm, hown, hbl⟩
  have hrow := hown.row (by omega)
  have hlen : Hid (xs.length = m) := hrow.len
  cases hv : cube xs
  · go_wp2_with fail
    refine (UnbelowOf_no w1 a1 m c1 xs hrow hv).mono ?_
    rintro e w2 ⟨rfl, rfl⟩
    go_wp2_with fail
    refine (sUnbelowOf_no _ a1 m c1 xs hrow hv).mono ?_
    rintro e w2 ⟨rfl, rfl⟩
    go_wp2_with fail
    refine (equalInts_any_eq _ none none 0 0 0 0 [] [] (row_nil _) (row_nil _) rfl).mono ?_
    rintro e w2 ⟨rfl, hb2⟩
    have hbl2 := bstep hbl hb2
    have hrow2 := hrow.below hb2
    go_wp2_with fail
    refine (sUnbelowOf_no _ a1 m c1 xs hrow2 hv).mono ?_
    rintro e w3 ⟨rfl, rfl⟩
    go_wp2_with fail
    refine (equalInts_any_eq _ none none 0 0 0 0 [] [] (row_nil _) (row_nil _) rfl).mono ?_
    rintro e w4 ⟨rfl, hb4⟩
    go_wp2_with fail
    go_ret
    exact ⟨ret_bool rfl, bstep hbl2 hb4⟩
  · obtain ⟨hv0, hvp⟩ := cube_iff.1 hv
    rw [hlen.out] at hvp
    obtain ⟨kk, hkk, hnk⟩ := isP2_k hvp
    have HK : Hid (m = p2 kk) := hnk
    have hm16 : m ≤ 16 := by have := valid_len hv0; rw [hlen.out] at this; exact this
    have hbd : Hid (∀ i, i < m → -1000 ≤ el xs i ∧ el xs i ≤ 1000) := fun i hi => valid_bd hv0 (by rw [hlen.out]; exact hi)
    have hm1 : 0 < m := by rw [hnk]; exact p2_pos kk
    clear hnk
    go_wp2_with fail
    refine (UnbelowOf_yes w1 a1 m c1 xs kk hkk HK.out hrow hv).mono ?_
    rintro e w2 ⟨a2, c2, rfl, hown2, hb2⟩
    have hbl2 := bstep hbl hb2
    have hrow2 := hrow.below hb2
    go_wp2_with fail
    refine (sUnbelowOf_yes w2 a1 m c1 xs kk hkk HK.out hrow2 hv).mono ?_
    rintro e w3 ⟨a3, c3, rfl, hown3, hb3⟩
    have hbl3 := bstep hbl2 hb3
    have hrow3 := hrow2.below hb3
    have hr3 := (hown2.below hb3).row (by omega)
    have hmb : ((m : Int) == 0) = false := by simp; omega
    go_wp2_with fail
    refine (equalInts_any_eq w3 a2 a3 m m c2 c3 _ _ hr3 (hown3.row (by omega)) rfl).mono ?_
    rintro e w4 ⟨rfl, hb4⟩
    have hbl4 := bstep hbl3 hb4
    have hrow4 := hrow3.below hb4
    have hr4 := hr3.below hb4
    clear hown hown2 hown3 hb2 hb3 hb4 hrow hrow2 hrow3 hr3 hbl hbl2 hbl3
    obtain ⟨b2, off2, rfl, hbb2, hcell2⟩ := hr4.at hm1
    obtain ⟨b1, off1, rfl, hbb1, hcell1⟩ := hrow4.at hm1
    have hd0 : el (parL (-1) xs kk m) 0 = el xs 0 := by rw [parL, el_tab hm1, Gs_0 _ _ _ hkk]
    have HC2 : Hid (∀ w', Below w4.heap.size w4 w' → w'.cell? ⟨b2, off2, none⟩ = some (.int .i64 (el xs 0))) := fun w' hb => by
      have := hcell2 w' hb 0 hm1
      rw [hd0] at this; exact this
    have HC1 : Hid (∀ w', Below w4.heap.size w4 w' → w'.cell? ⟨b1, off1, none⟩ = some (.int .i64 (el xs 0))) := fun w' hb => hcell1 w' hb 0 hm1
    have HCB : Hid (∀ w', Below w4.heap.size w4 w' → w'.cell? ⟨b1, off1 + (m - 1), none⟩ = some (.int .i64 (el xs (m - 1)))) := fun w' hb => hcell1 w' hb (m - 1) (by omega)
    have HCA : Hid (∀ w', Below w4.heap.size w4 w' → w'.cell? ⟨b2, off2 + (m - 1), none⟩ = some (.int .i64 (el (parL (-1) xs kk m) (m - 1)))) := fun w' hb => hcell2 w' hb (m - 1) (by omega)
    clear hcell1 hcell2 hd0
    have j1 : (0 : Int) < (m : Int) := by omega
    have j2 : (0 : Int) ≤ (m : Int) - 1 := by omega
    have j3 : (m : Int) - 1 < m := by omega
    have j4 : ((m : Int) - 1).toNat = m - 1 := by omega
    have j6 : (1 : Int) ≤ (m : Int) := by omega
    have j5 : IntKind.i64.wrap ((m : Int) - 1) = (m : Int) - 1 := IntWalk.i64_in _ (by omega)
    have hm1000 : m ≤ 1000 := by omega
    have hpb : Hid (∀ i, i < m → -16000 ≤ el (parL (-1) xs kk m) i ∧ el (parL (-1) xs kk m) i ≤ 16000) := fun i hi => by
      rw [parL, el_tab hi]
      have h1 := Gs_bd (s := -1) (.inr rfl) (f := el xs) (fun t ht => by
        by_cases e : t < m
        · exact hbd.out t e
        · rw [el_out (by rw [hlen.out]; omega)]; omega) kk i (by omega)
      have h2 : p2 kk ≤ 16 := p2_le hkk
      omega
    have htot : Hid (sm (el (parL (-1) xs kk m)) m = el xs (m - 1)) := by
      have := tot_b (el xs) (el (parL (-1) xs kk m)) kk hkk (fun t ht => by rw [parL, el_tab (by rw [HK.out]; exact ht)])
      rw [← HK.out] at this; exact this
    cases hv2 : valid (parL (-1) xs kk m)
    · go_wp2_with fail
      refine wp_region_held_drew (S := fun w' => Below w4.heap.size w4 w') (by kernel_rfl) ((Below.refl _ w4).drew) fun hS => ?_
      refine takeH 0 26 rfl rfl (by kernel_rfl) (by kernel_rfl) (by kernel_rfl) (fun _ _ _ h => h) (by rfl) (v := ?_) ?_ hS ?_
      rotate_left 1
      · (intro w hSw; (try dsimp only at hSw); go_simp; all_goals (with_reducible rfl))
      (try simp only [Act.put, List.setIfInBounds_toArray, List.set])
      refine wpAnyH_ready (rs := [1]) (by kernel_rfl) (by simp) ?_
      refine AllReadyH.cons rfl (fun K hK => ?_) AllReadyH.nil
      go_simp
      ((with_reducible refine (ValidRow_is _ _ _ _ _ false (hr4.below hS) hv2).mono ?_); rintro e w' ⟨rfl, rfl⟩)
      refine hK.out _ _ (hS) fun hS => ?_
      clear hK K
      (try simp only [Act.put, List.setIfInBounds_toArray, List.set])
      refine takeH 2 28 rfl rfl (by kernel_rfl) (by kernel_rfl) (by kernel_rfl) (fun _ _ _ h => h) (by rfl) (v := ?_) ?_ hS ?_
      rotate_left 1
      · (intro w hSw; (try dsimp only at hSw); go_simp; all_goals (with_reducible rfl))
      (try simp only [Act.put, List.setIfInBounds_toArray, List.set])
      refine takeH 3 29 rfl rfl (by kernel_rfl) (by kernel_rfl) (by kernel_rfl) (fun _ _ _ h => h) (by rfl) (v := ?_) ?_ hS ?_
      rotate_left 1
      · (intro w hSw; (try dsimp only at hSw); go_simp; all_goals (with_reducible rfl))
      (try simp only [Act.put, List.setIfInBounds_toArray, List.set])
      refine passH 4 30 rfl rfl (by kernel_rfl) (by kernel_rfl) (by kernel_rfl) (fun _ _ _ h => h) (by rfl) hS ?_
      (try simp only [Act.put, List.setIfInBounds_toArray, List.set])
      refine passH 5 31 rfl rfl (by kernel_rfl) (by kernel_rfl) (by kernel_rfl) (fun _ _ _ h => h) (by rfl) hS ?_
      (try simp only [Act.put, List.setIfInBounds_toArray, List.set])
      refine passH 6 32 rfl rfl (by kernel_rfl) (by kernel_rfl) (by kernel_rfl) (fun _ _ _ h => h) (by rfl) hS ?_
      (try simp only [Act.put, List.setIfInBounds_toArray, List.set])
      refine passH 7 33 rfl rfl (by kernel_rfl) (by kernel_rfl) (by kernel_rfl) (fun _ _ _ h => h) (by rfl) hS ?_
      (try simp only [Act.put, List.setIfInBounds_toArray, List.set])
      refine takeH 8 34 rfl rfl (by kernel_rfl) (by kernel_rfl) (by kernel_rfl) (fun _ _ _ h => h) (by rfl) (v := ?_) ?_ hS ?_
      rotate_left 1
      · (intro w hSw; (try dsimp only at hSw); go_simp; all_goals (with_reducible rfl))
      (try simp only [Act.put, List.setIfInBounds_toArray, List.set])
      refine takeH 9 35 rfl rfl (by kernel_rfl) (by kernel_rfl) (by kernel_rfl) (fun _ _ _ h => h) (by rfl) (v := ?_) ?_ hS ?_
      rotate_left 1
      · (intro w hSw; (try dsimp only at hSw); go_simp; all_goals (with_reducible rfl))
      (try simp only [Act.put, List.setIfInBounds_toArray, List.set])
      refine takeH 10 36 rfl rfl (by kernel_rfl) (by kernel_rfl) (by kernel_rfl) (fun _ _ _ h => h) (by rfl) (v := ?_) ?_ hS ?_
      rotate_left 1
      · (intro w hSw; (try dsimp only at hSw); go_simp; all_goals (with_reducible rfl))
      (try simp only [Act.put, List.setIfInBounds_toArray, List.set])
      refine takeH 11 37 rfl rfl (by kernel_rfl) (by kernel_rfl) (by kernel_rfl) (fun _ _ _ h => h) (by rfl) (v := ?_) ?_ hS ?_
      rotate_left 1
      · (intro w hSw; (try dsimp only at hSw); go_simp; all_goals (with_reducible rfl))
      (try simp only [Act.put, List.setIfInBounds_toArray, List.set])
      refine takeH 12 38 rfl rfl (by kernel_rfl) (by kernel_rfl) (by kernel_rfl) (fun _ _ _ h => h) (by rfl) (v := ?_) ?_ hS ?_
      rotate_left 1
      · (intro w hSw; (try dsimp only at hSw); have hq1 := HC1.out _ hSw; have hq2 := HC2.out _ hSw; have hq3 := HCB.out _ hSw; go_simp; all_goals (with_reducible rfl))
      (try simp only [Act.put, List.setIfInBounds_toArray, List.set])
      refine takeH 13 39 rfl rfl (by kernel_rfl) (by kernel_rfl) (by kernel_rfl) (fun _ _ _ h => h) (by rfl) (v := ?_) ?_ hS ?_
      rotate_left 1
      · (intro w hSw; (try dsimp only at hSw); go_simp; all_goals (with_reducible rfl))
      (try simp only [Act.put, List.setIfInBounds_toArray, List.set])
      refine takeH 14 40 rfl rfl (by kernel_rfl) (by kernel_rfl) (by kernel_rfl) (fun _ _ _ h => h) (by rfl) (v := ?_) ?_ hS ?_
      rotate_left 1
      · (intro w hSw; (try dsimp only at hSw); go_simp; all_goals (with_reducible rfl))
      (try simp only [Act.put, List.setIfInBounds_toArray, List.set])
      refine takeH 15 41 rfl rfl (by kernel_rfl) (by kernel_rfl) (by kernel_rfl) (fun _ _ _ h => h) (by rfl) (v := ?_) ?_ hS ?_
      rotate_left 1
      · (intro w hSw; (try dsimp only at hSw); have hq1 := HC1.out _ hSw; have hq2 := HC2.out _ hSw; have hq3 := HCB.out _ hSw; go_simp; all_goals (with_reducible rfl))
      (try simp only [Act.put, List.setIfInBounds_toArray, List.set])
      refine takeH 16 42 rfl rfl (by kernel_rfl) (by kernel_rfl) (by kernel_rfl) (fun _ _ _ h => h) (by rfl) (v := ?_) ?_ hS ?_
      rotate_left 1
      · (intro w hSw; (try dsimp only at hSw); go_simp; all_goals (with_reducible rfl))
      (try simp only [Act.put, List.setIfInBounds_toArray, List.set])
      refine takeH 17 43 rfl rfl (by kernel_rfl) (by kernel_rfl) (by kernel_rfl) (fun _ _ _ h => h) (by rfl) (v := ?_) ?_ hS ?_
      rotate_left 1
      · (intro w hSw; (try dsimp only at hSw); go_simp; all_goals (with_reducible rfl))
      (try simp only [Act.put, List.setIfInBounds_toArray, List.set])
      refine takeH 18 44 rfl rfl (by kernel_rfl) (by kernel_rfl) (by kernel_rfl) (fun _ _ _ h => h) (by rfl) (v := ?_) ?_ hS ?_
      rotate_left 1
      · (intro w hSw; (try dsimp only at hSw); go_simp; all_goals (with_reducible rfl))
      (try simp only [Act.put, List.setIfInBounds_toArray, List.set])
      refine takeH 19 45 rfl rfl (by kernel_rfl) (by kernel_rfl) (by kernel_rfl) (fun _ _ _ h => h) (by rfl) (v := ?_) ?_ hS ?_
      rotate_left 1
      · (intro w hSw; (try dsimp only at hSw); go_simp; all_goals (with_reducible rfl))
      (try simp only [Act.put, List.setIfInBounds_toArray, List.set])
      refine takeH 21 47 rfl rfl (by kernel_rfl) (by kernel_rfl) (by kernel_rfl) (fun _ _ _ h => h) (by rfl) (v := ?_) ?_ hS ?_
      rotate_left 1
      · (intro w hSw; (try dsimp only at hSw); go_simp; all_goals (with_reducible rfl))
      (try simp only [Act.put, List.setIfInBounds_toArray, List.set])
      refine takeH 22 48 rfl rfl (by kernel_rfl) (by kernel_rfl) (by kernel_rfl) (fun _ _ _ h => h) (by rfl) (v := ?_) ?_ hS ?_
      rotate_left 1
      · (intro w hSw; (try dsimp only at hSw); go_simp; all_goals (with_reducible rfl))
      (try simp only [Act.put, List.setIfInBounds_toArray, List.set])
      refine takeH 23 49 rfl rfl (by kernel_rfl) (by kernel_rfl) (by kernel_rfl) (fun _ _ _ h => h) (by rfl) (v := ?_) ?_ hS ?_
      rotate_left 1
      · (intro w hSw; (try dsimp only at hSw); go_simp; all_goals (with_reducible rfl))
      (try simp only [Act.put, List.setIfInBounds_toArray, List.set])
      refine takeH 24 50 rfl rfl (by kernel_rfl) (by kernel_rfl) (by kernel_rfl) (fun _ _ _ h => h) (by rfl) (v := ?_) ?_ hS ?_
      rotate_left 1
      · (intro w hSw; (try dsimp only at hSw); go_simp; all_goals (with_reducible rfl))
      (try simp only [Act.put, List.setIfInBounds_toArray, List.set])
      refine takeH 25 51 rfl rfl (by kernel_rfl) (by kernel_rfl) (by kernel_rfl) (fun _ _ _ h => h) (by rfl) (v := ?_) ?_ hS ?_
      rotate_left 1
      · (intro w hSw; (try dsimp only at hSw); go_simp; all_goals (with_reducible rfl))
      (try simp only [Act.put, List.setIfInBounds_toArray, List.set])
      refine takeH 26 52 rfl rfl (by kernel_rfl) (by kernel_rfl) (by kernel_rfl) (fun _ _ _ h => h) (by rfl) (v := ?_) ?_ hS ?_
      rotate_left 1
      · (intro w hSw; (try dsimp only at hSw); have hq1 := HC1.out _ hSw; have hq2 := HC2.out _ hSw; have hq3 := HCB.out _ hSw; go_simp; all_goals (with_reducible rfl))
      (try simp only [Act.put, List.setIfInBounds_toArray, List.set])
      refine wpAnyH_ready (rs := [20]) (by kernel_rfl) (by simp) ?_
      refine AllReadyH.cons rfl (fun K hK => ?_) AllReadyH.nil
      go_simp
      ((with_reducible refine (total_any _ _ _ _ (parL (-1) xs kk m) 16000 (hr4.below hS) hm1000 (by decide) hpb.out).mono ?_); rw [htot.out]; rintro e w' ⟨rfl, rfl⟩)
      refine hK.out _ _ (hS) fun hS => ?_
      clear hK K
      (try simp only [Act.put, List.setIfInBounds_toArray, List.set])
      refine takeH 27 53 rfl rfl (by kernel_rfl) (by kernel_rfl) (by kernel_rfl) (fun _ _ _ h => h) (by rfl) (v := ?_) ?_ hS ?_
      rotate_left 1
      · (intro w hSw; (try dsimp only at hSw); go_simp; all_goals (with_reducible rfl))
      (try simp only [Act.put, List.setIfInBounds_toArray, List.set])
      refine takeH 28 54 rfl rfl (by kernel_rfl) (by kernel_rfl) (by kernel_rfl) (fun _ _ _ h => h) (by rfl) (v := ?_) ?_ hS ?_
      rotate_left 1
      · (intro w hSw; (try dsimp only at hSw); go_simp; all_goals (with_reducible rfl))
      (try simp only [Act.put, List.setIfInBounds_toArray, List.set])
      refine takeH 29 2 rfl rfl (by kernel_rfl) (by kernel_rfl) (by kernel_rfl) (fun _ _ _ h => h) (by rfl) (v := ?_) ?_ hS ?_
      rotate_left 1
      · (intro w hSw; (try dsimp only at hSw); go_simp; all_goals (with_reducible rfl))
      (try simp only [Act.put, List.setIfInBounds_toArray, List.set])
      refine wpAnyH_done (by kernel_rfl) ?_ _
      clear j5
      go_wp2_with fail
      go_ret
      exact ⟨ret_bool (by simp), bstep hbl4 hS⟩
    · have hcu : cube (parL (-1) xs kk m) = true := cube_iff.2 ⟨hv2, by rw [parL, tab_length]; exact hvp⟩
      have HE : Hid (parL 1 (parL (-1) xs kk m) kk m = xs) := par_inv (-1) 1 xs kk m hlen.out fun i hi => inv_b (el xs) _ kk hkk (fun t ht => by rw [parL, el_tab (by rw [HK.out]; exact ht)]) i (by rw [← HK.out]; exact hi)
      go_wp2_with fail
      refine wp_region_held_drew (S := fun w' => Below w4.heap.size w4 w') (by kernel_rfl) ((Below.refl _ w4).drew) fun hS => ?_
      refine takeH 0 26 rfl rfl (by kernel_rfl) (by kernel_rfl) (by kernel_rfl) (fun _ _ _ h => h) (by rfl) (v := ?_) ?_ hS ?_
      rotate_left 1
      · (intro w hSw; (try dsimp only at hSw); go_simp; all_goals (with_reducible rfl))
      (try simp only [Act.put, List.setIfInBounds_toArray, List.set])
      refine wpAnyH_ready (rs := [1]) (by kernel_rfl) (by simp) ?_
      refine AllReadyH.cons rfl (fun K hK => ?_) AllReadyH.nil
      go_simp
      ((with_reducible refine (ValidRow_is _ _ _ _ _ true (hr4.below hS) hv2).mono ?_); rintro e w' ⟨rfl, rfl⟩)
      refine hK.out _ _ (hS) fun hS => ?_
      clear hK K
      (try simp only [Act.put, List.setIfInBounds_toArray, List.set])
      refine takeH 2 28 rfl rfl (by kernel_rfl) (by kernel_rfl) (by kernel_rfl) (fun _ _ _ h => h) (by rfl) (v := ?_) ?_ hS ?_
      rotate_left 1
      · (intro w hSw; (try dsimp only at hSw); go_simp; all_goals (with_reducible rfl))
      (try simp only [Act.put, List.setIfInBounds_toArray, List.set])
      refine takeH 3 29 rfl rfl (by kernel_rfl) (by kernel_rfl) (by kernel_rfl) (fun _ _ _ h => h) (by rfl) (v := ?_) ?_ hS ?_
      rotate_left 1
      · (intro w hSw; (try dsimp only at hSw); go_simp; all_goals (with_reducible rfl))
      (try simp only [Act.put, List.setIfInBounds_toArray, List.set])
      refine takeH 4 30 rfl rfl (by kernel_rfl) (by kernel_rfl) (by kernel_rfl) (fun _ _ _ h => h) (by rfl) (v := ?_) ?_ hS ?_
      rotate_left 1
      · (intro w hSw; (try dsimp only at hSw); go_simp; all_goals (with_reducible rfl))
      (try simp only [Act.put, List.setIfInBounds_toArray, List.set])
      refine takeH 6 32 rfl rfl (by kernel_rfl) (by kernel_rfl) (by kernel_rfl) (fun _ _ _ h => h) (by rfl) (v := ?_) ?_ hS ?_
      rotate_left 1
      · (intro w hSw; (try dsimp only at hSw); go_simp; all_goals (with_reducible rfl))
      (try simp only [Act.put, List.setIfInBounds_toArray, List.set])
      refine wpAnyH_ready (rs := [5]) (by kernel_rfl) (by simp) ?_
      refine AllReadyH.cons rfl (fun K hK => ?_) AllReadyH.nil
      go_simp
      ((with_reducible refine (BelowOf_yes _ _ _ _ _ kk hkk HK.out (hr4.below hS) hcu).mono ?_); rintro e w5 ⟨a5, c5, rfl, hown5, hb5⟩)
      refine hK.out _ _ (bstep hS hb5) fun hS => ?_
      clear hK K
      (try simp only [Act.put, List.setIfInBounds_toArray, List.set])
      refine wpAnyH_ready (rs := [7]) (by kernel_rfl) (by simp) ?_
      refine AllReadyH.cons rfl (fun K hK => ?_) AllReadyH.nil
      go_simp
      ((with_reducible refine (equalInts_any_eq _ _ _ _ _ _ _ _ _ (hown5.row (by omega)) (hrow4.below hS) HE.out).mono ?_); rintro e w6 ⟨rfl, hb6⟩)
      refine hK.out _ _ (bstep hS hb6) fun hS => ?_
      clear hK K
      (try simp only [Act.put, List.setIfInBounds_toArray, List.set])
      refine takeH 8 34 rfl rfl (by kernel_rfl) (by kernel_rfl) (by kernel_rfl) (fun _ _ _ h => h) (by rfl) (v := ?_) ?_ hS ?_
      rotate_left 1
      · (intro w hSw; (try dsimp only at hSw); go_simp; all_goals (with_reducible rfl))
      (try simp only [Act.put, List.setIfInBounds_toArray, List.set])
      refine takeH 9 35 rfl rfl (by kernel_rfl) (by kernel_rfl) (by kernel_rfl) (fun _ _ _ h => h) (by rfl) (v := ?_) ?_ hS ?_
      rotate_left 1
      · (intro w hSw; (try dsimp only at hSw); go_simp; all_goals (with_reducible rfl))
      (try simp only [Act.put, List.setIfInBounds_toArray, List.set])
      refine takeH 10 36 rfl rfl (by kernel_rfl) (by kernel_rfl) (by kernel_rfl) (fun _ _ _ h => h) (by rfl) (v := ?_) ?_ hS ?_
      rotate_left 1
      · (intro w hSw; (try dsimp only at hSw); go_simp; all_goals (with_reducible rfl))
      (try simp only [Act.put, List.setIfInBounds_toArray, List.set])
      refine takeH 11 37 rfl rfl (by kernel_rfl) (by kernel_rfl) (by kernel_rfl) (fun _ _ _ h => h) (by rfl) (v := ?_) ?_ hS ?_
      rotate_left 1
      · (intro w hSw; (try dsimp only at hSw); go_simp; all_goals (with_reducible rfl))
      (try simp only [Act.put, List.setIfInBounds_toArray, List.set])
      refine takeH 12 38 rfl rfl (by kernel_rfl) (by kernel_rfl) (by kernel_rfl) (fun _ _ _ h => h) (by rfl) (v := ?_) ?_ hS ?_
      rotate_left 1
      · (intro w hSw; (try dsimp only at hSw); have hq1 := HC1.out _ hSw; have hq2 := HC2.out _ hSw; have hq3 := HCB.out _ hSw; go_simp; all_goals (with_reducible rfl))
      (try simp only [Act.put, List.setIfInBounds_toArray, List.set])
      refine takeH 13 39 rfl rfl (by kernel_rfl) (by kernel_rfl) (by kernel_rfl) (fun _ _ _ h => h) (by rfl) (v := ?_) ?_ hS ?_
      rotate_left 1
      · (intro w hSw; (try dsimp only at hSw); go_simp; all_goals (with_reducible rfl))
      (try simp only [Act.put, List.setIfInBounds_toArray, List.set])
      refine takeH 14 40 rfl rfl (by kernel_rfl) (by kernel_rfl) (by kernel_rfl) (fun _ _ _ h => h) (by rfl) (v := ?_) ?_ hS ?_
      rotate_left 1
      · (intro w hSw; (try dsimp only at hSw); go_simp; all_goals (with_reducible rfl))
      (try simp only [Act.put, List.setIfInBounds_toArray, List.set])
      refine takeH 15 41 rfl rfl (by kernel_rfl) (by kernel_rfl) (by kernel_rfl) (fun _ _ _ h => h) (by rfl) (v := ?_) ?_ hS ?_
      rotate_left 1
      · (intro w hSw; (try dsimp only at hSw); have hq1 := HC1.out _ hSw; have hq2 := HC2.out _ hSw; have hq3 := HCB.out _ hSw; go_simp; all_goals (with_reducible rfl))
      (try simp only [Act.put, List.setIfInBounds_toArray, List.set])
      refine takeH 16 42 rfl rfl (by kernel_rfl) (by kernel_rfl) (by kernel_rfl) (fun _ _ _ h => h) (by rfl) (v := ?_) ?_ hS ?_
      rotate_left 1
      · (intro w hSw; (try dsimp only at hSw); go_simp; all_goals (with_reducible rfl))
      (try simp only [Act.put, List.setIfInBounds_toArray, List.set])
      refine takeH 17 43 rfl rfl (by kernel_rfl) (by kernel_rfl) (by kernel_rfl) (fun _ _ _ h => h) (by rfl) (v := ?_) ?_ hS ?_
      rotate_left 1
      · (intro w hSw; (try dsimp only at hSw); go_simp; all_goals (with_reducible rfl))
      (try simp only [Act.put, List.setIfInBounds_toArray, List.set])
      refine takeH 18 44 rfl rfl (by kernel_rfl) (by kernel_rfl) (by kernel_rfl) (fun _ _ _ h => h) (by rfl) (v := ?_) ?_ hS ?_
      rotate_left 1
      · (intro w hSw; (try dsimp only at hSw); go_simp; all_goals (with_reducible rfl))
      (try simp only [Act.put, List.setIfInBounds_toArray, List.set])
      refine takeH 19 45 rfl rfl (by kernel_rfl) (by kernel_rfl) (by kernel_rfl) (fun _ _ _ h => h) (by rfl) (v := ?_) ?_ hS ?_
      rotate_left 1
      · (intro w hSw; (try dsimp only at hSw); go_simp; all_goals (with_reducible rfl))
      (try simp only [Act.put, List.setIfInBounds_toArray, List.set])
      refine takeH 21 47 rfl rfl (by kernel_rfl) (by kernel_rfl) (by kernel_rfl) (fun _ _ _ h => h) (by rfl) (v := ?_) ?_ hS ?_
      rotate_left 1
      · (intro w hSw; (try dsimp only at hSw); go_simp; all_goals (with_reducible rfl))
      (try simp only [Act.put, List.setIfInBounds_toArray, List.set])
      refine takeH 22 48 rfl rfl (by kernel_rfl) (by kernel_rfl) (by kernel_rfl) (fun _ _ _ h => h) (by rfl) (v := ?_) ?_ hS ?_
      rotate_left 1
      · (intro w hSw; (try dsimp only at hSw); go_simp; all_goals (with_reducible rfl))
      (try simp only [Act.put, List.setIfInBounds_toArray, List.set])
      refine takeH 23 49 rfl rfl (by kernel_rfl) (by kernel_rfl) (by kernel_rfl) (fun _ _ _ h => h) (by rfl) (v := ?_) ?_ hS ?_
      rotate_left 1
      · (intro w hSw; (try dsimp only at hSw); go_simp; all_goals (with_reducible rfl))
      (try simp only [Act.put, List.setIfInBounds_toArray, List.set])
      refine takeH 24 50 rfl rfl (by kernel_rfl) (by kernel_rfl) (by kernel_rfl) (fun _ _ _ h => h) (by rfl) (v := ?_) ?_ hS ?_
      rotate_left 1
      · (intro w hSw; (try dsimp only at hSw); go_simp; all_goals (with_reducible rfl))
      (try simp only [Act.put, List.setIfInBounds_toArray, List.set])
      refine takeH 25 51 rfl rfl (by kernel_rfl) (by kernel_rfl) (by kernel_rfl) (fun _ _ _ h => h) (by rfl) (v := ?_) ?_ hS ?_
      rotate_left 1
      · (intro w hSw; (try dsimp only at hSw); go_simp; all_goals (with_reducible rfl))
      (try simp only [Act.put, List.setIfInBounds_toArray, List.set])
      refine takeH 26 52 rfl rfl (by kernel_rfl) (by kernel_rfl) (by kernel_rfl) (fun _ _ _ h => h) (by rfl) (v := ?_) ?_ hS ?_
      rotate_left 1
      · (intro w hSw; (try dsimp only at hSw); have hq1 := HC1.out _ hSw; have hq2 := HC2.out _ hSw; have hq3 := HCB.out _ hSw; go_simp; all_goals (with_reducible rfl))
      (try simp only [Act.put, List.setIfInBounds_toArray, List.set])
      refine wpAnyH_ready (rs := [20]) (by kernel_rfl) (by simp) ?_
      refine AllReadyH.cons rfl (fun K hK => ?_) AllReadyH.nil
      go_simp
      ((with_reducible refine (total_any _ _ _ _ (parL (-1) xs kk m) 16000 (hr4.below hS) hm1000 (by decide) hpb.out).mono ?_); rw [htot.out]; rintro e w' ⟨rfl, rfl⟩)
      refine hK.out _ _ (hS) fun hS => ?_
      clear hK K
      (try simp only [Act.put, List.setIfInBounds_toArray, List.set])
      refine takeH 27 53 rfl rfl (by kernel_rfl) (by kernel_rfl) (by kernel_rfl) (fun _ _ _ h => h) (by rfl) (v := ?_) ?_ hS ?_
      rotate_left 1
      · (intro w hSw; (try dsimp only at hSw); go_simp; all_goals (with_reducible rfl))
      (try simp only [Act.put, List.setIfInBounds_toArray, List.set])
      refine takeH 28 54 rfl rfl (by kernel_rfl) (by kernel_rfl) (by kernel_rfl) (fun _ _ _ h => h) (by rfl) (v := ?_) ?_ hS ?_
      rotate_left 1
      · (intro w hSw; (try dsimp only at hSw); go_simp; all_goals (with_reducible rfl))
      (try simp only [Act.put, List.setIfInBounds_toArray, List.set])
      refine takeH 29 2 rfl rfl (by kernel_rfl) (by kernel_rfl) (by kernel_rfl) (fun _ _ _ h => h) (by rfl) (v := ?_) ?_ hS ?_
      rotate_left 1
      · (intro w hSw; (try dsimp only at hSw); go_simp; all_goals (with_reducible rfl))
      (try simp only [Act.put, List.setIfInBounds_toArray, List.set])
      refine wpAnyH_done (by kernel_rfl) ?_ _
      clear j5
      go_wp2_with fail
      go_ret
      exact ⟨ret_bool (by simp), bstep hbl4 hS⟩
end Go.Proofs.Ytommnhpihophbaa
