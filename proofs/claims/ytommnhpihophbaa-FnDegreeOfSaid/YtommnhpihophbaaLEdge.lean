/-
  The law of EdgeOf for drawn rows: the walk of laws.FnEdgeOf answers true, given that the codes lie in memory.
-/
import Derived.Test.YtommnhpihophbaaEdge
import Derived.Test.YtommnhpihophbaaDraw2
import Derived.Test.YtommnhpihophbaaReg
namespace Go.Proofs.Ytommnhpihophbaa
open Go.RowKit

theorem el_fromL {xs : List Int} {n j : Nat} (hj : j < n) (hn : n ≤ 16) : el (fromL xs n) j = Fe (el xs) j := by
  rw [fromL, el_tab hj, fromAt, Fe]
  exact sm_congr fun i hi => by rw [chI_Cb j (by omega) i (by omega)]
theorem el_edgeL {xs : List Int} {n k : Nat} (hk : k < n) : el (edgeL xs n) k = Dit k (el xs) 0 := by rw [edgeL, el_tab hk]

theorem from_edge (xs : List Int) (n : Nat) (h : xs.length = n) (hn : n ≤ 16) : fromL (edgeL xs n) n = xs := by
  apply el_ext
  · rw [fromL, tab_length, h]
  · intro i hi
    rw [fromL, tab_length] at hi
    rw [el_fromL hi hn, Fe_congr (g := fun k => Dit k (el xs) 0) fun k hk => el_edgeL (by omega), Fe_Dit]
theorem edge_from (xs : List Int) (n : Nat) (h : xs.length = n) (hn : n ≤ 16) : edgeL (fromL xs n) n = xs := by
  apply el_ext
  · rw [edgeL, tab_length, h]
  · intro i hi
    rw [edgeL, tab_length] at hi
    rw [el_edgeL hi, Dit_congr i _ (Fe (el xs)) 0 fun j hj => el_fromL (by omega) hn, Dit_Fe]

theorem quiet_says {f : FuncId} {args : Array Value} {w : World} {n : Nat} {b : Bool} (h : Calls Try.prog f args (w.drewN n) fun e w' => e = .returned (.bool b) ∧ w.drewN n = w') :
    Calls Try.prog f args (w.drewN n) fun e w'' => e = .returned (.bool b) ∧ ∃ m, w'' = w.drewN m := quiet_same h

theorem valid_nil : valid [] = true := rfl

set_option maxHeartbeats 6400000 in
theorem law_EdgeOf (w : World) (a : Option Addr) (n c : Nat) (h : Bts w a n w.heap.size) (hnc : n ≤ c) :
    Calls Try.prog 7 #[.slice a n c] w fun e w' => Says w w' e true := by
  by_cases hbig : 1048576 < n
  · go_enter Try.func7, Try.ntmps7
    go_wp2
    go_ret
    exact ⟨rfl, Below.refl _ _⟩
  go_enter Try.func7, Try.ntmps7
  go_wp2_with fail
  refine (DrawEdgeOf_any w a n c h hnc (by omega)).mono ?_
  rintro e w1 ⟨a1, m, c1, xs, rfl, hm, hown, hbl⟩
  have hrow := hown.row (by omega)
  have hlen : Hid (xs.length = m) := hrow.len
  cases hv : valid xs
  · go_wp2_with fail
    refine (EdgeOf_no w1 a1 m c1 xs hrow hv).mono ?_
    rintro e w2 ⟨rfl, rfl⟩
    go_wp2_with fail
    refine (sEdgeOf_no _ a1 m c1 xs hrow hv).mono ?_
    rintro e w2 ⟨rfl, rfl⟩
    go_wp2_with fail
    refine (equalInts_any_eq _ none none 0 0 0 0 [] [] (row_nil _) (row_nil _) rfl).mono ?_
    rintro e w2 ⟨rfl, hb2⟩
    have hbl2 := bstep hbl hb2
    have hrow2 := hrow.below hb2
    go_wp2_with fail
    refine (ValidRow_is _ a1 m c1 xs false hrow2 hv).mono ?_
    rintro e w' ⟨rfl, rfl⟩
    go_wp2_with fail
    refine (sEdgeOf_no _ a1 m c1 xs hrow2 hv).mono ?_
    rintro e w3 ⟨rfl, rfl⟩
    go_wp2_with fail
    refine (equalInts_any_eq _ none none 0 0 0 0 [] [] (row_nil _) (row_nil _) rfl).mono ?_
    rintro e w4 ⟨rfl, hb4⟩
    go_wp2_with fail
    go_ret
    exact ⟨ret_bool rfl, bstep hbl2 hb4⟩
  · have hm16 : m ≤ 16 := by have := valid_len hv; rw [hlen.out] at this; exact this
    go_wp2_with fail
    refine (EdgeOf_yes w1 a1 m c1 xs hrow hv).mono ?_
    rintro e w2 ⟨a2, c2, rfl, hown2, hb2⟩
    have hbl2 := bstep hbl hb2
    have hrow2 := hrow.below hb2
    go_wp2_with fail
    refine (sEdgeOf_yes w2 a1 m c1 xs hrow2 hv).mono ?_
    rintro e w3 ⟨a3, c3, rfl, hown3, hb3⟩
    have hbl3 := bstep hbl2 hb3
    have hrow3 := hrow2.below hb3
    have hr3 := (hown2.below hb3).row (by omega)
    go_wp2_with fail
    refine (equalInts_any_eq w3 a2 a3 m m c2 c3 _ _ hr3 (hown3.row (by omega)) rfl).mono ?_
    rintro e w4 ⟨rfl, hb4⟩
    have hbl4 := bstep hbl3 hb4
    have hrow4 := hrow3.below hb4
    have hr4 := hr3.below hb4
    clear hown hown2 hown3 hb2 hb3 hb4 hrow hrow2 hrow3 hr3 hbl hbl2 hbl3
    go_wp2_with fail
    refine (ValidRow_is _ a1 m c1 xs true hrow4 hv).mono ?_
    rintro e w' ⟨rfl, rfl⟩
    by_cases hm0 : m = 0
    · subst hm0
      have hxs : xs = [] := List.eq_nil_of_length_eq_zero hlen.out
      subst hxs
      have hr4' : Row w4 a2 0 c2 [] := hr4
      go_wp2_with fail
      refine wp_region_held_drew (S := fun w' => Below w4.heap.size w4 w') (by kernel_rfl) ((Below.refl _ w4).drew) fun hS => ?_
      refine takeH 0 26 rfl rfl (by kernel_rfl) (by kernel_rfl) (by kernel_rfl) (fun _ _ _ h => h) (by rfl) (v := ?_) ?_ hS ?_
      rotate_left 1
      · (intro w hSw; (try dsimp only at hSw); go_simp; all_goals (with_reducible rfl))
      (try simp only [Act.put, List.setIfInBounds_toArray, List.set])
      refine wpAnyH_ready (rs := [1]) (by kernel_rfl) (by simp) ?_
      refine AllReadyH.cons rfl (fun K hK => ?_) AllReadyH.nil
      go_simp
      ((with_reducible refine (ValidRow_is _ _ _ _ [] true (hr4'.below hS) valid_nil).mono ?_); rintro e w' ⟨rfl, rfl⟩)
      refine hK.out _ _ (hS) fun hS => ?_
      clear hK K
      (try simp only [Act.put, List.setIfInBounds_toArray, List.set])
      refine takeH 2 28 rfl rfl (by kernel_rfl) (by kernel_rfl) (by kernel_rfl) (fun _ _ _ h => h) (by rfl) (v := ?_) ?_ hS ?_
      rotate_left 1
      · (intro w hSw; (try dsimp only at hSw); go_simp; all_goals (with_reducible rfl))
      (try simp only [Act.put, List.setIfInBounds_toArray, List.set])
      refine takeH 3 29 rfl rfl (by kernel_rfl) (by kernel_rfl) (by kernel_rfl) (fun _ _ _ h => h) (by rfl) (v := ?_) ?_ hS ?_
      rotate_left 1
      · (intro w hSw; (try dsimp only at hSw); go_simp; all_goals (with_reducible rfl))
      (try simp only [Act.put, List.setIfInBounds_toArray, List.set])
      refine takeH 4 30 rfl rfl (by kernel_rfl) (by kernel_rfl) (by kernel_rfl) (fun _ _ _ h => h) (by rfl) (v := ?_) ?_ hS ?_
      rotate_left 1
      · (intro w hSw; (try dsimp only at hSw); go_simp; all_goals (with_reducible rfl))
      (try simp only [Act.put, List.setIfInBounds_toArray, List.set])
      refine takeH 6 32 rfl rfl (by kernel_rfl) (by kernel_rfl) (by kernel_rfl) (fun _ _ _ h => h) (by rfl) (v := ?_) ?_ hS ?_
      rotate_left 1
      · (intro w hSw; (try dsimp only at hSw); go_simp; all_goals (with_reducible rfl))
      (try simp only [Act.put, List.setIfInBounds_toArray, List.set])
      refine wpAnyH_ready (rs := [5]) (by kernel_rfl) (by simp) ?_
      refine AllReadyH.cons rfl (fun K hK => ?_) AllReadyH.nil
      go_simp
      ((with_reducible refine (FromEdge_yes _ _ _ _ [] (hr4'.below hS) valid_nil).mono ?_); rintro e w5 ⟨a5, c5, rfl, hown5, hb5⟩)
      refine hK.out _ _ (bstep hS hb5) fun hS => ?_
      clear hK K
      (try simp only [Act.put, List.setIfInBounds_toArray, List.set])
      refine wpAnyH_ready (rs := [7]) (by kernel_rfl) (by simp) ?_
      refine AllReadyH.cons rfl (fun K hK => ?_) AllReadyH.nil
      go_simp
      ((with_reducible refine (equalInts_any_eq _ _ _ _ _ _ _ _ _ (hown5.row (by omega)) (hrow4.below hS) rfl).mono ?_); rintro e w6 ⟨rfl, hb6⟩)
      refine hK.out _ _ (bstep hS hb6) fun hS => ?_
      clear hK K
      (try simp only [Act.put, List.setIfInBounds_toArray, List.set])
      refine takeH 8 34 rfl rfl (by kernel_rfl) (by kernel_rfl) (by kernel_rfl) (fun _ _ _ h => h) (by rfl) (v := ?_) ?_ hS ?_
      rotate_left 1
      · (intro w hSw; (try dsimp only at hSw); go_simp; all_goals (with_reducible rfl))
      (try simp only [Act.put, List.setIfInBounds_toArray, List.set])
      refine takeH 9 35 rfl rfl (by kernel_rfl) (by kernel_rfl) (by kernel_rfl) (fun _ _ _ h => h) (by rfl) (v := ?_) ?_ hS ?_
      rotate_left 1
      · (intro w hSw; (try dsimp only at hSw); go_simp; all_goals (with_reducible rfl))
      (try simp only [Act.put, List.setIfInBounds_toArray, List.set])
      refine takeH 10 36 rfl rfl (by kernel_rfl) (by kernel_rfl) (by kernel_rfl) (fun _ _ _ h => h) (by rfl) (v := ?_) ?_ hS ?_
      rotate_left 1
      · (intro w hSw; (try dsimp only at hSw); go_simp; all_goals (with_reducible rfl))
      (try simp only [Act.put, List.setIfInBounds_toArray, List.set])
      refine takeH 11 37 rfl rfl (by kernel_rfl) (by kernel_rfl) (by kernel_rfl) (fun _ _ _ h => h) (by rfl) (v := ?_) ?_ hS ?_
      rotate_left 1
      · (intro w hSw; (try dsimp only at hSw); go_simp; all_goals (with_reducible rfl))
      (try simp only [Act.put, List.setIfInBounds_toArray, List.set])
      refine takeH 12 38 rfl rfl (by kernel_rfl) (by kernel_rfl) (by kernel_rfl) (fun _ _ _ h => h) (by rfl) (v := ?_) ?_ hS ?_
      rotate_left 1
      · (intro w hSw; (try dsimp only at hSw); go_simp; all_goals (with_reducible rfl))
      (try simp only [Act.put, List.setIfInBounds_toArray, List.set])
      refine takeH 13 39 rfl rfl (by kernel_rfl) (by kernel_rfl) (by kernel_rfl) (fun _ _ _ h => h) (by rfl) (v := ?_) ?_ hS ?_
      rotate_left 1
      · (intro w hSw; (try dsimp only at hSw); go_simp; all_goals (with_reducible rfl))
      (try simp only [Act.put, List.setIfInBounds_toArray, List.set])
      refine takeH 14 40 rfl rfl (by kernel_rfl) (by kernel_rfl) (by kernel_rfl) (fun _ _ _ h => h) (by rfl) (v := ?_) ?_ hS ?_
      rotate_left 1
      · (intro w hSw; (try dsimp only at hSw); go_simp; all_goals (with_reducible rfl))
      (try simp only [Act.put, List.setIfInBounds_toArray, List.set])
      refine takeH 15 41 rfl rfl (by kernel_rfl) (by kernel_rfl) (by kernel_rfl) (fun _ _ _ h => h) (by rfl) (v := ?_) ?_ hS ?_
      rotate_left 1
      · (intro w hSw; (try dsimp only at hSw); go_simp; all_goals (with_reducible rfl))
      (try simp only [Act.put, List.setIfInBounds_toArray, List.set])
      refine takeH 16 42 rfl rfl (by kernel_rfl) (by kernel_rfl) (by kernel_rfl) (fun _ _ _ h => h) (by rfl) (v := ?_) ?_ hS ?_
      rotate_left 1
      · (intro w hSw; (try dsimp only at hSw); go_simp; all_goals (with_reducible rfl))
      (try simp only [Act.put, List.setIfInBounds_toArray, List.set])
      refine takeH 17 43 rfl rfl (by kernel_rfl) (by kernel_rfl) (by kernel_rfl) (fun _ _ _ h => h) (by rfl) (v := ?_) ?_ hS ?_
      rotate_left 1
      · (intro w hSw; (try dsimp only at hSw); go_simp; all_goals (with_reducible rfl))
      (try simp only [Act.put, List.setIfInBounds_toArray, List.set])
      refine takeH 18 44 rfl rfl (by kernel_rfl) (by kernel_rfl) (by kernel_rfl) (fun _ _ _ h => h) (by rfl) (v := ?_) ?_ hS ?_
      rotate_left 1
      · (intro w hSw; (try dsimp only at hSw); go_simp; all_goals (with_reducible rfl))
      (try simp only [Act.put, List.setIfInBounds_toArray, List.set])
      refine takeH 19 45 rfl rfl (by kernel_rfl) (by kernel_rfl) (by kernel_rfl) (fun _ _ _ h => h) (by rfl) (v := ?_) ?_ hS ?_
      rotate_left 1
      · (intro w hSw; (try dsimp only at hSw); go_simp; all_goals (with_reducible rfl))
      (try simp only [Act.put, List.setIfInBounds_toArray, List.set])
      refine takeH 20 46 rfl rfl (by kernel_rfl) (by kernel_rfl) (by kernel_rfl) (fun _ _ _ h => h) (by rfl) (v := ?_) ?_ hS ?_
      rotate_left 1
      · (intro w hSw; (try dsimp only at hSw); go_simp; all_goals (with_reducible rfl))
      (try simp only [Act.put, List.setIfInBounds_toArray, List.set])
      refine passH 21 47 rfl rfl (by kernel_rfl) (by kernel_rfl) (by kernel_rfl) (fun _ _ _ h => h) (by rfl) hS ?_
      (try simp only [Act.put, List.setIfInBounds_toArray, List.set])
      refine passH 22 48 rfl rfl (by kernel_rfl) (by kernel_rfl) (by kernel_rfl) (fun _ _ _ h => h) (by rfl) hS ?_
      (try simp only [Act.put, List.setIfInBounds_toArray, List.set])
      refine passH 23 49 rfl rfl (by kernel_rfl) (by kernel_rfl) (by kernel_rfl) (fun _ _ _ h => h) (by rfl) hS ?_
      (try simp only [Act.put, List.setIfInBounds_toArray, List.set])
      refine passH 24 50 rfl rfl (by kernel_rfl) (by kernel_rfl) (by kernel_rfl) (fun _ _ _ h => h) (by rfl) hS ?_
      (try simp only [Act.put, List.setIfInBounds_toArray, List.set])
      refine passH 25 51 rfl rfl (by kernel_rfl) (by kernel_rfl) (by kernel_rfl) (fun _ _ _ h => h) (by rfl) hS ?_
      (try simp only [Act.put, List.setIfInBounds_toArray, List.set])
      refine passH 26 52 rfl rfl (by kernel_rfl) (by kernel_rfl) (by kernel_rfl) (fun _ _ _ h => h) (by rfl) hS ?_
      (try simp only [Act.put, List.setIfInBounds_toArray, List.set])
      refine passH 27 53 rfl rfl (by kernel_rfl) (by kernel_rfl) (by kernel_rfl) (fun _ _ _ h => h) (by rfl) hS ?_
      (try simp only [Act.put, List.setIfInBounds_toArray, List.set])
      refine takeH 28 54 rfl rfl (by kernel_rfl) (by kernel_rfl) (by kernel_rfl) (fun _ _ _ h => h) (by rfl) (v := ?_) ?_ hS ?_
      rotate_left 1
      · (intro w hSw; (try dsimp only at hSw); go_simp; all_goals (with_reducible rfl))
      (try simp only [Act.put, List.setIfInBounds_toArray, List.set])
      refine takeH 29 55 rfl rfl (by kernel_rfl) (by kernel_rfl) (by kernel_rfl) (fun _ _ _ h => h) (by rfl) (v := ?_) ?_ hS ?_
      rotate_left 1
      · (intro w hSw; (try dsimp only at hSw); go_simp; all_goals (with_reducible rfl))
      (try simp only [Act.put, List.setIfInBounds_toArray, List.set])
      refine takeH 30 2 rfl rfl (by kernel_rfl) (by kernel_rfl) (by kernel_rfl) (fun _ _ _ h => h) (by rfl) (v := ?_) ?_ hS ?_
      rotate_left 1
      · (intro w hSw; (try dsimp only at hSw); go_simp; all_goals (with_reducible rfl))
      (try simp only [Act.put, List.setIfInBounds_toArray, List.set])
      refine wpAnyH_done (by kernel_rfl) ?_ _
      go_wp2_with fail
      go_ret
      exact ⟨ret_bool (by simp), bstep hbl4 hS⟩
    · obtain ⟨j, rfl⟩ : ∃ j, m = j + 1 := ⟨m - 1, by omega⟩
      have hmb : ((j : Int) + 1 == 0) = false := by simp; omega
      have hj1 : (0 : Int) < (j : Int) + 1 := by omega
      obtain ⟨b2, off2, rfl, hbb2, hcell2⟩ := hr4.at (by omega)
      obtain ⟨b1, off1, rfl, hbb1, hcell1⟩ := hrow4.at (by omega)
      have hd0 : el (edgeL xs (j + 1)) 0 = el xs 0 := by rw [el_edgeL (by omega)]; rfl
      have HC2 : Hid (∀ w', Below w4.heap.size w4 w' → w'.cell? ⟨b2, off2, none⟩ = some (.int .i64 (el xs 0))) := fun w' hb => by
        have := hcell2 w' hb 0 (by omega)
        rw [hd0] at this; exact this
      have HC1 : Hid (∀ w', Below w4.heap.size w4 w' → w'.cell? ⟨b1, off1, none⟩ = some (.int .i64 (el xs 0))) := fun w' hb => hcell1 w' hb 0 (by omega)
      clear hcell1 hcell2 hd0
      cases hv2 : valid (edgeL xs (j + 1))
      · go_wp2_with fail
        refine wp_region_held_drew (S := fun w' => Below w4.heap.size w4 w') (by kernel_rfl) ((Below.refl _ w4).drew) fun hS => ?_
        refine takeH 0 26 rfl rfl (by kernel_rfl) (by kernel_rfl) (by kernel_rfl) (fun _ _ _ h => h) (by rfl) (v := ?_) ?_ hS ?_
        rotate_left 1
        · (intro w hSw; (try dsimp only at hSw); go_simp; all_goals (with_reducible rfl))
        (try simp only [Act.put, List.setIfInBounds_toArray, List.set])
        refine wpAnyH_ready (rs := [1]) (by kernel_rfl) (by simp) ?_
        refine AllReadyH.cons rfl (fun K hK => ?_) AllReadyH.nil
        go_simp
        ((with_reducible refine (ValidRow_is _ _ _ _ _ false (hr4.below hS) hv2).mono ?_); rintro e w' ⟨rfl, rfl⟩)
        refine hK.out _ _ (hS) fun hS => ?_
        clear hK K
        (try simp only [Act.put, List.setIfInBounds_toArray, List.set])
        refine takeH 2 28 rfl rfl (by kernel_rfl) (by kernel_rfl) (by kernel_rfl) (fun _ _ _ h => h) (by rfl) (v := ?_) ?_ hS ?_
        rotate_left 1
        · (intro w hSw; (try dsimp only at hSw); go_simp; all_goals (with_reducible rfl))
        (try simp only [Act.put, List.setIfInBounds_toArray, List.set])
        refine takeH 3 29 rfl rfl (by kernel_rfl) (by kernel_rfl) (by kernel_rfl) (fun _ _ _ h => h) (by rfl) (v := ?_) ?_ hS ?_
        rotate_left 1
        · (intro w hSw; (try dsimp only at hSw); go_simp; all_goals (with_reducible rfl))
        (try simp only [Act.put, List.setIfInBounds_toArray, List.set])
        refine passH 4 30 rfl rfl (by kernel_rfl) (by kernel_rfl) (by kernel_rfl) (fun _ _ _ h => h) (by rfl) hS ?_
        (try simp only [Act.put, List.setIfInBounds_toArray, List.set])
        refine passH 5 31 rfl rfl (by kernel_rfl) (by kernel_rfl) (by kernel_rfl) (fun _ _ _ h => h) (by rfl) hS ?_
        (try simp only [Act.put, List.setIfInBounds_toArray, List.set])
        refine passH 6 32 rfl rfl (by kernel_rfl) (by kernel_rfl) (by kernel_rfl) (fun _ _ _ h => h) (by rfl) hS ?_
        (try simp only [Act.put, List.setIfInBounds_toArray, List.set])
        refine passH 7 33 rfl rfl (by kernel_rfl) (by kernel_rfl) (by kernel_rfl) (fun _ _ _ h => h) (by rfl) hS ?_
        (try simp only [Act.put, List.setIfInBounds_toArray, List.set])
        refine takeH 8 34 rfl rfl (by kernel_rfl) (by kernel_rfl) (by kernel_rfl) (fun _ _ _ h => h) (by rfl) (v := ?_) ?_ hS ?_
        rotate_left 1
        · (intro w hSw; (try dsimp only at hSw); go_simp; all_goals (with_reducible rfl))
        (try simp only [Act.put, List.setIfInBounds_toArray, List.set])
        refine takeH 9 35 rfl rfl (by kernel_rfl) (by kernel_rfl) (by kernel_rfl) (fun _ _ _ h => h) (by rfl) (v := ?_) ?_ hS ?_
        rotate_left 1
        · (intro w hSw; (try dsimp only at hSw); go_simp; all_goals (with_reducible rfl))
        (try simp only [Act.put, List.setIfInBounds_toArray, List.set])
        refine takeH 10 36 rfl rfl (by kernel_rfl) (by kernel_rfl) (by kernel_rfl) (fun _ _ _ h => h) (by rfl) (v := ?_) ?_ hS ?_
        rotate_left 1
        · (intro w hSw; (try dsimp only at hSw); go_simp; all_goals (with_reducible rfl))
        (try simp only [Act.put, List.setIfInBounds_toArray, List.set])
        refine takeH 11 37 rfl rfl (by kernel_rfl) (by kernel_rfl) (by kernel_rfl) (fun _ _ _ h => h) (by rfl) (v := ?_) ?_ hS ?_
        rotate_left 1
        · (intro w hSw; (try dsimp only at hSw); go_simp; all_goals (with_reducible rfl))
        (try simp only [Act.put, List.setIfInBounds_toArray, List.set])
        refine takeH 12 38 rfl rfl (by kernel_rfl) (by kernel_rfl) (by kernel_rfl) (fun _ _ _ h => h) (by rfl) (v := ?_) ?_ hS ?_
        rotate_left 1
        · (intro w hSw; (try dsimp only at hSw); go_simp; all_goals (with_reducible rfl))
        (try simp only [Act.put, List.setIfInBounds_toArray, List.set])
        refine takeH 13 39 rfl rfl (by kernel_rfl) (by kernel_rfl) (by kernel_rfl) (fun _ _ _ h => h) (by rfl) (v := ?_) ?_ hS ?_
        rotate_left 1
        · (intro w hSw; (try dsimp only at hSw); go_simp; all_goals (with_reducible rfl))
        (try simp only [Act.put, List.setIfInBounds_toArray, List.set])
        refine takeH 14 40 rfl rfl (by kernel_rfl) (by kernel_rfl) (by kernel_rfl) (fun _ _ _ h => h) (by rfl) (v := ?_) ?_ hS ?_
        rotate_left 1
        · (intro w hSw; (try dsimp only at hSw); go_simp; all_goals (with_reducible rfl))
        (try simp only [Act.put, List.setIfInBounds_toArray, List.set])
        refine takeH 15 41 rfl rfl (by kernel_rfl) (by kernel_rfl) (by kernel_rfl) (fun _ _ _ h => h) (by rfl) (v := ?_) ?_ hS ?_
        rotate_left 1
        · (intro w hSw; (try dsimp only at hSw); go_simp; all_goals (with_reducible rfl))
        (try simp only [Act.put, List.setIfInBounds_toArray, List.set])
        refine takeH 16 42 rfl rfl (by kernel_rfl) (by kernel_rfl) (by kernel_rfl) (fun _ _ _ h => h) (by rfl) (v := ?_) ?_ hS ?_
        rotate_left 1
        · (intro w hSw; (try dsimp only at hSw); go_simp; all_goals (with_reducible rfl))
        (try simp only [Act.put, List.setIfInBounds_toArray, List.set])
        refine takeH 17 43 rfl rfl (by kernel_rfl) (by kernel_rfl) (by kernel_rfl) (fun _ _ _ h => h) (by rfl) (v := ?_) ?_ hS ?_
        rotate_left 1
        · (intro w hSw; (try dsimp only at hSw); go_simp; all_goals (with_reducible rfl))
        (try simp only [Act.put, List.setIfInBounds_toArray, List.set])
        refine takeH 18 44 rfl rfl (by kernel_rfl) (by kernel_rfl) (by kernel_rfl) (fun _ _ _ h => h) (by rfl) (v := ?_) ?_ hS ?_
        rotate_left 1
        · (intro w hSw; (try dsimp only at hSw); go_simp; all_goals (with_reducible rfl))
        (try simp only [Act.put, List.setIfInBounds_toArray, List.set])
        refine takeH 19 45 rfl rfl (by kernel_rfl) (by kernel_rfl) (by kernel_rfl) (fun _ _ _ h => h) (by rfl) (v := ?_) ?_ hS ?_
        rotate_left 1
        · (intro w hSw; (try dsimp only at hSw); go_simp; all_goals (with_reducible rfl))
        (try simp only [Act.put, List.setIfInBounds_toArray, List.set])
        refine takeH 20 46 rfl rfl (by kernel_rfl) (by kernel_rfl) (by kernel_rfl) (fun _ _ _ h => h) (by rfl) (v := ?_) ?_ hS ?_
        rotate_left 1
        · (intro w hSw; (try dsimp only at hSw); go_simp; all_goals (with_reducible rfl))
        (try simp only [Act.put, List.setIfInBounds_toArray, List.set])
        refine takeH 21 47 rfl rfl (by kernel_rfl) (by kernel_rfl) (by kernel_rfl) (fun _ _ _ h => h) (by rfl) (v := ?_) ?_ hS ?_
        rotate_left 1
        · (intro w hSw; (try dsimp only at hSw); go_simp; all_goals (with_reducible rfl))
        (try simp only [Act.put, List.setIfInBounds_toArray, List.set])
        refine takeH 22 48 rfl rfl (by kernel_rfl) (by kernel_rfl) (by kernel_rfl) (fun _ _ _ h => h) (by rfl) (v := ?_) ?_ hS ?_
        rotate_left 1
        · (intro w hSw; (try dsimp only at hSw); go_simp; all_goals (with_reducible rfl))
        (try simp only [Act.put, List.setIfInBounds_toArray, List.set])
        refine takeH 23 49 rfl rfl (by kernel_rfl) (by kernel_rfl) (by kernel_rfl) (fun _ _ _ h => h) (by rfl) (v := ?_) ?_ hS ?_
        rotate_left 1
        · (intro w hSw; (try dsimp only at hSw); have hq1 := HC1.out _ hSw; have hq2 := HC2.out _ hSw; go_simp; all_goals (with_reducible rfl))
        (try simp only [Act.put, List.setIfInBounds_toArray, List.set])
        refine takeH 24 50 rfl rfl (by kernel_rfl) (by kernel_rfl) (by kernel_rfl) (fun _ _ _ h => h) (by rfl) (v := ?_) ?_ hS ?_
        rotate_left 1
        · (intro w hSw; (try dsimp only at hSw); go_simp; all_goals (with_reducible rfl))
        (try simp only [Act.put, List.setIfInBounds_toArray, List.set])
        refine takeH 25 51 rfl rfl (by kernel_rfl) (by kernel_rfl) (by kernel_rfl) (fun _ _ _ h => h) (by rfl) (v := ?_) ?_ hS ?_
        rotate_left 1
        · (intro w hSw; (try dsimp only at hSw); go_simp; all_goals (with_reducible rfl))
        (try simp only [Act.put, List.setIfInBounds_toArray, List.set])
        refine takeH 26 52 rfl rfl (by kernel_rfl) (by kernel_rfl) (by kernel_rfl) (fun _ _ _ h => h) (by rfl) (v := ?_) ?_ hS ?_
        rotate_left 1
        · (intro w hSw; (try dsimp only at hSw); have hq1 := HC1.out _ hSw; have hq2 := HC2.out _ hSw; go_simp; all_goals (with_reducible rfl))
        (try simp only [Act.put, List.setIfInBounds_toArray, List.set])
        refine takeH 27 53 rfl rfl (by kernel_rfl) (by kernel_rfl) (by kernel_rfl) (fun _ _ _ h => h) (by rfl) (v := ?_) ?_ hS ?_
        rotate_left 1
        · (intro w hSw; (try dsimp only at hSw); go_simp; all_goals (with_reducible rfl))
        (try simp only [Act.put, List.setIfInBounds_toArray, List.set])
        refine takeH 28 54 rfl rfl (by kernel_rfl) (by kernel_rfl) (by kernel_rfl) (fun _ _ _ h => h) (by rfl) (v := ?_) ?_ hS ?_
        rotate_left 1
        · (intro w hSw; (try dsimp only at hSw); go_simp; all_goals (with_reducible rfl))
        (try simp only [Act.put, List.setIfInBounds_toArray, List.set])
        refine takeH 29 55 rfl rfl (by kernel_rfl) (by kernel_rfl) (by kernel_rfl) (fun _ _ _ h => h) (by rfl) (v := ?_) ?_ hS ?_
        rotate_left 1
        · (intro w hSw; (try dsimp only at hSw); go_simp; all_goals (with_reducible rfl))
        (try simp only [Act.put, List.setIfInBounds_toArray, List.set])
        refine takeH 30 2 rfl rfl (by kernel_rfl) (by kernel_rfl) (by kernel_rfl) (fun _ _ _ h => h) (by rfl) (v := ?_) ?_ hS ?_
        rotate_left 1
        · (intro w hSw; (try dsimp only at hSw); go_simp; all_goals (with_reducible rfl))
        (try simp only [Act.put, List.setIfInBounds_toArray, List.set])
        refine wpAnyH_done (by kernel_rfl) ?_ _
        go_wp2_with fail
        go_ret
        exact ⟨ret_bool (by simp), bstep hbl4 hS⟩
      · go_wp2_with fail
        refine wp_region_held_drew (S := fun w' => Below w4.heap.size w4 w') (by kernel_rfl) ((Below.refl _ w4).drew) fun hS => ?_
        refine takeH 0 26 rfl rfl (by kernel_rfl) (by kernel_rfl) (by kernel_rfl) (fun _ _ _ h => h) (by rfl) (v := ?_) ?_ hS ?_
        rotate_left 1
        · (intro w hSw; (try dsimp only at hSw); go_simp; all_goals (with_reducible rfl))
        (try simp only [Act.put, List.setIfInBounds_toArray, List.set])
        refine wpAnyH_ready (rs := [1]) (by kernel_rfl) (by simp) ?_
        refine AllReadyH.cons rfl (fun K hK => ?_) AllReadyH.nil
        go_simp
        ((with_reducible refine (ValidRow_is _ _ _ _ _ true (hr4.below hS) hv2).mono ?_); rintro e w' ⟨rfl, rfl⟩)
        refine hK.out _ _ (hS) fun hS => ?_
        clear hK K
        (try simp only [Act.put, List.setIfInBounds_toArray, List.set])
        refine takeH 2 28 rfl rfl (by kernel_rfl) (by kernel_rfl) (by kernel_rfl) (fun _ _ _ h => h) (by rfl) (v := ?_) ?_ hS ?_
        rotate_left 1
        · (intro w hSw; (try dsimp only at hSw); go_simp; all_goals (with_reducible rfl))
        (try simp only [Act.put, List.setIfInBounds_toArray, List.set])
        refine takeH 3 29 rfl rfl (by kernel_rfl) (by kernel_rfl) (by kernel_rfl) (fun _ _ _ h => h) (by rfl) (v := ?_) ?_ hS ?_
        rotate_left 1
        · (intro w hSw; (try dsimp only at hSw); go_simp; all_goals (with_reducible rfl))
        (try simp only [Act.put, List.setIfInBounds_toArray, List.set])
        refine takeH 4 30 rfl rfl (by kernel_rfl) (by kernel_rfl) (by kernel_rfl) (fun _ _ _ h => h) (by rfl) (v := ?_) ?_ hS ?_
        rotate_left 1
        · (intro w hSw; (try dsimp only at hSw); go_simp; all_goals (with_reducible rfl))
        (try simp only [Act.put, List.setIfInBounds_toArray, List.set])
        refine takeH 6 32 rfl rfl (by kernel_rfl) (by kernel_rfl) (by kernel_rfl) (fun _ _ _ h => h) (by rfl) (v := ?_) ?_ hS ?_
        rotate_left 1
        · (intro w hSw; (try dsimp only at hSw); go_simp; all_goals (with_reducible rfl))
        (try simp only [Act.put, List.setIfInBounds_toArray, List.set])
        refine wpAnyH_ready (rs := [5]) (by kernel_rfl) (by simp) ?_
        refine AllReadyH.cons rfl (fun K hK => ?_) AllReadyH.nil
        go_simp
        ((with_reducible refine (FromEdge_yes _ _ _ _ _ (hr4.below hS) hv2).mono ?_); rintro e w5 ⟨a5, c5, rfl, hown5, hb5⟩)
        refine hK.out _ _ (bstep hS hb5) fun hS => ?_
        clear hK K
        (try simp only [Act.put, List.setIfInBounds_toArray, List.set])
        refine wpAnyH_ready (rs := [7]) (by kernel_rfl) (by simp) ?_
        refine AllReadyH.cons rfl (fun K hK => ?_) AllReadyH.nil
        go_simp
        ((with_reducible refine (equalInts_any_eq _ _ _ _ _ _ _ _ _ (hown5.row (by omega)) (hrow4.below hS) (from_edge xs (j + 1) hlen.out hm16)).mono ?_); rintro e w6 ⟨rfl, hb6⟩)
        refine hK.out _ _ (bstep hS hb6) fun hS => ?_
        clear hK K
        (try simp only [Act.put, List.setIfInBounds_toArray, List.set])
        refine takeH 8 34 rfl rfl (by kernel_rfl) (by kernel_rfl) (by kernel_rfl) (fun _ _ _ h => h) (by rfl) (v := ?_) ?_ hS ?_
        rotate_left 1
        · (intro w hSw; (try dsimp only at hSw); go_simp; all_goals (with_reducible rfl))
        (try simp only [Act.put, List.setIfInBounds_toArray, List.set])
        refine takeH 9 35 rfl rfl (by kernel_rfl) (by kernel_rfl) (by kernel_rfl) (fun _ _ _ h => h) (by rfl) (v := ?_) ?_ hS ?_
        rotate_left 1
        · (intro w hSw; (try dsimp only at hSw); go_simp; all_goals (with_reducible rfl))
        (try simp only [Act.put, List.setIfInBounds_toArray, List.set])
        refine takeH 10 36 rfl rfl (by kernel_rfl) (by kernel_rfl) (by kernel_rfl) (fun _ _ _ h => h) (by rfl) (v := ?_) ?_ hS ?_
        rotate_left 1
        · (intro w hSw; (try dsimp only at hSw); go_simp; all_goals (with_reducible rfl))
        (try simp only [Act.put, List.setIfInBounds_toArray, List.set])
        refine takeH 11 37 rfl rfl (by kernel_rfl) (by kernel_rfl) (by kernel_rfl) (fun _ _ _ h => h) (by rfl) (v := ?_) ?_ hS ?_
        rotate_left 1
        · (intro w hSw; (try dsimp only at hSw); go_simp; all_goals (with_reducible rfl))
        (try simp only [Act.put, List.setIfInBounds_toArray, List.set])
        refine takeH 12 38 rfl rfl (by kernel_rfl) (by kernel_rfl) (by kernel_rfl) (fun _ _ _ h => h) (by rfl) (v := ?_) ?_ hS ?_
        rotate_left 1
        · (intro w hSw; (try dsimp only at hSw); go_simp; all_goals (with_reducible rfl))
        (try simp only [Act.put, List.setIfInBounds_toArray, List.set])
        refine takeH 13 39 rfl rfl (by kernel_rfl) (by kernel_rfl) (by kernel_rfl) (fun _ _ _ h => h) (by rfl) (v := ?_) ?_ hS ?_
        rotate_left 1
        · (intro w hSw; (try dsimp only at hSw); go_simp; all_goals (with_reducible rfl))
        (try simp only [Act.put, List.setIfInBounds_toArray, List.set])
        refine takeH 14 40 rfl rfl (by kernel_rfl) (by kernel_rfl) (by kernel_rfl) (fun _ _ _ h => h) (by rfl) (v := ?_) ?_ hS ?_
        rotate_left 1
        · (intro w hSw; (try dsimp only at hSw); go_simp; all_goals (with_reducible rfl))
        (try simp only [Act.put, List.setIfInBounds_toArray, List.set])
        refine takeH 15 41 rfl rfl (by kernel_rfl) (by kernel_rfl) (by kernel_rfl) (fun _ _ _ h => h) (by rfl) (v := ?_) ?_ hS ?_
        rotate_left 1
        · (intro w hSw; (try dsimp only at hSw); go_simp; all_goals (with_reducible rfl))
        (try simp only [Act.put, List.setIfInBounds_toArray, List.set])
        refine takeH 16 42 rfl rfl (by kernel_rfl) (by kernel_rfl) (by kernel_rfl) (fun _ _ _ h => h) (by rfl) (v := ?_) ?_ hS ?_
        rotate_left 1
        · (intro w hSw; (try dsimp only at hSw); go_simp; all_goals (with_reducible rfl))
        (try simp only [Act.put, List.setIfInBounds_toArray, List.set])
        refine takeH 17 43 rfl rfl (by kernel_rfl) (by kernel_rfl) (by kernel_rfl) (fun _ _ _ h => h) (by rfl) (v := ?_) ?_ hS ?_
        rotate_left 1
        · (intro w hSw; (try dsimp only at hSw); go_simp; all_goals (with_reducible rfl))
        (try simp only [Act.put, List.setIfInBounds_toArray, List.set])
        refine takeH 18 44 rfl rfl (by kernel_rfl) (by kernel_rfl) (by kernel_rfl) (fun _ _ _ h => h) (by rfl) (v := ?_) ?_ hS ?_
        rotate_left 1
        · (intro w hSw; (try dsimp only at hSw); go_simp; all_goals (with_reducible rfl))
        (try simp only [Act.put, List.setIfInBounds_toArray, List.set])
        refine takeH 19 45 rfl rfl (by kernel_rfl) (by kernel_rfl) (by kernel_rfl) (fun _ _ _ h => h) (by rfl) (v := ?_) ?_ hS ?_
        rotate_left 1
        · (intro w hSw; (try dsimp only at hSw); go_simp; all_goals (with_reducible rfl))
        (try simp only [Act.put, List.setIfInBounds_toArray, List.set])
        refine takeH 20 46 rfl rfl (by kernel_rfl) (by kernel_rfl) (by kernel_rfl) (fun _ _ _ h => h) (by rfl) (v := ?_) ?_ hS ?_
        rotate_left 1
        · (intro w hSw; (try dsimp only at hSw); go_simp; all_goals (with_reducible rfl))
        (try simp only [Act.put, List.setIfInBounds_toArray, List.set])
        refine takeH 21 47 rfl rfl (by kernel_rfl) (by kernel_rfl) (by kernel_rfl) (fun _ _ _ h => h) (by rfl) (v := ?_) ?_ hS ?_
        rotate_left 1
        · (intro w hSw; (try dsimp only at hSw); go_simp; all_goals (with_reducible rfl))
        (try simp only [Act.put, List.setIfInBounds_toArray, List.set])
        refine takeH 22 48 rfl rfl (by kernel_rfl) (by kernel_rfl) (by kernel_rfl) (fun _ _ _ h => h) (by rfl) (v := ?_) ?_ hS ?_
        rotate_left 1
        · (intro w hSw; (try dsimp only at hSw); go_simp; all_goals (with_reducible rfl))
        (try simp only [Act.put, List.setIfInBounds_toArray, List.set])
        refine takeH 23 49 rfl rfl (by kernel_rfl) (by kernel_rfl) (by kernel_rfl) (fun _ _ _ h => h) (by rfl) (v := ?_) ?_ hS ?_
        rotate_left 1
        · (intro w hSw; (try dsimp only at hSw); have hq1 := HC1.out _ hSw; have hq2 := HC2.out _ hSw; go_simp; all_goals (with_reducible rfl))
        (try simp only [Act.put, List.setIfInBounds_toArray, List.set])
        refine takeH 24 50 rfl rfl (by kernel_rfl) (by kernel_rfl) (by kernel_rfl) (fun _ _ _ h => h) (by rfl) (v := ?_) ?_ hS ?_
        rotate_left 1
        · (intro w hSw; (try dsimp only at hSw); go_simp; all_goals (with_reducible rfl))
        (try simp only [Act.put, List.setIfInBounds_toArray, List.set])
        refine takeH 25 51 rfl rfl (by kernel_rfl) (by kernel_rfl) (by kernel_rfl) (fun _ _ _ h => h) (by rfl) (v := ?_) ?_ hS ?_
        rotate_left 1
        · (intro w hSw; (try dsimp only at hSw); go_simp; all_goals (with_reducible rfl))
        (try simp only [Act.put, List.setIfInBounds_toArray, List.set])
        refine takeH 26 52 rfl rfl (by kernel_rfl) (by kernel_rfl) (by kernel_rfl) (fun _ _ _ h => h) (by rfl) (v := ?_) ?_ hS ?_
        rotate_left 1
        · (intro w hSw; (try dsimp only at hSw); have hq1 := HC1.out _ hSw; have hq2 := HC2.out _ hSw; go_simp; all_goals (with_reducible rfl))
        (try simp only [Act.put, List.setIfInBounds_toArray, List.set])
        refine takeH 27 53 rfl rfl (by kernel_rfl) (by kernel_rfl) (by kernel_rfl) (fun _ _ _ h => h) (by rfl) (v := ?_) ?_ hS ?_
        rotate_left 1
        · (intro w hSw; (try dsimp only at hSw); go_simp; all_goals (with_reducible rfl))
        (try simp only [Act.put, List.setIfInBounds_toArray, List.set])
        refine takeH 28 54 rfl rfl (by kernel_rfl) (by kernel_rfl) (by kernel_rfl) (fun _ _ _ h => h) (by rfl) (v := ?_) ?_ hS ?_
        rotate_left 1
        · (intro w hSw; (try dsimp only at hSw); go_simp; all_goals (with_reducible rfl))
        (try simp only [Act.put, List.setIfInBounds_toArray, List.set])
        refine takeH 29 55 rfl rfl (by kernel_rfl) (by kernel_rfl) (by kernel_rfl) (fun _ _ _ h => h) (by rfl) (v := ?_) ?_ hS ?_
        rotate_left 1
        · (intro w hSw; (try dsimp only at hSw); go_simp; all_goals (with_reducible rfl))
        (try simp only [Act.put, List.setIfInBounds_toArray, List.set])
        refine takeH 30 2 rfl rfl (by kernel_rfl) (by kernel_rfl) (by kernel_rfl) (fun _ _ _ h => h) (by rfl) (v := ?_) ?_ hS ?_
        rotate_left 1
        · (intro w hSw; (try dsimp only at hSw); go_simp; all_goals (with_reducible rfl))
        (try simp only [Act.put, List.setIfInBounds_toArray, List.set])
        refine wpAnyH_done (by kernel_rfl) ?_ _
        go_wp2_with fail
        go_ret
        exact ⟨ret_bool (by simp), bstep hbl4 hS⟩
end Go.Proofs.Ytommnhpihophbaa
