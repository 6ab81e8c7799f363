/-
  The law of SumsOf for drawn rows: the walk of laws.FnSumsOf answers true, given that the codes lie in memory.
-/
import Derived.Test.YtommnhpihophbaaC1
import Derived.Test.YtommnhpihophbaaDraw2
namespace Go.Proofs.Ytommnhpihophbaa
open Go.RowKit

/-- The steps of the sums are the row. -/
theorem steps_sums (xs : List Int) (n : Nat) (h : xs.length = n) : stepsL (sumsL xs n) n = xs := by
  apply el_ext
  · rw [stepsL, tab_length, h]
  · intro i hi
    rw [stepsL, tab_length] at hi
    rw [stepsL, el_tab hi, stepAt]
    cases i with
    | zero => simp [sumsL, el_tab hi, sm]
    | succ k =>
      rw [if_neg (by omega), sumsL, el_tab hi, Nat.add_sub_cancel, el_tab (by omega)]
      simp only [sm]; omega

set_option maxHeartbeats 1000000 in
theorem law_SumsOf (w : World) (a : Option Addr) (n c : Nat) (h : Bts w a n w.heap.size) (hnc : n ≤ c) :
    Calls Try.prog 6 #[.slice a n c] w fun e w' => Says w w' e true := by
  by_cases hbig : 1048576 < n
  · go_enter Try.func6, Try.ntmps6
    go_wp2
    go_ret
    exact ⟨rfl, Below.refl _ _⟩
  · go_enter Try.func6, Try.ntmps6
    go_wp2_with fail
    refine (DrawSumsOf_any w a n c h hnc (by omega)).mono ?_
    rintro e w1 ⟨a1, m, c1, xs, rfl, hm, hown, hbl⟩
    have hrow := hown.row (by omega)
    cases hv : valid xs
    · go_wp2_with fail
      refine (SumsOf_no w1 a1 m c1 xs hrow hv).mono ?_
      rintro e w2 ⟨rfl, rfl⟩
      go_wp2_with fail
      refine (sSumsOf_no w1 a1 m c1 xs hrow hv).mono ?_
      rintro e w2 ⟨rfl, rfl⟩
      go_wp2_with fail
      refine (equalInts_any w1 none none 0 0 0 0 [] [] (row_nil _) (row_nil _)).mono ?_
      rintro e w2 ⟨rfl, hb2⟩
      have hs := same_refl []
      have hb2s := hbl.trans (hb2.mono hbl.size)
      go_wp2_with fail
      refine (sSumsOf_no _ a1 m c1 xs (hrow.below hb2) hv).mono ?_
      rintro e w3 ⟨rfl, rfl⟩
      go_wp2_with fail
      refine (equalInts_any _ none none 0 0 0 0 [] [] (row_nil _) (row_nil _)).mono ?_
      rintro e w4 ⟨rfl, hb4⟩
      go_wp2_with fail
      go_ret
      exact ⟨ret_bool hs, (hb2s.trans (hb4.mono hb2s.size))⟩
    · have hs := same_refl (sumsL xs m)
      have hlen : Hid (xs.length = m) := hrow.len
      have hm16 : m ≤ 16 := by have := valid_len hv; rw [hlen.out] at this; exact this
      go_wp2_with fail
      refine (SumsOf_yes w1 a1 m c1 xs hrow hv).mono ?_
      rintro e w2 ⟨a2, c2, rfl, hown2, hb2⟩
      go_wp2_with fail
      refine (sSumsOf_yes w2 a1 m c1 xs (hrow.below hb2) hv).mono ?_
      rintro e w3 ⟨a3, c3, rfl, hown3, hb3⟩
      have hr2 := (hown2.below hb3).row (by omega)
      go_wp2_with fail
      refine (equalInts_any w3 a2 a3 m m c2 c3 _ _ hr2 (hown3.row (by omega))).mono ?_
      rintro e w4 ⟨rfl, hb4⟩
      have hbl4 := ((hbl.trans (hb2.mono hbl.size)).trans (hb3.mono (hbl.trans (hb2.mono hbl.size)).size))
      have hbl5 := hbl4.trans (hb4.mono hbl4.size)
      by_cases hm0 : m = 0
      · subst hm0
        go_wp2_with fail
        refine (sSumsOf_yes w4 a1 0 c1 xs (((hrow.below hb2).below hb3).below hb4) hv).mono ?_
        rintro e w5 ⟨a5, c5, rfl, hown5, hb5⟩
        go_wp2_with fail
        refine (equalInts_any w5 a2 a5 0 0 c2 c5 _ _ ((hr2.below hb4).below hb5) (hown5.row (by omega))).mono ?_
        rintro e w6 ⟨rfl, hb6⟩
        go_wp2_with fail
        go_ret
        have hbl6 := hbl5.trans (hb5.mono hbl5.size)
        exact ⟨ret_bool hs, hbl6.trans (hb6.mono hbl6.size)⟩
      · obtain ⟨j, rfl⟩ : ∃ j, m = j + 1 := ⟨m - 1, by omega⟩
        have hmb : ((j : Int) + 1 == 0) = false := by simp; omega
        have hr4 := hr2.below hb4
        have hrow4 := ((hrow.below hb2).below hb3).below hb4
        have hbd : Hid (∀ i, i < j + 1 → -1000 ≤ el xs i ∧ el xs i ≤ 1000) := fun i hi => valid_bd hv (by rw [hlen.out]; exact hi)
        obtain ⟨b2, off2, rfl, hbb2, hcell2⟩ := hr4.at (by omega)
        have HC : Hid (∀ w', Below w4.heap.size w4 w' → w'.cell? ⟨b2, off2 + j, none⟩ = some (.int .i64 (sm (el xs) (j + 1)))) := fun w' hb => by
          have := hcell2 w' hb j (by omega)
          rw [sumsL, el_tab (by omega)] at this; exact this
        have hc0 := HC.out w4 (Below.refl _ _)
        have hss := @sm_bd (el xs) 1000 (j + 1) hbd.out
        have i5 : IntKind.i64.wrap (j : Int) = j := IntWalk.i64_in _ (by omega)
        have i1 : (0 : Int) ≤ (j : Int) := by omega
        have i2 : (j : Int) < (j : Int) + 1 := by omega
        clear hcell2 hbl hb2 hb3 hb4 hown hown2 hown3 hrow hr2
        cases hv2 : valid (sumsL xs (j + 1))
        · go_wp2_with fail
          go_quiet ((first
              | (go_at_call 22; exact quiet_tells (ValidRow_is _ _ _ _ _ _ (hr4.heap rfl) hv2))
              | (go_at_call 26; exact quiet_same (total_any _ _ _ _ xs 1000 (hrow4.heap rfl) (by omega) (by omega) hbd.out))))
          clear i5
          go_wp2_with fail
          go_ret
          exact ⟨ret_bool (by simp), bdrewN hbl5 _⟩
        · go_wp2_with fail
          go_region_held3 (fun w' => w'.cell? ⟨b2, off2 + j, none⟩ = some (.int .i64 (sm (el xs) (j + 1)))) (first | go_keep | exact HC.out _ hb5 | exact HC.out _ hb6)
            (first
              | (go_at_call 22; ((with_reducible refine (ValidRow_is _ _ _ _ _ _ (by exact hr4.heap rfl) hv2).mono ?_); rintro e w' ⟨rfl, rfl⟩))
              | (go_at_call 20; ((with_reducible refine (StepsOf_yes _ _ _ _ _ (by exact hr4.heap rfl) hv2).mono ?_); rintro e w5 ⟨a5, c5, rfl, hown5, hb5'⟩; have hb5 : Below w4.heap.size w4 w5 := bheq hb5' rfl rfl rfl rfl))
              | (go_at_call 16; ((with_reducible refine (equalInts_any_eq _ _ _ _ _ _ _ _ _ (by exact (hown5.row (by omega)).heap rfl) (by exact (hrow4.below hb5).heap rfl) (steps_sums xs (j + 1) hlen.out)).mono ?_); rintro e w6 ⟨rfl, hb6'⟩; have hb6 := bstep (w2 := w6) hb5 (bheq hb6' rfl rfl rfl rfl)))
              | (go_at_call 26; ((with_reducible refine (total_any _ _ _ _ xs 1000 (by exact (hrow4.below hb6).heap rfl) (by omega) (by omega) hbd.out).mono ?_); rintro e w' ⟨rfl, rfl⟩)))
          clear i5
          go_wp2_with fail
          go_ret
          exact ⟨ret_bool (by simp), bstep hbl5 hb6⟩
end Go.Proofs.Ytommnhpihophbaa
