/-
  The law of StepsOf for drawn rows: the walk of laws.FnStepsOf answers true, given that the codes lie in memory.
-/
import Derived.Test.YtommnhpihophbaaC1
import Derived.Test.YtommnhpihophbaaDraw2
namespace Go.Proofs.Ytommnhpihophbaa
open Go.RowKit

/-- The sums of the steps are the row. -/
theorem sums_steps (xs : List Int) (n : Nat) (h : xs.length = n) : sumsL (stepsL xs n) n = xs := by
  have key : ∀ k, k < n → sm (el (stepsL xs n)) (k + 1) = el xs k := by
    intro k
    induction k with
    | zero => intro hk; rw [sm, sm, stepsL, el_tab hk]; simp [stepAt]
    | succ j ih =>
      intro hk
      rw [sm, ih (by omega), stepsL, el_tab hk, stepAt, if_neg (by omega), Nat.add_sub_cancel]; omega
  apply el_ext
  · rw [sumsL, tab_length, h]
  · intro i hi
    rw [sumsL, tab_length] at hi
    rw [sumsL, el_tab hi]
    exact key i hi

set_option maxHeartbeats 1000000 in
theorem law_StepsOf (w : World) (a : Option Addr) (n c : Nat) (h : Bts w a n w.heap.size) (hnc : n ≤ c) :
    Calls Try.prog 4 #[.slice a n c] w fun e w' => Says w w' e true := by
  by_cases hbig : 1048576 < n
  · go_enter Try.func4, Try.ntmps4
    go_wp2
    go_ret
    exact ⟨rfl, Below.refl _ _⟩
  go_enter Try.func4, Try.ntmps4
  go_wp2_with fail
  refine (DrawStepsOf_any w a n c h hnc (by omega)).mono ?_
  rintro e w1 ⟨a1, m, c1, xs, rfl, hm, hown, hbl⟩
  have hrow := hown.row (by omega)
  have hlen : Hid (xs.length = m) := hrow.len
  cases hv : valid xs
  · go_wp2_with fail
    refine (StepsOf_no w1 a1 m c1 xs hrow hv).mono ?_
    rintro e w2 ⟨rfl, rfl⟩
    go_wp2_with fail
    refine (sStepsOf_no _ a1 m c1 xs hrow hv).mono ?_
    rintro e w2 ⟨rfl, rfl⟩
    go_wp2_with fail
    refine (equalInts_any_eq _ none none 0 0 0 0 [] [] (row_nil _) (row_nil _) rfl).mono ?_
    rintro e w2 ⟨rfl, hb2⟩
    have hbl2 := bstep hbl hb2
    have hrow2 := hrow.below hb2
    go_wp2_with fail
    refine (ValidRow_is _ a1 m c1 xs false hrow2 hv).mono ?_
    rintro e w' ⟨rfl, rfl⟩
    go_wp2_with fail
    refine (sStepsOf_no _ a1 m c1 xs hrow2 hv).mono ?_
    rintro e w3 ⟨rfl, rfl⟩
    go_wp2_with fail
    refine (equalInts_any_eq _ none none 0 0 0 0 [] [] (row_nil _) (row_nil _) rfl).mono ?_
    rintro e w4 ⟨rfl, hb4⟩
    go_wp2_with fail
    go_ret
    exact ⟨ret_bool rfl, bstep hbl2 hb4⟩
  · have hm16 : m ≤ 16 := by have := valid_len hv; rw [hlen.out] at this; exact this
    go_wp2_with fail
    refine (StepsOf_yes w1 a1 m c1 xs hrow hv).mono ?_
    rintro e w2 ⟨a2, c2, rfl, hown2, hb2⟩
    have hbl2 := bstep hbl hb2
    have hrow2 := hrow.below hb2
    go_wp2_with fail
    refine (sStepsOf_yes w2 a1 m c1 xs hrow2 hv).mono ?_
    rintro e w3 ⟨a3, c3, rfl, hown3, hb3⟩
    have hbl3 := bstep hbl2 hb3
    have hrow3 := hrow2.below hb3
    have hr3 := (hown2.below hb3).row (by omega)
    go_wp2_with fail
    refine (equalInts_any_eq w3 a2 a3 m m c2 c3 _ _ hr3 (hown3.row (by omega)) rfl).mono ?_
    rintro e w4 ⟨rfl, hb4⟩
    have hbl4 := bstep hbl3 hb4
    have hrow4 := hrow3.below hb4
    have hr4 := hr3.below hb4
    clear hown hown2 hown3 hb2 hb3 hb4 hrow hrow2 hrow3 hr3 hbl hbl2 hbl3
    go_wp2_with fail
    refine (ValidRow_is _ a1 m c1 xs true hrow4 hv).mono ?_
    rintro e w' ⟨rfl, rfl⟩
    cases hv2 : valid (stepsL xs m)
    · go_wp2_with fail
      refine (ValidRow_is _ a2 m c2 _ false hr4 hv2).mono ?_
      rintro e w' ⟨rfl, rfl⟩
      go_wp2_with fail
      go_ret
      exact ⟨ret_bool (by simp), hbl4⟩
    · go_wp2_with fail
      refine (ValidRow_is _ a2 m c2 _ true hr4 hv2).mono ?_
      rintro e w' ⟨rfl, rfl⟩
      go_wp2_with fail
      refine (SumsOf_yes _ a2 m c2 _ hr4 hv2).mono ?_
      rintro e w5 ⟨a5, c5, rfl, hown5, hb5⟩
      go_wp2_with fail
      refine (equalInts_any_eq _ _ _ _ _ _ _ _ _ (hown5.row (by omega)) (hrow4.below hb5) (sums_steps xs m hlen.out)).mono ?_
      rintro e w6 ⟨rfl, hb6⟩
      go_wp2_with fail
      go_ret
      exact ⟨ret_bool (by simp), bstep (bstep hbl4 hb5) hb6⟩
end Go.Proofs.Ytommnhpihophbaa
