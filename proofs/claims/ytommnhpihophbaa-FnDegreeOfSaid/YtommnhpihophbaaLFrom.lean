/-
  The law of FromEdge for drawn rows: the walk of laws.FnFromEdge answers true, given that the codes lie in memory.
-/
import Derived.Test.YtommnhpihophbaaLEdge
namespace Go.Proofs.Ytommnhpihophbaa
open Go.RowKit

/-- The first k numbers of a row. -/
theorem Row.first {w : World} {a : Option Addr} {n c : Nat} {xs : List Int} (h : Row w a n c xs) (k : Nat) (hk : k ≤ n) : Row w a k c (tab (el xs) k) :=
  ⟨tab_length _ _, by have := h.small; omega, by have := h.cap; omega, h.nil, fun i hi => by
    obtain ⟨b, off, ha, hlt, hc⟩ := h.cell i (by omega)
    exact ⟨b, off, ha, hlt, fun j hj => by rw [el_tab hj]; exact hc j (by omega)⟩⟩
theorem valid_first {xs : List Int} (h : valid xs = true) (k : Nat) (hk : k ≤ xs.length) : valid (tab (el xs) k) = true := by
  refine valid_iff.2 ⟨?_, fun i hi => ?_⟩
  · rw [tab_length]; have := valid_len h; omega
  · rw [tab_length] at hi; rw [el_tab hi]; exact valid_bd h (by omega)
theorem from_first (xs : List Int) (n k : Nat) (hk : k ≤ n) : fromL (tab (el xs) k) k = tab (el (fromL xs n)) k :=
  tab_congr fun j hj => by
    rw [fromL, el_tab (by omega), fromAt, fromAt]
    exact sm_congr fun i hi => by rw [el_tab (by omega)]

set_option maxHeartbeats 1600000 in
theorem law_FromEdge (w : World) (a : Option Addr) (n c : Nat) (h : Bts w a n w.heap.size) (hnc : n ≤ c) :
    Calls Try.prog 9 #[.slice a n c] w fun e w' => Says w w' e true := by
  by_cases hbig : 1048576 < n
  · go_enter Try.func9, Try.ntmps9
    go_wp2
    go_ret
    exact ⟨rfl, Below.refl _ _⟩
  go_enter Try.func9, Try.ntmps9
  go_wp2_with fail
  refine (DrawFromEdge_any w a n c h hnc (by omega)).mono ?_
  rintro e w1 ⟨a1, m, c1, xs, rfl, hm, hown, hbl⟩
  have hrow := hown.row (by omega)
  have hlen : Hid (xs.length = m) := hrow.len
  cases hv : valid xs
  · go_wp2_with fail
    refine (FromEdge_no w1 a1 m c1 xs hrow hv).mono ?_
    rintro e w2 ⟨rfl, rfl⟩
    go_wp2_with fail
    refine (sFromEdge_no _ a1 m c1 xs hrow hv).mono ?_
    rintro e w2 ⟨rfl, rfl⟩
    go_wp2_with fail
    refine (equalInts_any_eq _ none none 0 0 0 0 [] [] (row_nil _) (row_nil _) rfl).mono ?_
    rintro e w2 ⟨rfl, hb2⟩
    have hbl2 := bstep hbl hb2
    have hrow2 := hrow.below hb2
    go_wp2_with fail
    refine (ValidRow_is _ a1 m c1 xs false hrow2 hv).mono ?_
    rintro e w' ⟨rfl, rfl⟩
    go_wp2_with fail
    refine (sFromEdge_no _ a1 m c1 xs hrow2 hv).mono ?_
    rintro e w3 ⟨rfl, rfl⟩
    go_wp2_with fail
    refine (equalInts_any_eq _ none none 0 0 0 0 [] [] (row_nil _) (row_nil _) rfl).mono ?_
    rintro e w4 ⟨rfl, hb4⟩
    go_wp2_with fail
    go_ret
    exact ⟨ret_bool rfl, bstep hbl2 hb4⟩
  · have hm16 : m ≤ 16 := by have := valid_len hv; rw [hlen.out] at this; exact this
    go_wp2_with fail
    refine (FromEdge_yes w1 a1 m c1 xs hrow hv).mono ?_
    rintro e w2 ⟨a2, c2, rfl, hown2, hb2⟩
    have hbl2 := bstep hbl hb2
    have hrow2 := hrow.below hb2
    go_wp2_with fail
    refine (sFromEdge_yes w2 a1 m c1 xs hrow2 hv).mono ?_
    rintro e w3 ⟨a3, c3, rfl, hown3, hb3⟩
    have hbl3 := bstep hbl2 hb3
    have hrow3 := hrow2.below hb3
    have hr3 := (hown2.below hb3).row (by omega)
    go_wp2_with fail
    refine (equalInts_any_eq w3 a2 a3 m m c2 c3 _ _ hr3 (hown3.row (by omega)) rfl).mono ?_
    rintro e w4 ⟨rfl, hb4⟩
    have hbl4 := bstep hbl3 hb4
    have hrow4 := hrow3.below hb4
    have hr4 := hr3.below hb4
    clear hown hown2 hown3 hb2 hb3 hb4 hrow hrow2 hrow3 hr3 hbl hbl2 hbl3
    have hc1 := hrow4.cap
    have hc2 := hr4.cap
    go_wp2_with fail
    refine (ValidRow_is _ a1 m c1 xs true hrow4 hv).mono ?_
    rintro e w' ⟨rfl, rfl⟩
    have HF : Hid (fromL (tab (el xs) (m - 1)) (m - 1) = tab (el (fromL xs m)) (m - 1)) := from_first xs m (m - 1) (by omega)
    have hrf := hrow4.first (m - 1) (by omega)
    have hof := hr4.first (m - 1) (by omega)
    have hvf := valid_first hv (m - 1) (by have := hlen.out; omega)
    obtain hmx | hmx : m = 0 ∨ 0 < m := by omega
    · subst hmx
      go_wp2_with fail
      refine (FromEdge_yes w4 a1 0 c1 _ hrf hvf).mono ?_
      rintro e w5 ⟨a5, c5, rfl, hown5, hb5⟩
      have hbl5 := bstep hbl4 hb5
      have hr45 := hr4.below hb5
      have hof5 := hof.below hb5
      have hrow5 := hrow4.below hb5
      have hr5 := hown5.row (by omega)
      cases hv2 : valid (fromL xs (0))
      · go_wp2_with fail
        refine (ValidRow_is _ a2 (0) c2 _ false hr45 hv2).mono ?_
        rintro e w' ⟨rfl, rfl⟩
        go_wp2_with fail
        refine (equalInts_any_eq _ _ _ _ _ _ _ _ _ hr5 hof5 HF.out).mono ?_
        rintro e w6 ⟨rfl, hb6⟩
        go_wp2_with fail
        go_ret
        exact ⟨ret_bool (by simp), bstep hbl5 hb6⟩
      · go_wp2_with fail
        refine (ValidRow_is _ a2 (0) c2 _ true hr45 hv2).mono ?_
        rintro e w' ⟨rfl, rfl⟩
        go_wp2_with fail
        refine (EdgeOf_yes _ a2 (0) c2 _ hr45 hv2).mono ?_
        rintro e w6 ⟨a6, c6, rfl, hown6, hb6⟩
        have hbl6 := bstep hbl5 hb6
        go_wp2_with fail
        refine (equalInts_any_eq _ _ _ _ _ _ _ _ _ (hown6.row (by omega)) (hrow5.below hb6) (edge_from xs (0) hlen.out hm16)).mono ?_
        rintro e w7 ⟨rfl, hb7⟩
        have hbl7 := bstep hbl6 hb7
        go_wp2_with fail
        refine (equalInts_any_eq _ _ _ _ _ _ _ _ _ ((hr5.below hb6).below hb7) ((hof5.below hb6).below hb7) HF.out).mono ?_
        rintro e w8 ⟨rfl, hb8⟩
        go_wp2_with fail
        go_ret
        exact ⟨ret_bool (by simp), bstep hbl7 hb8⟩
    · obtain ⟨j, rfl⟩ : ∃ j, m = j + 1 := ⟨m - 1, by omega⟩
      go_wp2_with fail
      refine (FromEdge_yes w4 a1 j c1 _ hrf hvf).mono ?_
      rintro e w5 ⟨a5, c5, rfl, hown5, hb5⟩
      have hbl5 := bstep hbl4 hb5
      have hr45 := hr4.below hb5
      have hof5 := hof.below hb5
      have hrow5 := hrow4.below hb5
      have hr5 := hown5.row (by omega)
      cases hv2 : valid (fromL xs (j + 1))
      · go_wp2_with fail
        refine (ValidRow_is _ a2 (j + 1) c2 _ false hr45 hv2).mono ?_
        rintro e w' ⟨rfl, rfl⟩
        go_wp2_with fail
        refine (equalInts_any_eq _ _ _ _ _ _ _ _ _ hr5 hof5 HF.out).mono ?_
        rintro e w6 ⟨rfl, hb6⟩
        go_wp2_with fail
        go_ret
        exact ⟨ret_bool (by simp), bstep hbl5 hb6⟩
      · go_wp2_with fail
        refine (ValidRow_is _ a2 (j + 1) c2 _ true hr45 hv2).mono ?_
        rintro e w' ⟨rfl, rfl⟩
        go_wp2_with fail
        refine (EdgeOf_yes _ a2 (j + 1) c2 _ hr45 hv2).mono ?_
        rintro e w6 ⟨a6, c6, rfl, hown6, hb6⟩
        have hbl6 := bstep hbl5 hb6
        go_wp2_with fail
        refine (equalInts_any_eq _ _ _ _ _ _ _ _ _ (hown6.row (by omega)) (hrow5.below hb6) (edge_from xs (j + 1) hlen.out hm16)).mono ?_
        rintro e w7 ⟨rfl, hb7⟩
        have hbl7 := bstep hbl6 hb7
        go_wp2_with fail
        refine (equalInts_any_eq _ _ _ _ _ _ _ _ _ ((hr5.below hb6).below hb7) ((hof5.below hb6).below hb7) HF.out).mono ?_
        rintro e w8 ⟨rfl, hb8⟩
        go_wp2_with fail
        go_ret
        exact ⟨ret_bool (by simp), bstep hbl7 hb8⟩
end Go.Proofs.Ytommnhpihophbaa
