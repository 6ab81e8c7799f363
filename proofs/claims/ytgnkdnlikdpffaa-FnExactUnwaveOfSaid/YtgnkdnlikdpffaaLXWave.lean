/-
  The exact laws of WaveOf, UnwaveOf.
-/
import Derived.Test.YtgnkdnlikdpffaaWWave2
import Derived.Test.YtgnkdnlikdpffaaExact
namespace Go.Proofs.Ytgnkdnlikdpffaa
open Go.RowKit
set_option maxHeartbeats 3200000 in
theorem law_FnExactWaveOf (w : World) (a : Option Addr) (n c : Nat) (xs : List Int) (hR : n ≤ 1125899906842624 → Row w a n c xs) (hM : n ≤ 9223372036854775807) :
    Calls Try.prog 3 #[.slice a n c] w fun e w' => Says w w' e true := by
  by_cases hbig : 1048576 < n
  · clear hR
    go_enter Try.func3, Try.ntmps3
    go_wp2
    go_ret
    exact ⟨rfl, Below.refl _ _⟩
  have hrow := hR (by omega)
  clear hR
  obtain ⟨ys, hys⟩ : ∃ ys, ys = wvR xs := ⟨_, rfl⟩
  obtain ⟨m, hm⟩ : ∃ m, m = ys.length := ⟨_, rfl⟩
  have hm1 : m ≤ 1000 := by rw [hm, hys]; exact wvR_len xs
  have HS : Hid (∀ w a c, Row w a n c xs → Calls Try.prog 11 #[.slice a n c] w fun e w' => Fresh w w' e m ys) := by
    intro w a c h; rw [hm, hys]; exact sWaveOf_all w a n c xs h
  have HI : Hid (∀ w a c, Row w a n c xs → Calls Try.prog 13 #[.slice a n c] w fun e w' => Fresh w w' e m ys) := by
    intro w a c h; rw [hm, hys]; exact WaveOf_all w a n c xs h
  clear hm hys
  go_enter Try.func3, Try.ntmps3
  go_wp2_with fail
  refine (toIntS_any w a n c xs hrow (by omega)).mono ?_
  rintro e w1 ⟨a1, c1, rfl, own1, b1⟩
  go_wp2_with fail
  refine (HS.out w1 a1 c1 (own1.row (by omega))).mono ?_
  rintro e w2 ⟨a2, c2, rfl, own2, b2⟩
  have l2 := bstep b1 b2
  go_wp2_with fail
  refine (toIntS_any w2 a n c xs (hrow.below l2) (by omega)).mono ?_
  rintro e w3 ⟨a3, c3, rfl, own3, b3⟩
  have l3 := bstep l2 b3
  go_wp2_with fail
  refine (HI.out w3 a3 c3 (own3.row (by omega))).mono ?_
  rintro e w4 ⟨a4, c4, rfl, own4, b4⟩
  have l4 := bstep l3 b4
  have z4 := bstep b3 b4
  have r2 := own2.row (by omega)
  go_wp2_with fail
  refine (eqIntS_any_eq w4 a4 a2 m m c4 c2 _ _ (own4.row (by omega)) (r2.below z4) rfl).mono ?_
  rintro e w5 ⟨rfl, b5⟩
  have l5 := bstep l4 b5
  have z5 := bstep z4 b5
  go_wp2_with fail
  refine (toIntS_any w5 a n c xs (hrow.below l5) (by omega)).mono ?_
  rintro e w6 ⟨a6, c6, rfl, own6, b6⟩
  have l6 := bstep l5 b6
  have z6 := bstep z5 b6
  have own36 := ((own3.below b4).below b5).below b6
  go_wp2_with fail
  refine (eqIntS_any_eq w6 a3 a6 n n c3 c6 _ _ (own36.row (by omega)) (own6.row (by omega)) rfl).mono ?_
  rintro e w7 ⟨rfl, b7⟩
  have l7 := bstep l6 b7
  have z7 := bstep z6 b7
  have own37 := own36.below b7
  have own47 := ((own4.below b5).below b6).below b7
  clear b5 b6 b7 l3 l4 l5 l6 z4 z5 z6 own1 own2 own36 own6 own4
  go_wp2_with fail
  refine (markIntS_any w7 w2.heap.size a3 n c3 xs 1 own37 (by omega) (by omega) (by omega)).mono ?_
  rintro e w8 ⟨rfl, own38, g8⟩
  have l8 := below_app l7 g8 own37 l2.size l7.size
  have z8 := below_app z7 g8 own37 (Nat.le_refl _) z7.size
  have own48 := own47.after g8 own3 (Nat.le_refl _)
  clear own37 own47 l7 z7 g8
  go_wp2_with fail
  refine (eqIntS_any_eq w8 a4 a2 m m c4 c2 _ _ (own48.row (by omega)) (r2.below z8) rfl).mono ?_
  rintro e w9 ⟨rfl, b9⟩
  have l9 := bstep l8 b9
  have z9 := bstep z8 b9
  have own49 := own48.below b9
  clear l8 z8 own48 b9
  go_wp2_with fail
  refine (markIntS_any w9 w3.heap.size a4 m c4 ys 1 own49 (by omega) (by omega) (by omega)).mono ?_
  rintro e w10 ⟨rfl, own410, g10⟩
  have l10 := below_app l9 g10 own49 (Nat.le_trans l2.size b3.size) l9.size
  have z10 := below_app z9 g10 own49 b3.size z9.size
  clear own49 l9 z9 g10
  go_wp2_with fail
  refine (heldIntS_any w10 a4 m c4 1 (own410.row (by omega)) (by omega) (by omega) (by omega)).mono ?_
  rintro e w' ⟨rfl, rfl⟩
  go_wp2_with fail
  refine (toIntS_any w10 a n c xs (hrow.below l10) (by omega)).mono ?_
  rintro e w11 ⟨a11, c11, rfl, own11, b11⟩
  have l11 := bstep l10 b11
  have z11 := bstep z10 b11
  go_wp2_with fail
  refine (HI.out w11 a11 c11 (own11.row (by omega))).mono ?_
  rintro e w12 ⟨a12, c12, rfl, own12, b12⟩
  have l12 := bstep l11 b12
  have z12 := bstep z11 b12
  have own412 := (own410.below b11).below b12
  go_wp2_with fail
  refine (eqIntS_any_eq w12 a12 a2 m m c12 c2 _ _ (own12.row (by omega)) (r2.below z12) rfl).mono ?_
  rintro e w13 ⟨rfl, b13⟩
  have l13 := bstep l12 b13
  go_wp2_with fail
  refine (heldIntS_any w13 a4 m c4 1 ((own412.below b13).row (by omega)) (by omega) (by omega) (by omega)).mono ?_
  rintro e w' ⟨rfl, rfl⟩
  go_wp2_with fail
  go_ret
  exact ⟨ret_bool (by simp), l13⟩
set_option maxHeartbeats 3200000 in
theorem law_FnExactUnwaveOf (w : World) (a : Option Addr) (n c : Nat) (xs : List Int) (hR : n ≤ 1125899906842624 → Row w a n c xs) (hM : n ≤ 9223372036854775807) :
    Calls Try.prog 6 #[.slice a n c] w fun e w' => Says w w' e true := by
  by_cases hbig : 1048576 < n
  · clear hR
    go_enter Try.func6, Try.ntmps6
    go_wp2
    go_ret
    exact ⟨rfl, Below.refl _ _⟩
  have hrow := hR (by omega)
  clear hR
  obtain ⟨ys, hys⟩ : ∃ ys, ys = uwR xs := ⟨_, rfl⟩
  obtain ⟨m, hm⟩ : ∃ m, m = ys.length := ⟨_, rfl⟩
  have hm1 : m ≤ 1000 := by rw [hm, hys]; exact uwR_len xs
  have HS : Hid (∀ w a c, Row w a n c xs → Calls Try.prog 23 #[.slice a n c] w fun e w' => Fresh w w' e m ys) := by
    intro w a c h; rw [hm, hys]; exact sUnwaveOf_all w a n c xs h
  have HI : Hid (∀ w a c, Row w a n c xs → Calls Try.prog 24 #[.slice a n c] w fun e w' => Fresh w w' e m ys) := by
    intro w a c h; rw [hm, hys]; exact UnwaveOf_all w a n c xs h
  clear hm hys
  go_enter Try.func6, Try.ntmps6
  go_wp2_with fail
  refine (toIntS_any w a n c xs hrow (by omega)).mono ?_
  rintro e w1 ⟨a1, c1, rfl, own1, b1⟩
  go_wp2_with fail
  refine (HS.out w1 a1 c1 (own1.row (by omega))).mono ?_
  rintro e w2 ⟨a2, c2, rfl, own2, b2⟩
  have l2 := bstep b1 b2
  go_wp2_with fail
  refine (toIntS_any w2 a n c xs (hrow.below l2) (by omega)).mono ?_
  rintro e w3 ⟨a3, c3, rfl, own3, b3⟩
  have l3 := bstep l2 b3
  go_wp2_with fail
  refine (HI.out w3 a3 c3 (own3.row (by omega))).mono ?_
  rintro e w4 ⟨a4, c4, rfl, own4, b4⟩
  have l4 := bstep l3 b4
  have z4 := bstep b3 b4
  have r2 := own2.row (by omega)
  go_wp2_with fail
  refine (eqIntS_any_eq w4 a4 a2 m m c4 c2 _ _ (own4.row (by omega)) (r2.below z4) rfl).mono ?_
  rintro e w5 ⟨rfl, b5⟩
  have l5 := bstep l4 b5
  have z5 := bstep z4 b5
  go_wp2_with fail
  refine (toIntS_any w5 a n c xs (hrow.below l5) (by omega)).mono ?_
  rintro e w6 ⟨a6, c6, rfl, own6, b6⟩
  have l6 := bstep l5 b6
  have z6 := bstep z5 b6
  have own36 := ((own3.below b4).below b5).below b6
  go_wp2_with fail
  refine (eqIntS_any_eq w6 a3 a6 n n c3 c6 _ _ (own36.row (by omega)) (own6.row (by omega)) rfl).mono ?_
  rintro e w7 ⟨rfl, b7⟩
  have l7 := bstep l6 b7
  have z7 := bstep z6 b7
  have own37 := own36.below b7
  have own47 := ((own4.below b5).below b6).below b7
  clear b5 b6 b7 l3 l4 l5 l6 z4 z5 z6 own1 own2 own36 own6 own4
  go_wp2_with fail
  refine (markIntS_any w7 w2.heap.size a3 n c3 xs 1 own37 (by omega) (by omega) (by omega)).mono ?_
  rintro e w8 ⟨rfl, own38, g8⟩
  have l8 := below_app l7 g8 own37 l2.size l7.size
  have z8 := below_app z7 g8 own37 (Nat.le_refl _) z7.size
  have own48 := own47.after g8 own3 (Nat.le_refl _)
  clear own37 own47 l7 z7 g8
  go_wp2_with fail
  refine (eqIntS_any_eq w8 a4 a2 m m c4 c2 _ _ (own48.row (by omega)) (r2.below z8) rfl).mono ?_
  rintro e w9 ⟨rfl, b9⟩
  have l9 := bstep l8 b9
  have z9 := bstep z8 b9
  have own49 := own48.below b9
  clear l8 z8 own48 b9
  go_wp2_with fail
  refine (markIntS_any w9 w3.heap.size a4 m c4 ys 1 own49 (by omega) (by omega) (by omega)).mono ?_
  rintro e w10 ⟨rfl, own410, g10⟩
  have l10 := below_app l9 g10 own49 (Nat.le_trans l2.size b3.size) l9.size
  have z10 := below_app z9 g10 own49 b3.size z9.size
  clear own49 l9 z9 g10
  go_wp2_with fail
  refine (heldIntS_any w10 a4 m c4 1 (own410.row (by omega)) (by omega) (by omega) (by omega)).mono ?_
  rintro e w' ⟨rfl, rfl⟩
  go_wp2_with fail
  refine (toIntS_any w10 a n c xs (hrow.below l10) (by omega)).mono ?_
  rintro e w11 ⟨a11, c11, rfl, own11, b11⟩
  have l11 := bstep l10 b11
  have z11 := bstep z10 b11
  go_wp2_with fail
  refine (HI.out w11 a11 c11 (own11.row (by omega))).mono ?_
  rintro e w12 ⟨a12, c12, rfl, own12, b12⟩
  have l12 := bstep l11 b12
  have z12 := bstep z11 b12
  have own412 := (own410.below b11).below b12
  go_wp2_with fail
  refine (eqIntS_any_eq w12 a12 a2 m m c12 c2 _ _ (own12.row (by omega)) (r2.below z12) rfl).mono ?_
  rintro e w13 ⟨rfl, b13⟩
  have l13 := bstep l12 b13
  go_wp2_with fail
  refine (heldIntS_any w13 a4 m c4 1 ((own412.below b13).row (by omega)) (by omega) (by omega) (by omega)).mono ?_
  rintro e w' ⟨rfl, rfl⟩
  go_wp2_with fail
  go_ret
  exact ⟨ret_bool (by simp), l13⟩
end Go.Proofs.Ytgnkdnlikdpffaa
