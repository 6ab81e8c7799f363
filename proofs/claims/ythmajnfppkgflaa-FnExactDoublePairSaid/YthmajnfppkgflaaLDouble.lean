/-
  The law of DoublePair and its exact law.
-/
import Derived.Test.YthmajnfppkgflaaLPair
namespace Go.Proofs.Ythmajnfppkgflaa
open Go.RowKit

theorem OwnC.mono {w : World} {B B2 g n : Nat} {xs : List Int} (h : OwnC w B g n xs) (hB : B2 ≤ B) : OwnC w B2 g n xs := ⟨h.1, Nat.le_trans hB h.2.1, h.2.2⟩
set_option maxHeartbeats 3200000 in
theorem law_DoublePair (w : World) (a : Option Addr) (n c : Nat) (h : Bts w a n w.heap.size) (hnc : n ≤ c) :
    Calls Try.prog 7 #[.slice a n c] w fun e w' => Says w w' e true := by
  by_cases hbig : 1048576 < n
  · go_enter Try.func7, Try.ntmps7
    go_wp2
    go_ret
    exact ⟨rfl, Below.refl _ _⟩
  go_enter Try.func7, Try.ntmps7
  go_wp2_with fail
  refine (DrawDoublePair_any w a n c h hnc (by omega)).mono ?_
  rintro e w1 ⟨a1, d1, m, c1, m2, f1, xs, ys, rfl, hm, hm2, hown, hown2, hbl⟩
  have rx := hown.row (show m ≤ 1125899906842624 by omega)
  have ry := hown2.row (show m2 ≤ 1125899906842624 by omega)
  have hlen : Hid (xs.length = m) := rx.len
  have hlen2 : Hid (ys.length = m2) := ry.len
  clear hown hown2
  cases hok : dpOk xs ys
  · have hni := DoublePair_no w1 a1 d1 m c1 m2 f1 xs ys rx ry hok
    unfold nil3 at hni
    have HS : Hid (∀ w, Row w a1 m c1 xs → Row w d1 m2 f1 ys → Calls Try.prog 19 #[.slice a1 m c1, .slice d1 m2 f1] w fun e w' => e = .returned (.tuple #[.slice none 0 0, .slice none 0 0, .bool false]) ∧ Below w.heap.size w w') := by
      intro w h h2
      exact sDoublePair_no w a1 d1 m c1 m2 f1 xs ys h h2 hok
    clear hok
    go_wp2_with fail
    refine hni.mono ?_
    rintro e w2 ⟨rfl, b2⟩
    clear hni
    go_wp2_with fail
    refine (HS.out w2 (rx.below b2) (ry.below b2)).mono ?_
    rintro e w3 ⟨rfl, b3⟩
    have l3 := bstep (bstep hbl b2) b3
    go_wp2_with fail
    refine (equalInts_any_eq w3 none none 0 0 0 0 [] [] (row_nil _) (row_nil _) rfl).mono ?_
    rintro e w4 ⟨rfl, b4⟩
    go_wp2_with fail
    refine (equalInts_any_eq w4 none none 0 0 0 0 [] [] (row_nil _) (row_nil _) rfl).mono ?_
    rintro e w5 ⟨rfl, b5⟩
    go_wp2_with fail
    refine (equalInts_any_eq w5 none none 0 0 0 0 [] [] (row_nil _) (row_nil _) rfl).mono ?_
    rintro e w6 ⟨rfl, b6⟩
    go_wp2_with fail
    refine (equalInts_any_eq w6 none none 0 0 0 0 [] [] (row_nil _) (row_nil _) rfl).mono ?_
    rintro e w7 ⟨rfl, b7⟩
    go_wp2_with fail
    go_ret
    exact ⟨ret_bool (by simp), bstep (bstep (bstep (bstep l3 b4) b5) b6) b7⟩
  · obtain ⟨hpp, h16⟩ := dpOk_iff.1 hok
    obtain ⟨hmm, hm0, _⟩ := pair_facts hpp hlen.out hlen2.out
    have hm8 : m ≤ 8 := by have := hlen.out; omega
    subst hmm
    have HDP := Lib.hid (dp_pair hok hlen.out)
    have hyes := DoublePair_yes w1 a1 d1 m c1 f1 xs ys rx ry hok
    have HS : Hid (∀ w, Row w a1 m c1 xs → Row w d1 m f1 ys → Calls Try.prog 19 #[.slice a1 m c1, .slice d1 m f1] w fun e w' => TwoO w w' e (m + m) (dpL 1 xs ys m) (dpL (-1) xs ys m)) := fun w h h2 => sDoublePair_yes w a1 d1 m c1 f1 xs ys h h2 hok
    obtain ⟨U, hU⟩ : ∃ U, U = dpL 1 xs ys m := ⟨_, rfl⟩
    obtain ⟨V, hV⟩ : ∃ V, V = dpL (-1) xs ys m := ⟨_, rfl⟩
    rw [← hU, ← hV] at hyes HS HDP
    clear hpp h16 hok hU hV
    go_wp2_with fail
    refine hyes.mono ?_
    rintro e w2 ⟨g1, g2, rfl, C1, C2, hg12, b2⟩
    clear hyes
    go_wp2_with fail
    refine (HS.out w2 (rx.below b2) (ry.below b2)).mono ?_
    rintro e w3 ⟨a3, b3a, c3, d3, rfl, o1, o2, hap, b3⟩
    have l3 := bstep (bstep hbl b2) b3
    have R1 := (C1.below b3).row (show m + m ≤ 1125899906842624 by omega)
    have R2 := (C2.below b3).row (show m + m ≤ 1125899906842624 by omega)
    go_wp2_with fail
    refine (equalInts_any_eq w3 _ a3 (m + m) (m + m) _ c3 _ _ R1 (o1.row (by omega)) rfl).mono ?_
    rintro e w4 ⟨rfl, b4⟩
    go_wp2_with fail
    refine (equalInts_any_eq w4 _ b3a (m + m) (m + m) _ d3 _ _ (R2.below b4) ((o2.below b4).row (by omega)) rfl).mono ?_
    rintro e w5 ⟨rfl, b5⟩
    have l5 := bstep (bstep l3 b4) b5
    go_wp2_with fail
    refine (ArePaired_all w5 _ _ (m + m) _ (m + m) _ U V ((R1.below b4).below b5) ((R2.below b4).below b5)).mono ?_
    rw [HDP.out]
    rintro e w6 ⟨rfl, b6⟩
    go_wp2_with fail
    go_ret
    exact ⟨ret_bool (by simp <;> omega), bstep l5 b6⟩
theorem below_C {H B g n : Nat} {W0 w w' : World} {xs : List Int} (h : Below H W0 w) (hg : w.grownBy w' (some g)) (hown : OwnC w B g n xs) (hB : H ≤ B) (hH : H ≤ w.heap.size) : Below H W0 w' :=
  h.grown hg hH (fun k hk => by injection hk with hk; have := hown.2.1; omega)
set_option maxHeartbeats 1600000 in
theorem law_FnExactDoublePair (w : World) (a b : Option Addr) (n c m d : Nat) (xs ys : List Int) (hR : n ≤ 1125899906842624 → Row w a n c xs) (hM : n ≤ 9223372036854775807) (hR2 : m ≤ 1125899906842624 → Row w b m d ys) (hM2 : m ≤ 9223372036854775807) :
    Calls Try.prog 5 #[.slice a n c, .slice b m d] w fun e w' => Says w w' e true := by
  by_cases hbig : 1048576 < n
  · clear hR hR2
    go_enter Try.func5, Try.ntmps5
    go_wp2
    go_ret
    exact ⟨rfl, Below.refl _ _⟩
  by_cases hbig2 : 1048576 < m
  · clear hR hR2
    go_enter Try.func5, Try.ntmps5
    go_wp2
    go_ret
    exact ⟨rfl, Below.refl _ _⟩
  have hrow := hR (by omega)
  have hrow2 := hR2 (by omega)
  have hl : Hid (xs.length = n) := hrow.len
  have hl2 : Hid (ys.length = m) := hrow2.len
  clear hR hR2
  cases hok : dpOk xs ys
  · have HS : Hid (∀ w a c b d, Row w a n c xs → Row w b m d ys → Calls Try.prog 19 #[.slice a n c, .slice b m d] w fun e w' => e = .returned (.tuple #[.slice none 0 0, .slice none 0 0, .bool false]) ∧ Below w.heap.size w w') := fun w a c b d h h2 => sDoublePair_no w a b n c m d xs ys h h2 hok
    have HI : Hid (∀ w a c b d, Row w a n c xs → Row w b m d ys → Calls Try.prog 21 #[.slice a n c, .slice b m d] w fun e w' => e = .returned (.tuple #[.slice none 0 0, .slice none 0 0, .bool false]) ∧ Below w.heap.size w w') := fun w a c b d h h2 => DoublePair_no w a b n c m d xs ys h h2 hok
    clear hok
    go_enter Try.func5, Try.ntmps5
    go_wp2_with fail
    refine (toIntS_any w a n c xs hrow (by omega)).mono ?_
    rintro e w1 ⟨a1, c1, rfl, own1, b1⟩
    go_wp2_with fail
    refine (toIntS_any w1 b m d ys (hrow2.below b1) (by omega)).mono ?_
    rintro e v1 ⟨d1, e1, rfl, dwn1, g1⟩
    have l1 := bstep b1 g1
    go_wp2_with fail
    refine (HS.out v1 a1 c1 d1 e1 ((own1.below g1).row (by omega)) (dwn1.row (by omega))).mono ?_
    rintro e w2 ⟨rfl, b2⟩
    have l2 := bstep l1 b2
    go_wp2_with fail
    refine (toIntS_any w2 a n c xs (hrow.below l2) (by omega)).mono ?_
    rintro e w3 ⟨a3, c3, rfl, own3, b3⟩
    have l3 := bstep l2 b3
    go_wp2_with fail
    refine (toIntS_any w3 b m d ys (hrow2.below l3) (by omega)).mono ?_
    rintro e v3 ⟨d3, e3, rfl, dwn3, g3⟩
    have l3b := bstep l3 g3
    have own33 := own3.below g3
    go_wp2_with fail
    refine (HI.out v3 a3 c3 d3 e3 (own33.row (by omega)) (dwn3.row (by omega))).mono ?_
    rintro e w4 ⟨rfl, b4⟩
    have l4 := bstep l3b b4
    have own34 := own33.below b4
    have dwn34 := dwn3.below b4
    clear l1 l2 l3 l3b own1 dwn1 own33
    go_wp2_with fail
    refine (eqIntS_any_eq w4 none none 0 0 0 0 [] [] (row_nil _) (row_nil _) rfl).mono ?_
    rintro e w5 ⟨rfl, b5⟩
    go_wp2_with fail
    refine (eqIntS_any_eq w5 none none 0 0 0 0 [] [] (row_nil _) (row_nil _) rfl).mono ?_
    rintro e w6 ⟨rfl, b6⟩
    have l6 := bstep (bstep l4 b5) b6
    have own36 := (own34.below b5).below b6
    have dwn36 := (dwn34.below b5).below b6
    clear own34 dwn34 l4 b5 b6
    go_wp2_with fail
    refine (toIntS_any w6 a n c xs (hrow.below l6) (by omega)).mono ?_
    rintro e w7 ⟨a7, c7, rfl, own7, b7⟩
    go_wp2_with fail
    refine (eqIntS_any_eq w7 a3 a7 n n c3 c7 _ _ ((own36.below b7).row (by omega)) (own7.row (by omega)) rfl).mono ?_
    rintro e w8 ⟨rfl, b8⟩
    have l8 := bstep (bstep l6 b7) b8
    have own38 := (own36.below b7).below b8
    have dwn38 := (dwn36.below b7).below b8
    clear own36 dwn36 l6 own7 b7 b8
    go_wp2_with fail
    refine (toIntS_any w8 b m d ys (hrow2.below l8) (by omega)).mono ?_
    rintro e w9 ⟨d9, e9, rfl, dwn9, b9⟩
    go_wp2_with fail
    refine (eqIntS_any_eq w9 d3 d9 m m e3 e9 _ _ ((dwn38.below b9).row (by omega)) (dwn9.row (by omega)) rfl).mono ?_
    rintro e w10 ⟨rfl, b10⟩
    have l10 := bstep (bstep l8 b9) b10
    have own310 := (own38.below b9).below b10
    have dwn310 := (dwn38.below b9).below b10
    clear own38 dwn38 l8 dwn9 b9 b10
    have s2 : w.heap.size ≤ w2.heap.size := by have := b1.size; have := g1.size; have := b2.size; omega
    have s3 : w2.heap.size ≤ w3.heap.size := b3.size
    go_wp2_with fail
    refine (markIntS_any w10 w2.heap.size a3 n c3 xs 1 own310 (by omega) (by omega) (by omega)).mono ?_
    rintro e w11 ⟨rfl, own311, gr11⟩
    have l11 := below_app l10 gr11 own310 s2 l10.size
    have dwn311 := dwn310.after gr11 own3 (Nat.le_refl _)
    clear own310 dwn310 l10 gr11
    go_wp2_with fail
    refine (markIntS_any w11 w3.heap.size d3 m e3 ys (1 + n) dwn311 (by omega) (by omega) (by omega)).mono ?_
    rintro e w12 ⟨rfl, dwn312, gr12⟩
    have l12 := below_app l11 gr12 dwn311 (Nat.le_trans s2 s3) l11.size
    clear l11 gr12 dwn311
    go_wp2_with fail
    refine (eqIntS_any_eq w12 none none 0 0 0 0 [] [] (row_nil _) (row_nil _) rfl).mono ?_
    rintro e w13 ⟨rfl, b13⟩
    go_wp2_with fail
    refine (eqIntS_any_eq w13 none none 0 0 0 0 [] [] (row_nil _) (row_nil _) rfl).mono ?_
    rintro e w14 ⟨rfl, b14⟩
    have l14 := bstep (bstep l12 b13) b14
    clear l12 b13 b14
    go_wp2_with fail
    refine (markIntS_any w14 w14.heap.size none 0 0 [] 1 (own_nil _ _) (by omega) (by omega) (by omega)).mono ?_
    rintro e w15 ⟨rfl, _, gr15⟩
    have l15 := below_app l14 gr15 (own_nil w14 w14.heap.size) l14.size l14.size
    go_wp2_with fail
    refine (markIntS_any w15 w15.heap.size none 0 0 [] 1 (own_nil _ _) (by omega) (by omega) (by omega)).mono ?_
    rintro e w16 ⟨rfl, _, gr16⟩
    have l16 := below_app l15 gr16 (own_nil w15 w15.heap.size) l15.size l15.size
    go_wp2_with fail
    refine (heldIntS_any w16 none 0 0 1 (row_nil _) (by omega) (by omega) (by omega)).mono ?_
    rintro e w' ⟨rfl, rfl⟩
    go_wp2_with fail
    refine (heldIntS_any w16 none 0 0 1 (row_nil _) (by omega) (by omega) (by omega)).mono ?_
    rintro e w' ⟨rfl, rfl⟩
    go_wp2_with fail
    refine (toIntS_any w16 a n c xs (hrow.below l16) (by omega)).mono ?_
    rintro e w17 ⟨a17, c17, rfl, own17, b17⟩
    have l17 := bstep l16 b17
    go_wp2_with fail
    refine (toIntS_any w17 b m d ys (hrow2.below l17) (by omega)).mono ?_
    rintro e v17 ⟨d17, e17, rfl, dwn17, g17⟩
    have l18 := bstep l17 g17
    go_wp2_with fail
    refine (HI.out v17 a17 c17 d17 e17 ((own17.below g17).row (by omega)) (dwn17.row (by omega))).mono ?_
    rintro e w19 ⟨rfl, b19⟩
    have l19 := bstep l18 b19
    go_wp2_with fail
    refine (eqIntS_any_eq w19 none none 0 0 0 0 [] [] (row_nil _) (row_nil _) rfl).mono ?_
    rintro e w20 ⟨rfl, b20⟩
    go_wp2_with fail
    refine (eqIntS_any_eq w20 none none 0 0 0 0 [] [] (row_nil _) (row_nil _) rfl).mono ?_
    rintro e w21 ⟨rfl, b21⟩
    have l21 := bstep (bstep l19 b20) b21
    go_wp2_with fail
    refine (heldIntS_any w21 none 0 0 1 (row_nil _) (by omega) (by omega) (by omega)).mono ?_
    rintro e w' ⟨rfl, rfl⟩
    go_wp2_with fail
    refine (heldIntS_any w21 none 0 0 1 (row_nil _) (by omega) (by omega) (by omega)).mono ?_
    rintro e w' ⟨rfl, rfl⟩
    go_wp2_with fail
    go_ret
    exact ⟨ret_bool (by simp), l21⟩
  · obtain ⟨hpp, h16⟩ := dpOk_iff.1 hok
    obtain ⟨hmm, hm0, _⟩ := pair_facts hpp hl.out hl2.out
    have hn8 : n ≤ 8 := by have := hl.out; omega
    subst hmm
    obtain ⟨U, hU⟩ : ∃ U, U = dpL 1 xs ys n := ⟨_, rfl⟩
    obtain ⟨V, hV⟩ : ∃ V, V = dpL (-1) xs ys n := ⟨_, rfl⟩
    obtain ⟨k, hk⟩ : ∃ k, k = n + n := ⟨_, rfl⟩
    have HS : Hid (∀ w a c b d, Row w a n c xs → Row w b n d ys → Calls Try.prog 19 #[.slice a n c, .slice b n d] w fun e w' => TwoO w w' e k U V) := fun w a c b d h h2 => by
      rw [hU, hV, hk]; exact sDoublePair_yes w a b n c d xs ys h h2 hok
    have HI : Hid (∀ w a c b d, Row w a n c xs → Row w b n d ys → Calls Try.prog 21 #[.slice a n c, .slice b n d] w fun e w' => TwoC w w' e k U V) := fun w a c b d h h2 => by
      rw [hU, hV, hk]; exact DoublePair_yes w a b n c d xs ys h h2 hok
    have hk16 : k ≤ 16 := by omega
    clear hpp h16 hok hU hV hk hm0
    go_enter Try.func5, Try.ntmps5
    go_wp2_with fail
    refine (toIntS_any w a n c xs hrow (by omega)).mono ?_
    rintro e w1 ⟨a1, c1, rfl, own1, b1⟩
    go_wp2_with fail
    refine (toIntS_any w1 b n d ys (hrow2.below b1) (by omega)).mono ?_
    rintro e v1 ⟨d1, e1, rfl, dwn1, g1⟩
    have l1 := bstep b1 g1
    go_wp2_with fail
    refine (HS.out v1 a1 c1 d1 e1 ((own1.below g1).row (by omega)) (dwn1.row (by omega))).mono ?_
    rintro e w2 ⟨a2, f2, c2, q2, rfl, o1, o2, _, b2⟩
    have l2 := bstep l1 b2
    have RU := o1.row (show k ≤ 1125899906842624 by omega)
    have RV := o2.row (show k ≤ 1125899906842624 by omega)
    go_wp2_with fail
    refine (toIntS_any w2 a n c xs (hrow.below l2) (by omega)).mono ?_
    rintro e w3 ⟨a3, c3, rfl, own3, b3⟩
    have l3 := bstep l2 b3
    go_wp2_with fail
    refine (toIntS_any w3 b n d ys (hrow2.below l3) (by omega)).mono ?_
    rintro e v3 ⟨d3, e3, rfl, dwn3, g3⟩
    have l3b := bstep l3 g3
    have own33 := own3.below g3
    go_wp2_with fail
    refine (HI.out v3 a3 c3 d3 e3 (own33.row (by omega)) (dwn3.row (by omega))).mono ?_
    rintro e w4 ⟨p1, p2, rfl, C1, C2, hp12, b4⟩
    have l4 := bstep l3b b4
    have own34 := own33.below b4
    have dwn34 := dwn3.below b4
    have z4 := bstep (bstep b3 g3) b4
    clear l1 l2 l3 l3b own1 dwn1 own33 o1 o2
    have s2 : w.heap.size ≤ w2.heap.size := by have := b1.size; have := g1.size; have := b2.size; omega
    have s3 : w2.heap.size ≤ w3.heap.size := b3.size
    have s4 : w3.heap.size ≤ v3.heap.size := g3.size
    have hp1 : v3.heap.size ≤ p1 := C1.2.1
    have hp2 : v3.heap.size ≤ p2 := C2.2.1
    have hk9 : k ≤ 1125899906842624 := by omega
    go_wp2_with fail
    refine (eqIntS_any_eq w4 _ a2 k k _ c2 _ _ (C1.row hk9) (RU.below z4) rfl).mono ?_
    rintro e w5 ⟨rfl, b5⟩
    go_wp2_with fail
    refine (eqIntS_any_eq w5 _ f2 k k _ q2 _ _ ((C2.below b5).row hk9) ((RV.below z4).below b5) rfl).mono ?_
    rintro e w6 ⟨rfl, b6⟩
    have l6 := bstep (bstep l4 b5) b6
    have z6 := bstep (bstep z4 b5) b6
    have own36 := (own34.below b5).below b6
    have dwn36 := (dwn34.below b5).below b6
    have C16 := (C1.below b5).below b6
    have C26 := (C2.below b5).below b6
    clear own34 dwn34 l4 z4 b5 b6 C1 C2
    go_wp2_with fail
    refine (toIntS_any w6 a n c xs (hrow.below l6) (by omega)).mono ?_
    rintro e w7 ⟨a7, c7, rfl, own7, b7⟩
    go_wp2_with fail
    refine (eqIntS_any_eq w7 a3 a7 n n c3 c7 _ _ ((own36.below b7).row (by omega)) (own7.row (by omega)) rfl).mono ?_
    rintro e w8 ⟨rfl, b8⟩
    have l8 := bstep (bstep l6 b7) b8
    have z8 := bstep (bstep z6 b7) b8
    have own38 := (own36.below b7).below b8
    have dwn38 := (dwn36.below b7).below b8
    have C18 := (C16.below b7).below b8
    have C28 := (C26.below b7).below b8
    clear own36 dwn36 l6 z6 own7 b7 b8 C16 C26
    go_wp2_with fail
    refine (toIntS_any w8 b n d ys (hrow2.below l8) (by omega)).mono ?_
    rintro e w9 ⟨d9, e9, rfl, dwn9, b9⟩
    go_wp2_with fail
    refine (eqIntS_any_eq w9 d3 d9 n n e3 e9 _ _ ((dwn38.below b9).row (by omega)) (dwn9.row (by omega)) rfl).mono ?_
    rintro e w10 ⟨rfl, b10⟩
    have l10 := bstep (bstep l8 b9) b10
    have z10 := bstep (bstep z8 b9) b10
    have own310 := (own38.below b9).below b10
    have dwn310 := (dwn38.below b9).below b10
    have C110 := (C18.below b9).below b10
    have C210 := (C28.below b9).below b10
    clear own38 dwn38 l8 z8 dwn9 b9 b10 C18 C28
    go_wp2_with fail
    refine (markIntS_any w10 w2.heap.size a3 n c3 xs 1 own310 (by omega) (by omega) (by omega)).mono ?_
    rintro e w11 ⟨rfl, own311, gr11⟩
    have l11 := below_app l10 gr11 own310 s2 l10.size
    have z11 := below_app z10 gr11 own310 (Nat.le_refl _) z10.size
    have dwn311 := dwn310.after gr11 own3 (Nat.le_refl _)
    have C111 : OwnC w11 v3.heap.size p1 k U := C110.kept (gr11.block p1 C110.lt (by intro e; have := own3.blk p1 e.symm; omega))
    have C211 : OwnC w11 v3.heap.size p2 k V := C210.kept (gr11.block p2 C210.lt (by intro e; have := own3.blk p2 e.symm; omega))
    clear own310 dwn310 l10 z10 gr11 C110 C210
    go_wp2_with fail
    refine (markIntS_any w11 w3.heap.size d3 n e3 ys (1 + n) dwn311 (by omega) (by omega) (by omega)).mono ?_
    rintro e w12 ⟨rfl, dwn312, gr12⟩
    have l12 := below_app l11 gr12 dwn311 (Nat.le_trans s2 s3) l11.size
    have z12 := below_app z11 gr12 dwn311 s3 z11.size
    have C112 : OwnC w12 v3.heap.size p1 k U := C111.kept (gr12.block p1 C111.lt (by intro e; have := dwn3.blk p1 e.symm; omega))
    have C212 : OwnC w12 v3.heap.size p2 k V := C211.kept (gr12.block p2 C211.lt (by intro e; have := dwn3.blk p2 e.symm; omega))
    clear l11 z11 gr12 dwn311 C111 C211
    go_wp2_with fail
    refine (eqIntS_any_eq w12 _ a2 k k _ c2 _ _ (C112.row hk9) (RU.below z12) rfl).mono ?_
    rintro e w13 ⟨rfl, b13⟩
    go_wp2_with fail
    refine (eqIntS_any_eq w13 _ f2 k k _ q2 _ _ ((C212.below b13).row hk9) ((RV.below z12).below b13) rfl).mono ?_
    rintro e w14 ⟨rfl, b14⟩
    have l14 := bstep (bstep l12 b13) b14
    have z14 := bstep (bstep z12 b13) b14
    have C114 := (C112.below b13).below b14
    have C214 := (C212.below b13).below b14
    clear l12 z12 b13 b14 C112 C212
    go_wp2_with fail
    refine (markC_any w14 v3.heap.size p1 k U 1 C114 (by omega) (by omega) (by omega)).mono ?_
    rintro e w15 ⟨rfl, C115, gr15⟩
    have l15 := below_C l14 gr15 C114 (by omega) l14.size
    have z15 := below_C z14 gr15 C114 (by omega) z14.size
    have C215 : OwnC w15 v3.heap.size p2 k V := C214.kept (gr15.block p2 C214.lt (by intro e; injection e with e; exact hp12 e.symm))
    clear l14 z14 gr15 C114 C214
    go_wp2_with fail
    refine (markC_any w15 v3.heap.size p2 k V (1 + k) C215 (by omega) (by omega) (by omega)).mono ?_
    rintro e w16 ⟨rfl, C216, gr16⟩
    have l16 := below_C l15 gr16 C215 (by omega) l15.size
    have z16 := below_C z15 gr16 C215 (by omega) z15.size
    have C116 : OwnC w16 v3.heap.size p1 k (marks 1 k) := C115.kept (gr16.block p1 C115.lt (by intro e; injection e with e; exact hp12 e))
    clear l15 z15 gr16 C115 C215
    go_wp2_with fail
    refine (heldIntS_any w16 _ k k 1 (C116.row hk9) (by omega) (by omega) (by omega)).mono ?_
    rintro e w' ⟨rfl, rfl⟩
    go_wp2_with fail
    refine (heldIntS_any w16 _ k k (1 + k) (C216.row hk9) (by omega) (by omega) (by omega)).mono ?_
    rintro e w' ⟨rfl, rfl⟩
    go_wp2_with fail
    refine (toIntS_any w16 a n c xs (hrow.below l16) (by omega)).mono ?_
    rintro e w17 ⟨a17, c17, rfl, own17, b17⟩
    have l17 := bstep l16 b17
    go_wp2_with fail
    refine (toIntS_any w17 b n d ys (hrow2.below l17) (by omega)).mono ?_
    rintro e v17 ⟨d17, e17, rfl, dwn17, g17⟩
    have l18 := bstep l17 g17
    go_wp2_with fail
    refine (HI.out v17 a17 c17 d17 e17 ((own17.below g17).row (by omega)) (dwn17.row (by omega))).mono ?_
    rintro e w19 ⟨r1, r2, rfl, D1, D2, _, b19⟩
    have l19 := bstep l18 b19
    have z19 := bstep (bstep (bstep z16 b17) g17) b19
    have C119 := ((C116.below b17).below g17).below b19
    have C219 := ((C216.below b17).below g17).below b19
    clear l16 z16 l17 l18 b17 g17 b19 C116 C216 own17 dwn17
    go_wp2_with fail
    refine (eqIntS_any_eq w19 _ a2 k k _ c2 _ _ (D1.row hk9) (RU.below z19) rfl).mono ?_
    rintro e w20 ⟨rfl, b20⟩
    go_wp2_with fail
    refine (eqIntS_any_eq w20 _ f2 k k _ q2 _ _ ((D2.below b20).row hk9) ((RV.below z19).below b20) rfl).mono ?_
    rintro e w21 ⟨rfl, b21⟩
    have l21 := bstep (bstep l19 b20) b21
    have C121 := (C119.below b20).below b21
    have C221 := (C219.below b20).below b21
    go_wp2_with fail
    refine (heldIntS_any w21 _ k k 1 (C121.row hk9) (by omega) (by omega) (by omega)).mono ?_
    rintro e w' ⟨rfl, rfl⟩
    go_wp2_with fail
    refine (heldIntS_any w21 _ k k (1 + k) (C221.row hk9) (by omega) (by omega) (by omega)).mono ?_
    rintro e w' ⟨rfl, rfl⟩
    go_wp2_with fail
    go_ret
    exact ⟨ret_bool (by simp), l21⟩
end Go.Proofs.Ythmajnfppkgflaa
