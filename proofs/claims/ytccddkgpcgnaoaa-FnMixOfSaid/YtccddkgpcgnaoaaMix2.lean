/-
  MixOf, the program's and the reference's, at all arguments; the exact law.
-/
import Derived.Test.YtccddkgpcgnaoaaMix
import Derived.Test.YtccddkgpcgnaoaaExact
namespace Go.Proofs.Ytccddkgpcgnaoaa
open Go.RowKit

def mixOk (xs ys : List Int) (s : ByteArray) : Bool := cube xs && (cube ys && (decide (xs.length = ys.length) && decide (kd s ≠ 0)))
def mixR (xs ys : List Int) (s : ByteArray) : List Int := if mixOk xs ys s then mxL (kd s) xs ys xs.length else []
theorem kd_cases (s : ByteArray) : (kd s = 1 ∧ s.toList = [111, 114]) ∨ (kd s = 2 ∧ s.toList = [97, 110, 100]) ∨ (kd s = 3 ∧ s.toList = [120, 111, 114]) ∨ (kd s = 0 ∧ ¬ s.toList = [111, 114] ∧ ¬ s.toList = [97, 110, 100] ∧ ¬ s.toList = [120, 111, 114]) := by
  unfold kd
  by_cases h1 : s.toList = [111, 114]
  · left; exact ⟨if_pos h1, h1⟩
  · by_cases h2 : s.toList = [97, 110, 100]
    · right; left; exact ⟨by rw [if_neg h1, if_pos h2], h2⟩
    · by_cases h3 : s.toList = [120, 111, 114]
      · right; right; left; exact ⟨by rw [if_neg h1, if_neg h2, if_pos h3], h3⟩
      · right; right; right; exact ⟨by rw [if_neg h1, if_neg h2, if_neg h3], h1, h2, h3⟩
theorem mix_k {xs : List Int} {n : Nat} (h : cube xs = true) (hl : xs.length = n) : ∃ kk, kk ≤ 4 ∧ n = p2 kk := by
  have h2 := (cube_iff.1 h).2
  rw [hl, isP2_iff] at h2
  rcases h2 with e | e | e | e | e
  · exact ⟨0, by omega, e⟩
  · exact ⟨1, by omega, e⟩
  · exact ⟨2, by omega, e⟩
  · exact ⟨3, by omega, e⟩
  · exact ⟨4, by omega, e⟩
theorem mixR_len (xs ys : List Int) (s : ByteArray) : (mixR xs ys s).length ≤ 1000 := by
  unfold mixR
  split
  · rename_i h
    rw [mixOk, Bool.and_eq_true] at h
    have := valid_len (cube_iff.1 h.1).1
    rw [mxL, tab_length]; omega
  · simp
set_option maxHeartbeats 1600000 in
theorem MixOf_all (w : World) (a b : Option Addr) (n c m d : Nat) (xs ys : List Int) (s : ByteArray) (h : Row w a n c xs) (h2 : Row w b m d ys) :
    Calls Try.prog 15 #[.slice a n c, .slice b m d, .string s] w fun e w' => Fresh w w' e (mixR xs ys s).length (mixR xs ys s) := by
  have hl := h.len
  have hl2 := h2.len
  cases hok : mixOk xs ys s
  · rw [show mixR xs ys s = [] by rw [mixR, hok]; rfl]
    cases hx : cube xs
    · clear hok hl hl2
      go_enter Try.func15, Try.ntmps15
      go_wp2_with fail
      refine (whole_is w a n c xs false h hx).mono ?_
      rintro e w' ⟨rfl, rfl⟩
      go_wp2_with fail
      go_ret
      exact Fresh.mk (own_nil _ _) (Below.refl _ _)
    · cases hy : cube ys
      · clear hok hl hl2
        go_enter Try.func15, Try.ntmps15
        go_wp2_with fail
        refine (whole_is w a n c xs true h hx).mono ?_
        rintro e w' ⟨rfl, rfl⟩
        go_wp2_with fail
        refine (whole_is w b _ d ys false h2 hy).mono ?_
        rintro e w' ⟨rfl, rfl⟩
        go_wp2_with fail
        go_ret
        exact Fresh.mk (own_nil _ _) (Below.refl _ _)
      · by_cases hnm : n = m
        · subst hnm
          rcases kd_cases s with ⟨hk, hs⟩ | ⟨hk, hs⟩ | ⟨hk, hs⟩ | ⟨hk, hs1, hs2, hs3⟩
          · rw [mixOk, hx, hy, hl, hl2, hk] at hok; simp at hok
          · rw [mixOk, hx, hy, hl, hl2, hk] at hok; simp at hok
          · rw [mixOk, hx, hy, hl, hl2, hk] at hok; simp at hok
          · have hb1 : (s.toList == [111, 114]) = false := by simpa using hs1
            have hb2 : (s.toList == [97, 110, 100]) = false := by simpa using hs2
            have hb3 : (s.toList == [120, 111, 114]) = false := by simpa using hs3
            clear hok hl hl2 hk hs1 hs2 hs3
            go_enter Try.func15, Try.ntmps15
            go_wp2_with fail
            refine (whole_is w a n c xs true h hx).mono ?_
            rintro e w' ⟨rfl, rfl⟩
            go_wp2_with fail
            refine (whole_is w b _ d ys true h2 hy).mono ?_
            rintro e w' ⟨rfl, rfl⟩
            go_wp2_with fail
            go_ret
            exact Fresh.mk (own_nil _ _) (Below.refl _ _)
        · have hne : ((n : Int) != (m : Int)) = true := by simp; omega
          have hne2 : ((n : Int) == (m : Int)) = false := by simp; omega
          clear hok hl hl2 hnm
          go_enter Try.func15, Try.ntmps15
          go_wp2_with fail
          refine (whole_is w a n c xs true h hx).mono ?_
          rintro e w' ⟨rfl, rfl⟩
          go_wp2_with fail
          refine (whole_is w b _ d ys true h2 hy).mono ?_
          rintro e w' ⟨rfl, rfl⟩
          go_wp2_with fail
          go_ret
          exact Fresh.mk (own_nil _ _) (Below.refl _ _)
  · have hr : mixR xs ys s = mxL (kd s) xs ys n := by rw [mixR, if_pos hok, hl]
    have hrl : (mixR xs ys s).length = n := by rw [hr, mxL, tab_length]
    rw [hrl, hr]
    simp only [mixOk, Bool.and_eq_true, decide_eq_true_eq] at hok
    obtain ⟨hx, hy, hnm, hk0⟩ := hok
    have hm : n = m := by omega
    subst hm
    obtain ⟨kk, hkk, hnk⟩ := mix_k hx hl
    rcases kd_cases s with ⟨hk, hs⟩ | ⟨hk, hs⟩ | ⟨hk, hs⟩ | ⟨hk, hs1, hs2, hs3⟩
    · rw [hk]
      exact MixOf_or w a b n c d kk xs ys s h h2 hkk hnk hx hy hs
    · rw [hk]
      exact MixOf_and w a b n c d kk xs ys s h h2 hkk hnk hx hy hs
    · rw [hk]
      exact MixOf_xor w a b n c d kk xs ys s h h2 hkk hnk hx hy hs
    · exact absurd hk hk0
theorem validTwo_any (w : World) (a b : Option Addr) (n c m d : Nat) (xs ys : List Int) (h : Row w a n c xs) (h2 : Row w b m d ys) :
    Calls Try.prog 41 #[.slice a n c, .slice b m d] w fun e w' => Tells w w' e (twoC xs ys) := by
  have hl := h.len
  have hl2 := h2.len
  cases hx : cube xs
  · have HT : Hid (twoC xs ys = false) := by simp [Hid, twoC, hx]
    clear hl hl2
    go_enter Try.func41, Try.ntmps41
    go_wp2_with fail
    refine (validCube_is w a n c xs false h hx).mono ?_
    rintro e w' ⟨rfl, rfl⟩
    go_wp2_with fail
    go_ret
    exact ⟨ret_bool HT.out.symm, rfl⟩
  · cases hy : cube ys
    · have HT : Hid (twoC xs ys = false) := by simp [Hid, twoC, hy]
      clear hl hl2
      go_enter Try.func41, Try.ntmps41
      go_wp2_with fail
      refine (validCube_is w a n c xs true h hx).mono ?_
      rintro e w' ⟨rfl, rfl⟩
      go_wp2_with fail
      refine (validCube_is w b m d ys false h2 hy).mono ?_
      rintro e w' ⟨rfl, rfl⟩
      go_wp2_with fail
      go_ret
      exact ⟨ret_bool HT.out.symm, rfl⟩
    · have HT : Hid (twoC xs ys = decide (n = m)) := by simp [Hid, twoC, hx, hy, hl, hl2]
      clear hl hl2
      by_cases hnm : n = m
      all_goals
        have HN := Lib.hid hnm
        have hb : ((n : Int) == (m : Int)) = decide (n = m) := by rw [Bool.eq_iff_iff]; simp; omega
        simp only [hnm, decide_true, decide_false] at hb
        clear hnm
        go_enter Try.func41, Try.ntmps41
        go_wp2_with fail
        refine (validCube_is w a n c xs true h hx).mono ?_
        rintro e w' ⟨rfl, rfl⟩
        go_wp2_with fail
        refine (validCube_is w b m d ys true h2 hy).mono ?_
        rintro e w' ⟨rfl, rfl⟩
        go_wp2_with fail
        go_ret
        exact ⟨ret_bool (by rw [HT.out]; simp [HN.out]), rfl⟩
set_option maxHeartbeats 1600000 in
theorem sMixOf_all (w : World) (a b : Option Addr) (n c m d : Nat) (xs ys : List Int) (s : ByteArray) (h : Row w a n c xs) (h2 : Row w b m d ys) :
    Calls Try.prog 13 #[.slice a n c, .slice b m d, .string s] w fun e w' => Fresh w w' e (mixR xs ys s).length (mixR xs ys s) := by
  have hl := h.len
  have hl2 := h2.len
  have HV : Hid (∀ v, twoC xs ys = v → Calls Try.prog 41 #[.slice a n c, .slice b m d] w fun e w' => Tells w w' e v) := fun v hv => by subst hv; exact validTwo_any w a b n c m d xs ys h h2
  have hmt : mixOk xs ys s = (twoC xs ys && decide (kd s ≠ 0)) := by unfold mixOk twoC; cases cube xs <;> cases cube ys <;> simp
  cases hok : mixOk xs ys s
  · rw [show mixR xs ys s = [] by rw [mixR, hok]; rfl]
    rw [hmt] at hok
    cases ht : twoC xs ys
    · clear hok hl hl2 hmt
      go_enter Try.func13, Try.ntmps13
      go_wp2_with fail
      refine (HV.out false ht).mono ?_
      rintro e w' ⟨rfl, rfl⟩
      go_wp2_with fail
      go_ret
      exact Fresh.mk (own_nil _ _) (Below.refl _ _)
    · rcases kd_cases s with ⟨hk, hs⟩ | ⟨hk, hs⟩ | ⟨hk, hs⟩ | ⟨hk, hs1, hs2, hs3⟩
      · rw [ht, hk] at hok; simp at hok
      · rw [ht, hk] at hok; simp at hok
      · rw [ht, hk] at hok; simp at hok
      · have hb1 : (s.toList == [111, 114]) = false := by simpa using hs1
        have hb2 : (s.toList == [97, 110, 100]) = false := by simpa using hs2
        have hb3 : (s.toList == [120, 111, 114]) = false := by simpa using hs3
        clear hok hl hl2 hk hs1 hs2 hs3 hmt
        go_enter Try.func13, Try.ntmps13
        go_wp2_with fail
        refine (HV.out true ht).mono ?_
        rintro e w' ⟨rfl, rfl⟩
        go_wp2_with fail
        go_ret
        exact Fresh.mk (own_nil _ _) (Below.refl _ _)
  · have hr : mixR xs ys s = mxL (kd s) xs ys n := by rw [mixR, if_pos hok, hl]
    have hrl : (mixR xs ys s).length = n := by rw [hr, mxL, tab_length]
    rw [hrl, hr]
    have hok2 := hok
    rw [hmt, Bool.and_eq_true] at hok2
    have ht := hok2.1
    simp only [mixOk, Bool.and_eq_true, decide_eq_true_eq] at hok
    obtain ⟨hx, hy, hnm, hk0⟩ := hok
    have hm : n = m := by omega
    subst hm
    obtain ⟨kk, hkk, hnk⟩ := mix_k hx hl
    clear hok2 hmt hr hrl hnm hl hl2
    rcases kd_cases s with ⟨hk, hs⟩ | ⟨hk, hs⟩ | ⟨hk, hs⟩ | ⟨hk, hs1, hs2, hs3⟩
    · rw [hk]
      have HM : Hid (Calls Try.prog 42 #[.slice a n c, .slice b n d, .string s] w fun e w' => Fresh w w' e n (mxL 1 xs ys n)) := mix_or w a b n c d kk xs ys s h h2 hkk hnk hx hy hs
      clear hnk hk
      go_enter Try.func13, Try.ntmps13
      go_wp2_with fail
      refine (HV.out true ht).mono ?_
      rintro e w' ⟨rfl, rfl⟩
      go_wp2_with fail
      refine HM.out.mono ?_
      rintro e w' ⟨a1, c1, rfl, hown, hbl⟩
      go_wp2_with fail
      go_ret
      exact Fresh.mk hown hbl
    · rw [hk]
      have HM : Hid (Calls Try.prog 42 #[.slice a n c, .slice b n d, .string s] w fun e w' => Fresh w w' e n (mxL 2 xs ys n)) := mix_and w a b n c d kk xs ys s h h2 hkk hnk hx hy hs
      clear hnk hk
      go_enter Try.func13, Try.ntmps13
      go_wp2_with fail
      refine (HV.out true ht).mono ?_
      rintro e w' ⟨rfl, rfl⟩
      go_wp2_with fail
      refine HM.out.mono ?_
      rintro e w' ⟨a1, c1, rfl, hown, hbl⟩
      go_wp2_with fail
      go_ret
      exact Fresh.mk hown hbl
    · rw [hk]
      have HM : Hid (Calls Try.prog 42 #[.slice a n c, .slice b n d, .string s] w fun e w' => Fresh w w' e n (mxL 3 xs ys n)) := mix_xor w a b n c d kk xs ys s h h2 hkk hnk hx hy hs
      clear hnk hk
      go_enter Try.func13, Try.ntmps13
      go_wp2_with fail
      refine (HV.out true ht).mono ?_
      rintro e w' ⟨rfl, rfl⟩
      go_wp2_with fail
      refine HM.out.mono ?_
      rintro e w' ⟨a1, c1, rfl, hown, hbl⟩
      go_wp2_with fail
      go_ret
      exact Fresh.mk hown hbl
    · exact absurd hk hk0
set_option maxHeartbeats 3200000 in
theorem law_FnExactMixOf (w : World) (a b : Option Addr) (n c m d : Nat) (xs ys : List Int) (s : ByteArray) (hR : n ≤ 1125899906842624 → Row w a n c xs) (hM : n ≤ 9223372036854775807) (hR2 : m ≤ 1125899906842624 → Row w b m d ys) (hM2 : m ≤ 9223372036854775807) (hS : s.size ≤ 9223372036854775807) :
    Calls Try.prog 3 #[.slice a n c, .slice b m d, .string s] w fun e w' => Says w w' e true := by
  by_cases hbig : 1048576 < n
  · clear hR hR2
    go_enter Try.func3, Try.ntmps3
    go_wp2
    go_ret
    exact ⟨rfl, Below.refl _ _⟩
  by_cases hbig2 : 1048576 < m
  · clear hR hR2
    go_enter Try.func3, Try.ntmps3
    go_wp2
    go_ret
    exact ⟨rfl, Below.refl _ _⟩
  by_cases hbig3 : 1048576 < s.size
  · clear hR hR2
    go_enter Try.func3, Try.ntmps3
    go_wp2
    go_ret
    exact ⟨rfl, Below.refl _ _⟩
  have hrow := hR (by omega)
  have hrow2 := hR2 (by omega)
  clear hR hR2
  obtain ⟨zs, hzs⟩ : ∃ zs, zs = mixR xs ys s := ⟨_, rfl⟩
  obtain ⟨k, hk⟩ : ∃ k, k = zs.length := ⟨_, rfl⟩
  have hk1 : k ≤ 1000 := by rw [hk, hzs]; exact mixR_len xs ys s
  have HS : Hid (∀ w a c b d, Row w a n c xs → Row w b m d ys → Calls Try.prog 13 #[.slice a n c, .slice b m d, .string s] w fun e w' => Fresh w w' e k zs) := by
    intro w a c b d h h2; rw [hk, hzs]; exact sMixOf_all w a b n c m d xs ys s h h2
  have HI : Hid (∀ w a c b d, Row w a n c xs → Row w b m d ys → Calls Try.prog 15 #[.slice a n c, .slice b m d, .string s] w fun e w' => Fresh w w' e k zs) := by
    intro w a c b d h h2; rw [hk, hzs]; exact MixOf_all w a b n c m d xs ys s h h2
  clear hk hzs
  go_enter Try.func3, Try.ntmps3
  go_wp2_with fail
  refine (toIntS_any w a n c xs hrow (by omega)).mono ?_
  rintro e w1 ⟨a1, c1, rfl, own1, b1⟩
  go_wp2_with fail
  refine (toIntS_any w1 b m d ys (hrow2.below b1) (by omega)).mono ?_
  rintro e v1 ⟨d1, e1, rfl, dwn1, g1⟩
  have l1 := bstep b1 g1
  go_wp2_with fail
  refine (HS.out v1 a1 c1 d1 e1 ((own1.below g1).row (by omega)) (dwn1.row (by omega))).mono ?_
  rintro e w2 ⟨a2, c2, rfl, own2, b2⟩
  have l2 := bstep l1 b2
  go_wp2_with fail
  refine (toIntS_any w2 a n c xs (hrow.below l2) (by omega)).mono ?_
  rintro e w3 ⟨a3, c3, rfl, own3, b3⟩
  have l3 := bstep l2 b3
  go_wp2_with fail
  refine (toIntS_any w3 b m d ys (hrow2.below l3) (by omega)).mono ?_
  rintro e v3 ⟨d3, e3, rfl, dwn3, g3⟩
  have l3b := bstep l3 g3
  have own33 := own3.below g3
  go_wp2_with fail
  refine (HI.out v3 a3 c3 d3 e3 (own33.row (by omega)) (dwn3.row (by omega))).mono ?_
  rintro e w4 ⟨a4, c4, rfl, own4, b4⟩
  have l4 := bstep l3b b4
  have z4 := bstep (bstep b3 g3) b4
  have r2 := own2.row (by omega)
  have own34 := own33.below b4
  have dwn34 := dwn3.below b4
  clear l1 l2 l3 l3b own1 dwn1 own33
  go_wp2_with fail
  refine (eqIntS_any_eq w4 a4 a2 k k c4 c2 _ _ (own4.row (by omega)) (r2.below z4) rfl).mono ?_
  rintro e w5 ⟨rfl, b5⟩
  have l5 := bstep l4 b5
  have z5 := bstep z4 b5
  go_wp2_with fail
  refine (toIntS_any w5 a n c xs (hrow.below l5) (by omega)).mono ?_
  rintro e w6 ⟨a6, c6, rfl, own6, b6⟩
  have l6 := bstep l5 b6
  have z6 := bstep z5 b6
  have own36 := (own34.below b5).below b6
  have dwn36 := (dwn34.below b5).below b6
  have own46 := (own4.below b5).below b6
  clear own34 dwn34 l4 z4 l5 z5 b5 b6
  go_wp2_with fail
  refine (eqIntS_any_eq w6 a3 a6 n n c3 c6 _ _ (own36.row (by omega)) (own6.row (by omega)) rfl).mono ?_
  rintro e w7 ⟨rfl, b7⟩
  have l7 := bstep l6 b7
  have z7 := bstep z6 b7
  have own37 := own36.below b7
  have dwn37 := dwn36.below b7
  have own47 := own46.below b7
  clear own36 dwn36 own46 l6 z6 b7 own6
  go_wp2_with fail
  refine (toIntS_any w7 b m d ys (hrow2.below l7) (by omega)).mono ?_
  rintro e v8 ⟨d8, e8, rfl, dwn8, g8⟩
  have l8 := bstep l7 g8
  have z8 := bstep z7 g8
  have own38 := own37.below g8
  have dwn38 := dwn37.below g8
  have own48 := own47.below g8
  clear own37 dwn37 own47 l7 z7 g8
  go_wp2_with fail
  refine (eqIntS_any_eq v8 d3 d8 m m e3 e8 _ _ (dwn38.row (by omega)) (dwn8.row (by omega)) rfl).mono ?_
  rintro e w9 ⟨rfl, b9⟩
  have l9 := bstep l8 b9
  have z9 := bstep z8 b9
  have own39 := own38.below b9
  have dwn39 := dwn38.below b9
  have own49 := own48.below b9
  clear own38 dwn38 own48 l8 z8 b9 dwn8
  go_wp2_with fail
  refine (markIntS_any w9 w2.heap.size a3 n c3 xs 1 own39 (by omega) (by omega) (by omega)).mono ?_
  rintro e w10 ⟨rfl, own310, g10⟩
  have s2 : w.heap.size ≤ w2.heap.size := by have := b1.size; have := g1.size; have := b2.size; omega
  have s3 : w2.heap.size ≤ w3.heap.size := b3.size
  have s4 : w3.heap.size ≤ v3.heap.size := g3.size
  have l10 := below_app l9 g10 own39 s2 l9.size
  have z10 := below_app z9 g10 own39 (Nat.le_refl _) z9.size
  have dwn310 := dwn39.after g10 own3 (Nat.le_refl _)
  have own410 := own49.after g10 own3 s4
  clear own39 dwn39 own49 l9 z9 g10
  go_wp2_with fail
  refine (markIntS_any w10 w3.heap.size d3 m e3 ys (1 + n) dwn310 (by omega) (by omega) (by omega)).mono ?_
  rintro e w11 ⟨rfl, dwn311, g11⟩
  have l11 := below_app l10 g11 dwn310 (Nat.le_trans s2 s3) l10.size
  have z11 := below_app z10 g11 dwn310 s3 z10.size
  have own411 := own410.after g11 dwn3 (Nat.le_refl _)
  clear own410 dwn310 l10 z10 g11
  go_wp2_with fail
  refine (eqIntS_any_eq w11 a4 a2 k k c4 c2 _ _ (own411.row (by omega)) (r2.below z11) rfl).mono ?_
  rintro e w12 ⟨rfl, b12⟩
  have l12 := bstep l11 b12
  have z12 := bstep z11 b12
  have own412 := own411.below b12
  clear own411 l11 z11 b12
  go_wp2_with fail
  refine (markIntS_any w12 v3.heap.size a4 k c4 zs 1 own412 (by omega) (by omega) (by omega)).mono ?_
  rintro e w13 ⟨rfl, own413, g13⟩
  have l13 := below_app l12 g13 own412 (by omega) l12.size
  have z13 := below_app z12 g13 own412 (by omega) z12.size
  clear own412 l12 z12 g13
  go_wp2_with fail
  refine (heldIntS_any w13 a4 k c4 1 (own413.row (by omega)) (by omega) (by omega) (by omega)).mono ?_
  rintro e w' ⟨rfl, rfl⟩
  go_wp2_with fail
  refine (toIntS_any w13 a n c xs (hrow.below l13) (by omega)).mono ?_
  rintro e w14 ⟨a14, c14, rfl, own14, b14⟩
  have l14 := bstep l13 b14
  have z14 := bstep z13 b14
  go_wp2_with fail
  refine (toIntS_any w14 b m d ys (hrow2.below l14) (by omega)).mono ?_
  rintro e v14 ⟨d14, e14, rfl, dwn14, g14⟩
  have l15 := bstep l14 g14
  have z15 := bstep z14 g14
  go_wp2_with fail
  refine (HI.out v14 a14 c14 d14 e14 ((own14.below g14).row (by omega)) (dwn14.row (by omega))).mono ?_
  rintro e w16 ⟨a16, c16, rfl, own16, b16⟩
  have l16 := bstep l15 b16
  have z16 := bstep z15 b16
  have own416 := ((own413.below b14).below g14).below b16
  go_wp2_with fail
  refine (eqIntS_any_eq w16 a16 a2 k k c16 c2 _ _ (own16.row (by omega)) (r2.below z16) rfl).mono ?_
  rintro e w17 ⟨rfl, b17⟩
  have l17 := bstep l16 b17
  go_wp2_with fail
  refine (heldIntS_any w17 a4 k c4 1 ((own416.below b17).row (by omega)) (by omega) (by omega) (by omega)).mono ?_
  rintro e w' ⟨rfl, rfl⟩
  go_wp2_with fail
  go_ret
  exact ⟨ret_bool (by simp), l17⟩
end Go.Proofs.Ytccddkgpcgnaoaa
