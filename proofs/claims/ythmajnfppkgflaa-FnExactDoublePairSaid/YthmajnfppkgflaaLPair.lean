/-
  The laws of IsQuiet, ArePaired, DoublePair, and the exact law of DoublePair.
-/
import Derived.Test.YthmajnfppkgflaaDSign
namespace Go.Proofs.Ythmajnfppkgflaa
open Go.RowKit

theorem on_turn {xs : List Int} {n : Nat} (h : onF xs n = true) : onF (tab (fun i => el xs (n - 1 - i)) n) n = true :=
  onF_iff.2 fun i hi => by rw [el_tab hi]; exact onF_iff.1 h _ (by omega)
theorem on_neg {xs : List Int} {n : Nat} (h : onF xs n = true) : onF (tab (fun i => -1 * el xs i) n) n = true :=
  onF_iff.2 fun i hi => by rw [el_tab hi]; rcases onF_iff.1 h i hi with e | e <;> rw [e] <;> simp
theorem neg_valid {xs : List Int} {n : Nat} (hl : xs.length = n) (hv : valid xs = true) : valid (tab (fun i => -1 * el xs i) n) = true := by
  obtain ⟨h1, h2⟩ := valid_iff.1 hv
  rw [hl] at h1 h2
  exact valid_iff.2 ⟨by rw [tab_length]; exact h1, fun i hi => by rw [tab_length] at hi; rw [el_tab hi]; have := h2 _ hi; omega⟩
theorem sf_tabturn {xs : List Int} {n d : Nat} (hd : d < n) : sfAt (el (tab (fun i => el xs (n - 1 - i)) n)) n d = sfAt (el xs) n d := by
  have e : sfAt (el (tab (fun i => el xs (n - 1 - i)) n)) n d = sfAt (fun i => el xs (n - 1 - i)) n d := sf_congr fun i hi => el_tab hi
  rw [e]; exact sf_turn (el xs) hd
theorem sf_tabneg {xs : List Int} {n d : Nat} : sfAt (el (tab (fun i => -1 * el xs i) n)) n d = sfAt (el xs) n d := by
  have e : sfAt (el (tab (fun i => -1 * el xs i) n)) n d = sfAt (fun i => -1 * el xs i) n d := sf_congr fun i hi => el_tab hi
  rw [e]; exact sf_neg (el xs) n d
theorem quiet_turn {xs : List Int} {n : Nat} (hl : xs.length = n) (h : quietB xs = true) : quietB (tab (fun i => el xs (n - 1 - i)) n) = true := by
  obtain ⟨h1, h2, h3, h4⟩ := quiet_iff.1 h
  rw [hl] at h2 h3 h4
  refine quiet_iff.2 ⟨turned_valid hl h1, by rw [tab_length]; exact h2, by rw [tab_length]; exact on_turn h3, ?_⟩
  rw [tab_length, quietN]
  refine qtF_iff.2 fun i hi => ?_
  have := qtF_iff.1 h4 i hi
  rw [sf1, sf_tabturn (by omega)]; exact this
theorem quiet_neg {xs : List Int} {n : Nat} (hl : xs.length = n) (h : quietB xs = true) : quietB (tab (fun i => -1 * el xs i) n) = true := by
  obtain ⟨h1, h2, h3, h4⟩ := quiet_iff.1 h
  rw [hl] at h2 h3 h4
  refine quiet_iff.2 ⟨neg_valid hl h1, by rw [tab_length]; exact h2, by rw [tab_length]; exact on_neg h3, ?_⟩
  rw [tab_length, quietN]
  refine qtF_iff.2 fun i hi => ?_
  have := qtF_iff.1 h4 i hi
  rw [sf1, sf_tabneg]; exact this
/-- What a test of pairs needs to know of its rows. -/
theorem pair_mk {xs ys us vs : List Int} {n : Nat} (h : pairB xs ys = true) (hl : xs.length = n) (hu : us.length = n) (hv : vs.length = n) (h1 : valid us = true) (h2 : valid vs = true) (h3 : onF us n = true) (h4 : onF vs n = true)
    (he : ∀ d, d < n → sfAt (el us) n d + sfAt (el vs) n d = sfAt (el xs) n d + sfAt (el ys) n d) : pairB us vs = true := by
  obtain ⟨g1, g2⟩ := pair_iff.1 h
  obtain ⟨_, _, g3, g4, _, _⟩ := pairOk_iff.1 g1
  refine pair_iff.2 ⟨pairOk_iff.2 ⟨h1, h2, by omega, by omega, by rw [hu]; exact h3, by rw [hv]; exact h4⟩, ?_⟩
  rw [hu]
  rw [hl] at g2
  exact zrF_iff.2 fun i hi => by
    have := zrF_iff.1 g2 i hi
    rw [pr1] at this ⊢
    rw [he (i + 1) (by omega)]; exact this
theorem pair_parts {xs ys : List Int} {n : Nat} (h : pairB xs ys = true) (hl : xs.length = n) : ys.length = n ∧ 0 < n ∧ n ≤ 16 ∧ valid xs = true ∧ valid ys = true ∧ onF xs n = true ∧ onF ys n = true := by
  obtain ⟨g1, _⟩ := pair_iff.1 h
  obtain ⟨h1, h2, g3, g4, g5, g6⟩ := pairOk_iff.1 g1
  have := valid_len h1
  rw [hl] at g5
  have hy : ys.length = n := by omega
  rw [hy] at g6
  exact ⟨hy, by omega, by omega, h1, h2, g5, g6⟩
theorem pair_swap {xs ys : List Int} {n : Nat} (h : pairB xs ys = true) (hl : xs.length = n) : pairB ys xs = true := by
  obtain ⟨p1, p2, p3, p4, p5, p6, p7⟩ := pair_parts h hl
  exact pair_mk h hl p1 hl p5 p4 p7 p6 fun d _ => Int.add_comm _ _
theorem pair_turn {xs ys : List Int} {n : Nat} (h : pairB xs ys = true) (hl : xs.length = n) : pairB (tab (fun i => el xs (n - 1 - i)) n) ys = true := by
  obtain ⟨p1, p2, p3, p4, p5, p6, p7⟩ := pair_parts h hl
  exact pair_mk h hl (tab_length _ _) p1 (turned_valid hl p4) p5 (on_turn p6) p7 fun d hd => by rw [sf_tabturn hd]
theorem pair_neg {xs ys : List Int} {n : Nat} (h : pairB xs ys = true) (hl : xs.length = n) : pairB xs (tab (fun i => -1 * el ys i) n) = true := by
  obtain ⟨p1, p2, p3, p4, p5, p6, p7⟩ := pair_parts h hl
  exact pair_mk h hl hl (tab_length _ _) p4 (neg_valid p1 p5) p6 (on_neg p7) fun d hd => by rw [sf_tabneg]
theorem on_en {xs : List Int} {n : Nat} (h : onF xs n = true) : en (el xs) n = n := by
  have : en (el xs) n = sm (fun _ => 1) n := sm_congr fun i hi => by
    rcases onF_iff.1 h i hi with e | e <;> rw [e] <;> rfl
  rw [this]
  clear this h
  induction n with
  | zero => rfl
  | succ n ih => rw [sm, ih]; omega
theorem dp_pair {xs ys : List Int} {n : Nat} (h : dpOk xs ys = true) (hl : xs.length = n) : pairB (dpL 1 xs ys n) (dpL (-1) xs ys n) = true := by
  obtain ⟨hp, h16⟩ := dpOk_iff.1 h
  obtain ⟨p1, p2, p3, p4, p5, p6, p7⟩ := pair_parts hp hl
  obtain ⟨g1, g2⟩ := pair_iff.1 hp
  rw [hl] at g2
  have hz : ∀ d, 1 ≤ d → d < n → sfAt (el xs) n d + sfAt (el ys) n d = 0 := fun d h1 h2 => by
    have := zrF_iff.1 g2 (d - 1) (by omega)
    rw [pr1, show d - 1 + 1 = d by omega] at this; exact this
  have hon : ∀ s : Int, (s = 1 ∨ s = -1) → ∀ i, i < n + n → el (dpL s xs ys n) i = 1 ∨ el (dpL s xs ys n) i = -1 := fun s hs i hi => by
    rw [dpL, el_tab hi, dbl]
    split
    · exact onF_iff.1 p6 i (by omega)
    · rcases onF_iff.1 p7 (i - n) (by omega) with e | e <;> rw [e] <;> rcases hs with e | e <;> rw [e] <;> simp
  have hvd : ∀ s : Int, (s = 1 ∨ s = -1) → valid (dpL s xs ys n) = true := fun s hs => valid_iff.2 ⟨by rw [dpL, tab_length]; omega, fun i hi => by
    rw [dpL, tab_length] at hi
    rcases hon s hs i hi with e | e <;> rw [e] <;> omega⟩
  refine pair_iff.2 ⟨pairOk_iff.2 ⟨hvd 1 (.inl rfl), hvd (-1) (.inr rfl), by rw [dpL, tab_length]; omega, by rw [dpL, dpL, tab_length, tab_length], ?_, ?_⟩, ?_⟩
  · rw [dpL, tab_length]; exact onF_iff.2 (hon 1 (.inl rfl))
  · rw [dpL, tab_length]; exact onF_iff.2 (hon (-1) (.inr rfl))
  · rw [dpL, tab_length]
    refine zrF_iff.2 fun i hi => ?_
    have e1 : sfAt (el (tab (dbl 1 (el xs) (el ys) n) (n + n))) (n + n) (i + 1) = sfAt (dbl 1 (el xs) (el ys) n) (n + n) (i + 1) := sf_congr fun j hj => el_tab hj
    have e2 : sfAt (el (dpL (-1) xs ys n)) (n + n) (i + 1) = sfAt (dbl (-1) (el xs) (el ys) n) (n + n) (i + 1) := sf_congr fun j hj => el_tab hj
    rw [pr1, e1, e2]
    have := sf_double (el xs) (el ys) (n := n) (d := i + 1) hz (by omega) (by omega)
    rw [show 2 * n = n + n by omega] at this; exact this

set_option maxHeartbeats 1600000 in
theorem law_IsQuiet (w : World) (a : Option Addr) (n c : Nat) (h : Bts w a n w.heap.size) (hnc : n ≤ c) :
    Calls Try.prog 4 #[.slice a n c] w fun e w' => Says w w' e true := by
  by_cases hbig : 1048576 < n
  · go_enter Try.func4, Try.ntmps4
    go_wp2
    go_ret
    exact ⟨rfl, Below.refl _ _⟩
  go_enter Try.func4, Try.ntmps4
  go_wp2_with fail
  refine (DrawIsQuiet_any w a n c h hnc (by omega)).mono ?_
  rintro e w1 ⟨a1, m, c1, xs, rfl, hm, hown, hbl⟩
  have hrow := hown.row (by omega)
  have hlen : Hid (xs.length = m) := hrow.len
  obtain ⟨v, hvv⟩ : ∃ v, v = quietB xs := ⟨_, rfl⟩
  have HS : Hid (∀ w, Row w a1 m c1 xs → Calls Try.prog 17 #[.slice a1 m c1] w fun e w' => Says w w' e v) := by
    intro w h; rw [hvv]; exact sIsQuiet_all w a1 m c1 xs h
  have HI : Hid (∀ w, Row w a1 m c1 xs → Calls Try.prog 16 #[.slice a1 m c1] w fun e w' => Says w w' e v) := by
    intro w h; rw [hvv]; exact IsQuiet_all w a1 m c1 xs h
  have HV : Hid (v = true → quietB xs = true) := fun h0 => by rw [← hvv]; exact h0
  clear hvv
  go_wp2_with fail
  refine (HI.out w1 hrow).mono ?_
  rintro e w2 ⟨rfl, b2⟩
  go_wp2_with fail
  refine (HS.out w2 (hrow.below b2)).mono ?_
  rintro e w3 ⟨rfl, b3⟩
  have l3 := bstep (bstep hbl b2) b3
  have r3 := (hrow.below b2).below b3
  cases v
  · go_wp2_with fail
    refine (HS.out w3 r3).mono ?_
    rintro e w4 ⟨rfl, b4⟩
    go_wp2_with fail
    go_ret
    exact ⟨ret_bool (by simp), bstep l3 b4⟩
  · have hq := HV.out rfl
    have HT := Lib.hid (quiet_turn hlen.out hq)
    have HN := Lib.hid (quiet_neg hlen.out hq)
    have hvx := (quiet_iff.1 hq).1
    have hm16 : m ≤ 16 := by have := valid_len hvx; rw [hlen.out] at this; exact this
    have HSB : Hid (∀ i, i < m → -1000000000000 ≤ (-1 : Int) * el xs i ∧ (-1 : Int) * el xs i ≤ 1000000000000) := fun i hi => by
      have := valid_bd hvx (i := i) (by rw [hlen.out]; exact hi); omega
    clear hq hvx
    go_wp2_with fail
    refine (turned_any w3 a1 m c1 xs r3 (by omega)).mono ?_
    rintro e w4 ⟨a4, c4, rfl, own4, b4⟩
    go_wp2_with fail
    refine (IsQuiet_all w4 a4 m c4 _ (own4.row (by omega))).mono ?_
    rw [HT.out]
    rintro e w5 ⟨rfl, b5⟩
    have l5 := bstep (bstep l3 b4) b5
    go_wp2_with fail
    refine (scaled_any w5 a1 m c1 xs (-1) ((r3.below b4).below b5) (by omega) HSB.out).mono ?_
    rintro e w6 ⟨a6, c6, rfl, own6, b6⟩
    go_wp2_with fail
    refine (IsQuiet_all w6 a6 m c6 _ (own6.row (by omega))).mono ?_
    rw [HN.out]
    rintro e w7 ⟨rfl, b7⟩
    go_wp2_with fail
    go_ret
    exact ⟨ret_bool (by simp), bstep (bstep l5 b6) b7⟩
set_option maxHeartbeats 3200000 in
theorem law_ArePaired (w : World) (a : Option Addr) (n c : Nat) (h : Bts w a n w.heap.size) (hnc : n ≤ c) :
    Calls Try.prog 6 #[.slice a n c] w fun e w' => Says w w' e true := by
  by_cases hbig : 1048576 < n
  · go_enter Try.func6, Try.ntmps6
    go_wp2
    go_ret
    exact ⟨rfl, Below.refl _ _⟩
  go_enter Try.func6, Try.ntmps6
  go_wp2_with fail
  refine (DrawArePaired_any w a n c h hnc (by omega)).mono ?_
  rintro e w1 ⟨a1, d1, m, c1, m2, f1, xs, ys, rfl, hm, hm2, hown, hown2, hbl⟩
  have rx := hown.row (show m ≤ 1125899906842624 by omega)
  have ry := hown2.row (show m2 ≤ 1125899906842624 by omega)
  have hlen : Hid (xs.length = m) := rx.len
  have hlen2 : Hid (ys.length = m2) := ry.len
  clear hown hown2
  obtain ⟨v, hvv⟩ : ∃ v, v = pairB xs ys := ⟨_, rfl⟩
  have HS : Hid (∀ w, Row w a1 m c1 xs → Row w d1 m2 f1 ys → Calls Try.prog 27 #[.slice a1 m c1, .slice d1 m2 f1] w fun e w' => Says w w' e v) := by
    intro w h h2; rw [hvv]; exact sArePaired_all w a1 d1 m c1 m2 f1 xs ys h h2
  have HI : Hid (∀ w, Row w a1 m c1 xs → Row w d1 m2 f1 ys → Calls Try.prog 26 #[.slice a1 m c1, .slice d1 m2 f1] w fun e w' => Says w w' e v) := by
    intro w h h2; rw [hvv]; exact ArePaired_all w a1 d1 m c1 m2 f1 xs ys h h2
  have HV : Hid (v = true → pairB xs ys = true) := fun h0 => by rw [← hvv]; exact h0
  clear hvv
  go_wp2_with fail
  refine (HI.out w1 rx ry).mono ?_
  rintro e w2 ⟨rfl, b2⟩
  go_wp2_with fail
  refine (HS.out w2 (rx.below b2) (ry.below b2)).mono ?_
  rintro e w3 ⟨rfl, b3⟩
  have l3 := bstep (bstep hbl b2) b3
  have rx3 := (rx.below b2).below b3
  have ry3 := (ry.below b2).below b3
  cases v
  · go_wp2_with fail
    refine (HS.out w3 rx3 ry3).mono ?_
    rintro e w4 ⟨rfl, b4⟩
    go_wp2_with fail
    go_ret
    exact ⟨ret_bool (by simp), bstep l3 b4⟩
  · have hp := HV.out rfl
    obtain ⟨p1, p2, p3, p4, p5, p6, p7⟩ := pair_parts hp hlen.out
    have hmm : m2 = m := by have := hlen2.out; omega
    subst hmm
    have HW := Lib.hid (pair_swap hp hlen.out)
    have HT := Lib.hid (pair_turn hp hlen.out)
    have HN := Lib.hid (pair_neg hp hlen.out)
    have HSB : Hid (∀ i, i < m2 → -1000000000000 ≤ (-1 : Int) * el ys i ∧ (-1 : Int) * el ys i ≤ 1000000000000) := fun i hi => by
      have := valid_bd p5 (i := i) (by rw [hlen2.out]; exact hi); omega
    have HE1 := Lib.hid (on_en p6)
    have HE2 := Lib.hid (on_en p7)
    clear hp p1 p6 p7 b2 b3 rx ry hbl
    go_wp2_with fail
    refine (ArePaired_all w3 d1 a1 m2 f1 m2 c1 ys xs ry3 rx3).mono ?_
    rw [HW.out]
    rintro e w4 ⟨rfl, b4⟩
    have l4 := bstep l3 b4
    have rx4 := rx3.below b4
    have ry4 := ry3.below b4
    clear rx3 ry3 l3 b4
    go_wp2_with fail
    refine (turned_any w4 a1 m2 c1 xs rx4 (by omega)).mono ?_
    rintro e w5 ⟨a5, c5, rfl, own5, b5⟩
    go_wp2_with fail
    refine (ArePaired_all w5 a5 d1 m2 c5 m2 f1 _ ys (own5.row (by omega)) (ry4.below b5)).mono ?_
    rw [HT.out]
    rintro e w6 ⟨rfl, b6⟩
    have l6 := bstep (bstep l4 b5) b6
    have rx6 := (rx4.below b5).below b6
    have ry6 := (ry4.below b5).below b6
    clear rx4 ry4 l4 own5 b5 b6
    go_wp2_with fail
    refine (scaled_any w6 d1 m2 f1 ys (-1) ry6 (by omega) HSB.out).mono ?_
    rintro e w7 ⟨a7, c7, rfl, own7, b7⟩
    go_wp2_with fail
    refine (ArePaired_all w7 a1 a7 m2 c1 m2 c7 xs _ (rx6.below b7) (own7.row (by omega))).mono ?_
    rw [HN.out]
    rintro e w8 ⟨rfl, b8⟩
    have l8 := bstep (bstep l6 b7) b8
    have rx8 := (rx6.below b7).below b8
    have ry8 := (ry6.below b7).below b8
    clear rx6 ry6 l6 own7 b7 b8
    go_wp2_with fail
    refine (EnergyOf_yes w8 a1 m2 c1 xs rx8 p4).mono ?_
    rw [HE1.out]
    rintro e w' ⟨rfl, rfl⟩
    go_wp2_with fail
    refine (EnergyOf_yes w8 d1 m2 f1 ys ry8 p5).mono ?_
    rw [HE2.out]
    rintro e w' ⟨rfl, rfl⟩
    go_wp2_with fail
    go_ret
    exact ⟨ret_bool (by simp <;> omega), l8⟩
end Go.Proofs.Ythmajnfppkgflaa
