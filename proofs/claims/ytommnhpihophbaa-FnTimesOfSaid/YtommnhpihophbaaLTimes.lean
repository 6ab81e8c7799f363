/-
  The law of TimesOf for drawn rows: the walk of laws.FnTimesOf answers true, given that the codes lie in memory.
-/
import Derived.Test.YtommnhpihophbaaTimes2
import Derived.Test.YtommnhpihophbaaDraw2
namespace Go.Proofs.Ytommnhpihophbaa
open Go.RowKit

def twoB (xs ys : List Int) : Bool := valid xs && valid ys

set_option maxHeartbeats 400000 in
theorem TimesOf_no (w : World) (a b : Option Addr) (n m c d : Nat) (xs ys : List Int) (h : Row w a n c xs) (h2 : Row w b m d ys) (hv : twoB xs ys = false) :
    Calls Try.prog 24 #[.slice a n c, .slice b m d] w fun e w' => e = .returned (.slice none 0 0) ∧ w = w' := by
  cases hx : valid xs
  · go_enter Try.func24, Try.ntmps24
    go_wp2_with fail
    refine (ValidRow_is w a n c xs false h hx).mono ?_
    rintro e w' ⟨rfl, rfl⟩
    go_wp2_with fail
    go_ret
    exact ⟨rfl, rfl⟩
  · have hy : valid ys = false := by rw [twoB, hx] at hv; simpa using hv
    go_enter Try.func24, Try.ntmps24
    go_wp2_with fail
    refine (ValidRow_is w a n c xs true h hx).mono ?_
    rintro e w' ⟨rfl, rfl⟩
    go_wp2_with fail
    refine (ValidRow_is w b m d ys false h2 hy).mono ?_
    rintro e w' ⟨rfl, rfl⟩
    go_wp2_with fail
    go_ret
    exact ⟨rfl, rfl⟩
set_option maxHeartbeats 400000 in
theorem sTimesOf_no (w : World) (a b : Option Addr) (n m c d : Nat) (xs ys : List Int) (h : Row w a n c xs) (h2 : Row w b m d ys) (hv : twoB xs ys = false) :
    Calls Try.prog 25 #[.slice a n c, .slice b m d] w fun e w' => e = .returned (.slice none 0 0) ∧ w = w' := by
  cases hx : valid xs
  · go_enter Try.func25, Try.ntmps25
    go_wp2_with fail
    refine (validRow_is w a n c xs false h hx).mono ?_
    rintro e w' ⟨rfl, rfl⟩
    go_wp2_with fail
    go_ret
    exact ⟨rfl, rfl⟩
  · have hy : valid ys = false := by rw [twoB, hx] at hv; simpa using hv
    go_enter Try.func25, Try.ntmps25
    go_wp2_with fail
    refine (validRow_is w a n c xs true h hx).mono ?_
    rintro e w' ⟨rfl, rfl⟩
    go_wp2_with fail
    refine (validRow_is w b m d ys false h2 hy).mono ?_
    rintro e w' ⟨rfl, rfl⟩
    go_wp2_with fail
    go_ret
    exact ⟨rfl, rfl⟩

set_option maxHeartbeats 400000 in
theorem TimesOf_empty (w : World) (a b : Option Addr) (n m c d : Nat) (xs ys : List Int) (h : Row w a n c xs) (h2 : Row w b m d ys) (hv : valid xs = true) (hw : valid ys = true) (h0 : n = 0 ∨ m = 0) :
    Calls Try.prog 24 #[.slice a n c, .slice b m d] w fun e w' => Fresh w w' e 0 [] := by
  by_cases hn : n = 0
  · subst hn
    go_enter Try.func24, Try.ntmps24
    go_wp2_with fail
    refine (ValidRow_is w a 0 c xs true h hv).mono ?_
    rintro e w' ⟨rfl, rfl⟩
    go_wp2_with fail
    refine (ValidRow_is w b m d ys true h2 hw).mono ?_
    rintro e w' ⟨rfl, rfl⟩
    go_wp2_with fail
    go_ret
    exact Fresh.mk (own_empty w) ((Below.refl _ _).alloc (Nat.le_refl _) _)
  · obtain rfl : m = 0 := by omega
    have hnb : ((n : Int) == 0) = false := by simp; omega
    go_enter Try.func24, Try.ntmps24
    go_wp2_with fail
    refine (ValidRow_is w a n c xs true h hv).mono ?_
    rintro e w' ⟨rfl, rfl⟩
    go_wp2_with fail
    refine (ValidRow_is w b 0 d ys true h2 hw).mono ?_
    rintro e w' ⟨rfl, rfl⟩
    go_wp2_with fail
    go_ret
    exact Fresh.mk (own_empty w) ((Below.refl _ _).alloc (Nat.le_refl _) _)
set_option maxHeartbeats 400000 in
theorem product_empty (w : World) (a b : Option Addr) (n m c d : Nat) (h0 : n = 0 ∨ m = 0) :
    Calls Try.prog 65 #[.slice a n c, .slice b m d] w fun e w' => Fresh w w' e 0 [] := by
  by_cases hn : n = 0
  · subst hn
    go_enter Try.func65, Try.ntmps65
    go_wp2_with fail
    go_ret
    exact Fresh.mk (own_empty w) ((Below.refl _ _).alloc (Nat.le_refl _) _)
  · obtain rfl : m = 0 := by omega
    have hnb : ((n : Int) == 0) = false := by simp; omega
    go_enter Try.func65, Try.ntmps65
    go_wp2_with fail
    go_ret
    exact Fresh.mk (own_empty w) ((Below.refl _ _).alloc (Nat.le_refl _) _)

set_option maxHeartbeats 400000 in
theorem sTimesOf_yes (w : World) (a b : Option Addr) (n m c d : Nat) (xs ys : List Int) (h : Row w a n c xs) (h2 : Row w b m d ys) (hv : valid xs = true) (hw : valid ys = true) (hn0 : 0 < n) (hm0 : 0 < m) :
    Calls Try.prog 25 #[.slice a n c, .slice b m d] w fun e w' => Fresh w w' e (n + m - 1) (prodL xs ys n m) := by
  go_enter Try.func25, Try.ntmps25
  go_wp2_with fail
  refine (validRow_is w a n c xs true h hv).mono ?_
  rintro e w' ⟨rfl, rfl⟩
  go_wp2_with fail
  refine (validRow_is w b m d ys true h2 hw).mono ?_
  rintro e w' ⟨rfl, rfl⟩
  go_wp2_with fail
  refine (product_yes w a b n m c d xs ys h h2 hv hw hn0 hm0).mono ?_
  rintro e w' ⟨a1, c1, rfl, hown, hbl⟩
  go_wp2_with fail
  go_ret
  exact Fresh.mk hown hbl
set_option maxHeartbeats 400000 in
theorem sTimesOf_empty (w : World) (a b : Option Addr) (n m c d : Nat) (xs ys : List Int) (h : Row w a n c xs) (h2 : Row w b m d ys) (hv : valid xs = true) (hw : valid ys = true) (h0 : n = 0 ∨ m = 0) :
    Calls Try.prog 25 #[.slice a n c, .slice b m d] w fun e w' => Fresh w w' e 0 [] := by
  go_enter Try.func25, Try.ntmps25
  go_wp2_with fail
  refine (validRow_is w a n c xs true h hv).mono ?_
  rintro e w' ⟨rfl, rfl⟩
  go_wp2_with fail
  refine (validRow_is w b m d ys true h2 hw).mono ?_
  rintro e w' ⟨rfl, rfl⟩
  go_wp2_with fail
  refine (product_empty w a b n m c d h0).mono ?_
  rintro e w' ⟨a1, c1, rfl, hown, hbl⟩
  go_wp2_with fail
  go_ret
  exact Fresh.mk hown hbl

/-- What a call hands back that draws two rows. -/
def DrawnTwo (w w' : World) (e : Ending) : Prop :=
  ∃ (a b : Option Addr) (n m c d : Nat) (xs ys : List Int), e = .returned (.tuple #[.slice a n c, .slice b m d]) ∧ n ≤ 33 ∧ m ≤ 33 ∧ Own w' w.heap.size a n c xs ∧ Own w' w.heap.size b m d ys ∧ Below w.heap.size w w'

set_option maxHeartbeats 400000 in
theorem DrawTimesOf_any (w : World) (a : Option Addr) (n c : Nat) (h : Bts w a n w.heap.size) (hnc : n ≤ c) (hn : n ≤ 140737488355328) :
    Calls Try.prog 23 #[.slice a n c] w fun e w' => DrawnTwo w w' e := by
  go_enter Try.func23, Try.ntmps23
  go_wp2_with fail
  refine (newReader_any w a n c h hnc hn).mono ?_
  rintro e w1 ⟨rfl, hrd, hbl⟩
  have hsz := hrd.lt
  go_wp2_with fail
  refine (someRow_any w1 w.heap.size 0 hrd (by omega)).mono ?_
  rintro e w2 ⟨a2, m, c2, xs, q, rfl, hm, hq, hown, hask⟩
  have hsz2 := hask.gr.size
  go_wp2_with fail
  refine (someRow_any w2 w.heap.size q hask.rdr (by omega)).mono ?_
  rintro e w3 ⟨a3, m3, c3, ys, q3, rfl, hm3, hq3, hown3, hask3⟩
  have hown4 := hown.grown hask3.gr (by omega)
  have hbl3 := below_asked hbl (hask.trans hask3) (Nat.le_refl _) hsz
  go_wp2_with fail
  go_ret2
  exact ⟨a2, a3, m, m3, c2, c3, xs, ys, rfl, hm, hm3, hown4.mono (by omega), hown3.mono (by omega), hbl3⟩

theorem turn_el (xs : List Int) (n : Nat) (_h : xs.length = n) : el (tab (fun i => el xs (n - 1 - i)) n) = fun i => if i < n then el xs (n - 1 - i) else 0 := by
  funext i
  by_cases hi : i < n
  · rw [el_tab hi, if_pos hi]
  · rw [el_out (by rw [tab_length]; omega), if_neg hi]
theorem turn_valid {xs : List Int} {n : Nat} (h : xs.length = n) (hv : valid xs = true) : valid (tab (fun i => el xs (n - 1 - i)) n) = true := by
  refine valid_iff.2 ⟨?_, fun i hi => ?_⟩
  · rw [tab_length, ← h]; exact valid_len hv
  · rw [tab_length] at hi; rw [el_tab hi]; exact valid_bd hv (by omega)
theorem prod_comm (xs ys : List Int) (n m : Nat) (h : xs.length = n) (h2 : ys.length = m) : prodL ys xs m n = prodL xs ys n m := by
  rw [prodL, prodL, show m + n - 1 = n + m - 1 by omega]
  exact tab_congr fun r _ => cv_comm (fun i hi => el_out (by omega)) (fun i hi => el_out (by omega)) r
theorem prod_turn (xs ys : List Int) (n m : Nat) (h : xs.length = n) (h2 : ys.length = m) (hn : 0 < n) (hm : 0 < m) :
    prodL (tab (fun i => el xs (n - 1 - i)) n) (tab (fun i => el ys (m - 1 - i)) m) n m = tab (fun i => el (prodL xs ys n m) (n + m - 1 - 1 - i)) (n + m - 1) := by
  rw [prodL]
  refine tab_congr fun r hr => ?_
  rw [turn_el xs n h, turn_el ys m h2, prodL, el_tab (by omega)]
  exact cv_turn hn hm hr fun i hi => el_out (by omega)
theorem prod_bd {xs ys : List Int} (hv : valid xs = true) (hw : valid ys = true) {n m : Nat} (hn : n ≤ 16) (i : Nat) : -16000000 ≤ el (prodL xs ys n m) i ∧ el (prodL xs ys n m) i ≤ 16000000 := by
  by_cases hi : i < n + m - 1
  · rw [prodL, el_tab hi]
    have := cv_bd (el_bd fun i hi => valid_bd hv hi) (el_bd fun i hi => valid_bd hw hi) n i
    omega
  · rw [el_out (by rw [prodL, tab_length]; omega)]; omega

theorem valid_eq_hid {xs : List Int} (h : valid xs = true) : Hid (valid xs = true) := h

set_option maxHeartbeats 3200000 in
theorem law_TimesOf (w : World) (a : Option Addr) (n c : Nat) (h : Bts w a n w.heap.size) (hnc : n ≤ c) :
    Calls Try.prog 5 #[.slice a n c] w fun e w' => Says w w' e true := by
  by_cases hbig : 1048576 < n
  · go_enter Try.func5, Try.ntmps5
    go_wp2
    go_ret
    exact ⟨rfl, Below.refl _ _⟩
  go_enter Try.func5, Try.ntmps5
  go_wp2_with fail
  refine (DrawTimesOf_any w a n c h hnc (by omega)).mono ?_
  rintro e w1 ⟨a1, b1, n1, m1, c1, d1, xs, ys, rfl, hn33, hm33, hown, hownb, hbl⟩
  have hrow := hown.row (by omega)
  have hrowb := hownb.row (by omega)
  have hlen : Hid (xs.length = n1) := hrow.len
  have hlen2 : Hid (ys.length = m1) := hrowb.len
  cases hv : twoB xs ys
  · go_wp2_with fail
    refine (TimesOf_no w1 a1 b1 n1 m1 c1 d1 xs ys hrow hrowb hv).mono ?_
    rintro e w2 ⟨rfl, rfl⟩
    go_wp2_with fail
    refine (sTimesOf_no _ a1 b1 n1 m1 c1 d1 xs ys hrow hrowb hv).mono ?_
    rintro e w2 ⟨rfl, rfl⟩
    go_wp2_with fail
    refine (equalInts_any_eq _ none none 0 0 0 0 [] [] (row_nil _) (row_nil _) rfl).mono ?_
    rintro e w2 ⟨rfl, hb2⟩
    have hbl2 := bstep hbl hb2
    go_wp2_with fail
    refine (sTimesOf_no _ a1 b1 n1 m1 c1 d1 xs ys (hrow.below hb2) (hrowb.below hb2) hv).mono ?_
    rintro e w3 ⟨rfl, rfl⟩
    go_wp2_with fail
    refine (equalInts_any_eq _ none none 0 0 0 0 [] [] (row_nil _) (row_nil _) rfl).mono ?_
    rintro e w4 ⟨rfl, hb4⟩
    go_wp2_with fail
    go_ret
    exact ⟨ret_bool rfl, bstep hbl2 hb4⟩
  · have hvx : valid xs = true := by rw [twoB] at hv; simp at hv; exact hv.1
    have hvy : valid ys = true := by rw [twoB] at hv; simp at hv; exact hv.2
    clear hv
    have hn16 : n1 ≤ 16 := by have := valid_len hvx; rw [hlen.out] at this; exact this
    have hm16 : m1 ≤ 16 := by have := valid_len hvy; rw [hlen2.out] at this; exact this
    by_cases h0 : n1 = 0 ∨ m1 = 0
    · go_wp2_with fail
      refine (TimesOf_empty w1 a1 b1 n1 m1 c1 d1 xs ys hrow hrowb hvx hvy h0).mono ?_
      rintro e w2 ⟨a2, c2, rfl, hown2, hb2⟩
      have hbl2 := bstep hbl hb2
      go_wp2_with fail
      refine (sTimesOf_empty w2 a1 b1 n1 m1 c1 d1 xs ys (hrow.below hb2) (hrowb.below hb2) hvx hvy h0).mono ?_
      rintro e w3 ⟨a3, c3, rfl, hown3, hb3⟩
      have hbl3 := bstep hbl2 hb3
      have hr3 := (hown2.below hb3).row (by omega)
      go_wp2_with fail
      refine (equalInts_any_eq w3 a2 a3 0 0 c2 c3 _ _ hr3 (hown3.row (by omega)) rfl).mono ?_
      rintro e w4 ⟨rfl, hb4⟩
      have hbl4 := bstep hbl3 hb4
      go_wp2_with fail
      refine (sTimesOf_empty w4 a1 b1 n1 m1 c1 d1 xs ys (((hrow.below hb2).below hb3).below hb4) (((hrowb.below hb2).below hb3).below hb4) hvx hvy h0).mono ?_
      rintro e w5 ⟨a5, c5, rfl, hown5, hb5⟩
      go_wp2_with fail
      refine (equalInts_any_eq w5 a2 a5 0 0 c2 c5 _ _ ((hr3.below hb4).below hb5) (hown5.row (by omega)) rfl).mono ?_
      rintro e w6 ⟨rfl, hb6⟩
      go_wp2_with fail
      go_ret
      exact ⟨ret_bool rfl, bstep (bstep hbl4 hb5) hb6⟩
    · have hn0 : 0 < n1 := by omega
      have hm0 : 0 < m1 := by omega
      clear h0
      have hnz : (((n1 + m1 - 1 : Nat) : Int) == 0) = false := by simp; omega
      go_wp2_with fail
      refine (TimesOf_yes w1 a1 b1 n1 m1 c1 d1 xs ys hrow hrowb hvx hvy hn0 hm0).mono ?_
      rintro e w2 ⟨a2, c2, rfl, hown2, hb2⟩
      have hbl2 := bstep hbl hb2
      go_wp2_with fail
      refine (sTimesOf_yes w2 a1 b1 n1 m1 c1 d1 xs ys (hrow.below hb2) (hrowb.below hb2) hvx hvy hn0 hm0).mono ?_
      rintro e w3 ⟨a3, c3, rfl, hown3, hb3⟩
      have hbl3 := bstep hbl2 hb3
      have hr3 := (hown2.below hb3).row (by omega)
      go_wp2_with fail
      refine (equalInts_any_eq w3 a2 a3 _ _ c2 c3 _ _ hr3 (hown3.row (by omega)) rfl).mono ?_
      rintro e w4 ⟨rfl, hb4⟩
      have hbl4 := bstep hbl3 hb4
      have hr4 := hr3.below hb4
      have hrow4 := ((hrow.below hb2).below hb3).below hb4
      have hrowb4 := ((hrowb.below hb2).below hb3).below hb4
      clear hown hownb hown2 hown3 hb2 hb3 hb4 hrow hrowb hr3 hbl hbl2 hbl3
      have hbx : Hid (∀ i, i < n1 → -1000 ≤ el xs i ∧ el xs i ≤ 1000) := fun i hi => valid_bd hvx (by rw [hlen.out]; exact hi)
      have hby : Hid (∀ i, i < m1 → -1000 ≤ el ys i ∧ el ys i ≤ 1000) := fun i hi => valid_bd hvy (by rw [hlen2.out]; exact hi)
      have htx := valid_eq_hid (turn_valid hlen.out hvx)
      have hty := valid_eq_hid (turn_valid hlen2.out hvy)
      have hTOT : Hid (sm (el (prodL xs ys n1 m1)) (n1 + m1 - 1) = sm (el xs) n1 * sm (el ys) m1) := by
        have e : sm (el (prodL xs ys n1 m1)) (n1 + m1 - 1) = sm (cv (el xs) (el ys) n1) (n1 + m1 - 1) := sm_congr fun r hr => by rw [prodL, el_tab hr]
        rw [Hid, e]; exact cv_total hn0 hm0 fun i hi => el_out (by rw [hlen2.out]; exact hi)
      have hsx := @sm_bd (el xs) 1000 n1 hbx.out
      have hsy := @sm_bd (el ys) 1000 m1 hby.out
      have hsp := @mul_bd (sm (el xs) n1) (sm (el ys) m1) 16000 16000 (by omega) (by omega)
      go_wp2_with fail
      refine (TimesOf_yes w4 b1 a1 m1 n1 d1 c1 ys xs hrowb4 hrow4 hvy hvx hm0 hn0).mono ?_
      rintro e w5 ⟨a5, c5, rfl, hown5, hb5⟩
      have hbl5 := bstep hbl4 hb5
      have hr5 := hr4.below hb5
      have hrow5 := hrow4.below hb5
      have hrowb5 := hrowb4.below hb5
      go_wp2_with fail
      refine (equalInts_any_eq w5 a5 a2 _ _ c5 c2 _ _ (hown5.row (by omega)) hr5 (prod_comm xs ys n1 m1 hlen.out hlen2.out)).mono ?_
      rintro e w6 ⟨rfl, hb6⟩
      have hbl6 := bstep hbl5 hb6
      have hr6 := hr5.below hb6
      have hrow6 := hrow5.below hb6
      have hrowb6 := hrowb5.below hb6
      go_wp2_with fail
      refine (total_any w6 a2 _ c2 _ 16000000 hr6 (by omega) (by decide) fun i _ => prod_bd hvx hvy hn16 i).mono ?_
      rw [hTOT.out]
      rintro e w' ⟨rfl, rfl⟩
      go_wp2_with fail
      refine (total_any w6 a1 _ c1 _ 1000 hrow6 (by omega) (by decide) hbx.out).mono ?_
      rintro e w' ⟨rfl, rfl⟩
      go_wp2_with fail
      refine (total_any w6 b1 _ d1 _ 1000 hrowb6 (by omega) (by decide) hby.out).mono ?_
      rintro e w' ⟨rfl, rfl⟩
      have hl1 : ((n1 + m1 - 1 : Nat) : Int) = (n1 : Int) + m1 - 1 := by omega
      have hlb : (((n1 + m1 - 1 : Nat) : Int) == (n1 : Int) + m1 - 1) = true := by simp; omega
      clear hl1
      go_wp2_with fail
      refine (turned_any w6 a1 n1 c1 xs hrow6 (by omega)).mono ?_
      rintro e w7 ⟨a7, c7, rfl, hown7, hb7⟩
      have hbl7 := bstep hbl6 hb7
      go_wp2_with fail
      refine (turned_any w7 b1 m1 d1 ys (hrowb6.below hb7) (by omega)).mono ?_
      rintro e w8 ⟨a8, c8, rfl, hown8, hb8⟩
      have hbl8 := bstep hbl7 hb8
      have hr7 := (hown7.below hb8).row (by omega)
      have hr8 := hown8.row (by omega)
      have hr28 := (hr6.below hb7).below hb8
      go_wp2_with fail
      refine (TimesOf_yes w8 a7 a8 n1 m1 c7 c8 _ _ hr7 hr8 htx.out hty.out hn0 hm0).mono ?_
      rintro e w9 ⟨a9, c9, rfl, hown9, hb9⟩
      have hbl9 := bstep hbl8 hb9
      go_wp2_with fail
      refine (turned_any w9 a2 _ c2 _ (hr28.below hb9) (by omega)).mono ?_
      rintro e w10 ⟨a10, c10, rfl, hown10, hb10⟩
      have hbl10 := bstep hbl9 hb10
      go_wp2_with fail
      refine (equalInts_any_eq w10 a9 a10 _ _ c9 c10 _ _ ((hown9.below hb10).row (by omega)) (hown10.row (by omega)) (prod_turn xs ys n1 m1 hlen.out hlen2.out hn0 hm0)).mono ?_
      rintro e w11 ⟨rfl, hb11⟩
      go_wp2_with fail
      go_ret
      exact ⟨ret_bool (by simp), bstep hbl10 hb11⟩
end Go.Proofs.Ytommnhpihophbaa
