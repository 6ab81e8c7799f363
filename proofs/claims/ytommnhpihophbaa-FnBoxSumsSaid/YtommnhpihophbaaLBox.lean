/-
  The law of BoxSums for drawn rows: the walk of laws.FnBoxSums answers true, given that the codes lie in memory; the frame follows in its Proof text.
-/
import Derived.Test.YtommnhpihophbaaC1
import Derived.Test.YtommnhpihophbaaDraw2
namespace Go.Proofs.Ytommnhpihophbaa
open Go.RowKit

/-- The sums of wd numbers side by side. -/
def boxL (xs : List Int) (wd k : Nat) : List Int := tab (fun i => sm (fun t => el xs (i + t)) wd) k

def boxB (xs : List Int) (wd : Nat) : Bool := valid xs && decide (1 ≤ wd ∧ wd ≤ xs.length)
theorem boxB_iff {xs : List Int} {wd : Nat} : boxB xs wd = true ↔ valid xs = true ∧ 1 ≤ wd ∧ wd ≤ xs.length := by simp [boxB]
theorem boxB_no {xs : List Int} {wd : Nat} (h : ¬ (valid xs = true ∧ 1 ≤ wd ∧ wd ≤ xs.length)) : boxB xs wd = false := by
  cases hb : boxB xs wd with
  | false => rfl
  | true => exact absurd (boxB_iff.1 hb) h

set_option maxHeartbeats 400000 in
theorem boxed_any (w : World) (a : Option Addr) (n c : Nat) (xs : List Int) (wd : Nat) (h : Row w a n c xs) :
    Calls Try.prog 60 #[.slice a n c, .int .i64 wd] w fun e w' => Tells w w' e (boxB xs wd) := by
  have hlen : Hid (xs.length = n) := h.len
  have hsm := h.small
  cases hv : valid xs
  · go_enter Try.func60, Try.ntmps60
    go_wp2_with (go_at_call 22; refine (ValidRow_is _ a n c xs false h hv).mono ?_; rintro e w' ⟨rfl, rfl⟩)
    go_ret
    exact ⟨ret_bool (boxB_no (by rw [hv]; simp)).symm, rfl⟩
  · by_cases h1 : 1 ≤ wd
    · by_cases h2 : wd ≤ n
      · go_enter Try.func60, Try.ntmps60
        go_wp2_with (go_at_call 22; refine (ValidRow_is _ a n c xs true h hv).mono ?_; rintro e w' ⟨rfl, rfl⟩)
        go_ret
        refine ⟨ret_bool ?_, rfl⟩
        rw [boxB_iff.2 ⟨hv, h1, by rw [hlen.out]; exact h2⟩]; all_goals (simp <;> omega)
      · go_enter Try.func60, Try.ntmps60
        go_wp2_with (go_at_call 22; refine (ValidRow_is _ a n c xs true h hv).mono ?_; rintro e w' ⟨rfl, rfl⟩)
        go_ret
        refine ⟨ret_bool ?_, rfl⟩
        rw [boxB_no (by rw [hlen.out]; omega)]; all_goals (simp <;> omega)
    · go_enter Try.func60, Try.ntmps60
      go_wp2_with (go_at_call 22; refine (ValidRow_is _ a n c xs true h hv).mono ?_; rintro e w' ⟨rfl, rfl⟩)
      go_ret
      refine ⟨ret_bool ?_, rfl⟩
      rw [boxB_no (by omega)]

theorem boxed_is (w : World) (a : Option Addr) (n c : Nat) (xs : List Int) (wd : Nat) (v : Bool) (h : Row w a n c xs) (hv : boxB xs wd = v) :
    Calls Try.prog 60 #[.slice a n c, .int .i64 wd] w fun e w' => Tells w w' e v := by subst hv; exact boxed_any w a n c xs wd h

set_option maxHeartbeats 400000 in
theorem BoxSums_no (w : World) (a : Option Addr) (n c : Nat) (xs : List Int) (wd : Nat) (h : Row w a n c xs) (hv : boxB xs wd = false) :
    Calls Try.prog 15 #[.slice a n c, .int .i64 wd] w fun e w' => e = .returned (.slice none 0 0) ∧ w = w' := by
  go_enter Try.func15, Try.ntmps15
  go_wp2_with (go_at_call 60; refine (boxed_is _ a n c xs wd false h hv).mono ?_; rintro e w' ⟨rfl, rfl⟩)
  go_ret
  exact ⟨rfl, rfl⟩

set_option maxHeartbeats 800000 in
theorem BoxSums_yes (w : World) (a : Option Addr) (n c : Nat) (xs : List Int) (wd : Nat) (h : Row w a n c xs) (hv : boxB xs wd = true) :
    Calls Try.prog 15 #[.slice a n c, .int .i64 wd] w fun e w' => Fresh w w' e (n - wd + 1) (boxL xs wd (n - wd + 1)) := by
  have hlen : Hid (xs.length = n) := h.len
  obtain ⟨hv0, h1, h2⟩ := boxB_iff.1 hv
  have hn : n ≤ 16 := by have := valid_len hv0; rw [hlen.out] at this; exact this
  rw [hlen.out] at h2
  have hbd : Hid (∀ i, i < n → -1000 ≤ el xs i ∧ el xs i ≤ 1000) := fun i hi => valid_bd hv0 (by rw [hlen.out]; exact hi)
  have hcap := h.cap
  obtain ⟨b, off, rfl, hbb, hcell⟩ := h.at (by omega)
  have HC : Hid (∀ w', Below w.heap.size w w' → ∀ j, j < n → w'.cell? ⟨b, off + j, none⟩ = some (.int .i64 (el xs j))) := hcell
  clear hcell hv0
  go_enter Try.func15, Try.ntmps15
  go_wp2_with (go_at_call 60; refine (boxed_is _ _ n c xs wd true h hv).mono ?_; rintro e w' ⟨rfl, rfl⟩)
  go_loopw [5, 6] (fun v u wr => ∃ (k : Nat) (a1 : Option Addr) (c1 : Nat), k ≤ n - wd + 1 ∧ u = .int .i64 k ∧ v = .slice a1 k c1 ∧ Own wr w.heap.size a1 k c1 (boxL xs wd k) ∧ Below w.heap.size w wr ∧ w.heap.size + 1 ≤ wr.heap.size) (fun v _ _ => n + 1 - lenOf v)
  case atStart => exact ⟨0, _, 0, Nat.zero_le _, rfl, rfl, own_empty w, (Below.refl _ _).alloc (Nat.le_refl _) _, by simp⟩
  case round =>
    obtain ⟨k, a1, c1, hk, rfl, rfl, hown, hbl, hsz⟩ := hrel
    by_cases hlt : k + wd ≤ n
    · have hck : ¬ c = k := by omega
      go_wp2_with fail
      go_loop [7, 30] (fun s u => ∃ j : Nat, j ≤ wd ∧ u = .int .i64 j ∧ s = .int .i64 (sm (fun t => el xs (k + t)) j)) (fun _ u => wd - (intOf u).toNat)
      case atStart => exact ⟨0, Nat.zero_le _, rfl, rfl⟩
      case round =>
        obtain ⟨j, hj, rfl, rfl⟩ := hrel
        by_cases hjw : j < wd
        · have hc := HC.out wr hbl (k + j) (by omega)
          rw [← Nat.add_assoc] at hc
          have hs := @sm_bd (fun t => el xs (k + t)) 1000 j (fun i hi => hbd.out _ (by omega))
          have he := hbd.out (k + j) (by omega)
          go_wp2_with fail
          go_round
          case rel => exact ⟨j + 1, by omega, by go_num, rfl⟩
          case measure => simp [intOf]; omega
        · obtain rfl : j = wd := by omega
          go_wp2_with (at_builtin; go_must (refine app_int wr rfl _ _ rfl w.heap.size _ _ _ _ _ rfl hown rfl (by omega) (by omega) ?_); intro a2 c2 w2 hown2 hgr2 hsz2)
          go_roundw
          case rel => exact ⟨k + 1, a2, c2, by omega, by go_num, rfl, hown2, below_app hbl hgr2 hown (Nat.le_refl _) (by omega), by omega⟩
          case measure => simp [lenOf]; omega
    · go_wp2_with fail
      go_ret
      obtain rfl : k = n - wd + 1 := by omega
      exact Fresh.mk hown hbl

set_option maxHeartbeats 400000 in
theorem sBoxSums_no (w : World) (a : Option Addr) (n c : Nat) (xs : List Int) (wd : Nat) (h : Row w a n c xs) (hv : boxB xs wd = false) :
    Calls Try.prog 17 #[.slice a n c, .int .i64 wd] w fun e w' => e = .returned (.slice none 0 0) ∧ w = w' := by
  have hlen : Hid (xs.length = n) := h.len
  cases hv0 : valid xs
  · go_enter Try.func17, Try.ntmps17
    go_wp2_with (go_at_call 61; refine (validRow_is _ a n c xs false h hv0).mono ?_; rintro e w' ⟨rfl, rfl⟩)
    go_ret
    exact ⟨rfl, rfl⟩
  · have hr : within (wd : Int) 1 (n : Int) = false := within_no fun hw => by
      rw [boxB_iff.2 ⟨hv0, by omega, by rw [hlen.out]; omega⟩] at hv; cases hv
    go_enter Try.func17, Try.ntmps17
    go_wp2_with (first | (go_at_call 61; refine (validRow_is _ a n c xs true h hv0).mono ?_; rintro e w' ⟨rfl, rfl⟩) | (go_at_call 62; refine (inRange_any _ wd 1 n).mono ?_; rintro e w' ⟨rfl, rfl⟩))
    go_ret
    exact ⟨rfl, rfl⟩

set_option maxHeartbeats 800000 in
theorem sBoxSums_yes (w : World) (a : Option Addr) (n c : Nat) (xs : List Int) (wd : Nat) (h : Row w a n c xs) (hv : boxB xs wd = true) :
    Calls Try.prog 17 #[.slice a n c, .int .i64 wd] w fun e w' => Fresh w w' e (n - wd + 1) (boxL xs wd (n - wd + 1)) := by
  have hlen : Hid (xs.length = n) := h.len
  obtain ⟨hv0, h1, h2⟩ := boxB_iff.1 hv
  have hn : n ≤ 16 := by have := valid_len hv0; rw [hlen.out] at this; exact this
  rw [hlen.out] at h2
  have hbd : Hid (∀ i, i < n → -1000 ≤ el xs i ∧ el xs i ≤ 1000) := fun i hi => valid_bd hv0 (by rw [hlen.out]; exact hi)
  have hr : within (wd : Int) 1 (n : Int) = true := within_yes ⟨by omega, by omega⟩
  obtain ⟨b, off, rfl, hbb, hcell⟩ := h.at (by omega)
  have HC : Hid (∀ w', Below w.heap.size w w' → ∀ j, j < n → w'.cell? ⟨b, off + j, none⟩ = some (.int .i64 (el xs j))) := hcell
  clear hcell
  go_enter Try.func17, Try.ntmps17
  go_wp2_with (first | (go_at_call 61; refine (validRow_is _ _ n c xs true h hv0).mono ?_; rintro e w' ⟨rfl, rfl⟩) | (go_at_call 62; refine (inRange_any _ wd 1 n).mono ?_; rintro e w' ⟨rfl, rfl⟩))
  clear hv0
  go_loopw [5, 6] (fun v u wr => ∃ (k : Nat) (a1 : Option Addr) (c1 : Nat), k ≤ n - wd + 1 ∧ u = .int .i64 k ∧ v = .slice a1 k c1 ∧ Own wr w.heap.size a1 k c1 (boxL xs wd k) ∧ Below w.heap.size w wr ∧ w.heap.size + 1 ≤ wr.heap.size) (fun v _ _ => n + 1 - lenOf v)
  case atStart => exact ⟨0, _, 0, Nat.zero_le _, rfl, rfl, own_empty w, (Below.refl _ _).alloc (Nat.le_refl _) _, by simp⟩
  case round =>
    obtain ⟨k, a1, c1, hk, rfl, rfl, hown, hbl, hsz⟩ := hrel
    by_cases hlt : k + wd ≤ n
    · go_wp2_with fail
      go_loop [7, 8] (fun s u => ∃ j : Nat, j ≤ wd ∧ u = .int .i64 ((k : Int) + j) ∧ s = .int .i64 (sm (fun t => el xs (k + t)) j)) (fun _ u => k + wd - (intOf u).toNat)
      case atStart => exact ⟨0, Nat.zero_le _, by go_num, rfl⟩
      case round =>
        obtain ⟨j, hj, rfl, rfl⟩ := hrel
        by_cases hjw : j < wd
        · have hc := HC.out wr hbl (k + j) (by omega)
          have hs := @sm_bd (fun t => el xs (k + t)) 1000 j (fun i hi => hbd.out _ (by omega))
          have he := hbd.out (k + j) (by omega)
          have hi : ((k : Int) + j).toNat = k + j := by omega
          go_wp2_with fail
          go_round
          case rel => exact ⟨j + 1, by omega, by go_num, rfl⟩
          case measure => simp [intOf]; omega
        · obtain rfl : j = wd := by omega
          go_wp2_with (at_builtin; go_must (refine app_int wr rfl _ _ rfl w.heap.size _ _ _ _ _ rfl hown rfl (by omega) (by omega) ?_); intro a2 c2 w2 hown2 hgr2 hsz2)
          go_roundw
          case rel => exact ⟨k + 1, a2, c2, by omega, by go_num, rfl, hown2, below_app hbl hgr2 hown (Nat.le_refl _) (by omega), by omega⟩
          case measure => simp [lenOf]; omega
    · go_wp2_with fail
      go_ret
      obtain rfl : k = n - wd + 1 := by omega
      exact Fresh.mk hown hbl

/-- What a call hands back that draws a row and a number. -/
def DrawnRowInt (w w' : World) (e : Ending) : Prop :=
  ∃ (a : Option Addr) (m c : Nat) (xs : List Int) (wd : Nat), e = .returned (.tuple #[.slice a m c, .int .i64 wd]) ∧ m ≤ 33 ∧ wd ≤ 17 ∧ Own w' w.heap.size a m c xs ∧ Below w.heap.size w w'

set_option maxHeartbeats 400000 in
theorem DrawBoxSums_any (w : World) (a : Option Addr) (n c : Nat) (h : Bts w a n w.heap.size) (hnc : n ≤ c) (hn : n ≤ 140737488355328) :
    Calls Try.prog 14 #[.slice a n c] w fun e w' => DrawnRowInt w w' e := by
  go_enter Try.func14, Try.ntmps14
  go_wp2_with fail
  refine (newReader_any w a n c h hnc hn).mono ?_
  rintro e w1 ⟨rfl, hrd, hbl⟩
  have hsz := hrd.lt
  go_wp2_with fail
  refine (someRow_any w1 w.heap.size 0 hrd (by omega)).mono ?_
  rintro e w2 ⟨a2, m, c2, xs, q, rfl, hm, hq, hown, hask⟩
  have hsz2 := hask.gr.size
  go_wp2_with fail
  refine (one_any _ w.heap.size q (w.heap.size + 1) _ _ _ [2, 3, 1, 4, 0, 8, 17] 0 17 (hask.rdr.alloc _) (by omega) (by decide) (by decide) (own_lit _ (w.heap.size + 1) [2, 3, 1, 4, 0, 8, 17] rfl (by omega) (by decide)) (by omega) (by decide)).mono ?_
  rintro e w3 ⟨x, hx0, hx1, rfl, hask3⟩
  obtain ⟨k, rfl⟩ := Int.eq_ofNat_of_zero_le hx0
  have hown3 := (hown.alloc (.cells #[.int .i64 2, .int .i64 3, .int .i64 1, .int .i64 4, .int .i64 0, .int .i64 8, .int .i64 17] 3)).grown hask3.gr (by omega)
  have hbl3 := below_asked hbl (hask.trans hask3.of_alloc) (Nat.le_refl _) hsz
  go_wp2_with fail
  go_ret2
  exact ⟨a2, m, c2, xs, k, rfl, hm, by omega, hown3.mono (by omega), hbl3⟩

def zsums (xs : List Int) (n : Nat) : List Int := [0] ++ sumsL xs n

/-- With a 0 ahead, the sums are those of the first numbers. -/
theorem el_cons_sums (xs : List Int) (n i : Nat) (hi : i < 1 + n) : el (zsums xs n) i = sm (el xs) i := by
  cases i with
  | zero => rfl
  | succ j =>
    have : el (zsums xs n) (j + 1) = el (sumsL xs n) j := rfl
    rw [this, sumsL, el_tab (by omega)]
theorem el_cons_bd (xs : List Int) (n : Nat) (h : ∀ i, i < n → -1000 ≤ el xs i ∧ el xs i ≤ 1000) (i : Nat) (hi : i < 1 + n) : -(1000 * (i : Int)) ≤ el (zsums xs n) i ∧ el (zsums xs n) i ≤ 1000 * (i : Int) := by
  rw [el_cons_sums xs n i hi]; exact sm_bd fun j hj => h j (by omega)
theorem sm_add (f : Nat → Int) (i k : Nat) : sm f (i + k) = sm f i + sm (fun t => f (i + t)) k := by
  induction k with
  | zero => simp [sm]
  | succ j ih => rw [← Nat.add_assoc, sm, ih, sm]; omega
theorem box_sums (xs : List Int) (wd n k : Nat) (hk : k < n - wd + 1) (h1 : 1 ≤ wd) (h2 : wd ≤ n) : el (boxL xs wd (n - wd + 1)) k = el (zsums xs n) (k + wd) - el (zsums xs n) k := by
  rw [el_cons_sums _ _ _ (by omega), el_cons_sums _ _ _ (by omega), boxL, el_tab hk, sm_add]; omega

set_option maxHeartbeats 1000000 in
theorem law_BoxSums (w : World) (a : Option Addr) (n c : Nat) (h : Bts w a n w.heap.size) (hnc : n ≤ c) :
    Calls Try.prog 3 #[.slice a n c] w fun e w' => Says w w' e true := by
  by_cases hbig : 1048576 < n
  · go_enter Try.func3, Try.ntmps3
    go_wp2
    go_ret
    exact ⟨rfl, Below.refl _ _⟩
  go_enter Try.func3, Try.ntmps3
  go_wp2_with fail
  refine (DrawBoxSums_any w a n c h hnc (by omega)).mono ?_
  rintro e w1 ⟨a1, m, c1, xs, wd, rfl, hm, hwd, hown, hbl⟩
  have hrow := hown.row (by omega)
  have hlen : Hid (xs.length = m) := hrow.len
  cases hv : boxB xs wd
  · go_wp2_with fail
    refine (BoxSums_no w1 a1 m c1 xs wd hrow hv).mono ?_
    rintro e w2 ⟨rfl, rfl⟩
    go_wp2_with fail
    refine (sBoxSums_no _ a1 m c1 xs wd hrow hv).mono ?_
    rintro e w2 ⟨rfl, rfl⟩
    go_wp2_with fail
    refine (equalInts_any_eq _ none none 0 0 0 0 [] [] (row_nil _) (row_nil _) rfl).mono ?_
    rintro e w2 ⟨rfl, hb2⟩
    have hbl2 := bstep hbl hb2
    have hrow2 := hrow.below hb2
    go_wp2_with fail
    refine (sBoxSums_no _ a1 m c1 xs wd hrow2 hv).mono ?_
    rintro e w3 ⟨rfl, rfl⟩
    go_wp2_with fail
    refine (equalInts_any_eq _ none none 0 0 0 0 [] [] (row_nil _) (row_nil _) rfl).mono ?_
    rintro e w4 ⟨rfl, hb4⟩
    go_wp2_with fail
    go_ret
    exact ⟨ret_bool rfl, bstep hbl2 hb4⟩
  · obtain ⟨hv0, h1, h2⟩ := boxB_iff.1 hv
    rw [hlen.out] at h2
    have hm16 : m ≤ 16 := by have := valid_len hv0; rw [hlen.out] at this; exact this
    have hbd : Hid (∀ i, i < m → -1000 ≤ el xs i ∧ el xs i ≤ 1000) := fun i hi => valid_bd hv0 (by rw [hlen.out]; exact hi)
    have hnz : (((m - wd + 1 : Nat) : Int) == 0) = false := by simp; omega
    go_wp2_with fail
    refine (BoxSums_yes w1 a1 m c1 xs wd hrow hv).mono ?_
    rintro e w2 ⟨a2, c2, rfl, hown2, hb2⟩
    have hbl2 := bstep hbl hb2
    have hrow2 := hrow.below hb2
    go_wp2_with fail
    refine (sBoxSums_yes w2 a1 m c1 xs wd hrow2 hv).mono ?_
    rintro e w3 ⟨a3, c3, rfl, hown3, hb3⟩
    have hbl3 := bstep hbl2 hb3
    have hrow3 := hrow2.below hb3
    have hr3 := (hown2.below hb3).row (by omega)
    go_wp2_with fail
    refine (equalInts_any_eq w3 a2 a3 _ _ c2 c3 _ _ hr3 (hown3.row (by omega)) rfl).mono ?_
    rintro e w4 ⟨rfl, hb4⟩
    have hbl4 := bstep hbl3 hb4
    have hrow4 := hrow3.below hb4
    have hr4 := hr3.below hb4
    clear hown hown2 hown3 hb2 hb3 hb4 hrow hrow2 hrow3 hr3 hbl hbl2 hbl3
    have hrA := hrow4.below ((Below.refl _ w4).alloc (Nat.le_refl _) (.cells #[.int .i64 0] 3))
    have hlA := own_lit w4 w4.heap.size [0] rfl (Nat.le_refl _) (by simp)
    go_wp2_with fail
    refine (SumsOf_yes _ a1 m c1 xs hrA hv0).mono ?_
    rintro e w5 ⟨a5, c5, rfl, hown5, hb5⟩
    have hb5' : Below w4.heap.size w4 w5 := ((Below.refl _ w4).alloc (Nat.le_refl _) (.cells #[.int .i64 0] 3)).trans (hb5.mono (by simp))
    have hbl5 := bstep hbl4 hb5'
    have hlit := hlA.below hb5
    have hz5 := hb5'.size
    go_wp2_with (at_builtin; go_must (refine wpList_app_own w5 rfl _ _ rfl w4.heap.size _ 1 1 [0] rfl hlit _ _ _ _ rfl (hown5.row (by omega)) (by omega) hz5 ?_); intro a6 c6 w6 hown6 hgr6)
    have hbl6 := below_app (Below.refl w4.heap.size w5) hgr6 hlit (Nat.le_refl _) hz5
    have hb6 := hb5'.trans hbl6
    have hbl7 := bstep hbl4 hb6
    have hr6 := hr4.below hb6
    have hz6 := hbl6.size
    obtain ⟨b2, off2, rfl, hbb2, hcell2⟩ := hr6.at (by omega)
    obtain ⟨b6, off6, rfl, hbb6, hcell6⟩ := (Own.row (xs := zsums xs m) hown6 (by omega)).at (by omega)
    have hH2 : Hid (∀ w', Below w6.heap.size w6 w' → ∀ i, i < m - wd + 1 → w'.cell? ⟨b2, off2 + i, none⟩ = some (.int .i64 (el (boxL xs wd (m - wd + 1)) i))) := hcell2
    have hH6 : Hid (∀ w', Below w6.heap.size w6 w' → ∀ i, i < 1 + m → w'.cell? ⟨b6, off6 + i, none⟩ = some (.int .i64 (el (zsums xs m) i))) := hcell6
    clear hcell2 hcell6 hown6 hown5 hlit hlA hrA hr4 hr6 hgr6 hb5 hb5' hbl6 hbl5
    go_loopw [7] (fun u wr => ∃ k : Nat, k ≤ m - wd + 1 ∧ u = .int .i64 k ∧ Below w6.heap.size w6 wr) (fun u _ => m + 1 - (intOf u).toNat)
    case atStart => exact ⟨0, Nat.zero_le _, rfl, Below.refl _ _⟩
    case round =>
      obtain ⟨k, hk, rfl, hblk⟩ := hrel
      by_cases hlt : k < m - wd + 1
      · have hc1 := hH2.out wr hblk k hlt
        have hc2 := hH6.out wr hblk (k + wd) (by omega)
        have hc3 := hH6.out wr hblk k (by omega)
        have hsb1 := el_cons_bd xs m hbd.out (k + wd) (by omega)
        have hsb2 := el_cons_bd xs m hbd.out k (by omega)
        have hsum : IntKind.i64.wrap ((k : Int) + wd) = (k : Int) + wd := IntWalk.i64_in _ (by omega)
        have hdif : IntKind.i64.wrap (el (zsums xs m) (k + wd) - el (zsums xs m) k) = el (zsums xs m) (k + wd) - el (zsums xs m) k := IntWalk.i64_in _ (by omega)
        have hne : (el (boxL xs wd (m - wd + 1)) k != el (zsums xs m) (k + wd) - el (zsums xs m) k) = false := by
          rw [box_sums xs wd m k hlt h1 h2]; simp
        have i0 : (0 : Int) ≤ (k : Int) := by omega
        have i1 : (k : Int) < ((m - wd + 1 : Nat) : Int) := by omega
        have i2 : (k : Int) < ((1 + m : Nat) : Int) := by omega
        have i3 : (0 : Int) ≤ (k : Int) + wd := by omega
        have i4 : (k : Int) + wd < ((1 + m : Nat) : Int) := by omega
        have i5 : ((k : Int) + wd).toNat = k + wd := by omega
        go_wp2_with fail
        go_quiet (fail)
        clear hsum hdif
        go_wp2_with fail
        exact ⟨⟨k + 1, by omega, by go_num, bdrewN hblk _⟩, by simp [intOf]; omega⟩
      · obtain rfl : k = m - wd + 1 := by omega
        go_wp2_with fail
        go_ret
        refine ⟨ret_bool ?_, bstep (bstep hbl4 hb6) hblk⟩
        simp; omega
end Go.Proofs.Ytommnhpihophbaa
