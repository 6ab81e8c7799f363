/-
  The laws of MiddlesOf.
-/
import Derived.Test.YtbnlfacggchoiaaMid2
import Derived.Test.YtbnlfacggchoiaaReg
namespace Go.Proofs.Ytbnlfacggchoiaa
open Go.RowKit

set_option maxHeartbeats 3200000 in
theorem law_FnExactMiddlesOf (w : World) (a : Option Addr) (n c : Nat) (xs : List Int) (wd : Int) (hR : n ≤ 1125899906842624 → Row w a n c xs) (hM : n ≤ 9223372036854775807) :
    Calls Try.prog 4 #[.slice a n c, .int .i64 wd] w fun e w' => Says w w' e true := by
  by_cases hbig : 1048576 < n
  · clear hR
    go_enter Try.func4, Try.ntmps4
    go_wp2
    go_ret
    exact ⟨rfl, Below.refl _ _⟩
  have hrow := hR (by omega)
  clear hR
  obtain ⟨ys, hys⟩ : ∃ ys, ys = mdR xs wd := ⟨_, rfl⟩
  obtain ⟨m, hm⟩ : ∃ m, m = ys.length := ⟨_, rfl⟩
  have hm1 : m ≤ 1000 := by rw [hm, hys]; exact mdR_len xs wd
  have HS : Hid (∀ w a c, Row w a n c xs → Calls Try.prog 8 #[.slice a n c, .int .i64 wd] w fun e w' => Fresh w w' e m ys) := by
    intro w a c h; rw [hm, hys]; exact sMiddlesOf_all w a n c xs wd h
  have HI : Hid (∀ w a c, Row w a n c xs → Calls Try.prog 6 #[.slice a n c, .int .i64 wd] w fun e w' => Fresh w w' e m ys) := by
    intro w a c h; rw [hm, hys]; exact MiddlesOf_all w a n c xs wd h
  clear hm hys
  go_enter Try.func4, Try.ntmps4
  go_wp2_with fail
  refine (toIntS_any w a n c xs hrow (by omega)).mono ?_
  rintro e w1 ⟨a1, c1, rfl, own1, b1⟩
  go_wp2_with fail
  refine (HS.out w1 a1 c1 (own1.row (by omega))).mono ?_
  rintro e w2 ⟨a2, c2, rfl, own2, b2⟩
  have l2 := bstep b1 b2
  go_wp2_with fail
  refine (toIntS_any w2 a n c xs (hrow.below l2) (by omega)).mono ?_
  rintro e w3 ⟨a3, c3, rfl, own3, b3⟩
  have l3 := bstep l2 b3
  go_wp2_with fail
  refine (HI.out w3 a3 c3 (own3.row (by omega))).mono ?_
  rintro e w4 ⟨a4, c4, rfl, own4, b4⟩
  have l4 := bstep l3 b4
  have z4 := bstep b3 b4
  have r2 := own2.row (by omega)
  go_wp2_with fail
  refine (eqIntS_any_eq w4 a4 a2 m m c4 c2 _ _ (own4.row (by omega)) (r2.below z4) rfl).mono ?_
  rintro e w5 ⟨rfl, b5⟩
  have l5 := bstep l4 b5
  have z5 := bstep z4 b5
  go_wp2_with fail
  refine (toIntS_any w5 a n c xs (hrow.below l5) (by omega)).mono ?_
  rintro e w6 ⟨a6, c6, rfl, own6, b6⟩
  have l6 := bstep l5 b6
  have z6 := bstep z5 b6
  have own36 := ((own3.below b4).below b5).below b6
  go_wp2_with fail
  refine (eqIntS_any_eq w6 a3 a6 n n c3 c6 _ _ (own36.row (by omega)) (own6.row (by omega)) rfl).mono ?_
  rintro e w7 ⟨rfl, b7⟩
  have l7 := bstep l6 b7
  have z7 := bstep z6 b7
  have own37 := own36.below b7
  have own47 := ((own4.below b5).below b6).below b7
  clear b5 b6 b7 l3 l4 l5 l6 z4 z5 z6 own1 own2 own36 own6 own4
  go_wp2_with fail
  refine (markIntS_any w7 w2.heap.size a3 n c3 xs 1 own37 (by omega) (by omega) (by omega)).mono ?_
  rintro e w8 ⟨rfl, own38, g8⟩
  have l8 := below_app l7 g8 own37 l2.size l7.size
  have z8 := below_app z7 g8 own37 (Nat.le_refl _) z7.size
  have own48 := own47.after g8 own3 (Nat.le_refl _)
  clear own37 own47 l7 z7 g8
  go_wp2_with fail
  refine (eqIntS_any_eq w8 a4 a2 m m c4 c2 _ _ (own48.row (by omega)) (r2.below z8) rfl).mono ?_
  rintro e w9 ⟨rfl, b9⟩
  have l9 := bstep l8 b9
  have z9 := bstep z8 b9
  have own49 := own48.below b9
  clear l8 z8 own48 b9
  go_wp2_with fail
  refine (markIntS_any w9 w3.heap.size a4 m c4 ys 1 own49 (by omega) (by omega) (by omega)).mono ?_
  rintro e w10 ⟨rfl, own410, g10⟩
  have l10 := below_app l9 g10 own49 (Nat.le_trans l2.size b3.size) l9.size
  have z10 := below_app z9 g10 own49 b3.size z9.size
  clear own49 l9 z9 g10
  go_wp2_with fail
  refine (heldIntS_any w10 a4 m c4 1 (own410.row (by omega)) (by omega) (by omega) (by omega)).mono ?_
  rintro e w' ⟨rfl, rfl⟩
  go_wp2_with fail
  refine (toIntS_any w10 a n c xs (hrow.below l10) (by omega)).mono ?_
  rintro e w11 ⟨a11, c11, rfl, own11, b11⟩
  have l11 := bstep l10 b11
  have z11 := bstep z10 b11
  go_wp2_with fail
  refine (HI.out w11 a11 c11 (own11.row (by omega))).mono ?_
  rintro e w12 ⟨a12, c12, rfl, own12, b12⟩
  have l12 := bstep l11 b12
  have z12 := bstep z11 b12
  have own412 := (own410.below b11).below b12
  go_wp2_with fail
  refine (eqIntS_any_eq w12 a12 a2 m m c12 c2 _ _ (own12.row (by omega)) (r2.below z12) rfl).mono ?_
  rintro e w13 ⟨rfl, b13⟩
  have l13 := bstep l12 b13
  go_wp2_with fail
  refine (heldIntS_any w13 a4 m c4 1 ((own412.below b13).row (by omega)) (by omega) (by omega) (by omega)).mono ?_
  rintro e w' ⟨rfl, rfl⟩
  go_wp2_with fail
  go_ret
  exact ⟨ret_bool (by simp), l13⟩
/-- What a call hands back that draws a row and a number. -/
def DrawnRowInt (w w' : World) (e : Ending) : Prop :=
  ∃ (a : Option Addr) (m c : Nat) (xs : List Int) (wd : Nat), e = .returned (.tuple #[.slice a m c, .int .i64 wd]) ∧ m ≤ 33 ∧ wd ≤ 17 ∧ Own w' w.heap.size a m c xs ∧ Below w.heap.size w w'
set_option maxHeartbeats 400000 in
theorem DrawMiddlesOf_any (w : World) (a : Option Addr) (n c : Nat) (h : Bts w a n w.heap.size) (hnc : n ≤ c) (hn : n ≤ 140737488355328) :
    Calls Try.prog 5 #[.slice a n c] w fun e w' => DrawnRowInt w w' e := by
  go_enter Try.func5, Try.ntmps5
  go_wp2_with fail
  refine (newReader_any w a n c h hnc hn).mono ?_
  rintro e w1 ⟨rfl, hrd, hbl⟩
  have hsz := hrd.lt
  go_wp2_with fail
  refine (someRow_any w1 w.heap.size 0 hrd (by omega)).mono ?_
  rintro e w2 ⟨a2, m, c2, xs, q, rfl, hm, hq, hown, hask⟩
  have hsz2 := hask.gr.size
  go_wp2_with fail
  refine (one_any _ w.heap.size q (w.heap.size + 1) _ _ _ [3, 1, 5, 2, 7, 0, 17] 0 17 (hask.rdr.alloc _) (by omega) (by decide) (by decide) (own_lit _ (w.heap.size + 1) [3, 1, 5, 2, 7, 0, 17] rfl (by omega) (by decide)) (by omega) (by decide)).mono ?_
  rintro e w3 ⟨x, hx0, hx1, rfl, hask3⟩
  obtain ⟨k, rfl⟩ := Int.eq_ofNat_of_zero_le hx0
  have hown3 := hown.grown hask3.of_alloc.gr (by omega)
  have hbl3 := below_asked hbl (hask.trans hask3.of_alloc) (Nat.le_refl _) hsz
  go_wp2_with fail
  go_ret2
  exact ⟨a2, m, c2, xs, k, rfl, hm, by omega, hown3.mono (by omega), hbl3⟩
/-- A number that a list has. -/
theorem isIn_yes (w : World) (a : Option Addr) (n c : Nat) (xs : List Int) (v : Int) (t : Nat) (h : Row w a n c xs) (ht : t < n) (hv : el xs t = v) :
    Calls Try.prog 9 #[.slice a n c, .int .i64 v] w fun e w' => Tells w w' e true := by
  have hsm := h.small
  have HV := Lib.hid hv
  clear hv
  go_enter Try.func9, Try.ntmps9
  go_wp2_with fail
  go_loop [5] (fun u => ∃ k : Nat, k ≤ t ∧ u = .int .i64 k) (fun u => n - (intOf u).toNat)
  case atStart => exact ⟨0, Nat.zero_le _, rfl⟩
  case round =>
    obtain ⟨k, hk, rfl⟩ := hrel
    have hlt : k < n := by omega
    obtain ⟨b, off, rfl, hbb, hcell⟩ := h.cell k hlt
    have hc := hcell k hlt
    clear hcell
    by_cases he : el xs k = v
    · have hb : (el xs k == v) = true := by simp; exact he
      clear he
      go_wp2_with fail
      go_ret
      exact ⟨rfl, rfl⟩
    · have hb : (el xs k == v) = false := by simp; exact he
      have hkt : k < t := by
        by_cases e : k = t
        · subst e; exact absurd HV.out he
        · omega
      clear he
      go_wp2_with fail
      go_round
      case rel => exact ⟨k + 1, by omega, by go_num⟩
      case measure => simp [intOf]; omega
set_option maxRecDepth 100000 in
set_option maxHeartbeats 3200000 in
theorem law_MiddlesOf (w : World) (a : Option Addr) (n c : Nat) (h : Bts w a n w.heap.size) (hnc : n ≤ c) :
    Calls Try.prog 3 #[.slice a n c] w fun e w' => Says w w' e true := by
  by_cases hbig : 1048576 < n
  · go_enter Try.func3, Try.ntmps3
    go_wp2
    go_ret
    exact ⟨rfl, Below.refl _ _⟩
  go_enter Try.func3, Try.ntmps3
  go_wp2_with fail
  refine (DrawMiddlesOf_any w a n c h hnc (by omega)).mono ?_
  rintro e w1 ⟨a1, m, c1, xs, wd, rfl, hm, hwd, hown, hbl⟩
  have hrow := hown.row (show m ≤ 1125899906842624 by omega)
  have hlen : Hid (xs.length = m) := hrow.len
  have hcap := hrow.cap
  clear hown
  obtain ⟨ys, hys⟩ : ∃ ys, ys = mdR xs (wd : Int) := ⟨_, rfl⟩
  obtain ⟨k, hk⟩ : ∃ k, k = ys.length := ⟨_, rfl⟩
  have hk1 : k ≤ 1000 := by rw [hk, hys]; exact mdR_len xs wd
  have HI : Hid (∀ w, Row w a1 m c1 xs → Calls Try.prog 6 #[.slice a1 m c1, .int .i64 wd] w fun e w' => Fresh w w' e k ys) := by
    intro w h; rw [hk, hys]; exact MiddlesOf_all w a1 m c1 xs wd h
  have HS : Hid (∀ w, Row w a1 m c1 xs → Calls Try.prog 8 #[.slice a1 m c1, .int .i64 wd] w fun e w' => Fresh w w' e k ys) := by
    intro w h; rw [hk, hys]; exact sMiddlesOf_all w a1 m c1 xs wd h
  have HYS := Lib.hid hys
  have HK := Lib.hid hk
  clear hys hk
  go_wp2_with fail
  refine (HI.out w1 hrow).mono ?_
  rintro e w2 ⟨a2, c2, rfl, own2, b2⟩
  go_wp2_with fail
  refine (HS.out w2 (hrow.below b2)).mono ?_
  rintro e w3 ⟨a3, c3, rfl, own3, b3⟩
  have l3 := bstep (bstep hbl b2) b3
  have rx3 := (hrow.below b2).below b3
  have ry3 := (own2.below b3).row (show k ≤ 1125899906842624 by omega)
  go_wp2_with fail
  refine (equalInts_any_eq w3 a2 a3 k k c2 c3 _ _ ry3 (own3.row (by omega)) rfl).mono ?_
  rintro e w4 ⟨rfl, b4⟩
  have l4 := bstep l3 b4
  have rx4 := rx3.below b4
  have ry4 := ry3.below b4
  clear hrow hbl own2 own3 rx3 ry3 l3 b2 b3 b4
  by_cases hk0 : k = 0
  · have hkb : ((k : Int) == 0) = true := by simp; omega
    clear hk0
    go_wp2_with fail
    refine (HS.out w4 rx4).mono ?_
    rintro e w5 ⟨a5, c5, rfl, own5, b5⟩
    go_wp2_with fail
    refine (equalInts_any_eq w5 a2 a5 k k c2 c5 _ _ (ry4.below b5) (own5.row (by omega)) rfl).mono ?_
    rintro e w6 ⟨rfl, b6⟩
    go_wp2_with fail
    go_ret
    exact ⟨ret_bool rfl, bstep (bstep l4 b5) b6⟩
  have hkb : ((k : Int) == 0) = false := by simp; omega
  have hok : mdOk xs (wd : Int) = true := by
    cases hv : mdOk xs (wd : Int) with
    | true => rfl
    | false => have e := HYS.out; rw [mdR, hv] at e; have e2 := HK.out; rw [e] at e2; exact absurd e2 hk0
  obtain ⟨hv, h1, h2, h3⟩ := mdOk_iff.1 hok
  rw [hlen.out] at h2
  have hm16 : m ≤ 16 := by have := valid_len hv; rw [hlen.out] at this; exact this
  obtain ⟨q, hq⟩ : ∃ q, wd = 2 * q + 1 := ⟨wd / 2, by omega⟩
  have hye : ys = mdL xs wd (m - wd + 1) := by rw [HYS.out, mdR, if_pos hok, hlen.out]; rfl
  have hkm : k = m - wd + 1 := by rw [HK.out, hye, mdL, tab_length]
  have HYE : Hid (∀ i, i < k → el ys i = midV (sub xs i wd) wd) := fun i hi => by rw [hye, mdL, el_tab (by omega)]
  have HMB : Hid (∀ i, i < k → lessN (fun t => el xs (i + t)) (el ys i) wd ≤ q ∧ moreN (fun t => el xs (i + t)) (el ys i) wd ≤ q) := fun i hi => by
    rw [HYE.out i hi]
    have hb := more_bd (sub_len xs i wd) hq
    have e1 : lessN (el (sub xs i wd)) (midV (sub xs i wd) wd) wd = lessN (fun t => el xs (i + t)) (midV (sub xs i wd) wd) wd := sm_congr fun t ht => by rw [el_sub ht]
    have e2 : moreN (el (sub xs i wd)) (midV (sub xs i wd) wd) wd = moreN (fun t => el xs (i + t)) (midV (sub xs i wd) wd) wd := sm_congr fun t ht => by rw [el_sub ht]
    rw [e1, e2] at hb; exact hb
  have hwm : wd ≤ m := by omega
  have hw0 : 0 < wd := by omega
  obtain ⟨bx, ox, rfl, _, hcx⟩ := rx4.at (by omega)
  obtain ⟨bY, oY, rfl, _, hcY⟩ := ry4.at (by omega)
  have HX := Lib.hid hcx
  have HY := Lib.hid hcY
  have hwq : (wd : Int) = 2 * q + 1 := by omega
  have HWQ := Lib.hid hwq
  have hkl : (k : Int) = (m : Int) - wd + 1 := by omega
  have HKL := Lib.hid hkl
  have hkle : k + wd ≤ m + 1 := by omega
  clear hcx hcY hv h1 h2 h3 hok hye hkm hq hk0 HI HS hwq hkl
  go_wp2_with fail
  go_loopw [6] (fun u wr => ∃ i : Nat, i ≤ k ∧ u = .int .i64 i ∧ Below w4.heap.size w4 wr) (fun u _ => k - (intOf u).toNat)
  case atStart => exact ⟨0, Nat.zero_le _, rfl, Below.refl _ _⟩
  case round =>
    obtain ⟨i, hi, rfl, hblr⟩ := hrel
    by_cases hlt : i < k
    · have hiw : i + wd ≤ m := by omega
      go_wp2_with fail
      obtain ⟨wo, rfl⟩ : ∃ wo : World, wo = wr := ⟨_, rfl⟩
      obtain ⟨v, hv⟩ : ∃ v, v = el ys i := ⟨_, rfl⟩
      have hMB := HMB.out i hlt
      rw [← hv] at hMB
      have HV := Lib.hid hv
      clear hv
      go_loopw [7, 8, 9] (fun u v' t wr => ∃ j : Nat, j ≤ wd ∧ t = .int .i64 ((i : Int) + j) ∧ u = .int .i64 (lessN (fun t => el xs (i + t)) v j) ∧ v' = .int .i64 (moreN (fun t => el xs (i + t)) v j) ∧ Below w4.heap.size w4 wr) (fun _ _ t _ => i + wd - (intOf t).toNat)
      case atStart => exact ⟨0, Nat.zero_le _, by go_num, rfl, rfl, hblr⟩
      case round =>
        obtain ⟨j, hj, rfl, rfl, rfl, hbl2⟩ := hrel
        have hlb := less_bd (fun t => el xs (i + t)) v j
        have hmb := more_bd0 (fun t => el xs (i + t)) v j
        by_cases hjn : j < wd
        · have hc1 := HX.out wr hbl2 (i + j) (by omega)
          have hc2 := HY.out wr hbl2 i hlt
          rw [← HV.out] at hc2
          have i0 : (0 : Int) ≤ (i : Int) + (j : Int) := by omega
          have i1 : (i : Int) + (j : Int) < m := by omega
          have i2 : (0 : Int) ≤ (i : Int) := by omega
          have i3 : (i : Int) < k := by omega
          have i4 : ((i : Int) + (j : Int)).toNat = i + j := by omega
          have hls : lessN (fun t => el xs (i + t)) v (j + 1) = lessN (fun t => el xs (i + t)) v j + (if el xs (i + j) < v then 1 else 0) := rfl
          have hms : moreN (fun t => el xs (i + t)) v (j + 1) = moreN (fun t => el xs (i + t)) v j + (if v < el xs (i + j) then 1 else 0) := rfl
          by_cases h1 : el xs (i + j) < v
          · have h2 : ¬ v < el xs (i + j) := by omega
            rw [if_pos h1] at hls
            rw [if_neg h2] at hms
            have t1 : decide (el xs (i + j) < v) = true := decide_eq_true h1
            have t2 : decide (v < el xs (i + j)) = false := decide_eq_false h2
            have HLS := Lib.hid hls
            have HMS := Lib.hid hms
            clear hls hms h1 h2
            go_wp2_with fail
            go_quiet (fail)
            go_wp2_with fail
            go_quiet (fail)
            go_wp2_with fail
            go_roundw
            case rel => exact ⟨j + 1, by omega, by go_num, by rw [HLS.out], by rw [HMS.out]; simp, bdrewN hbl2 _⟩
            case measure => simp [intOf]; omega
          · rw [if_neg h1] at hls
            have t1 : decide (el xs (i + j) < v) = false := decide_eq_false h1
            have HLS := Lib.hid hls
            clear hls
            by_cases h2 : v < el xs (i + j)
            · rw [if_pos h2] at hms
              have t2 : decide (v < el xs (i + j)) = true := decide_eq_true h2
              have HMS := Lib.hid hms
              clear hms h1 h2
              go_wp2_with fail
              go_quiet (fail)
              go_wp2_with fail
              go_quiet (fail)
              go_wp2_with fail
              go_roundw
              case rel => exact ⟨j + 1, by omega, by go_num, by rw [HLS.out]; simp, by rw [HMS.out], bdrewN hbl2 _⟩
              case measure => simp [intOf]; omega
            · rw [if_neg h2] at hms
              have t2 : decide (v < el xs (i + j)) = false := decide_eq_false h2
              have HMS := Lib.hid hms
              clear hms h1 h2
              go_wp2_with fail
              go_quiet (fail)
              go_wp2_with fail
              go_quiet (fail)
              go_wp2_with fail
              go_roundw
              case rel => exact ⟨j + 1, by omega, by go_num, by rw [HLS.out]; simp, by rw [HMS.out]; simp, bdrewN hbl2 _⟩
              case measure => simp [intOf]; omega
        · obtain rfl : j = wd := by omega
          have hc2 := HY.out wr hbl2 i hlt
          rw [← HV.out] at hc2
          obtain ⟨t, ht, hte⟩ := mid_in (sub_len xs i j) hw0
          have HTE : Hid (el (sub xs i j) t = v) := by rw [Hid, hte, HV.out, HYE.out i hlt]
          have hrp := (rx4.below hbl2).part hiw hw0
          have HRP : Hid (∀ m, Row (wr.drewN m) (some ⟨bx, ox + i, none⟩) j (c1 - i) (sub xs i j)) := fun m => hrp.heap rfl
          have hck : ¬ c1 = i := by omega
          have i0 : (0 : Int) ≤ (i : Int) + (j : Int) := by omega
          have i1 : (i : Int) + (j : Int) ≤ m := by omega
          have i2 : (0 : Int) ≤ (i : Int) := by omega
          have i3 : (i : Int) < k := by omega
          have i4 : ((i : Int) + (j : Int)).toNat = i + j := by omega
          have hjq := HWQ.out
          have t1 : decide ((j : Int) < 2 * lessN (fun t => el xs (i + t)) v j) = false := decide_eq_false (by omega)
          have t2 : decide ((j : Int) < 2 * moreN (fun t => el xs (i + t)) v j) = false := decide_eq_false (by omega)
          have j1 : IntKind.i64.wrap ((i : Int) + (j : Int)) = (i : Int) + (j : Int) := IntWalk.i64_in _ (by omega)
          have j2 : IntKind.i64.wrap (2 * lessN (fun t => el xs (i + t)) v j) = 2 * lessN (fun t => el xs (i + t)) v j := IntWalk.i64_in _ (by omega)
          have j3 : IntKind.i64.wrap (2 * moreN (fun t => el xs (i + t)) v j) = 2 * moreN (fun t => el xs (i + t)) v j := IntWalk.i64_in _ (by omega)
          clear hte hrp hjq
          go_wp2_with fail
          go_quiet ((go_at_call 9; exact quiet_tells (isIn_yes _ _ _ _ _ v t (HRP.out _) ht HTE.out)))
          clear j1 j2 j3
          go_wp2_with fail
          go_roundw
          case rel => exact ⟨i + 1, by omega, by go_num, bdrewN hbl2 _⟩
          case measure => simp [intOf]; omega
    · obtain rfl : i = k := by omega
      have hkl := HKL.out
      go_wp2_with fail
      go_ret
      exact ⟨ret_bool (by simp <;> omega), bstep l4 hblr⟩
end Go.Proofs.Ytbnlfacggchoiaa
