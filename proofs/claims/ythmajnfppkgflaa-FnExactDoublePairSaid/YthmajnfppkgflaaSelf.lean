/-
  SelfOf, the program's and the reference's, and its law.
-/
import Derived.Test.YthmajnfppkgflaaPSelf
import Derived.Test.YthmajnfppkgflaaFold
import Derived.Test.YthmajnfppkgflaaDraw2
import Derived.Test.YthmajnfppkgflaaReg
namespace Go.Proofs.Ythmajnfppkgflaa
open Go.RowKit

def sfp (f : Nat → Int) (d i : Nat) : Int := sm (fun t => f t * f (t + d)) i
theorem sfp_bd {f : Nat → Int} {n d i : Nat} (h : ∀ i, i < n → -1000 ≤ f i ∧ f i ≤ 1000) (hi : i + d ≤ n) : -(1000000 * (i : Int)) ≤ sfp f d i ∧ sfp f d i ≤ 1000000 * (i : Int) :=
  sm_bd fun t ht => mul_bd (h t (by omega)) (h (t + d) (by omega))
set_option maxHeartbeats 1600000 in
theorem itself_any (w : World) (a : Option Addr) (n c : Nat) (xs : List Int) (h : Row w a n c xs) (hv : valid xs = true) :
    Calls Try.prog 33 #[.slice a n c] w fun e w' => Fresh w w' e n (selfL xs n) := by
  have HL : Hid (xs.length = n) := h.len
  have hn : n ≤ 16 := by have := valid_len hv; rw [HL.out] at this; exact this
  have HB : Hid (∀ i, i < n → -1000 ≤ el xs i ∧ el xs i ≤ 1000) := fun i hi => valid_bd hv (by rw [HL.out]; exact hi)
  go_enter Try.func33, Try.ntmps33
  go_wp2_with fail
  go_loopw [3, 4] (fun v u wr => ∃ (k : Nat) (a1 : Option Addr) (c1 : Nat), k ≤ n ∧ u = .int .i64 k ∧ v = .slice a1 k c1 ∧ Own wr w.heap.size a1 k c1 (tab (sfAt (el xs) n) k) ∧ Below w.heap.size w wr ∧ w.heap.size + 1 ≤ wr.heap.size) (fun v _ _ => n - lenOf v)
  case atStart => exact ⟨0, _, 0, Nat.zero_le _, rfl, rfl, own_empty w, (Below.refl _ _).alloc (Nat.le_refl _) _, by simp⟩
  case round =>
    obtain ⟨k, a1, c1, hk, rfl, rfl, hown, hbl, hsz⟩ := hrel
    by_cases hlt : k < n
    · obtain ⟨bx, ox, rfl, hbbx, hcx⟩ := h.at (by omega)
      have HX := Lib.hid hcx
      clear hcx
      go_wp2_with fail
      obtain ⟨wo, rfl⟩ : ∃ wo : World, wo = wr := ⟨_, rfl⟩
      go_loopw [5, 6] (fun s u wr => ∃ i : Nat, i + k ≤ n ∧ u = .int .i64 i ∧ s = .int .i64 (sfp (el xs) k i) ∧ Below wo.heap.size wo wr) (fun _ u _ => n - (intOf u).toNat)
      case atStart => exact ⟨0, by omega, rfl, rfl, Below.refl _ _⟩
      case round =>
        obtain ⟨i, hi, rfl, rfl, hbl5⟩ := hrel
        have hbl6 := hbl.trans (hbl5.mono (by omega))
        by_cases hin : i + k < n
        · have hc1 := HX.out wr hbl6 i (by omega)
          have hc2 := HX.out wr hbl6 (i + k) hin
          have hsb := @sfp_bd (el xs) n k i HB.out hi
          have hmm := mul_bd (HB.out i (by omega)) (HB.out (i + k) hin)
          have hss : sfp (el xs) k (i + 1) = sfp (el xs) k i + el xs i * el xs (i + k) := rfl
          have HSS := Lib.hid hss
          clear hss
          have i0 : (0 : Int) ≤ (i : Int) := by omega
          have i1 : (i : Int) < n := by omega
          have i2 : (0 : Int) ≤ (i : Int) + (k : Int) := by omega
          have i3 : (i : Int) + (k : Int) < n := by omega
          have i4 : ((i : Int) + (k : Int)).toNat = i + k := by omega
          have j1 : IntKind.i64.wrap ((i : Int) + (k : Int)) = (i : Int) + (k : Int) := IntWalk.i64_in _ (by omega)
          have j2 : IntKind.i64.wrap (el xs i * el xs (i + k)) = el xs i * el xs (i + k) := IntWalk.i64_in _ (by omega)
          have j3 : IntKind.i64.wrap (sfp (el xs) k i + el xs i * el xs (i + k)) = sfp (el xs) k i + el xs i * el xs (i + k) := IntWalk.i64_in _ (by omega)
          go_wp2_with fail
          go_quiet (fail)
          clear j1 j2 j3
          go_wp2_with fail
          go_roundw
          case rel => exact ⟨i + 1, by omega, by go_num, by rw [HSS.out], bdrewN hbl5 _⟩
          case measure => simp [intOf]; omega
        · have hik : i = n - k := by omega
          have hown5 := hown.below hbl5
          have hsz5 := hbl5.size
          have HAT : Hid (tab (sfAt (el xs) n) k ++ [sfp (el xs) k i] = tab (sfAt (el xs) n) (k + 1)) := by rw [Hid, hik]; rfl
          clear hik
          go_wp2_with (at_builtin; go_must (refine app_int wr rfl _ _ rfl w.heap.size _ _ _ _ _ rfl hown5 rfl (by omega) (by omega) ?_); intro a2 c2 w2 hown2 hgr2 hsz2)
          rw [HAT.out] at hown2
          go_roundw
          case rel => exact ⟨k + 1, a2, c2, by omega, by go_num, rfl, hown2, below_app hbl6 hgr2 hown5 (Nat.le_refl _) (by omega), by omega⟩
          case measure => simp [lenOf]; omega
    · obtain rfl : k = n := by omega
      go_wp2_with fail
      go_ret
      exact Fresh.mk hown hbl
set_option maxHeartbeats 1600000 in
theorem SelfOf_yes (w : World) (a : Option Addr) (n c : Nat) (xs : List Int) (h : Row w a n c xs) (hv : valid xs = true) :
    Calls Try.prog 9 #[.slice a n c] w fun e w' => Fresh w w' e n (selfL xs n) := by
  have HL : Hid (xs.length = n) := h.len
  have hn : n ≤ 16 := by have := valid_len hv; rw [HL.out] at this; exact this
  have HB : Hid (∀ i, i < n → -1000 ≤ el xs i ∧ el xs i ≤ 1000) := fun i hi => valid_bd hv (by rw [HL.out]; exact hi)
  go_enter Try.func9, Try.ntmps9
  go_wp2_with fail
  refine (ValidRow_is w a n c xs true h hv).mono ?_
  rintro e w' ⟨rfl, rfl⟩
  go_wp2_with fail
  go_loopw [3, 13] (fun v u wr => ∃ (k : Nat) (a1 : Option Addr) (c1 : Nat), k ≤ n ∧ u = .int .i64 k ∧ v = .slice a1 k c1 ∧ Own wr w.heap.size a1 k c1 (tab (sfAt (el xs) n) k) ∧ Below w.heap.size w wr ∧ w.heap.size + 1 ≤ wr.heap.size) (fun v _ _ => n - lenOf v)
  case atStart => exact ⟨0, _, 0, Nat.zero_le _, rfl, rfl, own_empty w, (Below.refl _ _).alloc (Nat.le_refl _) _, by simp⟩
  case round =>
    obtain ⟨k, a1, c1, hk, rfl, rfl, hown, hbl, hsz⟩ := hrel
    by_cases hlt : k < n
    · obtain ⟨bx, ox, rfl, hbbx, hcx⟩ := h.at (by omega)
      have HX := Lib.hid hcx
      clear hcx
      go_wp2_with fail
      obtain ⟨wo, rfl⟩ : ∃ wo : World, wo = wr := ⟨_, rfl⟩
      go_loopw [5, 6] (fun s u wr => ∃ i : Nat, i + k ≤ n ∧ u = .int .i64 i ∧ s = .int .i64 (sfp (el xs) k i) ∧ Below wo.heap.size wo wr) (fun _ u _ => n - (intOf u).toNat)
      case atStart => exact ⟨0, by omega, rfl, rfl, Below.refl _ _⟩
      case round =>
        obtain ⟨i, hi, rfl, rfl, hbl5⟩ := hrel
        have hbl6 := hbl.trans (hbl5.mono (by omega))
        by_cases hin : i + k < n
        · have hc1 := HX.out wr hbl6 i (by omega)
          have hc2 := HX.out wr hbl6 (i + k) hin
          have hsb := @sfp_bd (el xs) n k i HB.out hi
          have hmm := mul_bd (HB.out i (by omega)) (HB.out (i + k) hin)
          have hss : sfp (el xs) k (i + 1) = sfp (el xs) k i + el xs i * el xs (i + k) := rfl
          have HSS := Lib.hid hss
          clear hss
          have i0 : (0 : Int) ≤ (i : Int) := by omega
          have i1 : (i : Int) < n := by omega
          have i2 : (0 : Int) ≤ (i : Int) + (k : Int) := by omega
          have i3 : (i : Int) + (k : Int) < n := by omega
          have i4 : ((i : Int) + (k : Int)).toNat = i + k := by omega
          have j1 : IntKind.i64.wrap ((i : Int) + (k : Int)) = (i : Int) + (k : Int) := IntWalk.i64_in _ (by omega)
          have j2 : IntKind.i64.wrap (el xs i * el xs (i + k)) = el xs i * el xs (i + k) := IntWalk.i64_in _ (by omega)
          have j3 : IntKind.i64.wrap (sfp (el xs) k i + el xs i * el xs (i + k)) = sfp (el xs) k i + el xs i * el xs (i + k) := IntWalk.i64_in _ (by omega)
          go_wp2_with fail
          go_quiet (fail)
          clear j1 j2 j3
          go_wp2_with fail
          go_roundw
          case rel => exact ⟨i + 1, by omega, by go_num, by rw [HSS.out], bdrewN hbl5 _⟩
          case measure => simp [intOf]; omega
        · have hik : i = n - k := by omega
          have hown5 := hown.below hbl5
          have hsz5 := hbl5.size
          have HAT : Hid (tab (sfAt (el xs) n) k ++ [sfp (el xs) k i] = tab (sfAt (el xs) n) (k + 1)) := by rw [Hid, hik]; rfl
          clear hik
          go_wp2_with (at_builtin; go_must (refine app_int wr rfl _ _ rfl w.heap.size _ _ _ _ _ rfl hown5 rfl (by omega) (by omega) ?_); intro a2 c2 w2 hown2 hgr2 hsz2)
          rw [HAT.out] at hown2
          go_roundw
          case rel => exact ⟨k + 1, a2, c2, by omega, by go_num, rfl, hown2, below_app hbl6 hgr2 hown5 (Nat.le_refl _) (by omega), by omega⟩
          case measure => simp [lenOf]; omega
    · obtain rfl : k = n := by omega
      go_wp2_with fail
      go_ret
      exact Fresh.mk hown hbl
set_option maxHeartbeats 400000 in
theorem SelfOf_no (w : World) (a : Option Addr) (n c : Nat) (xs : List Int) (h : Row w a n c xs) (hv : valid xs = false) :
    Calls Try.prog 9 #[.slice a n c] w fun e w' => e = .returned (.slice none 0 0) ∧ w = w' := by
  go_enter Try.func9, Try.ntmps9
  go_wp2_with fail
  refine (ValidRow_is w a n c xs false h hv).mono ?_
  rintro e w' ⟨rfl, rfl⟩
  go_wp2_with fail
  go_ret
  exact ⟨rfl, rfl⟩
set_option maxHeartbeats 800000 in
theorem sSelfOf_yes (w : World) (a : Option Addr) (n c : Nat) (xs : List Int) (h : Row w a n c xs) (hv : valid xs = true) :
    Calls Try.prog 11 #[.slice a n c] w fun e w' => Fresh w w' e n (selfL xs n) := by
  go_enter Try.func11, Try.ntmps11
  go_wp2_with fail
  refine (validRow_is w a n c xs true h hv).mono ?_
  rintro e w' ⟨rfl, rfl⟩
  go_wp2_with fail
  refine (itself_any w a n c xs h hv).mono ?_
  rintro e w1 ⟨a1, c1, rfl, hown, hbl⟩
  go_wp2_with fail
  go_ret
  exact Fresh.mk hown hbl
set_option maxHeartbeats 400000 in
theorem sSelfOf_no (w : World) (a : Option Addr) (n c : Nat) (xs : List Int) (h : Row w a n c xs) (hv : valid xs = false) :
    Calls Try.prog 11 #[.slice a n c] w fun e w' => e = .returned (.slice none 0 0) ∧ w = w' := by
  go_enter Try.func11, Try.ntmps11
  go_wp2_with fail
  refine (validRow_is w a n c xs false h hv).mono ?_
  rintro e w' ⟨rfl, rfl⟩
  go_wp2_with fail
  go_ret
  exact ⟨rfl, rfl⟩
def selfR (xs : List Int) : List Int := if valid xs then selfL xs xs.length else []
theorem selfR_len (xs : List Int) : (selfR xs).length ≤ 1000 := by
  unfold selfR
  split
  · rename_i h; have := valid_len h; rw [selfL, tab_length]; omega
  · simp
theorem SelfOf_all (w : World) (a : Option Addr) (n c : Nat) (xs : List Int) (h : Row w a n c xs) :
    Calls Try.prog 9 #[.slice a n c] w fun e w' => Fresh w w' e (selfR xs).length (selfR xs) := by
  cases hv : valid xs
  · rw [show selfR xs = [] by simp [selfR, hv]]
    refine (SelfOf_no w a n c xs h hv).mono ?_
    rintro e w' ⟨rfl, rfl⟩
    exact Fresh.mk (own_nil _ _) (Below.refl _ _)
  · refine (SelfOf_yes w a n c xs h hv).mono ?_
    rintro e w' ⟨a1, c1, rfl, hown, hbl⟩
    have hl := h.len
    exact Fresh.mk' hown hbl (by rw [selfR, if_pos hv, selfL, tab_length, hl]) (by rw [selfR, if_pos hv, hl])
theorem sSelfOf_all (w : World) (a : Option Addr) (n c : Nat) (xs : List Int) (h : Row w a n c xs) :
    Calls Try.prog 11 #[.slice a n c] w fun e w' => Fresh w w' e (selfR xs).length (selfR xs) := by
  cases hv : valid xs
  · rw [show selfR xs = [] by simp [selfR, hv]]
    refine (sSelfOf_no w a n c xs h hv).mono ?_
    rintro e w' ⟨rfl, rfl⟩
    exact Fresh.mk (own_nil _ _) (Below.refl _ _)
  · refine (sSelfOf_yes w a n c xs h hv).mono ?_
    rintro e w' ⟨a1, c1, rfl, hown, hbl⟩
    have hl := h.len
    exact Fresh.mk' hown hbl (by rw [selfR, if_pos hv, selfL, tab_length, hl]) (by rw [selfR, if_pos hv, hl])
theorem turned_valid {xs : List Int} {n : Nat} (hl : xs.length = n) (hv : valid xs = true) : valid (tab (fun i => el xs (n - 1 - i)) n) = true := by
  obtain ⟨h1, h2⟩ := valid_iff.1 hv
  rw [hl] at h1 h2
  exact valid_iff.2 ⟨by rw [tab_length]; exact h1, fun i hi => by rw [tab_length] at hi; rw [el_tab hi]; exact h2 _ (by omega)⟩
theorem turned_self {xs : List Int} {n : Nat} : selfL (tab (fun i => el xs (n - 1 - i)) n) n = selfL xs n := tab_congr fun d hd => by
  have e : sfAt (el (tab (fun i => el xs (n - 1 - i)) n)) n d = sfAt (fun i => el xs (n - 1 - i)) n d := sf_congr fun i hi => el_tab hi
  rw [e]
  exact sf_turn (el xs) hd
set_option maxRecDepth 100000 in
set_option maxHeartbeats 6400000 in
theorem law_SelfOf (w : World) (a : Option Addr) (n c : Nat) (h : Bts w a n w.heap.size) (hnc : n ≤ c) :
    Calls Try.prog 3 #[.slice a n c] w fun e w' => Says w w' e true := by
  by_cases hbig : 1048576 < n
  · go_enter Try.func3, Try.ntmps3
    go_wp2
    go_ret
    exact ⟨rfl, Below.refl _ _⟩
  go_enter Try.func3, Try.ntmps3
  go_wp2_with fail
  refine (DrawSelfOf_any w a n c h hnc (by omega)).mono ?_
  rintro e w1 ⟨a1, m, c1, xs, rfl, hm, hown, hbl⟩
  have hrow := hown.row (by omega)
  have hlen : Hid (xs.length = m) := hrow.len
  obtain ⟨ys, hys⟩ : ∃ ys, ys = selfR xs := ⟨_, rfl⟩
  obtain ⟨k, hk⟩ : ∃ k, k = ys.length := ⟨_, rfl⟩
  have hk1 : k ≤ 1000 := by rw [hk, hys]; exact selfR_len xs
  have HI : Hid (∀ w a c, Row w a m c xs → Calls Try.prog 9 #[.slice a m c] w fun e w' => Fresh w w' e k ys) := by
    intro w a c h; rw [hk, hys]; exact SelfOf_all w a m c xs h
  have HS : Hid (∀ w a c, Row w a m c xs → Calls Try.prog 11 #[.slice a m c] w fun e w' => Fresh w w' e k ys) := by
    intro w a c h; rw [hk, hys]; exact sSelfOf_all w a m c xs h
  have HYS := Lib.hid hys
  have HK := Lib.hid hk
  clear hys hk
  go_wp2_with fail
  refine (HI.out w1 a1 c1 hrow).mono ?_
  rintro e w2 ⟨a2, c2, rfl, hown2, hb2⟩
  have hbl2 := bstep hbl hb2
  have hrow2 := hrow.below hb2
  go_wp2_with fail
  refine (HS.out w2 a1 c1 hrow2).mono ?_
  rintro e w3 ⟨a3, c3, rfl, hown3, hb3⟩
  have hbl3 := bstep hbl2 hb3
  have hrow3 := hrow2.below hb3
  have hr3 := (hown2.below hb3).row (by omega)
  go_wp2_with fail
  refine (equalInts_any_eq w3 a2 a3 k k c2 c3 _ _ hr3 (hown3.row (by omega)) rfl).mono ?_
  rintro e w4 ⟨rfl, hb4⟩
  have hbl4 := bstep hbl3 hb4
  have hrow4 := hrow3.below hb4
  have hr4 := hr3.below hb4
  clear hown hown2 hown3 hb2 hb3 hb4 hrow hrow2 hrow3 hr3 hbl hbl2 hbl3
  by_cases hk0 : k = 0
  · have hkb : ((k : Int) == 0) = true := by simp; omega
    clear hk0
    go_wp2_with fail
    refine (HS.out w4 a1 c1 hrow4).mono ?_
    rintro e w5 ⟨a5, c5, rfl, hown5, hb5⟩
    go_wp2_with fail
    refine (equalInts_any_eq w5 a2 a5 k k c2 c5 _ _ (hr4.below hb5) (hown5.row (by omega)) rfl).mono ?_
    rintro e w6 ⟨rfl, hb6⟩
    go_wp2_with fail
    go_ret
    exact ⟨ret_bool rfl, bstep (bstep hbl4 hb5) hb6⟩
  have hkb : ((k : Int) == 0) = false := by simp; omega
  have hv : valid xs = true := by
    cases hv : valid xs with
    | true => rfl
    | false => have e := HYS.out; rw [selfR, hv] at e; have e2 := HK.out; rw [e] at e2; exact absurd e2 hk0
  have hys : ys = selfL xs m := by rw [HYS.out, selfR, if_pos hv, hlen.out]
  have hkm : k = m := by rw [HK.out, hys, selfL, tab_length]
  subst hkm
  have hk16 : k ≤ 16 := by have := valid_len hv; rw [hlen.out] at this; exact this
  have hk1 : 0 < k := by omega
  have hbd : Hid (∀ i, i < k → -1000 ≤ el xs i ∧ el xs i ≤ 1000) := fun i hi => valid_bd hv (by rw [hlen.out]; exact hi)
  have hy : ∀ i, i < k → el ys i = sfAt (el xs) k i := fun i hi => by rw [hys, selfL, el_tab hi]
  have h0e : sfAt (el xs) k 0 = en (el xs) k := rfl
  have h0b : 0 ≤ sfAt (el xs) k 0 ∧ sfAt (el xs) k 0 ≤ 16000000 := by have := @en_bd (el xs) k hbd.out; rw [h0e]; omega
  have HLE : Hid (∀ i, i < k → el ys i ≤ el ys 0 ∧ -(el ys 0) ≤ el ys i) := fun i hi => by rw [hy i hi, hy 0 hk1]; exact sf_le (el xs) (by omega)
  have HE0 : Hid (el ys 0 = en (el xs) k) := by rw [Hid, hy 0 hk1]; exact h0e
  have hy0b : 0 ≤ el ys 0 ∧ el ys 0 ≤ 16000000 := by rw [hy 0 hk1]; exact h0b
  have HYB : Hid (∀ i, i < k → -16000000 ≤ el ys i ∧ el ys i ≤ 16000000) := fun i hi => by have := HLE.out i hi; omega
  have HTT : Hid (2 * sm (el ys) k - el ys 0 = sm (el xs) k * sm (el xs) k) := by
    rw [Hid, sm_congr hy, hy 0 hk1]; exact sf_total (el xs) k
  have HTS : Hid (selfR (tab (fun i => el xs (k - 1 - i)) k) = ys) := by
    rw [Hid, selfR, if_pos (turned_valid hlen.out hv), tab_length, turned_self, hys]
  have hTSl : (selfR (tab (fun i => el xs (k - 1 - i)) k)).length = k := by rw [HTS.out, hys, selfL, tab_length]
  have HTA : Hid (∀ w a c, Row w a k c (tab (fun i => el xs (k - 1 - i)) k) → Calls Try.prog 9 #[.slice a k c] w fun e w' => Fresh w w' e k ys) := fun w a c h => by
    have := SelfOf_all w a k c _ h
    rw [hTSl, HTS.out] at this; exact this
  clear hy h0e h0b hys hTSl HTS HI HS
  obtain ⟨b2, off2, rfl, hbb2, hcell2⟩ := hr4.at hk1
  have HC := Lib.hid hcell2
  clear hcell2
  go_wp2_with fail
  go_loopw [5] (fun u wr => ∃ j : Nat, 1 ≤ j ∧ j ≤ k ∧ u = .int .i64 j ∧ Below w4.heap.size w4 wr) (fun u _ => k - (intOf u).toNat)
  case atStart => exact ⟨1, Nat.le_refl _, hk1, rfl, Below.refl _ _⟩
  case round =>
    obtain ⟨j, hj1, hj, rfl, hblr⟩ := hrel
    by_cases hlt : j < k
    · have hc0 := HC.out wr hblr 0 hk1
      rw [Nat.add_zero] at hc0
      have hc1 := HC.out wr hblr j hlt
      have hle := HLE.out j hlt
      obtain ⟨X, hX⟩ : ∃ X, X = el ys j := ⟨_, rfl⟩
      obtain ⟨Y, hY⟩ : ∃ Y, Y = el ys 0 := ⟨_, rfl⟩
      rw [← hX] at hc1 hle
      rw [← hY] at hc0 hle hy0b
      clear hX hY
      have i0 : (0 : Int) ≤ (j : Int) := by omega
      have i1 : (j : Int) < k := by omega
      have i2 : (0 : Int) < k := by omega
      have j1 : IntKind.i64.wrap (-Y) = -Y := IntWalk.i64_in _ (by omega)
      have t1 : decide (Y < X) = false := decide_eq_false (by omega)
      have t2 : decide (X < -Y) = false := decide_eq_false (by omega)
      go_wp2_with fail
      go_quiet (fail)
      clear j1
      go_wp2_with fail
      go_roundw
      case rel => exact ⟨j + 1, by omega, by omega, by go_num, bdrewN hblr _⟩
      case measure => simp [intOf]; omega
    · obtain rfl : j = k := by omega
      have l7 := bstep hbl4 hblr
      have rx7 := hrow4.below hblr
      have ry7 := hr4.below hblr
      have HC2 : Hid (∀ w', Below wr.heap.size wr w' → w'.cell? ⟨b2, off2, none⟩ = some (.int .i64 (el ys 0))) := fun w' hb => HC.out w' (bstep hblr hb) 0 hk1
      clear HC hrow4 hr4 hbl4 hblr HLE hk0 hkb
      have hj1000 : j ≤ 1000 := by omega
      have j1 : (0 : Int) < (j : Int) := by omega
      have hsx := @sm_bd (el xs) 1000 j hbd.out
      have hsy := @sm_bd (el ys) 16000000 j HYB.out
      have hss := @mul_bd (sm (el xs) j) (sm (el xs) j) 16000 16000 (by omega) (by omega)
      obtain ⟨T, hT⟩ : ∃ T, T = sm (el ys) j := ⟨_, rfl⟩
      obtain ⟨Y, hY⟩ : ∃ Y, Y = el ys 0 := ⟨_, rfl⟩
      have HTT2 : Hid (2 * T - Y = sm (el xs) j * sm (el xs) j) := by rw [hT, hY]; exact HTT.out
      have HTO : Hid (∀ w, Row w (some ⟨b2, off2, none⟩) j c2 ys → Calls Try.prog 14 #[.slice (some ⟨b2, off2, none⟩) j c2] w fun e w' => e = .returned (.int .i64 T) ∧ w = w') := fun w h => by
        rw [hT]; exact total_any w _ j c2 ys 16000000 h hj1000 (by decide) HYB.out
      rw [← hY] at HC2 HE0 hy0b
      rw [← hT] at hsy
      clear HTT hT hY
      have j2 : IntKind.i64.wrap (2 * T) = 2 * T := IntWalk.i64_in _ (by omega)
      have j3 : IntKind.i64.wrap (2 * T - Y) = 2 * T - Y := IntWalk.i64_in _ (by omega)
      have j4 : IntKind.i64.wrap (sm (el xs) j * sm (el xs) j) = sm (el xs) j * sm (el xs) j := IntWalk.i64_in _ (by omega)
      have t1 : (2 * T - Y == sm (el xs) j * sm (el xs) j) = true := by rw [HTT2.out]; simp
      go_wp2_with fail
      refine wp_region_held_drew (S := fun w' => Below wr.heap.size wr w') (by kernel_rfl) ((Below.refl _ wr).drew) fun hS => ?_
      refine takeH 0 52 rfl rfl (by kernel_rfl) (by kernel_rfl) (by kernel_rfl) (fun _ _ _ h => h) (by rfl) (v := ?_) ?_ hS ?_
      rotate_left 1
      · (intro w hSw; (try dsimp only at hSw); go_simp; all_goals (with_reducible rfl))
      (try simp only [Act.put, List.setIfInBounds_toArray, List.set])
      refine takeH 3 55 rfl rfl (by kernel_rfl) (by kernel_rfl) (by kernel_rfl) (fun _ _ _ h => h) (by rfl) (v := ?_) ?_ hS ?_
      rotate_left 1
      · (intro w hSw; (try dsimp only at hSw); go_simp; all_goals (with_reducible rfl))
      (try simp only [Act.put, List.setIfInBounds_toArray, List.set])
      refine wpAnyH_ready (rs := [1]) (by kernel_rfl) (by simp) ?_
      refine AllReadyH.cons rfl (fun K hK => ?_) AllReadyH.nil
      go_simp
      ((with_reducible refine (turned_any _ _ _ _ xs (rx7.below hS) hj1000).mono ?_); rintro e w5 ⟨a5, c5, rfl, hown5, hb5⟩)
      refine hK.out _ _ (bstep hS hb5) fun hS => ?_
      clear hK K
      (try simp only [Act.put, List.setIfInBounds_toArray, List.set])
      refine wpAnyH_ready (rs := [2]) (by kernel_rfl) (by simp) ?_
      refine AllReadyH.cons rfl (fun K hK => ?_) AllReadyH.nil
      go_simp
      ((with_reducible refine (HTA.out _ _ _ (hown5.row (by omega))).mono ?_); rintro e w6 ⟨a6, c6, rfl, hown6, hb6⟩)
      refine hK.out _ _ (bstep hS hb6) fun hS => ?_
      clear hK K
      (try simp only [Act.put, List.setIfInBounds_toArray, List.set])
      refine wpAnyH_ready (rs := [4]) (by kernel_rfl) (by simp) ?_
      refine AllReadyH.cons rfl (fun K hK => ?_) AllReadyH.nil
      go_simp
      ((with_reducible refine (equalInts_any_eq _ _ _ _ _ _ _ _ _ (hown6.row (by omega)) (ry7.below hS) rfl).mono ?_); rintro e w7 ⟨rfl, hb7⟩)
      refine hK.out _ _ (bstep hS hb7) fun hS => ?_
      clear hK K
      (try simp only [Act.put, List.setIfInBounds_toArray, List.set])
      refine takeH 5 57 rfl rfl (by kernel_rfl) (by kernel_rfl) (by kernel_rfl) (fun _ _ _ h => h) (by rfl) (v := ?_) ?_ hS ?_
      rotate_left 1
      · (intro w hSw; (try dsimp only at hSw); go_simp; all_goals (with_reducible rfl))
      (try simp only [Act.put, List.setIfInBounds_toArray, List.set])
      refine takeH 6 58 rfl rfl (by kernel_rfl) (by kernel_rfl) (by kernel_rfl) (fun _ _ _ h => h) (by rfl) (v := ?_) ?_ hS ?_
      rotate_left 1
      · (intro w hSw; (try dsimp only at hSw); go_simp; all_goals (with_reducible rfl))
      (try simp only [Act.put, List.setIfInBounds_toArray, List.set])
      refine takeH 7 59 rfl rfl (by kernel_rfl) (by kernel_rfl) (by kernel_rfl) (fun _ _ _ h => h) (by rfl) (v := ?_) ?_ hS ?_
      rotate_left 1
      · (intro w hSw; (try dsimp only at hSw); go_simp; all_goals (with_reducible rfl))
      (try simp only [Act.put, List.setIfInBounds_toArray, List.set])
      refine takeH 8 60 rfl rfl (by kernel_rfl) (by kernel_rfl) (by kernel_rfl) (fun _ _ _ h => h) (by rfl) (v := ?_) ?_ hS ?_
      rotate_left 1
      · (intro w hSw; (try dsimp only at hSw); have hq2 := HC2.out _ hSw; go_simp; all_goals (with_reducible rfl))
      (try simp only [Act.put, List.setIfInBounds_toArray, List.set])
      refine takeH 9 61 rfl rfl (by kernel_rfl) (by kernel_rfl) (by kernel_rfl) (fun _ _ _ h => h) (by rfl) (v := ?_) ?_ hS ?_
      rotate_left 1
      · (intro w hSw; (try dsimp only at hSw); go_simp; all_goals (with_reducible rfl))
      (try simp only [Act.put, List.setIfInBounds_toArray, List.set])
      refine wpAnyH_ready (rs := [10]) (by kernel_rfl) (by simp) ?_
      refine AllReadyH.cons rfl (fun K hK => ?_) AllReadyH.nil
      go_simp
      ((with_reducible refine (EnergyOf_yes _ _ _ _ xs (rx7.below hS) hv).mono ?_); rw [← HE0.out]; rintro e w' ⟨rfl, rfl⟩)
      refine hK.out _ _ (hS) fun hS => ?_
      clear hK K
      (try simp only [Act.put, List.setIfInBounds_toArray, List.set])
      refine takeH 11 63 rfl rfl (by kernel_rfl) (by kernel_rfl) (by kernel_rfl) (fun _ _ _ h => h) (by rfl) (v := ?_) ?_ hS ?_
      rotate_left 1
      · (intro w hSw; (try dsimp only at hSw); go_simp; all_goals (with_reducible rfl))
      (try simp only [Act.put, List.setIfInBounds_toArray, List.set])
      refine takeH 12 64 rfl rfl (by kernel_rfl) (by kernel_rfl) (by kernel_rfl) (fun _ _ _ h => h) (by rfl) (v := ?_) ?_ hS ?_
      rotate_left 1
      · (intro w hSw; (try dsimp only at hSw); go_simp; all_goals (with_reducible rfl))
      (try simp only [Act.put, List.setIfInBounds_toArray, List.set])
      refine takeH 13 65 rfl rfl (by kernel_rfl) (by kernel_rfl) (by kernel_rfl) (fun _ _ _ h => h) (by rfl) (v := ?_) ?_ hS ?_
      rotate_left 1
      · (intro w hSw; (try dsimp only at hSw); go_simp; all_goals (with_reducible rfl))
      (try simp only [Act.put, List.setIfInBounds_toArray, List.set])
      refine takeH 14 66 rfl rfl (by kernel_rfl) (by kernel_rfl) (by kernel_rfl) (fun _ _ _ h => h) (by rfl) (v := ?_) ?_ hS ?_
      rotate_left 1
      · (intro w hSw; (try dsimp only at hSw); go_simp; all_goals (with_reducible rfl))
      (try simp only [Act.put, List.setIfInBounds_toArray, List.set])
      refine takeH 17 69 rfl rfl (by kernel_rfl) (by kernel_rfl) (by kernel_rfl) (fun _ _ _ h => h) (by rfl) (v := ?_) ?_ hS ?_
      rotate_left 1
      · (intro w hSw; (try dsimp only at hSw); go_simp; all_goals (with_reducible rfl))
      (try simp only [Act.put, List.setIfInBounds_toArray, List.set])
      refine takeH 18 70 rfl rfl (by kernel_rfl) (by kernel_rfl) (by kernel_rfl) (fun _ _ _ h => h) (by rfl) (v := ?_) ?_ hS ?_
      rotate_left 1
      · (intro w hSw; (try dsimp only at hSw); go_simp; all_goals (with_reducible rfl))
      (try simp only [Act.put, List.setIfInBounds_toArray, List.set])
      refine takeH 19 71 rfl rfl (by kernel_rfl) (by kernel_rfl) (by kernel_rfl) (fun _ _ _ h => h) (by rfl) (v := ?_) ?_ hS ?_
      rotate_left 1
      · (intro w hSw; (try dsimp only at hSw); have hq2 := HC2.out _ hSw; go_simp; all_goals (with_reducible rfl))
      (try simp only [Act.put, List.setIfInBounds_toArray, List.set])
      refine takeH 21 73 rfl rfl (by kernel_rfl) (by kernel_rfl) (by kernel_rfl) (fun _ _ _ h => h) (by rfl) (v := ?_) ?_ hS ?_
      rotate_left 1
      · (intro w hSw; (try dsimp only at hSw); go_simp; all_goals (with_reducible rfl))
      (try simp only [Act.put, List.setIfInBounds_toArray, List.set])
      refine takeH 23 75 rfl rfl (by kernel_rfl) (by kernel_rfl) (by kernel_rfl) (fun _ _ _ h => h) (by rfl) (v := ?_) ?_ hS ?_
      rotate_left 1
      · (intro w hSw; (try dsimp only at hSw); go_simp; all_goals (with_reducible rfl))
      (try simp only [Act.put, List.setIfInBounds_toArray, List.set])
      refine wpAnyH_ready (rs := [15]) (by kernel_rfl) (by simp) ?_
      refine AllReadyH.cons rfl (fun K hK => ?_) AllReadyH.nil
      go_simp
      ((with_reducible refine (HTO.out _ (ry7.below hS)).mono ?_); rintro e w' ⟨rfl, rfl⟩)
      refine hK.out _ _ (hS) fun hS => ?_
      clear hK K
      (try simp only [Act.put, List.setIfInBounds_toArray, List.set])
      refine takeH 16 68 rfl rfl (by kernel_rfl) (by kernel_rfl) (by kernel_rfl) (fun _ _ _ h => h) (by rfl) (v := ?_) ?_ hS ?_
      rotate_left 1
      · (intro w hSw; (try dsimp only at hSw); go_simp; all_goals (with_reducible rfl))
      (try simp only [Act.put, List.setIfInBounds_toArray, List.set])
      refine takeH 20 72 rfl rfl (by kernel_rfl) (by kernel_rfl) (by kernel_rfl) (fun _ _ _ h => h) (by rfl) (v := ?_) ?_ hS ?_
      rotate_left 1
      · (intro w hSw; (try dsimp only at hSw); go_simp; all_goals (with_reducible rfl))
      (try simp only [Act.put, List.setIfInBounds_toArray, List.set])
      refine wpAnyH_ready (rs := [22]) (by kernel_rfl) (by simp) ?_
      refine AllReadyH.cons rfl (fun K hK => ?_) AllReadyH.nil
      go_simp
      ((with_reducible refine (total_any _ _ _ _ xs 1000 (rx7.below hS) hj1000 (by decide) hbd.out).mono ?_); rintro e w' ⟨rfl, rfl⟩)
      refine hK.out _ _ (hS) fun hS => ?_
      clear hK K
      (try simp only [Act.put, List.setIfInBounds_toArray, List.set])
      refine wpAnyH_ready (rs := [24]) (by kernel_rfl) (by simp) ?_
      refine AllReadyH.cons rfl (fun K hK => ?_) AllReadyH.nil
      go_simp
      ((with_reducible refine (total_any _ _ _ _ xs 1000 (rx7.below hS) hj1000 (by decide) hbd.out).mono ?_); rintro e w' ⟨rfl, rfl⟩)
      refine hK.out _ _ (hS) fun hS => ?_
      clear hK K
      (try simp only [Act.put, List.setIfInBounds_toArray, List.set])
      refine takeH 25 77 rfl rfl (by kernel_rfl) (by kernel_rfl) (by kernel_rfl) (fun _ _ _ h => h) (by rfl) (v := ?_) ?_ hS ?_
      rotate_left 1
      · (intro w hSw; (try dsimp only at hSw); go_simp; all_goals (with_reducible rfl))
      (try simp only [Act.put, List.setIfInBounds_toArray, List.set])
      refine takeH 26 78 rfl rfl (by kernel_rfl) (by kernel_rfl) (by kernel_rfl) (fun _ _ _ h => h) (by rfl) (v := ?_) ?_ hS ?_
      rotate_left 1
      · (intro w hSw; (try dsimp only at hSw); go_simp; all_goals (with_reducible rfl))
      (try simp only [Act.put, List.setIfInBounds_toArray, List.set])
      refine takeH 27 79 rfl rfl (by kernel_rfl) (by kernel_rfl) (by kernel_rfl) (fun _ _ _ h => h) (by rfl) (v := ?_) ?_ hS ?_
      rotate_left 1
      · (intro w hSw; (try dsimp only at hSw); go_simp; all_goals (with_reducible rfl))
      (try simp only [Act.put, List.setIfInBounds_toArray, List.set])
      refine takeH 28 2 rfl rfl (by kernel_rfl) (by kernel_rfl) (by kernel_rfl) (fun _ _ _ h => h) (by rfl) (v := ?_) ?_ hS ?_
      rotate_left 1
      · (intro w hSw; (try dsimp only at hSw); go_simp; all_goals (with_reducible rfl))
      (try simp only [Act.put, List.setIfInBounds_toArray, List.set])
      refine wpAnyH_done (by kernel_rfl) ?_ _
      clear j2 j3 j4
      go_wp2_with fail
      go_ret
      exact ⟨ret_bool (by simp), bstep l7 hS⟩
end Go.Proofs.Ythmajnfppkgflaa
