/-
  MiddlesOf: the numbers in the middle of each width numbers; the reference's, and the helpers of the laws.
-/
import Derived.Test.YtbnlfacggchoiaaPMid
import Derived.Test.YtbnlfacggchoiaaExact
import Derived.Test.YtbnlfacggchoiaaDraw2
import Derived.Lib.SliceRun
namespace Go.Proofs.Ytbnlfacggchoiaa
open Go.RowKit

/-- Some numbers side by side. -/
def sub (xs : List Int) (i wd : Nat) : List Int := tab (fun t => el xs (i + t)) wd
def mdL (xs : List Int) (wd k : Nat) : List Int := tab (fun i => midV (sub xs i wd) wd) k
theorem sub_len (xs : List Int) (i wd : Nat) : (sub xs i wd).length = wd := tab_length _ _
theorem el_sub {xs : List Int} {i wd t : Nat} (h : t < wd) : el (sub xs i wd) t = el xs (i + t) := el_tab h
def mdOk (xs : List Int) (wd : Int) : Bool := valid xs && (decide (1 ≤ wd) && (decide (wd ≤ xs.length) && decide (wd % 2 ≠ 0)))
theorem mdOk_iff {xs : List Int} {wd : Int} : mdOk xs wd = true ↔ valid xs = true ∧ 1 ≤ wd ∧ wd ≤ xs.length ∧ wd % 2 ≠ 0 := by simp [mdOk]
def mdR (xs : List Int) (wd : Int) : List Int := if mdOk xs wd then mdL xs wd.toNat (xs.length - wd.toNat + 1) else []
theorem mdR_len (xs : List Int) (wd : Int) : (mdR xs wd).length ≤ 1000 := by
  unfold mdR
  split
  · rename_i h; have := valid_len (mdOk_iff.1 h).1; rw [mdL, tab_length]; omega
  · simp
/-- The part of a row from a place on, as a slice. -/
theorem Row.part {w : World} {b off n c : Nat} {xs : List Int} (h : Row w (some ⟨b, off, none⟩) n c xs) {i wd : Nat} (hi : i + wd ≤ n) (hw : 0 < wd) : Row w (some ⟨b, off + i, none⟩) wd (c - i) (sub xs i wd) := by
  obtain ⟨b1, o1, e, hlt, hc⟩ := h.cell 0 (by omega)
  injection e with e; injection e with e1 e2; subst e1; subst e2
  have := h.cap
  have := h.small
  refine ⟨sub_len _ _ _, by omega, by omega, (fun e => by cases e), fun t ht => ⟨b, off + i, rfl, hlt, fun j hj => ?_⟩⟩
  rw [el_sub hj, Nat.add_assoc]; exact hc (i + j) (by omega)

set_option maxHeartbeats 1600000 in
theorem middle_any (w : World) (a : Option Addr) (n c h : Nat) (ys : List Int) (hr : Row w a n c ys) (hh : n = 2 * h + 1) (hn : n ≤ 16) :
    Calls Try.prog 22 #[.slice a n c] w fun e w' => Counts w w' e (midV ys n) := by
  have HL : Hid (ys.length = n) := hr.len
  have HH := Lib.hid hh
  have hn2 : (n : Int) / 2 = h := by omega
  have hn0 : 0 < n := by omega
  clear hh
  obtain ⟨b, off, rfl, _, hcx⟩ := hr.at hn0
  have HC := Lib.hid hcx
  clear hcx
  go_enter Try.func22, Try.ntmps22
  go_wp2_with fail
  go_loopw [3] (fun u wr => ∃ i : Nat, i ≤ n ∧ u = .int .i64 i ∧ Hid (∀ t, t < i → el ys t ≠ midV ys n) ∧ Below w.heap.size w wr) (fun u _ => n - (intOf u).toNat)
  case atStart => exact ⟨0, Nat.zero_le _, rfl, fun t ht => by omega, Below.refl _ _⟩
  case round =>
    obtain ⟨i, hi, rfl, hne, hbl⟩ := hrel
    by_cases hlt : i < n
    · go_wp2_with fail
      obtain ⟨wo, rfl⟩ : ∃ wo : World, wo = wr := ⟨_, rfl⟩
      go_loopw [4, 5, 6] (fun u v k wr => ∃ j : Nat, j ≤ n ∧ k = .int .i64 j ∧ u = .int .i64 (lessN (el ys) (el ys i) j) ∧ v = .int .i64 (sameN (el ys) (el ys i) j) ∧ Below w.heap.size w wr) (fun _ _ k _ => n - (intOf k).toNat)
      case atStart => exact ⟨0, Nat.zero_le _, rfl, rfl, rfl, hbl⟩
      case round =>
        obtain ⟨j, hj, rfl, rfl, rfl, hbl2⟩ := hrel
        have hlb := less_bd (el ys) (el ys i) j
        have hsb := same_bd (el ys) (el ys i) j
        by_cases hjn : j < n
        · have hc1 := HC.out wr hbl2 i hlt
          have hc2 := HC.out wr hbl2 j hjn
          have i0 : (0 : Int) ≤ (i : Int) := by omega
          have i1 : (i : Int) < n := by omega
          have i2 : (0 : Int) ≤ (j : Int) := by omega
          have i3 : (j : Int) < n := by omega
          have hls : lessN (el ys) (el ys i) (j + 1) = lessN (el ys) (el ys i) j + (if el ys j < el ys i then 1 else 0) := rfl
          have hss : sameN (el ys) (el ys i) (j + 1) = sameN (el ys) (el ys i) j + (if el ys j = el ys i then 1 else 0) := rfl
          have HD : Hid (∀ m, Below w.heap.size w (wr.drewN m)) := fun m => bdrewN hbl2 m
          by_cases h1 : el ys j < el ys i
          · have h2 : ¬ el ys j = el ys i := by omega
            rw [if_pos h1] at hls
            rw [if_neg h2] at hss
            have t1 : decide (el ys j < el ys i) = true := decide_eq_true h1
            have t2 : (el ys j == el ys i) = false := by simp; exact h2
            have HLS := Lib.hid hls
            have HSS := Lib.hid hss
            clear hls hss h1 h2
            go_wp2_with fail
            go_quiet (fail)
            go_wp2_with fail
            go_quiet (fail)
            go_wp2_with fail
            go_roundw
            case rel => exact ⟨j + 1, by omega, by go_num, by rw [HLS.out], by rw [HSS.out]; simp, bdrewN hbl2 _⟩
            case measure => simp [intOf]; omega
          · rw [if_neg h1] at hls
            have t1 : decide (el ys j < el ys i) = false := decide_eq_false h1
            have HLS := Lib.hid hls
            clear hls
            by_cases h2 : el ys j = el ys i
            · rw [if_pos h2] at hss
              have t2 : (el ys j == el ys i) = true := by simp; exact h2
              have HSS := Lib.hid hss
              clear hss h1 h2
              go_wp2_with fail
              go_quiet (fail)
              go_wp2_with fail
              go_quiet (fail)
              go_wp2_with fail
              go_roundw
              case rel => exact ⟨j + 1, by omega, by go_num, by rw [HLS.out]; simp, by rw [HSS.out], bdrewN hbl2 _⟩
              case measure => simp [intOf]; omega
            · rw [if_neg h2] at hss
              have t2 : (el ys j == el ys i) = false := by simp; exact h2
              have HSS := Lib.hid hss
              clear hss h1 h2
              go_wp2_with fail
              go_quiet (fail)
              go_wp2_with fail
              go_quiet (fail)
              go_wp2_with fail
              go_roundw
              case rel => exact ⟨j + 1, by omega, by go_num, by rw [HLS.out]; simp, by rw [HSS.out]; simp, bdrewN hbl2 _⟩
              case measure => simp [intOf]; omega
        · obtain rfl : j = n := by omega
          have hmi := mid_iff HL.out HH.out (el ys i)
          by_cases hv : el ys i = midV ys j
          · have h3 := hmi.2 hv
            have hc1 := HC.out wr hbl2 i hlt
            have HV := Lib.hid hv
            clear hmi hv
            go_wp2_with fail
            go_ret
            exact ⟨ret_int HV.out, hbl2⟩
          · have h3 : ¬ (lessN (el ys) (el ys i) j ≤ h ∧ (h : Int) < lessN (el ys) (el ys i) j + sameN (el ys) (el ys i) j) := fun hh => hv (hmi.1 hh)
            have HV : Hid (∀ t, t < i + 1 → el ys t ≠ midV ys j) := fun t ht => by
              by_cases e : t = i
              · rw [e]; exact hv
              · exact hne.out t (by omega)
            clear hmi hv
            by_cases h4 : lessN (el ys) (el ys i) j ≤ h
            · have h5 : ¬ (h : Int) < lessN (el ys) (el ys i) j + sameN (el ys) (el ys i) j := fun h => h3 ⟨h4, h⟩
              clear h3
              go_wp2_with fail
              go_roundw
              case rel => exact ⟨i + 1, by omega, by go_num, HV, hbl2⟩
              case measure => simp [intOf]; omega
            · clear h3
              go_wp2_with fail
              go_roundw
              case rel => exact ⟨i + 1, by omega, by go_num, HV, hbl2⟩
              case measure => simp [intOf]; omega
    · obtain rfl : i = n := by omega
      exfalso
      obtain ⟨t, ht, e⟩ := mid_in HL.out hn0
      exact hne.out t ht e
theorem tmod_pos2 {x : Int} (h : 0 ≤ x) : x.tmod 2 = x % 2 := Int.tmod_eq_emod_of_nonneg h
set_option maxHeartbeats 1600000 in
theorem sMiddlesOf_no (w : World) (a : Option Addr) (n c : Nat) (xs : List Int) (wd : Int) (h : Row w a n c xs) (hok : mdOk xs wd = false) :
    Calls Try.prog 8 #[.slice a n c, .int .i64 wd] w fun e w' => e = .returned (.slice none 0 0) ∧ w = w' := by
  have hl := h.len
  have hsm := h.small
  cases hv : valid xs
  · clear hok
    go_enter Try.func8, Try.ntmps8
    go_wp2_with fail
    refine (validRow_is w a n c xs false h hv).mono ?_
    rintro e w' ⟨rfl, rfl⟩
    go_wp2_with fail
    go_ret
    exact ⟨rfl, rfl⟩
  · by_cases hr : 1 ≤ wd ∧ wd ≤ (n : Int)
    · have hw := within_yes hr
      have hz : wd % 2 = 0 := by
        by_cases e : wd % 2 = 0
        · exact e
        · rw [mdOk_iff.2 ⟨hv, hr.1, by rw [hl]; exact hr.2, e⟩] at hok; cases hok
      have ht : wd.tmod 2 = wd % 2 := tmod_pos2 (by omega)
      have hb : (wd % 2 == 0) = true := by simp [hz]
      have h0 : 0 ≤ wd := by omega
      clear hok hr hz
      go_enter Try.func8, Try.ntmps8
      go_wp2_with fail
      refine (validRow_is w a n c xs true h hv).mono ?_
      rintro e w' ⟨rfl, rfl⟩
      go_wp2_with fail
      refine (inRange_any w wd 1 n).mono ?_
      rw [hw]
      rintro e w' ⟨rfl, rfl⟩
      go_wp2_with fail
      go_ret
      exact ⟨rfl, rfl⟩
    · have hw := within_no hr
      clear hok hr
      go_enter Try.func8, Try.ntmps8
      go_wp2_with fail
      refine (validRow_is w a n c xs true h hv).mono ?_
      rintro e w' ⟨rfl, rfl⟩
      go_wp2_with fail
      refine (inRange_any w wd 1 n).mono ?_
      rw [hw]
      rintro e w' ⟨rfl, rfl⟩
      go_wp2_with fail
      go_ret
      exact ⟨rfl, rfl⟩
set_option maxHeartbeats 1600000 in
theorem sMiddlesOf_yes (w : World) (a : Option Addr) (n c wd : Nat) (xs : List Int) (h : Row w a n c xs) (hok : mdOk xs (wd : Int) = true) :
    Calls Try.prog 8 #[.slice a n c, .int .i64 wd] w fun e w' => Fresh w w' e (n - wd + 1) (mdL xs wd (n - wd + 1)) := by
  have hl := h.len
  have hcap := h.cap
  obtain ⟨hv, h1, h2, h3⟩ := mdOk_iff.1 hok
  rw [hl] at h2
  have hn : n ≤ 16 := by have := valid_len hv; omega
  have hw : within (wd : Int) 1 (n : Int) = true := within_yes ⟨h1, h2⟩
  obtain ⟨q, hq⟩ : ∃ q, wd = 2 * q + 1 := ⟨wd / 2, by omega⟩
  have HQ := Lib.hid hq
  have ht : (wd : Int).tmod 2 = (wd : Int) % 2 := tmod_pos2 (by omega)
  have hb : ((wd : Int) % 2 == 0) = false := by simp; omega
  have hwn : wd ≤ n := by omega
  have hw0 : 0 < wd := by omega
  obtain ⟨b, off, rfl, _, _⟩ := h.at (by omega)
  clear hok h1 h2 h3 hl hq
  go_enter Try.func8, Try.ntmps8
  go_wp2_with fail
  refine (validRow_is w _ n c xs true h hv).mono ?_
  rintro e w' ⟨rfl, rfl⟩
  go_wp2_with fail
  refine (inRange_any w wd 1 n).mono ?_
  rw [hw]
  rintro e w' ⟨rfl, rfl⟩
  clear hv hw
  go_wp2_with fail
  go_loopw [5, 6] (fun v u wr => ∃ (k : Nat) (a1 : Option Addr) (c1 : Nat), k ≤ n - wd + 1 ∧ u = .int .i64 k ∧ v = .slice a1 k c1 ∧ Own wr w.heap.size a1 k c1 (mdL xs wd k) ∧ Below w.heap.size w wr ∧ w.heap.size + 1 ≤ wr.heap.size) (fun v _ _ => n + 1 - lenOf v)
  case atStart => exact ⟨0, _, 0, Nat.zero_le _, rfl, rfl, own_empty w, (Below.refl _ _).alloc (Nat.le_refl _) _, by simp⟩
  case round =>
    obtain ⟨k, a1, c1, hk, rfl, rfl, hown, hbl, hsz⟩ := hrel
    by_cases hlt : k + wd ≤ n
    · have hck : ¬ c = k := by omega
      have hrp := (h.below hbl).part hlt hw0
      go_wp2_with fail
      refine (middle_any wr _ wd _ q _ hrp HQ.out (by omega)).mono ?_
      rintro e w2 ⟨rfl, b2⟩
      have hown2 := hown.below b2
      have hbl2 := bstep hbl b2
      have hs2 := b2.size
      go_wp2_with (at_builtin; go_must (refine app_int w2 rfl _ _ rfl w.heap.size _ _ _ _ _ rfl hown2 rfl (by omega) (by omega) ?_); intro a3 c3 w3 hown3 hgr3 hsz3)
      go_roundw
      case rel => exact ⟨k + 1, a3, c3, by omega, by go_num, rfl, hown3, below_app hbl2 hgr3 hown2 (Nat.le_refl _) (by omega), by omega⟩
      case measure => simp [lenOf]; omega
    · go_wp2_with fail
      go_ret
      obtain rfl : k = n - wd + 1 := by omega
      exact Fresh.mk hown hbl
theorem sMiddlesOf_all (w : World) (a : Option Addr) (n c : Nat) (xs : List Int) (wd : Int) (h : Row w a n c xs) :
    Calls Try.prog 8 #[.slice a n c, .int .i64 wd] w fun e w' => Fresh w w' e (mdR xs wd).length (mdR xs wd) := by
  cases hok : mdOk xs wd
  · rw [show mdR xs wd = [] by simp [mdR, hok]]
    refine (sMiddlesOf_no w a n c xs wd h hok).mono ?_
    rintro e w' ⟨rfl, rfl⟩
    exact Fresh.mk (own_nil _ _) (Below.refl _ _)
  · obtain ⟨t, rfl⟩ := Int.eq_ofNat_of_zero_le (show 0 ≤ wd by have := (mdOk_iff.1 hok).2.1; omega)
    refine (sMiddlesOf_yes w a n c t xs h hok).mono ?_
    rintro e w' ⟨a1, c1, rfl, hown, hbl⟩
    have hl := h.len
    have e1 : mdR xs (t : Int) = mdL xs t (n - t + 1) := by rw [mdR, if_pos hok, hl]; rfl
    exact Fresh.mk' hown hbl (by rw [e1, mdL, tab_length]) e1.symm
set_option maxHeartbeats 800000 in
theorem boxed_any (w : World) (a : Option Addr) (n c : Nat) (xs : List Int) (wd : Int) (h : Row w a n c xs) :
    Calls Try.prog 17 #[.slice a n c, .int .i64 wd] w fun e w' => Tells w w' e (valid xs && (decide (1 ≤ wd) && decide (wd ≤ (n : Int)))) := by
  have hsm := h.small
  cases hv : valid xs
  · go_enter Try.func17, Try.ntmps17
    go_wp2_with fail
    refine (ValidRow_is w a n c xs false h hv).mono ?_
    rintro e w' ⟨rfl, rfl⟩
    go_wp2_with fail
    go_ret
    exact ⟨ret_bool rfl, rfl⟩
  · by_cases h1 : 1 ≤ wd
    · by_cases h2 : wd ≤ (n : Int)
      · go_enter Try.func17, Try.ntmps17
        go_wp2_with fail
        refine (ValidRow_is w a n c xs true h hv).mono ?_
        rintro e w' ⟨rfl, rfl⟩
        go_wp2_with fail
        go_ret
        exact ⟨ret_bool (by simp <;> omega), rfl⟩
      · go_enter Try.func17, Try.ntmps17
        go_wp2_with fail
        refine (ValidRow_is w a n c xs true h hv).mono ?_
        rintro e w' ⟨rfl, rfl⟩
        go_wp2_with fail
        go_ret
        exact ⟨ret_bool (by simp <;> omega), rfl⟩
    · go_enter Try.func17, Try.ntmps17
      go_wp2_with fail
      refine (ValidRow_is w a n c xs true h hv).mono ?_
      rintro e w' ⟨rfl, rfl⟩
      go_wp2_with fail
      go_ret
      exact ⟨ret_bool (by simp <;> omega), rfl⟩
theorem boxed_is (w : World) (a : Option Addr) (n c : Nat) (xs : List Int) (wd : Int) (v : Bool) (h : Row w a n c xs) (hv : (valid xs && (decide (1 ≤ wd) && decide (wd ≤ (n : Int)))) = v) :
    Calls Try.prog 17 #[.slice a n c, .int .i64 wd] w fun e w' => Tells w w' e v := by subst hv; exact boxed_any w a n c xs wd h
set_option maxHeartbeats 800000 in
theorem Clone_any (w : World) (a : Option Addr) (n c : Nat) (xs : List Int) (h : Row w a n c xs) (hn : 0 < n) (hn2 : n ≤ 1000) :
    Calls Try.prog 18 #[.slice a n c] w fun e w' => Fresh w w' e n xs := by
  obtain ⟨b, off, rfl, _, _⟩ := h.cell 0 hn
  have q22 : ∀ (w : World) (a : Option Addr) (n c n' c' : Nat), (binOp .eql 23 (.slice a n c) (.slice none n' c')).run Try.prog w = .ok (.bool a.isNone) w := fun w a n c n' c' => Lib.run_eql_slice_nil w _ _ a n c n' c' Try.underlying23
  go_enter Try.func18, Try.ntmps18
  go_wp2_with (at_builtin; go_must (refine copy_row w w.heap.size rfl rfl _ _ rfl _ _ _ _ rfl rfl h (by omega) ?_); intro a0 c0 w0 hown0 hb0 hsz0)
  go_ret
  exact Fresh.mk hown0 hb0
set_option maxHeartbeats 1600000 in
theorem MiddlesOf_no (w : World) (a : Option Addr) (n c : Nat) (xs : List Int) (wd : Int) (h : Row w a n c xs) (hok : mdOk xs wd = false) :
    Calls Try.prog 6 #[.slice a n c, .int .i64 wd] w fun e w' => e = .returned (.slice none 0 0) ∧ w = w' := by
  have hl := h.len
  cases hb : (valid xs && (decide (1 ≤ wd) && decide (wd ≤ (n : Int))))
  · clear hok
    go_enter Try.func6, Try.ntmps6
    go_wp2_with fail
    refine (boxed_is w a n c xs wd false h hb).mono ?_
    rintro e w' ⟨rfl, rfl⟩
    go_wp2_with fail
    go_ret
    exact ⟨rfl, rfl⟩
  · have hb2 := hb
    simp only [Bool.and_eq_true, decide_eq_true_eq] at hb2
    have hz : wd % 2 = 0 := by
      by_cases e : wd % 2 = 0
      · exact e
      · rw [mdOk_iff.2 ⟨hb2.1, hb2.2.1, by rw [hl]; exact hb2.2.2, e⟩] at hok; cases hok
    have ht : wd.tmod 2 = wd % 2 := tmod_pos2 (by omega)
    have hzb : (wd % 2 == 0) = true := by simp [hz]
    have h0 : 0 ≤ wd := by omega
    clear hok hb2 hz
    go_enter Try.func6, Try.ntmps6
    go_wp2_with fail
    refine (boxed_is w a n c xs wd true h hb).mono ?_
    rintro e w' ⟨rfl, rfl⟩
    go_wp2_with fail
    go_ret
    exact ⟨rfl, rfl⟩
end Go.Proofs.Ytbnlfacggchoiaa
