/-
  WaveOf, UnwaveOf, TurnOf, SpreadOf: the program's and the reference's.
-/
import Derived.Test.YtgnkdnlikdpffaaWWave
import Derived.Test.YtgnkdnlikdpffaaWRing
namespace Go.Proofs.Ytgnkdnlikdpffaa
open Go.RowKit

def wvR (xs : List Int) : List Int := if rests xs then wvL (rootN xs.length) xs xs.length else []
def uwR (xs : List Int) : List Int := if rests xs then tab (uwAt (el xs) xs.length) xs.length else []
def tnR (xs : List Int) (k : Int) : List Int := if rests xs && decide (0 ≤ k ∧ k ≤ 16) then tab (tnAt (el xs) xs.length k.toNat) xs.length else []
theorem wvR_len (xs : List Int) : (wvR xs).length ≤ 1000 := by
  unfold wvR
  split
  · rename_i h; have := (rests_len h rfl).2.2; rw [wvL, tab_length]; omega
  · simp
theorem uwR_len (xs : List Int) : (uwR xs).length ≤ 1000 := by
  unfold uwR
  split
  · rename_i h; have := (rests_len h rfl).2.2; rw [tab_length]; omega
  · simp
theorem tnR_len (xs : List Int) (k : Int) : (tnR xs k).length ≤ 1000 := by
  unfold tnR
  split
  · rename_i h; rw [Bool.and_eq_true] at h; have := (rests_len h.1 rfl).2.2; rw [tab_length]; omega
  · simp
set_option maxHeartbeats 400000 in
theorem WaveOf_no (w : World) (a : Option Addr) (n c : Nat) (xs : List Int) (h : Row w a n c xs) (hv : rests xs = false) :
    Calls Try.prog 13 #[.slice a n c] w fun e w' => e = .returned (.slice none 0 0) ∧ w = w' := by
  go_enter Try.func13, Try.ntmps13
  go_wp2_with fail
  refine (ValidRests_is w a n c xs false h hv).mono ?_
  rintro e w' ⟨rfl, rfl⟩
  go_wp2_with fail
  go_ret
  exact ⟨rfl, rfl⟩
set_option maxHeartbeats 400000 in
theorem WaveOf_yes (w : World) (a : Option Addr) (n c : Nat) (xs : List Int) (h : Row w a n c xs) (hv : rests xs = true) :
    Calls Try.prog 13 #[.slice a n c] w fun e w' => Fresh w w' e n (wvL (rootN n) xs n) := by
  have HL : Hid (xs.length = n) := h.len
  obtain ⟨hd, hn1, hn96⟩ := rests_len hv h.len
  have HB : Hid (∀ i, i < n → 0 ≤ el xs i ∧ el xs i < 97) := fun i hi => (rests_iff.1 hv).2 i (by rw [HL.out]; exact hi)
  have hr96 := (root_facts hd).2.1
  go_enter Try.func13, Try.ntmps13
  go_wp2_with fail
  refine (ValidRests_is w a n c xs true h hv).mono ?_
  rintro e w' ⟨rfl, rfl⟩
  go_wp2_with fail
  refine (RootOf_any w n hd).mono ?_
  rintro e w' ⟨rfl, rfl⟩
  go_wp2_with fail
  refine (wave_any w a n c xs (rootN n) h hn1 hn96 hr96 HB.out).mono ?_
  rintro e w1 ⟨a1, c1, rfl, hown, hbl⟩
  go_wp2_with fail
  go_ret
  exact Fresh.mk hown hbl
theorem WaveOf_all (w : World) (a : Option Addr) (n c : Nat) (xs : List Int) (h : Row w a n c xs) :
    Calls Try.prog 13 #[.slice a n c] w fun e w' => Fresh w w' e (wvR xs).length (wvR xs) := by
  cases hv : rests xs
  · rw [show wvR xs = [] by simp [wvR, hv]]
    refine (WaveOf_no w a n c xs h hv).mono ?_
    rintro e w' ⟨rfl, rfl⟩
    exact Fresh.mk (own_nil _ _) (Below.refl _ _)
  · refine (WaveOf_yes w a n c xs h hv).mono ?_
    rintro e w' ⟨a1, c1, rfl, hown, hbl⟩
    have hl := h.len
    exact Fresh.mk' hown hbl (by rw [wvR, if_pos hv, wvL, tab_length, hl]) (by rw [wvR, if_pos hv, hl])
set_option maxHeartbeats 400000 in
theorem sWaveOf_no (w : World) (a : Option Addr) (n c : Nat) (xs : List Int) (h : Row w a n c xs) (hv : rests xs = false) :
    Calls Try.prog 11 #[.slice a n c] w fun e w' => e = .returned (.slice none 0 0) ∧ w = w' := by
  go_enter Try.func11, Try.ntmps11
  go_wp2_with fail
  refine (validRests_is w a n c xs false h hv).mono ?_
  rintro e w' ⟨rfl, rfl⟩
  go_wp2_with fail
  go_ret
  exact ⟨rfl, rfl⟩
set_option maxHeartbeats 400000 in
theorem sWaveOf_yes (w : World) (a : Option Addr) (n c : Nat) (xs : List Int) (h : Row w a n c xs) (hv : rests xs = true) :
    Calls Try.prog 11 #[.slice a n c] w fun e w' => Fresh w w' e n (wvL (rootN n) xs n) := by
  have HL : Hid (xs.length = n) := h.len
  obtain ⟨hd, hn1, hn96⟩ := rests_len hv h.len
  have HB : Hid (∀ i, i < n → 0 ≤ el xs i ∧ el xs i < 97) := fun i hi => (rests_iff.1 hv).2 i (by rw [HL.out]; exact hi)
  have hr96 := (root_facts hd).2.1
  go_enter Try.func11, Try.ntmps11
  go_wp2_with fail
  refine (validRests_is w a n c xs true h hv).mono ?_
  rintro e w' ⟨rfl, rfl⟩
  go_wp2_with fail
  refine (root_any w n hd).mono ?_
  rintro e w' ⟨rfl, rfl⟩
  go_wp2_with fail
  refine (swave_any w a n c xs (rootN n) h hn1 hn96 hr96 HB.out).mono ?_
  rintro e w1 ⟨a1, c1, rfl, hown, hbl⟩
  go_wp2_with fail
  go_ret
  exact Fresh.mk hown hbl
theorem sWaveOf_all (w : World) (a : Option Addr) (n c : Nat) (xs : List Int) (h : Row w a n c xs) :
    Calls Try.prog 11 #[.slice a n c] w fun e w' => Fresh w w' e (wvR xs).length (wvR xs) := by
  cases hv : rests xs
  · rw [show wvR xs = [] by simp [wvR, hv]]
    refine (sWaveOf_no w a n c xs h hv).mono ?_
    rintro e w' ⟨rfl, rfl⟩
    exact Fresh.mk (own_nil _ _) (Below.refl _ _)
  · refine (sWaveOf_yes w a n c xs h hv).mono ?_
    rintro e w' ⟨a1, c1, rfl, hown, hbl⟩
    have hl := h.len
    exact Fresh.mk' hown hbl (by rw [wvR, if_pos hv, wvL, tab_length, hl]) (by rw [wvR, if_pos hv, hl])

theorem rinv_le (n : Nat) : rinv n ≤ 96 := by have := pw_lt (rootN n) 95; unfold rinv; omega
set_option maxHeartbeats 400000 in
theorem UnwaveOf_no (w : World) (a : Option Addr) (n c : Nat) (xs : List Int) (h : Row w a n c xs) (hv : rests xs = false) :
    Calls Try.prog 24 #[.slice a n c] w fun e w' => e = .returned (.slice none 0 0) ∧ w = w' := by
  go_enter Try.func24, Try.ntmps24
  go_wp2_with fail
  refine (ValidRests_is w a n c xs false h hv).mono ?_
  rintro e w' ⟨rfl, rfl⟩
  go_wp2_with fail
  go_ret
  exact ⟨rfl, rfl⟩
set_option maxHeartbeats 800000 in
theorem UnwaveOf_yes (w : World) (a : Option Addr) (n c : Nat) (xs : List Int) (h : Row w a n c xs) (hv : rests xs = true) :
    Calls Try.prog 24 #[.slice a n c] w fun e w' => Fresh w w' e n (tab (uwAt (el xs) n) n) := by
  have HL : Hid (xs.length = n) := h.len
  obtain ⟨hd, hn1, hn96⟩ := rests_len hv h.len
  have HB : Hid (∀ i, i < n → 0 ≤ el xs i ∧ el xs i < 97) := fun i hi => (rests_iff.1 hv).2 i (by rw [HL.out]; exact hi)
  have hr96 := (root_facts hd).2.1
  go_enter Try.func24, Try.ntmps24
  go_wp2_with fail
  refine (ValidRests_is w a n c xs true h hv).mono ?_
  rintro e w' ⟨rfl, rfl⟩
  go_wp2_with fail
  refine (RootOf_any w n hd).mono ?_
  rintro e w' ⟨rfl, rfl⟩
  go_wp2_with fail
  refine (ipower_any w (rootN n) 95 hr96 (by omega)).mono ?_
  rintro e w' ⟨rfl, rfl⟩
  go_wp2_with fail
  refine (wave_any w a n c xs (rinv n) h hn1 hn96 (rinv_le n) HB.out).mono ?_
  rintro e w1 ⟨a1, c1, rfl, hown0, hbl0⟩
  go_wp2_with fail
  refine (ipower_any w1 n 95 hn96 (by omega)).mono ?_
  rintro e w' ⟨rfl, rfl⟩
  rw [wvL, ← mid_zero (uwAt (el xs) n) (wvAt (rinv n) (el xs) n)] at hown0
  go_wp2_with fail
  go_loopw [21] (fun u wr => ∃ k : Nat, k ≤ n ∧ u = .int .i64 k ∧ Own wr w.heap.size a1 n c1 (tab (mid k (uwAt (el xs) n) (wvAt (rinv n) (el xs) n)) n) ∧ Below w.heap.size w wr) (fun u _ => n - (intOf u).toNat)
  case atStart => exact ⟨0, Nat.zero_le _, rfl, hown0, hbl0⟩
  case round =>
    obtain ⟨k, hk, rfl, hown, hbl⟩ := hrel
    clear hown0 hbl0
    by_cases hlt : k < n
    · obtain ⟨g, rfl, hBg, hgl, hcell, hfr⟩ := hown.at k hlt
      rw [mid_at _ _ hlt] at hcell
      have hwb := wvAt_bd (rinv n) (el xs) n k
      have hqb : 0 ≤ (pw n 95 : Int) ∧ (pw n 95 : Int) < 97 := pwI_bd n 95
      have hmm := mul96 hwb hqb
      have hus : uwAt (el xs) n k = wvAt (rinv n) (el xs) n k * (pw n 95 : Int) % 97 := rfl
      have hst := hown.store k (uwAt (el xs) n k)
      rw [mid_set _ _ hlt, hus] at hst
      clear hus
      have hb2 := hbl.setCell (p := ⟨g, k, none⟩) hBg (.int .i64 (wvAt (rinv n) (el xs) n k * (pw n 95 : Int) % 97))
      go_wp2_with fail
      go_roundw
      case rel => exact ⟨k + 1, by omega, by go_num, hst, hb2⟩
      case measure => simp [intOf]; omega
    · obtain rfl : k = n := by omega
      go_wp2_with fail
      go_ret
      rw [mid_end] at hown
      exact Fresh.mk hown hbl
set_option maxHeartbeats 400000 in
theorem sUnwaveOf_no (w : World) (a : Option Addr) (n c : Nat) (xs : List Int) (h : Row w a n c xs) (hv : rests xs = false) :
    Calls Try.prog 23 #[.slice a n c] w fun e w' => e = .returned (.slice none 0 0) ∧ w = w' := by
  go_enter Try.func23, Try.ntmps23
  go_wp2_with fail
  refine (validRests_is w a n c xs false h hv).mono ?_
  rintro e w' ⟨rfl, rfl⟩
  go_wp2_with fail
  go_ret
  exact ⟨rfl, rfl⟩
set_option maxHeartbeats 800000 in
theorem sUnwaveOf_yes (w : World) (a : Option Addr) (n c : Nat) (xs : List Int) (h : Row w a n c xs) (hv : rests xs = true) :
    Calls Try.prog 23 #[.slice a n c] w fun e w' => Fresh w w' e n (tab (uwAt (el xs) n) n) := by
  have HL : Hid (xs.length = n) := h.len
  obtain ⟨hd, hn1, hn96⟩ := rests_len hv h.len
  have HB : Hid (∀ i, i < n → 0 ≤ el xs i ∧ el xs i < 97) := fun i hi => (rests_iff.1 hv).2 i (by rw [HL.out]; exact hi)
  have hr96 := (root_facts hd).2.1
  go_enter Try.func23, Try.ntmps23
  go_wp2_with fail
  refine (validRests_is w a n c xs true h hv).mono ?_
  rintro e w' ⟨rfl, rfl⟩
  go_wp2_with fail
  refine (root_any w n hd).mono ?_
  rintro e w' ⟨rfl, rfl⟩
  go_wp2_with fail
  refine (inverse_any w (rootN n) hr96).mono ?_
  rintro e w' ⟨rfl, rfl⟩
  go_wp2_with fail
  refine (swave_any w a n c xs (rinv n) h hn1 hn96 (rinv_le n) HB.out).mono ?_
  rintro e w1 ⟨a1, c1, rfl, hown0, hbl0⟩
  rw [wvL, ← mid_zero (uwAt (el xs) n) (wvAt (rinv n) (el xs) n)] at hown0
  go_wp2_with fail
  go_loopw [5] (fun u wr => ∃ k : Nat, k ≤ n ∧ u = .int .i64 k ∧ Own wr w.heap.size a1 n c1 (tab (mid k (uwAt (el xs) n) (wvAt (rinv n) (el xs) n)) n) ∧ Below w.heap.size w wr) (fun u _ => n - (intOf u).toNat)
  case atStart => exact ⟨0, Nat.zero_le _, rfl, hown0, hbl0⟩
  case round =>
    obtain ⟨k, hk, rfl, hown, hbl⟩ := hrel
    clear hown0 hbl0
    by_cases hlt : k < n
    · obtain ⟨g, rfl, hBg, hgl, hcell, hfr⟩ := hown.at k hlt
      rw [mid_at _ _ hlt] at hcell
      have hwb := wvAt_bd (rinv n) (el xs) n k
      have hqb : 0 ≤ (pw n 95 : Int) ∧ (pw n 95 : Int) < 97 := pwI_bd n 95
      have hmm := mul96 hwb hqb
      have hus : uwAt (el xs) n k = wvAt (rinv n) (el xs) n k * (pw n 95 : Int) % 97 := rfl
      have hst := hown.store k (uwAt (el xs) n k)
      rw [mid_set _ _ hlt, hus] at hst
      clear hus
      have hb2 := hbl.setCell (p := ⟨g, k, none⟩) hBg (.int .i64 (wvAt (rinv n) (el xs) n k * (pw n 95 : Int) % 97))
      have i1 : (0 : Int) ≤ (k : Int) := by omega
      have i2 : (k : Int) < n := by omega
      have j2 : IntKind.i64.wrap (wvAt (rinv n) (el xs) n k * (pw n 95 : Int)) = wvAt (rinv n) (el xs) n k * (pw n 95 : Int) := IntWalk.i64_in _ (by omega)
      go_wp2_with fail
      go_still_tail 11, (by kernel_rfl)
      still_call ((inverse_any _ n hn96).mono fun _ _ h => ⟨h.1, h.2.symm⟩)
      repeat still_step
      still_call ((mod_any _ _ hmm.1 (by omega)).mono fun _ _ h => ⟨h.1, h.2.symm⟩)
      repeat still_step
      refine wpStill_nil ?_
      change wpList _ _ _ _ _ wr.drew
      clear j2
      go_wp2_with fail
      go_roundw
      case rel => exact ⟨k + 1, by omega, by go_num, hst.drew, hb2.drew⟩
      case measure => simp [intOf]; omega
    · obtain rfl : k = n := by omega
      go_wp2_with fail
      go_ret
      rw [mid_end] at hown
      exact Fresh.mk hown hbl
theorem UnwaveOf_all (w : World) (a : Option Addr) (n c : Nat) (xs : List Int) (h : Row w a n c xs) :
    Calls Try.prog 24 #[.slice a n c] w fun e w' => Fresh w w' e (uwR xs).length (uwR xs) := by
  cases hv : rests xs
  · rw [show uwR xs = [] by simp [uwR, hv]]
    refine (UnwaveOf_no w a n c xs h hv).mono ?_
    rintro e w' ⟨rfl, rfl⟩
    exact Fresh.mk (own_nil _ _) (Below.refl _ _)
  · refine (UnwaveOf_yes w a n c xs h hv).mono ?_
    rintro e w' ⟨a1, c1, rfl, hown, hbl⟩
    have hl := h.len
    exact Fresh.mk' hown hbl (by rw [uwR, if_pos hv, tab_length, hl]) (by rw [uwR, if_pos hv, hl])
theorem sUnwaveOf_all (w : World) (a : Option Addr) (n c : Nat) (xs : List Int) (h : Row w a n c xs) :
    Calls Try.prog 23 #[.slice a n c] w fun e w' => Fresh w w' e (uwR xs).length (uwR xs) := by
  cases hv : rests xs
  · rw [show uwR xs = [] by simp [uwR, hv]]
    refine (sUnwaveOf_no w a n c xs h hv).mono ?_
    rintro e w' ⟨rfl, rfl⟩
    exact Fresh.mk (own_nil _ _) (Below.refl _ _)
  · refine (sUnwaveOf_yes w a n c xs h hv).mono ?_
    rintro e w' ⟨a1, c1, rfl, hown, hbl⟩
    have hl := h.len
    exact Fresh.mk' hown hbl (by rw [uwR, if_pos hv, tab_length, hl]) (by rw [uwR, if_pos hv, hl])

/-- In the middle of turning: the first k have their places. -/
def tnM (f : Nat → Int) (n t k j : Nat) : Int := if (j + (n - t % n)) % n < k then f ((j + (n - t % n)) % n) else 0
theorem tnM_zero (f : Nat → Int) (n t : Nat) : tab (fun _ => 0) n = tab (tnM f n t 0) n := tab_congr fun j _ => by rw [tnM, if_neg (by omega)]
theorem tnM_end (f : Nat → Int) (n t : Nat) : tab (tnM f n t n) n = tab (tnAt f n t) n := tab_congr fun j hj => by rw [tnM, if_pos (Nat.mod_lt _ (by omega)), tnAt]
theorem tnM_set (f : Nat → Int) {n t k : Nat} (hk : k < n) : (tab (tnM f n t k) n).set ((k + t) % n) (f k) = tab (tnM f n t (k + 1)) n := by
  apply el_ext
  · simp [tab_length]
  · intro j hj
    have hj' : j < n := by simpa [tab_length] using hj
    have hlt := Nat.mod_lt (k + t) (show 0 < n by omega)
    have e : el ((tab (tnM f n t k) n).set ((k + t) % n) (f k)) j = if j = (k + t) % n then f k else el (tab (tnM f n t k) n) j := by
      unfold el
      by_cases e : j = (k + t) % n
      · subst e; simp [List.getD, tab_length, hlt]
      · rw [if_neg e]; simp [List.getD, List.getElem?_set, Ne.symm e]
    rw [e, el_tab hj', el_tab hj', tnM, tnM]
    obtain ⟨i, hi, e1, e2⟩ := tn_idx (t := t) j hj'
    rw [e2]
    by_cases e3 : i = k
    · subst e3; rw [if_pos e1.symm, if_pos (by omega)]
    · have hne : ¬ j = (k + t) % n := fun e4 => by
        have h1 := tn_at (fun x => (x : Int)) (t := t) hk
        rw [← e4, tnAt, e2] at h1
        omega
      rw [if_neg hne]
      by_cases e5 : i < k
      · rw [if_pos e5, if_pos (by omega)]
      · rw [if_neg e5, if_neg (by omega)]

theorem TurnOf_no (w : World) (a : Option Addr) (n c : Nat) (xs : List Int) (k : Int) (h : Row w a n c xs) (hv : ¬ (rests xs = true ∧ 0 ≤ k ∧ k ≤ 16)) :
    Calls Try.prog 20 #[.slice a n c, .int .i64 k] w fun e w' => e = .returned (.slice none 0 0) ∧ w = w' := by
  cases hr : rests xs
  · clear hv
    go_enter Try.func20, Try.ntmps20
    go_wp2_with fail
    refine (ValidRests_is w a n c xs false h hr).mono ?_
    rintro e w' ⟨rfl, rfl⟩
    go_wp2_with fail
    go_ret
    exact ⟨rfl, rfl⟩
  · by_cases h1 : k < 0
    · clear hv
      go_enter Try.func20, Try.ntmps20
      go_wp2_with fail
      refine (ValidRests_is w a n c xs true h hr).mono ?_
      rintro e w' ⟨rfl, rfl⟩
      go_wp2_with fail
      go_ret
      exact ⟨rfl, rfl⟩
    · have h2 : 16 < k := by
        by_cases h2 : 16 < k
        · exact h2
        · exact absurd ⟨hr, by omega, by omega⟩ hv
      clear hv
      go_enter Try.func20, Try.ntmps20
      go_wp2_with fail
      refine (ValidRests_is w a n c xs true h hr).mono ?_
      rintro e w' ⟨rfl, rfl⟩
      go_wp2_with fail
      go_ret
      exact ⟨rfl, rfl⟩
set_option maxHeartbeats 800000 in
theorem TurnOf_yes (w : World) (a : Option Addr) (n c t : Nat) (xs : List Int) (h : Row w a n c xs) (hv : rests xs = true) (ht : t ≤ 16) :
    Calls Try.prog 20 #[.slice a n c, .int .i64 t] w fun e w' => Fresh w w' e n (tab (tnAt (el xs) n t) n) := by
  have HL : Hid (xs.length = n) := h.len
  obtain ⟨hd, hn1, hn96⟩ := rests_len hv h.len
  have HB : Hid (∀ i, i < n → 0 ≤ el xs i ∧ el xs i < 97) := fun i hi => (rests_iff.1 hv).2 i (by rw [HL.out]; exact hi)
  have hr96 := (root_facts hd).2.1
  go_enter Try.func20, Try.ntmps20
  go_wp2_with fail
  refine (ValidRests_is w a n c xs true h hv).mono ?_
  rintro e w' ⟨rfl, rfl⟩
  go_wp2_with (at_make; go_must (refine make_int w rfl _ _ rfl .i64 .i64 _ _ n rfl rfl rfl rfl (by omega) ?_); intro w0 hown0 hb0 hsz0)
  rw [tnM_zero (el xs) n t] at hown0
  go_loopw [24] (fun u wr => ∃ k : Nat, k ≤ n ∧ u = .int .i64 k ∧ Own wr w.heap.size (some ⟨w.heap.size, 0, none⟩) n n (tab (tnM (el xs) n t k) n) ∧ Below w.heap.size w wr) (fun u _ => n - (intOf u).toNat)
  case atStart => exact ⟨0, Nat.zero_le _, rfl, hown0, hb0⟩
  case round =>
    obtain ⟨k, hk, rfl, hown, hbl⟩ := hrel
    clear hown0 hb0
    by_cases hlt : k < n
    · obtain ⟨b, off, rfl, hbb, hcell⟩ := (h.below hbl).cell k hlt
      have hc := hcell k hlt
      clear hcell
      have hmlt := Nat.mod_lt (k + t) (show 0 < n by omega)
      have hkm : (((k + t) % n : Nat) : Int) = ((k : Int) + (t : Int)) % (n : Int) := by simp
      have f2 : 0 ≤ ((k : Int) + (t : Int)) % (n : Int) := by omega
      have f3 : ((k : Int) + (t : Int)) % (n : Int) < n := by omega
      have f4 : (((k : Int) + (t : Int)) % (n : Int)).toNat = (k + t) % n := by omega
      obtain ⟨hcell, hfr, hBg, hgl⟩ := hown.cellK ((k + t) % n) hmlt
      have hst := hown.store ((k + t) % n) (el xs k)
      rw [tnM_set (el xs) hlt] at hst
      have hb2 := hbl.setCell (p := ⟨w.heap.size, (k + t) % n, none⟩) hBg (.int .i64 (el xs k))
      clear hkm
      go_wp2_with fail
      go_roundw
      case rel => exact ⟨k + 1, by omega, by go_num, hst, hb2⟩
      case measure => simp [intOf]; omega
    · obtain rfl : k = n := by omega
      go_wp2_with fail
      go_ret
      rw [tnM_end] at hown
      exact Fresh.mk hown hbl
theorem sTurnOf_no (w : World) (a : Option Addr) (n c : Nat) (xs : List Int) (k : Int) (h : Row w a n c xs) (hv : ¬ (rests xs = true ∧ 0 ≤ k ∧ k ≤ 16)) :
    Calls Try.prog 22 #[.slice a n c, .int .i64 k] w fun e w' => e = .returned (.slice none 0 0) ∧ w = w' := by
  cases hr : rests xs
  · clear hv
    go_enter Try.func22, Try.ntmps22
    go_wp2_with fail
    refine (validRests_is w a n c xs false h hr).mono ?_
    rintro e w' ⟨rfl, rfl⟩
    go_wp2_with fail
    go_ret
    exact ⟨rfl, rfl⟩
  · have hw : within k 0 16 = false := within_no fun h1 => hv ⟨hr, h1.1, h1.2⟩
    clear hv
    go_enter Try.func22, Try.ntmps22
    go_wp2_with fail
    refine (validRests_is w a n c xs true h hr).mono ?_
    rintro e w' ⟨rfl, rfl⟩
    go_wp2_with fail
    refine (inRange_any w k 0 16).mono ?_
    rw [hw]
    rintro e w' ⟨rfl, rfl⟩
    go_wp2_with fail
    go_ret
    exact ⟨rfl, rfl⟩
set_option maxHeartbeats 800000 in
theorem sTurnOf_yes (w : World) (a : Option Addr) (n c t : Nat) (xs : List Int) (h : Row w a n c xs) (hv : rests xs = true) (ht : t ≤ 16) :
    Calls Try.prog 22 #[.slice a n c, .int .i64 t] w fun e w' => Fresh w w' e n (tab (tnAt (el xs) n t) n) := by
  have HL : Hid (xs.length = n) := h.len
  obtain ⟨hd, hn1, hn96⟩ := rests_len hv h.len
  have HB : Hid (∀ i, i < n → 0 ≤ el xs i ∧ el xs i < 97) := fun i hi => (rests_iff.1 hv).2 i (by rw [HL.out]; exact hi)
  have hr96 := (root_facts hd).2.1
  have hw : within (t : Int) 0 16 = true := within_yes (by omega)
  go_enter Try.func22, Try.ntmps22
  go_wp2_with fail
  refine (validRests_is w a n c xs true h hv).mono ?_
  rintro e w' ⟨rfl, rfl⟩
  go_wp2_with fail
  refine (inRange_any w t 0 16).mono ?_
  rw [hw]
  rintro e w' ⟨rfl, rfl⟩
  go_wp2_with (at_make; go_must (refine make_int w rfl _ _ rfl .i64 .i64 _ _ n rfl rfl rfl rfl (by omega) ?_); intro w0 hown0 hb0 hsz0)
  rw [tnM_zero (el xs) n t] at hown0
  go_loopw [6] (fun u wr => ∃ k : Nat, k ≤ n ∧ u = .int .i64 k ∧ Own wr w.heap.size (some ⟨w.heap.size, 0, none⟩) n n (tab (tnM (el xs) n t k) n) ∧ Below w.heap.size w wr) (fun u _ => n - (intOf u).toNat)
  case atStart => exact ⟨0, Nat.zero_le _, rfl, hown0, hb0⟩
  case round =>
    obtain ⟨k, hk, rfl, hown, hbl⟩ := hrel
    clear hown0 hb0
    by_cases hlt : k < n
    · obtain ⟨b, off, rfl, hbb, hcell⟩ := (h.below hbl).cell k hlt
      have hc := hcell k hlt
      clear hcell
      have hmlt := Nat.mod_lt (k + t) (show 0 < n by omega)
      have hkm : (((k + t) % n : Nat) : Int) = ((k : Int) + (t : Int)) % (n : Int) := by simp
      have f2 : 0 ≤ ((k : Int) + (t : Int)) % (n : Int) := by omega
      have f3 : ((k : Int) + (t : Int)) % (n : Int) < n := by omega
      have f4 : (((k : Int) + (t : Int)) % (n : Int)).toNat = (k + t) % n := by omega
      obtain ⟨hcell, hfr, hBg, hgl⟩ := hown.cellK ((k + t) % n) hmlt
      have hst := hown.store ((k + t) % n) (el xs k)
      rw [tnM_set (el xs) hlt] at hst
      have hb2 := hbl.setCell (p := ⟨w.heap.size, (k + t) % n, none⟩) hBg (.int .i64 (el xs k))
      clear hkm
      have i1 : (0 : Int) ≤ (k : Int) := by omega
      have i2 : (k : Int) < n := by omega
      have f1 : 0 ≤ (k : Int) + (t : Int) ∧ (k : Int) + (t : Int) ≤ 9216 := by omega
      have f0 : ¬ n = 0 := by omega
      have f5 : ((k : Int) + (t : Int)).tmod (n : Int) = ((k : Int) + (t : Int)) % (n : Int) := Int.tmod_eq_emod_of_nonneg f1.1
      have j2 : IntKind.i64.wrap ((k : Int) + (t : Int)) = (k : Int) + (t : Int) := IntWalk.i64_in _ (by omega)
      go_wp2_with fail
      go_still_tail 12, (by kernel_rfl)
      change wpList _ _ _ _ _ wr.drew
      clear j2
      go_wp2_with fail
      go_roundw
      case rel => exact ⟨k + 1, by omega, by go_num, hst.drew, hb2.drew⟩
      case measure => simp [intOf]; omega
    · obtain rfl : k = n := by omega
      go_wp2_with fail
      go_ret
      rw [tnM_end] at hown
      exact Fresh.mk hown hbl
end Go.Proofs.Ytgnkdnlikdpffaa
