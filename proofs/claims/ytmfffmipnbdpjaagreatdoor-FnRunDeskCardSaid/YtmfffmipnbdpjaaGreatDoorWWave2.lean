/-
  WaveOf, UnwaveOf, TurnOf, SpreadOf: the program's and the reference's.
-/
import Derived.Test.YtmfffmipnbdpjaaGreatDoorWWave
import Derived.Test.YtmfffmipnbdpjaaGreatDoorWRing
namespace Go.Proofs.YtmfffmipnbdpjaaGreatDoor
open Go.RowKit

def wvR (xs : List Int) : List Int := if rests xs then wvL (rootN xs.length) xs xs.length else []
def uwR (xs : List Int) : List Int := if rests xs then tab (uwAt (el xs) xs.length) xs.length else []
def tnR (xs : List Int) (k : Int) : List Int := if rests xs && decide (0 ≤ k ∧ k ≤ 16) then tab (tnAt (el xs) xs.length k.toNat) xs.length else []
theorem wvR_len (xs : List Int) : (wvR xs).length ≤ 1000 := by
  unfold wvR
  split
  · rename_i h; have := (rests_len h rfl).2.2; rw [wvL, tab_length]; omega
  · simp
theorem uwR_len (xs : List Int) : (uwR xs).length ≤ 1000 := by
  unfold uwR
  split
  · rename_i h; have := (rests_len h rfl).2.2; rw [tab_length]; omega
  · simp
theorem tnR_len (xs : List Int) (k : Int) : (tnR xs k).length ≤ 1000 := by
  unfold tnR
  split
  · rename_i h; rw [Bool.and_eq_true] at h; have := (rests_len h.1 rfl).2.2; rw [tab_length]; omega
  · simp
set_option maxHeartbeats 400000 in
theorem WaveOf_no (w : World) (a : Option Addr) (n c : Nat) (xs : List Int) (h : Row w a n c xs) (hv : rests xs = false) :
    Calls Tryz.prog 36 #[.slice a n c] w fun e w' => e = .returned (.slice none 0 0) ∧ w = w' := by
  go_enter Tryz.func36, Tryz.ntmps36
  go_wp2_with fail
  refine (ValidRests_is w a n c xs false h hv).mono ?_
  rintro e w' ⟨rfl, rfl⟩
  go_wp2_with fail
  go_ret
  exact ⟨rfl, rfl⟩
set_option maxHeartbeats 400000 in
theorem WaveOf_yes (w : World) (a : Option Addr) (n c : Nat) (xs : List Int) (h : Row w a n c xs) (hv : rests xs = true) :
    Calls Tryz.prog 36 #[.slice a n c] w fun e w' => Fresh w w' e n (wvL (rootN n) xs n) := by
  have HL : Hid (xs.length = n) := h.len
  obtain ⟨hd, hn1, hn96⟩ := rests_len hv h.len
  have HB : Hid (∀ i, i < n → 0 ≤ el xs i ∧ el xs i < 97) := fun i hi => (rests_iff.1 hv).2 i (by rw [HL.out]; exact hi)
  have hr96 := (root_facts hd).2.1
  go_enter Tryz.func36, Tryz.ntmps36
  go_wp2_with fail
  refine (ValidRests_is w a n c xs true h hv).mono ?_
  rintro e w' ⟨rfl, rfl⟩
  go_wp2_with fail
  refine (RootOf_any w n hd).mono ?_
  rintro e w' ⟨rfl, rfl⟩
  go_wp2_with fail
  refine (wave_any w a n c xs (rootN n) h hn1 hn96 hr96 HB.out).mono ?_
  rintro e w1 ⟨a1, c1, rfl, hown, hbl⟩
  go_wp2_with fail
  go_ret
  exact Fresh.mk hown hbl
theorem WaveOf_all (w : World) (a : Option Addr) (n c : Nat) (xs : List Int) (h : Row w a n c xs) :
    Calls Tryz.prog 36 #[.slice a n c] w fun e w' => Fresh w w' e (wvR xs).length (wvR xs) := by
  cases hv : rests xs
  · rw [show wvR xs = [] by simp [wvR, hv]]
    refine (WaveOf_no w a n c xs h hv).mono ?_
    rintro e w' ⟨rfl, rfl⟩
    exact Fresh.mk (own_nil _ _) (Below.refl _ _)
  · refine (WaveOf_yes w a n c xs h hv).mono ?_
    rintro e w' ⟨a1, c1, rfl, hown, hbl⟩
    have hl := h.len
    exact Fresh.mk' hown hbl (by rw [wvR, if_pos hv, wvL, tab_length, hl]) (by rw [wvR, if_pos hv, hl])
set_option maxHeartbeats 400000 in
theorem sWaveOf_no (w : World) (a : Option Addr) (n c : Nat) (xs : List Int) (h : Row w a n c xs) (hv : rests xs = false) :
    Calls Tryz.prog 28 #[.slice a n c] w fun e w' => e = .returned (.slice none 0 0) ∧ w = w' := by
  go_enter Tryz.func28, Tryz.ntmps28
  go_wp2_with fail
  refine (validRests_is w a n c xs false h hv).mono ?_
  rintro e w' ⟨rfl, rfl⟩
  go_wp2_with fail
  go_ret
  exact ⟨rfl, rfl⟩
set_option maxHeartbeats 400000 in
theorem sWaveOf_yes (w : World) (a : Option Addr) (n c : Nat) (xs : List Int) (h : Row w a n c xs) (hv : rests xs = true) :
    Calls Tryz.prog 28 #[.slice a n c] w fun e w' => Fresh w w' e n (wvL (rootN n) xs n) := by
  have HL : Hid (xs.length = n) := h.len
  obtain ⟨hd, hn1, hn96⟩ := rests_len hv h.len
  have HB : Hid (∀ i, i < n → 0 ≤ el xs i ∧ el xs i < 97) := fun i hi => (rests_iff.1 hv).2 i (by rw [HL.out]; exact hi)
  have hr96 := (root_facts hd).2.1
  go_enter Tryz.func28, Tryz.ntmps28
  go_wp2_with fail
  refine (validRests_is w a n c xs true h hv).mono ?_
  rintro e w' ⟨rfl, rfl⟩
  go_wp2_with fail
  refine (root_any w n hd).mono ?_
  rintro e w' ⟨rfl, rfl⟩
  go_wp2_with fail
  refine (swave_any w a n c xs (rootN n) h hn1 hn96 hr96 HB.out).mono ?_
  rintro e w1 ⟨a1, c1, rfl, hown, hbl⟩
  go_wp2_with fail
  go_ret
  exact Fresh.mk hown hbl
theorem sWaveOf_all (w : World) (a : Option Addr) (n c : Nat) (xs : List Int) (h : Row w a n c xs) :
    Calls Tryz.prog 28 #[.slice a n c] w fun e w' => Fresh w w' e (wvR xs).length (wvR xs) := by
  cases hv : rests xs
  · rw [show wvR xs = [] by simp [wvR, hv]]
    refine (sWaveOf_no w a n c xs h hv).mono ?_
    rintro e w' ⟨rfl, rfl⟩
    exact Fresh.mk (own_nil _ _) (Below.refl _ _)
  · refine (sWaveOf_yes w a n c xs h hv).mono ?_
    rintro e w' ⟨a1, c1, rfl, hown, hbl⟩
    have hl := h.len
    exact Fresh.mk' hown hbl (by rw [wvR, if_pos hv, wvL, tab_length, hl]) (by rw [wvR, if_pos hv, hl])

theorem rinv_le (n : Nat) : rinv n ≤ 96 := by have := pw_lt (rootN n) 95; unfold rinv; omega

/-- In the middle of turning: the first k have their places. -/
def tnM (f : Nat → Int) (n t k j : Nat) : Int := if (j + (n - t % n)) % n < k then f ((j + (n - t % n)) % n) else 0
theorem tnM_zero (f : Nat → Int) (n t : Nat) : tab (fun _ => 0) n = tab (tnM f n t 0) n := tab_congr fun j _ => by rw [tnM, if_neg (by omega)]
theorem tnM_end (f : Nat → Int) (n t : Nat) : tab (tnM f n t n) n = tab (tnAt f n t) n := tab_congr fun j hj => by rw [tnM, if_pos (Nat.mod_lt _ (by omega)), tnAt]
theorem tnM_set (f : Nat → Int) {n t k : Nat} (hk : k < n) : (tab (tnM f n t k) n).set ((k + t) % n) (f k) = tab (tnM f n t (k + 1)) n := by
  apply el_ext
  · simp [tab_length]
  · intro j hj
    have hj' : j < n := by simpa [tab_length] using hj
    have hlt := Nat.mod_lt (k + t) (show 0 < n by omega)
    have e : el ((tab (tnM f n t k) n).set ((k + t) % n) (f k)) j = if j = (k + t) % n then f k else el (tab (tnM f n t k) n) j := by
      unfold el
      by_cases e : j = (k + t) % n
      · subst e; simp [List.getD, tab_length, hlt]
      · rw [if_neg e]; simp [List.getD, List.getElem?_set, Ne.symm e]
    rw [e, el_tab hj', el_tab hj', tnM, tnM]
    obtain ⟨i, hi, e1, e2⟩ := tn_idx (t := t) j hj'
    rw [e2]
    by_cases e3 : i = k
    · subst e3; rw [if_pos e1.symm, if_pos (by omega)]
    · have hne : ¬ j = (k + t) % n := fun e4 => by
        have h1 := tn_at (fun x => (x : Int)) (t := t) hk
        rw [← e4, tnAt, e2] at h1
        omega
      rw [if_neg hne]
      by_cases e5 : i < k
      · rw [if_pos e5, if_pos (by omega)]
      · rw [if_neg e5, if_neg (by omega)]

end Go.Proofs.YtmfffmipnbdpjaaGreatDoor
