/-
  The law of DegreeOf for drawn rows: the walk of laws.FnDegreeOf answers true, given that the codes lie in memory.
-/
import Derived.Test.YtommnhpihophbaaLFrom
namespace Go.Proofs.Ytommnhpihophbaa
open Go.RowKit

/-- The last index below n with a number other than 0, -1 if there is none. -/
def dg (f : Nat → Int) : Nat → Int
  | 0 => -1
  | k + 1 => if f k = 0 then dg f k else (k : Int)

theorem dg_bd (f : Nat → Int) (n : Nat) : -1 ≤ dg f n ∧ dg f n < n := by
  induction n with
  | zero => simp [dg]
  | succ k ih => rw [dg]; split <;> omega
theorem dg_hit {f : Nat → Int} {n k : Nat} (h : dg f n = (k : Int)) : k < n ∧ f k ≠ 0 ∧ ∀ i, k < i → i < n → f i = 0 := by
  induction n with
  | zero => rw [dg] at h; omega
  | succ m ih =>
    rw [dg] at h
    split at h
    · next h0 =>
      obtain ⟨h1, h2, h3⟩ := ih h
      refine ⟨by omega, h2, fun i hi hm => ?_⟩
      by_cases e : i = m
      · subst e; exact h0
      · exact h3 i hi (by omega)
    · next h0 =>
      obtain rfl : m = k := by omega
      exact ⟨by omega, h0, fun i h1 h2 => by omega⟩
theorem dg_congr {f g : Nat → Int} {n : Nat} (h : ∀ i, i < n → f i = g i) : dg f n = dg g n := by
  induction n with
  | zero => rfl
  | succ k ih => rw [dg, dg, h k (by omega), ih fun i hi => h i (by omega)]
/-- Without the first one the last index is one less. -/
theorem dg_shift (f : Nat → Int) (n : Nat) (h : 0 ≤ dg f (n + 1)) : dg (fun k => f (k + 1)) n = dg f (n + 1) - 1 := by
  induction n with
  | zero => rw [dg] at h ⊢; rw [dg, dg]; rw [dg] at h; split <;> simp_all
  | succ m ih =>
    rw [dg]
    rw [dg] at h
    rw [dg]
    by_cases h0 : f (m + 1) = 0
    · rw [if_pos h0, if_pos h0]; rw [if_pos h0] at h; exact ih h
    · rw [if_neg h0, if_neg h0]; omega

def degree (xs : List Int) (n : Nat) : Int := dg (fun k => Dit k (el xs) 0) n

theorem diffs_degree (xs : List Int) (n : Nat) (h : 0 ≤ degree xs (n + 1)) : degree (tab (fun i => el xs (i + 1) - el xs i) n) n = degree xs (n + 1) - 1 := by
  rw [degree, degree] at *
  rw [← dg_shift _ _ h]
  refine dg_congr fun k hk => ?_
  show Dit k (el (tab _ n)) 0 = Dit k (fun i => el xs (i + 1) - el xs i) 0
  exact Dit_congr k _ _ 0 fun j hj => el_tab (by omega)

theorem DegreeOf_no (w : World) (a : Option Addr) (n c : Nat) (xs : List Int) (h : Row w a n c xs) (hv : valid xs = false) :
    Calls Try.prog 35 #[.slice a n c] w fun e w' => e = .returned (.int .i64 (-2)) ∧ w = w' := by
  go_enter Try.func35, Try.ntmps35
  go_wp2_with (go_at_call 22; refine (ValidRow_is w a n c xs false h hv).mono ?_; rintro e w' ⟨rfl, rfl⟩)
  go_ret
  exact ⟨rfl, rfl⟩
theorem sDegreeOf_no (w : World) (a : Option Addr) (n c : Nat) (xs : List Int) (h : Row w a n c xs) (hv : valid xs = false) :
    Calls Try.prog 36 #[.slice a n c] w fun e w' => e = .returned (.int .i64 (-2)) ∧ w = w' := by
  go_enter Try.func36, Try.ntmps36
  go_wp2_with (go_at_call 61; refine (validRow_is w a n c xs false h hv).mono ?_; rintro e w' ⟨rfl, rfl⟩)
  go_ret
  exact ⟨rfl, rfl⟩

set_option maxHeartbeats 800000 in
theorem DegreeOf_yes (w : World) (a : Option Addr) (n c : Nat) (xs : List Int) (h : Row w a n c xs) (hv : valid xs = true) :
    Calls Try.prog 35 #[.slice a n c] w fun e w' => Counts w w' e (degree xs n) := by
  have hlen : Hid (xs.length = n) := h.len
  have hn : n ≤ 16 := by have := valid_len hv; rw [hlen.out] at this; exact this
  go_enter Try.func35, Try.ntmps35
  go_wp2_with (first | (go_at_call 22; refine (ValidRow_is w a n c xs true h hv).mono ?_; rintro e w' ⟨rfl, rfl⟩) | (go_at_call 31; refine (EdgeOf_yes w a n c xs h hv).mono ?_; rintro e w1 ⟨a1, c1, rfl, hown, hbl⟩))
  have hr := hown.row (by omega)
  go_loop [4] (fun u => ∃ k : Nat, k ≤ n ∧ u = .int .i64 ((k : Int) - 1) ∧ Hid (degree xs n = degree xs k)) (fun u => (intOf u + 1).toNat)
  case atStart => exact ⟨n, Nat.le_refl _, rfl, rfl⟩
  case round =>
    obtain ⟨k, hk, rfl, hd⟩ := hrel
    by_cases hk0 : k = 0
    · subst hk0
      go_wp2_with fail
      go_ret
      exact ⟨ret_int hd.out.symm, hbl⟩
    · obtain ⟨j, rfl⟩ : ∃ j, k = j + 1 := ⟨k - 1, by omega⟩
      obtain ⟨b, off, rfl, hbb, hcell⟩ := hr.at (by omega)
      have hc := hcell w1 (Below.refl _ _) j (by omega)
      rw [el_edgeL (by omega)] at hc
      clear hcell
      by_cases hz : Dit j (el xs) 0 = 0
      · have hzb : (Dit j (el xs) 0 != 0) = false := by simp [hz]
        have HZ : Hid (Dit j (el xs) 0 = 0) := hz
        clear hz
        go_wp2_with fail
        go_round
        case rel => exact ⟨j, by omega, by go_num, by rw [Hid, hd.out, degree, dg, if_pos HZ.out]; try rfl⟩
        case measure => simp [intOf] <;> omega
      · have hzb : (Dit j (el xs) 0 != 0) = true := by simp [hz]
        have HZ : Hid (¬ Dit j (el xs) 0 = 0) := hz
        clear hz
        go_wp2_with fail
        go_ret
        exact ⟨ret_int (by rw [hd.out, degree, dg, if_neg HZ.out]; try omega), hbl⟩

set_option maxHeartbeats 800000 in
theorem sDegreeOf_yes (w : World) (a : Option Addr) (n c : Nat) (xs : List Int) (h : Row w a n c xs) (hv : valid xs = true) :
    Calls Try.prog 36 #[.slice a n c] w fun e w' => Counts w w' e (degree xs n) := by
  have hlen : Hid (xs.length = n) := h.len
  have hn : n ≤ 16 := by have := valid_len hv; rw [hlen.out] at this; exact this
  have hbd : Hid (∀ i, i < n → -1000 ≤ el xs i ∧ el xs i ≤ 1000) := fun i hi => valid_bd hv (by rw [hlen.out]; exact hi)
  go_enter Try.func36, Try.ntmps36
  go_wp2_with (first | (go_at_call 61; refine (validRow_is w a n c xs true h hv).mono ?_; rintro e w' ⟨rfl, rfl⟩) | (go_at_call 67; refine (edge_any w a n c xs h hn hbd.out).mono ?_; rintro e w1 ⟨a1, c1, rfl, hown, hbl⟩))
  have hr := hown.row (by omega)
  go_loop [4, 5] (fun s u => ∃ k : Nat, k ≤ n ∧ u = .int .i64 k ∧ s = .int .i64 (degree xs k)) (fun _ u => n - (intOf u).toNat)
  case atStart => exact ⟨0, Nat.zero_le _, rfl, rfl⟩
  case round =>
    obtain ⟨k, hk, rfl, rfl⟩ := hrel
    by_cases hlt : k < n
    · obtain ⟨b, off, rfl, hbb, hcell⟩ := hr.at (by omega)
      have hc := hcell w1 (Below.refl _ _) k (by omega)
      rw [el_edgeL (by omega)] at hc
      clear hcell
      by_cases hz : Dit k (el xs) 0 = 0
      · have hzb : (Dit k (el xs) 0 != 0) = false := by simp [hz]
        have HZ : Hid (Dit k (el xs) 0 = 0) := hz
        clear hz
        go_wp2_with fail
        go_round
        case rel => exact ⟨k + 1, by omega, by go_num, by rw [degree, degree, dg, if_pos HZ.out]⟩
        case measure => simp [intOf]; omega
      · have hzb : (Dit k (el xs) 0 != 0) = true := by simp [hz]
        have HZ : Hid (¬ Dit k (el xs) 0 = 0) := hz
        clear hz
        go_wp2_with fail
        go_round
        case rel => exact ⟨k + 1, by omega, by go_num, by rw [degree, dg, if_neg HZ.out]⟩
        case measure => simp [intOf]; omega
    · obtain rfl : k = n := by omega
      go_wp2_with fail
      go_ret
      exact ⟨rfl, hbl⟩
set_option maxHeartbeats 1600000 in
theorem law_DegreeOf (w : World) (a : Option Addr) (n c : Nat) (h : Bts w a n w.heap.size) (hnc : n ≤ c) :
    Calls Try.prog 8 #[.slice a n c] w fun e w' => Says w w' e true := by
  by_cases hbig : 1048576 < n
  · go_enter Try.func8, Try.ntmps8
    go_wp2
    go_ret
    exact ⟨rfl, Below.refl _ _⟩
  go_enter Try.func8, Try.ntmps8
  go_wp2_with fail
  refine (DrawDegreeOf_any w a n c h hnc (by omega)).mono ?_
  rintro e w1 ⟨a1, m, c1, xs, rfl, hm, hown, hbl⟩
  have hrow := hown.row (by omega)
  have hlen : Hid (xs.length = m) := hrow.len
  cases hv : valid xs
  · go_wp2_with fail
    refine (DegreeOf_no w1 a1 m c1 xs hrow hv).mono ?_
    rintro e w2 ⟨rfl, rfl⟩
    go_wp2_with fail
    refine (sDegreeOf_no _ a1 m c1 xs hrow hv).mono ?_
    rintro e w2 ⟨rfl, rfl⟩
    go_wp2_with fail
    refine (sDegreeOf_no _ a1 m c1 xs hrow hv).mono ?_
    rintro e w2 ⟨rfl, rfl⟩
    go_wp2_with fail
    go_ret
    exact ⟨ret_bool rfl, hbl⟩
  · have hm16 : m ≤ 16 := by have := valid_len hv; rw [hlen.out] at this; exact this
    go_wp2_with fail
    refine (DegreeOf_yes w1 a1 m c1 xs hrow hv).mono ?_
    rintro e w2 ⟨rfl, hb2⟩
    have hbl2 := bstep hbl hb2
    have hrow2 := hrow.below hb2
    have hdb := dg_bd (fun k => Dit k (el xs) 0) m
    have hgen : ∃ d, degree xs m = d := ⟨_, rfl⟩
    obtain ⟨d, hd⟩ := hgen
    have HD : Hid (degree xs m = d) := hd
    have hd1 : -1 ≤ d ∧ d < m := by rw [← hd]; exact hdb
    rw [hd]
    clear hd hdb
    have sdeg : ∀ (v : World), Row v a1 m c1 xs → Calls Try.prog 36 #[.slice a1 m c1] v fun e w' => Counts v w' e d := fun v hr => by
      have := sDegreeOf_yes v a1 m c1 xs hr hv
      rw [HD.out] at this; exact this
    have SD : Hid (∀ (v : World), Row v a1 m c1 xs → Calls Try.prog 36 #[.slice a1 m c1] v fun e w' => Counts v w' e d) := sdeg
    clear sdeg
    go_wp2_with fail
    refine (SD.out w2 hrow2).mono ?_
    rintro e w3 ⟨rfl, hb3⟩
    have hbl3 := bstep hbl2 hb3
    have hrow3 := hrow2.below hb3
    by_cases hneg : d < 0
    · go_wp2_with fail
      refine (SD.out w3 hrow3).mono ?_
      rintro e w4 ⟨rfl, hb4⟩
      go_wp2_with fail
      go_ret
      exact ⟨ret_bool (by simp), bstep hbl3 hb4⟩
    · obtain ⟨k, rfl⟩ := Int.eq_ofNat_of_zero_le (show 0 ≤ d by omega)
      obtain ⟨j, rfl⟩ : ∃ j, m = j + 1 := ⟨m - 1, by omega⟩
      have hhit := dg_hit (show dg (fun k => Dit k (el xs) 0) (j + 1) = (k : Int) from HD.out)
      have HIT : Hid (∀ i, k < i → i < j + 1 → Dit i (el xs) 0 = 0) := hhit.2.2
      have HNZ : Hid (Dit k (el xs) 0 ≠ 0) := hhit.2.1
      have hkm : k < j + 1 := hhit.1
      have hdl := diffs_degree xs j (by rw [HD.out]; omega)
      have HDL : Hid (degree (tab (fun i => el xs (i + 1) - el xs i) j) j = (k : Int) - 1) := by rw [HD.out] at hdl; exact hdl
      clear hdl hhit
      go_wp2_with fail
      refine (StepsOf_yes w3 a1 (j + 1) c1 xs hrow3 hv).mono ?_
      rintro e w4 ⟨a4, c4, rfl, hown4, hb4⟩
      have hbl4 := bstep hbl3 hb4
      have hrow4 := hrow3.below hb4
      have hr4 := hown4.row (by omega)
      have hcap4 := hr4.cap
      obtain ⟨b4, off4, rfl, hbb4, hcell4⟩ := hr4.at (by omega)
      have hdel : ∀ i, i < j → el (stepsL xs (j + 1)) (i + 1) = el (tab (fun i => el xs (i + 1) - el xs i) j) i := fun i hi => by
        rw [stepsL, el_tab (by omega), el_tab hi]; simp [stepAt]
      by_cases hcx : c4 = 1
      · obtain rfl : j = 0 := by omega
        subst hcx
        have hrl : Row w4 (some ⟨b4, off4, none⟩) 0 0 (tab (fun i => el xs (i + 1) - el xs i) 0) :=
          ⟨rfl, by omega, by omega, (fun e => by cases e), fun i hi => by omega⟩
        clear hcell4 hdel hown4 hr4
        go_wp2_with fail
        refine (EdgeOf_yes w4 a1 (0 + 1) c1 xs hrow4 hv).mono ?_
        rintro e w5 ⟨a5, c5, rfl, hown5, hb5⟩
        have hbl5 := bstep hbl4 hb5
        have hrl5 := hrl.below hb5
        have hr5 := hown5.row (by omega)
        obtain ⟨b5, off5, rfl, hbb5, hcell5⟩ := hr5.at (by omega)
        have HC5 : Hid (∀ w', Below w5.heap.size w5 w' → ∀ i, i < 0 + 1 → w'.cell? ⟨b5, off5 + i, none⟩ = some (.int .i64 (Dit i (el xs) 0))) := fun w' hb i hi => by
          have := hcell5 w' hb i hi
          rw [el_edgeL hi] at this; exact this
        clear hcell5 hown5 hr5 hb5
        go_wp2_with fail
        go_loop [7] (fun u => ∃ i : Nat, k + 1 ≤ i ∧ i ≤ 0 + 1 ∧ u = .int .i64 i) (fun u => 0 + 1 - (intOf u).toNat)
        case atStart => exact ⟨k + 1, by omega, by omega, by go_num⟩
        case round =>
          obtain ⟨i, hi1, hi2, rfl⟩ := hrel
          by_cases hlt : i < 0 + 1
          · have hc5 := HC5.out w5 (Below.refl _ _) i hlt
            rw [HIT.out i (by omega) hlt] at hc5
            go_wp2_with fail
            all_goals exact ⟨⟨i + 1, by omega, by omega, by go_num⟩, by simp [intOf]; omega⟩
          · obtain rfl : i = 0 + 1 := by omega
            have hc5 := HC5.out w5 (Below.refl _ _) k hkm
            have hnz : (Dit k (el xs) 0 != 0) = true := by have := HNZ.out; simp [this]
            cases hv2 : valid (tab (fun i => el xs (i + 1) - el xs i) (0))
            · go_wp2_with fail
              refine (ValidRow_is w5 _ _ _ _ false hrl5 hv2).mono ?_
              rintro e w' ⟨rfl, rfl⟩
              go_wp2_with fail
              go_ret
              exact ⟨ret_bool (by simp), hbl5⟩
            · go_wp2_with fail
              refine (ValidRow_is w5 _ _ _ _ true hrl5 hv2).mono ?_
              rintro e w' ⟨rfl, rfl⟩
              go_wp2_with fail
              refine (DegreeOf_yes w5 _ _ _ _ hrl5 hv2).mono ?_
              rintro e w6 ⟨rfl, hb6⟩
              rw [HDL.out]
              go_wp2_with fail
              go_ret
              exact ⟨ret_bool (by simp), bstep hbl5 hb6⟩
      · have hrl : Row w4 (some ⟨b4, off4 + 1, none⟩) j (c4 - 1) (tab (fun i => el xs (i + 1) - el xs i) j) :=
          ⟨tab_length _ _, by omega, by omega, (fun e => by cases e), fun i hi => ⟨b4, off4 + 1, rfl, hbb4, fun t ht => by
            have := hcell4 w4 (Below.refl _ _) (t + 1) (by omega)
            rw [hdel t ht] at this
            rw [Nat.add_assoc, Nat.add_comm 1 t]; exact this⟩⟩
        clear hcell4 hdel hown4 hr4
        go_wp2_with fail
        refine (EdgeOf_yes w4 a1 (j + 1) c1 xs hrow4 hv).mono ?_
        rintro e w5 ⟨a5, c5, rfl, hown5, hb5⟩
        have hbl5 := bstep hbl4 hb5
        have hrl5 := hrl.below hb5
        have hr5 := hown5.row (by omega)
        obtain ⟨b5, off5, rfl, hbb5, hcell5⟩ := hr5.at (by omega)
        have HC5 : Hid (∀ w', Below w5.heap.size w5 w' → ∀ i, i < j + 1 → w'.cell? ⟨b5, off5 + i, none⟩ = some (.int .i64 (Dit i (el xs) 0))) := fun w' hb i hi => by
          have := hcell5 w' hb i hi
          rw [el_edgeL hi] at this; exact this
        clear hcell5 hown5 hr5 hb5
        go_wp2_with fail
        go_loop [7] (fun u => ∃ i : Nat, k + 1 ≤ i ∧ i ≤ j + 1 ∧ u = .int .i64 i) (fun u => j + 1 - (intOf u).toNat)
        case atStart => exact ⟨k + 1, by omega, by omega, by go_num⟩
        case round =>
          obtain ⟨i, hi1, hi2, rfl⟩ := hrel
          by_cases hlt : i < j + 1
          · have hc5 := HC5.out w5 (Below.refl _ _) i hlt
            rw [HIT.out i (by omega) hlt] at hc5
            go_wp2_with fail
            all_goals exact ⟨⟨i + 1, by omega, by omega, by go_num⟩, by simp [intOf]; omega⟩
          · obtain rfl : i = j + 1 := by omega
            have hc5 := HC5.out w5 (Below.refl _ _) k hkm
            have hnz : (Dit k (el xs) 0 != 0) = true := by have := HNZ.out; simp [this]
            cases hv2 : valid (tab (fun i => el xs (i + 1) - el xs i) (j))
            · go_wp2_with fail
              refine (ValidRow_is w5 _ _ _ _ false hrl5 hv2).mono ?_
              rintro e w' ⟨rfl, rfl⟩
              go_wp2_with fail
              go_ret
              exact ⟨ret_bool (by simp), hbl5⟩
            · go_wp2_with fail
              refine (ValidRow_is w5 _ _ _ _ true hrl5 hv2).mono ?_
              rintro e w' ⟨rfl, rfl⟩
              go_wp2_with fail
              refine (DegreeOf_yes w5 _ _ _ _ hrl5 hv2).mono ?_
              rintro e w6 ⟨rfl, hb6⟩
              rw [HDL.out]
              go_wp2_with fail
              go_ret
              exact ⟨ret_bool (by simp), bstep hbl5 hb6⟩
end Go.Proofs.Ytommnhpihophbaa
