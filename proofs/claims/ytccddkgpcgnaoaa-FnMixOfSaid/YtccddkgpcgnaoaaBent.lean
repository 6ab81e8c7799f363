/-
  Rows of 1 and -1 alone, and bent rows: the program's and the reference's tests.
-/
import Derived.Test.YtccddkgpcgnaoaaPSigns
import Derived.Test.YtccddkgpcgnaoaaFold
import Derived.Test.YtccddkgpcgnaoaaExact
namespace Go.Proofs.Ytccddkgpcgnaoaa
open Go.RowKit

/-- The first numbers are 1 or -1. -/
def onF (xs : List Int) : Nat → Bool
  | 0 => true
  | k + 1 => onF xs k && (decide (el xs k = 1) || decide (el xs k = -1))
theorem onF_iff {xs : List Int} {n : Nat} : onF xs n = true ↔ ∀ i, i < n → el xs i = 1 ∨ el xs i = -1 := by
  induction n with
  | zero => simp [onF]
  | succ k ih =>
    simp only [onF, Bool.and_eq_true, Bool.or_eq_true, decide_eq_true_eq, ih]
    constructor
    · rintro ⟨h1, h2⟩ i hi
      by_cases e : i = k
      · subst e; exact h2
      · exact h1 i (by omega)
    · intro h; exact ⟨fun i hi => h i (by omega), h k (by omega)⟩
theorem onF_no {xs : List Int} {n i : Nat} (hi : i < n) (h : ¬ (el xs i = 1 ∨ el xs i = -1)) : onF xs n = false := by
  cases hv : onF xs n with
  | false => rfl
  | true => exact absurd (onF_iff.1 hv i hi) h
set_option maxHeartbeats 800000 in
theorem ones_any (w : World) (a : Option Addr) (n c : Nat) (xs : List Int) (h : Row w a n c xs) :
    Calls Try.prog 53 #[.slice a n c] w fun e w' => Tells w w' e (onF xs n) := by
  have hsm := h.small
  go_enter Try.func53, Try.ntmps53
  go_wp2_with fail
  go_loop [7] (fun u => ∃ k : Nat, k ≤ n ∧ u = .int .i64 k ∧ Hid (∀ i, i < k → el xs i = 1 ∨ el xs i = -1)) (fun u => n - (intOf u).toNat)
  case atStart => exact ⟨0, Nat.zero_le _, rfl, fun i hi => by omega⟩
  case round =>
    obtain ⟨k, hk, rfl, hall⟩ := hrel
    by_cases hlt : k < n
    · obtain ⟨b, off, rfl, hbb, hcell⟩ := h.cell k hlt
      have hc := hcell k hlt
      clear hcell
      by_cases h1 : el xs k = 1
      · have hb1 : (el xs k != 1) = false := by simp [h1]
        have H1 := Lib.hid h1
        clear h1
        go_wp2_with fail
        go_round
        case rel =>
          refine ⟨k + 1, by omega, by go_num, fun i hi => ?_⟩
          by_cases e : i = k
          · subst e; exact .inl H1.out
          · exact hall.out i (by omega)
        case measure => simp [intOf]; omega
      · have hb1 : (el xs k != 1) = true := by simp [h1]
        by_cases h2 : el xs k = -1
        · have hb2 : (el xs k != -1) = false := by simp [h2]
          have H2 := Lib.hid h2
          clear h1 h2
          go_wp2_with fail
          go_round
          case rel =>
            refine ⟨k + 1, by omega, by go_num, fun i hi => ?_⟩
            by_cases e : i = k
            · subst e; exact .inr H2.out
            · exact hall.out i (by omega)
          case measure => simp [intOf]; omega
        · have hb2 : (el xs k != -1) = true := by simp [h2]
          have HN : Hid (onF xs n = false) := onF_no hlt (by omega)
          clear h1 h2
          go_wp2_with fail
          go_ret
          exact ⟨ret_bool HN.out.symm, rfl⟩
    · obtain rfl : k = n := by omega
      go_wp2_with fail
      go_ret
      exact ⟨ret_bool (onF_iff.2 hall.out).symm, rfl⟩
theorem ones_is (w : World) (a : Option Addr) (n c : Nat) (xs : List Int) (v : Bool) (h : Row w a n c xs) (hv : onF xs n = v) :
    Calls Try.prog 53 #[.slice a n c] w fun e w' => Tells w w' e v := by subst hv; exact ones_any w a n c xs h

/-- All numbers are the first one, but for the sign. -/
def bsF (g : Nat → Int) : Nat → Bool
  | 0 => true
  | k + 1 => bsF g k && (decide (g k = g 0) || decide (g k = -g 0))
theorem bsF_iff {g : Nat → Int} {n : Nat} : bsF g n = true ↔ ∀ i, i < n → g i = g 0 ∨ g i = -g 0 := by
  induction n with
  | zero => simp [bsF]
  | succ k ih =>
    simp only [bsF, Bool.and_eq_true, Bool.or_eq_true, decide_eq_true_eq, ih]
    constructor
    · rintro ⟨h1, h2⟩ i hi
      by_cases e : i = k
      · subst e; exact h2
      · exact h1 i (by omega)
    · intro h; exact ⟨fun i hi => h i (by omega), h k (by omega)⟩
theorem bsF_no {g : Nat → Int} {n i : Nat} (hi : i < n) (h : ¬ (g i = g 0 ∨ g i = -g 0)) : bsF g n = false := by
  cases hv : bsF g n with
  | false => rfl
  | true => exact absurd (bsF_iff.1 hv i hi) h
theorem sq_eq {x y : Int} : x * x = y * y ↔ x = y ∨ x = -y := by
  constructor
  · intro h
    have h1 : (x - y) * (x + y) = 0 := by rw [Int.sub_mul, Int.mul_add, Int.mul_add, Int.mul_comm y x]; omega
    rcases Int.mul_eq_zero.1 h1 with e | e
    · left; omega
    · right; omega
  · rintro (rfl | rfl)
    · rfl
    · rw [Int.neg_mul_neg]
def bentB (xs : List Int) : Bool := cube xs && (onF xs xs.length && bsF (sgAt (el xs) xs.length) xs.length)
theorem bent_iff {xs : List Int} : bentB xs = true ↔ cube xs = true ∧ onF xs xs.length = true ∧ bsF (sgAt (el xs) xs.length) xs.length = true := by simp [bentB]
theorem bent_nocube {xs : List Int} (h : cube xs = false) : bentB xs = false := by simp [bentB, h]
theorem bent_noone {xs : List Int} (h : onF xs xs.length = false) : bentB xs = false := by simp [bentB, h]
theorem bent_nobs {xs : List Int} (h : bsF (sgAt (el xs) xs.length) xs.length = false) : bentB xs = false := by simp [bentB, h]
theorem signs_el {xs : List Int} {n i : Nat} (hi : i < n) : el (signsL xs n) i = sgAt (el xs) n i := by rw [signsL, el_tab hi]

set_option maxHeartbeats 1600000 in
theorem IsBent_all (w : World) (a : Option Addr) (n c : Nat) (xs : List Int) (h : Row w a n c xs) :
    Calls Try.prog 27 #[.slice a n c] w fun e w' => Says w w' e (bentB xs) := by
  cases hv : cube xs
  · rw [bent_nocube hv]
    go_enter Try.func27, Try.ntmps27
    go_wp2_with fail
    refine (whole_is w a n c xs false h hv).mono ?_
    rintro e w' ⟨rfl, rfl⟩
    go_wp2_with fail
    go_ret
    exact ⟨rfl, Below.refl _ _⟩
  cases ho : onF xs n
  · rw [bent_noone (by rw [h.len]; exact ho)]
    go_enter Try.func27, Try.ntmps27
    go_wp2_with fail
    refine (whole_is w a n c xs true h hv).mono ?_
    rintro e w' ⟨rfl, rfl⟩
    go_wp2_with fail
    refine (ones_is w a n c xs false h ho).mono ?_
    rintro e w' ⟨rfl, rfl⟩
    go_wp2_with fail
    go_ret
    exact ⟨rfl, Below.refl _ _⟩
  have HBT : Hid (bentB xs = bsF (sgAt (el xs) n) n) := by rw [Hid, bentB, hv, h.len, ho]; rfl
  have HL : Hid (xs.length = n) := h.len
  obtain ⟨kq, hkq, hnq, hbq⟩ := cube_p2 hv h.len
  have hn : n ≤ 16 := by rw [hnq]; exact p2_le (show kq ≤ 4 by omega)
  have hp : 0 < n := by rw [hnq]; exact p2_pos kq
  have HB : Hid (∀ i, i < n → -1000 ≤ el xs i ∧ el xs i ≤ 1000) := hbq
  clear hnq hbq
  go_enter Try.func27, Try.ntmps27
  go_wp2_with fail
  refine (whole_is w a n c xs true h hv).mono ?_
  rintro e w' ⟨rfl, rfl⟩
  go_wp2_with fail
  refine (ones_is w a n c xs true h ho).mono ?_
  rintro e w' ⟨rfl, rfl⟩
  go_wp2_with fail
  refine (signs_any w a n c xs h hn HB.out).mono ?_
  rintro e w1 ⟨a1, c1, rfl, hown, hbl⟩
  clear hv ho
  obtain ⟨b, off, rfl, _, hcx⟩ := (hown.row (by omega)).at hp
  have HC : Hid (∀ w', Below w1.heap.size w1 w' → ∀ j, j < n → w'.cell? ⟨b, off + j, none⟩ = some (.int .i64 (sgAt (el xs) n j))) := fun w' hb j hj => by
    have := hcx w' hb j hj
    rw [signs_el hj] at this; exact this
  clear hcx
  go_wp2_with fail
  go_loopw [18] (fun u wr => ∃ k : Nat, k ≤ n ∧ u = .int .i64 k ∧ Hid (∀ i, i < k → sgAt (el xs) n i = sgAt (el xs) n 0 ∨ sgAt (el xs) n i = -sgAt (el xs) n 0) ∧ Below w1.heap.size w1 wr) (fun u _ => n - (intOf u).toNat)
  case atStart => exact ⟨0, Nat.zero_le _, rfl, fun i hi => by omega, Below.refl _ _⟩
  case round =>
    obtain ⟨k, hk, rfl, hall, hblr⟩ := hrel
    by_cases hlt : k < n
    · have hc0 := HC.out wr hblr 0 hp
      rw [Nat.add_zero] at hc0
      have hck := HC.out wr hblr k hlt
      have s0 := @sgs_bd (el xs) 1000 n 0 HB.out
      have sk := @sgs_bd (el xs) 1000 n k HB.out
      have HE := Lib.hid (@sq_eq (sgAt (el xs) n k) (sgAt (el xs) n 0))
      have HN : Hid (¬ (sgAt (el xs) n k = sgAt (el xs) n 0 ∨ sgAt (el xs) n k = -sgAt (el xs) n 0) → bentB xs = false) := fun hh => by rw [HBT.out]; exact bsF_no hlt hh
      have HA : Hid (sgAt (el xs) n k = sgAt (el xs) n 0 ∨ sgAt (el xs) n k = -sgAt (el xs) n 0 → ∀ i, i < k + 1 → sgAt (el xs) n i = sgAt (el xs) n 0 ∨ sgAt (el xs) n i = -sgAt (el xs) n 0) := fun hh i hi => by
        by_cases e : i = k
        · rw [e]; exact hh
        · exact hall.out i (by omega)
      obtain ⟨X, hX⟩ : ∃ X, X = sgAt (el xs) n k := ⟨_, rfl⟩
      obtain ⟨Y, hY⟩ : ∃ Y, Y = sgAt (el xs) n 0 := ⟨_, rfl⟩
      have HA2 : Hid (X = Y ∨ X = -Y → ∀ i, i < k + 1 → sgAt (el xs) n i = sgAt (el xs) n 0 ∨ sgAt (el xs) n i = -sgAt (el xs) n 0) := by rw [hX, hY]; exact HA
      rw [← hX] at hck sk HE HN
      rw [← hY] at hc0 s0 HE HN
      clear hX hY HA
      have q1 := @sq_bd X 16000 (by omega)
      have q2 := @sq_bd Y 16000 (by omega)
      have i0 : (0 : Int) ≤ (k : Int) := by omega
      have i1 : (k : Int) < n := by omega
      have i2 : (0 : Int) < n := by omega
      have j1 : IntKind.i64.wrap (X * X) = X * X := IntWalk.i64_in _ (by omega)
      have j2 : IntKind.i64.wrap (Y * Y) = Y * Y := IntWalk.i64_in _ (by omega)
      by_cases hq : X * X = Y * Y
      · have hqb : (X * X != Y * Y) = false := by simp [hq]
        have HQ := Lib.hid hq
        clear hq
        go_wp2_with fail
        go_quiet (fail)
        clear j1 j2
        go_wp2_with fail
        go_roundw
        case rel => exact ⟨k + 1, by omega, by go_num, HA2.out (HE.out.1 HQ.out), bdrewN hblr _⟩
        case measure => simp [intOf]; omega
      · have hqb : (X * X != Y * Y) = true := by simp [hq]
        have HQ := Lib.hid hq
        clear hq
        go_wp2_with fail
        go_quiet (fail)
        clear j1 j2
        go_wp2_with fail
        go_ret
        exact ⟨ret_bool (HN.out fun hh => HQ.out (HE.out.2 hh)).symm, bdrewN (bstep hbl hblr) _⟩
    · obtain rfl : k = n := by omega
      go_wp2_with fail
      go_ret
      exact ⟨ret_bool (by rw [HBT.out, bsF_iff.2 hall.out]), bstep hbl hblr⟩
set_option maxHeartbeats 1600000 in
theorem sIsBent_all (w : World) (a : Option Addr) (n c : Nat) (xs : List Int) (h : Row w a n c xs) :
    Calls Try.prog 26 #[.slice a n c] w fun e w' => Says w w' e (bentB xs) := by
  cases hv : cube xs
  · rw [bent_nocube hv]
    go_enter Try.func26, Try.ntmps26
    go_wp2_with fail
    refine (validCube_is w a n c xs false h hv).mono ?_
    rintro e w' ⟨rfl, rfl⟩
    go_wp2_with fail
    go_ret
    exact ⟨rfl, Below.refl _ _⟩
  have HBT : Hid (onF xs n = true → bentB xs = bsF (sgAt (el xs) n) n) := fun ho => by rw [bentB, hv, h.len, ho]; rfl
  have HNO : Hid (onF xs n = false → bentB xs = false) := fun ho => bent_noone (by rw [h.len]; exact ho)
  have HL : Hid (xs.length = n) := h.len
  obtain ⟨kq, hkq, hnq, hbq⟩ := cube_p2 hv h.len
  have hn : n ≤ 16 := by rw [hnq]; exact p2_le (show kq ≤ 4 by omega)
  have hp : 0 < n := by rw [hnq]; exact p2_pos kq
  have HB : Hid (∀ i, i < n → -1000 ≤ el xs i ∧ el xs i ≤ 1000) := hbq
  clear hnq hbq
  go_enter Try.func26, Try.ntmps26
  go_wp2_with fail
  refine (validCube_is w a n c xs true h hv).mono ?_
  rintro e w' ⟨rfl, rfl⟩
  clear hv
  go_wp2_with fail
  go_loop [3] (fun u => ∃ k : Nat, k ≤ n ∧ u = .int .i64 k ∧ Hid (∀ i, i < k → el xs i = 1 ∨ el xs i = -1)) (fun u => n - (intOf u).toNat)
  case atStart => exact ⟨0, Nat.zero_le _, rfl, fun i hi => by omega⟩
  case round =>
    obtain ⟨k, hk, rfl, hall⟩ := hrel
    by_cases hlt : k < n
    · obtain ⟨b, off, rfl, hbb, hcell⟩ := h.cell k hlt
      have hc := hcell k hlt
      clear hcell
      by_cases h1 : el xs k = 1
      · have hb1 : (el xs k != 1) = false := by simp [h1]
        have H1 := Lib.hid h1
        clear h1
        go_wp2_with fail
        go_round
        case rel =>
          refine ⟨k + 1, by omega, by go_num, fun i hi => ?_⟩
          by_cases e : i = k
          · subst e; exact .inl H1.out
          · exact hall.out i (by omega)
        case measure => simp [intOf]; omega
      · have hb1 : (el xs k != 1) = true := by simp [h1]
        by_cases h2 : el xs k = -1
        · have hb2 : (el xs k != -1) = false := by simp [h2]
          have H2 := Lib.hid h2
          clear h1 h2
          go_wp2_with fail
          go_round
          case rel =>
            refine ⟨k + 1, by omega, by go_num, fun i hi => ?_⟩
            by_cases e : i = k
            · subst e; exact .inr H2.out
            · exact hall.out i (by omega)
          case measure => simp [intOf]; omega
        · have hb2 : (el xs k != -1) = true := by simp [h2]
          have HN : Hid (bentB xs = false) := HNO.out (onF_no hlt (by omega))
          clear h1 h2
          go_wp2_with fail
          go_ret
          exact ⟨ret_bool HN.out.symm, Below.refl _ _⟩
    · obtain rfl : k = n := by omega
      have HBF : Hid (bentB xs = bsF (sgAt (el xs) k) k) := HBT.out (onF_iff.2 hall.out)
      go_wp2_with fail
      refine (ssigns_any w a k c xs h hn HB.out).mono ?_
      rintro e w1 ⟨a1, c1, rfl, hown, hbl⟩
      obtain ⟨b, off, rfl, _, hcx⟩ := (hown.row (by omega)).at hp
      have HC : Hid (∀ w', Below w1.heap.size w1 w' → ∀ j, j < k → w'.cell? ⟨b, off + j, none⟩ = some (.int .i64 (sgAt (el xs) k j))) := fun w' hb j hj => by
        have := hcx w' hb j hj
        rw [signs_el hj] at this; exact this
      clear hcx
      go_wp2_with fail
      go_loopw [5] (fun u wr => ∃ j : Nat, j ≤ k ∧ u = .int .i64 j ∧ Hid (∀ i, i < j → sgAt (el xs) k i = sgAt (el xs) k 0 ∨ sgAt (el xs) k i = -sgAt (el xs) k 0) ∧ Below w1.heap.size w1 wr) (fun u _ => k - (intOf u).toNat)
      case atStart => exact ⟨0, Nat.zero_le _, rfl, fun i hi => by omega, Below.refl _ _⟩
      case round =>
        obtain ⟨j, hj, rfl, hall2, hblr⟩ := hrel
        by_cases hlt : j < k
        · have hc0 := HC.out wr hblr 0 hp
          rw [Nat.add_zero] at hc0
          have hck := HC.out wr hblr j hlt
          have s0 := @sgs_bd (el xs) 1000 k 0 HB.out
          have sk := @sgs_bd (el xs) 1000 k j HB.out
          have HN : Hid (¬ (sgAt (el xs) k j = sgAt (el xs) k 0 ∨ sgAt (el xs) k j = -sgAt (el xs) k 0) → bentB xs = false) := fun hh => by rw [HBF.out]; exact bsF_no hlt hh
          have HA : Hid (sgAt (el xs) k j = sgAt (el xs) k 0 ∨ sgAt (el xs) k j = -sgAt (el xs) k 0 → ∀ i, i < j + 1 → sgAt (el xs) k i = sgAt (el xs) k 0 ∨ sgAt (el xs) k i = -sgAt (el xs) k 0) := fun hh i hi => by
            by_cases e : i = j
            · rw [e]; exact hh
            · exact hall2.out i (by omega)
          obtain ⟨X, hX⟩ : ∃ X, X = sgAt (el xs) k j := ⟨_, rfl⟩
          obtain ⟨Y, hY⟩ : ∃ Y, Y = sgAt (el xs) k 0 := ⟨_, rfl⟩
          have HA2 : Hid (X = Y ∨ X = -Y → ∀ i, i < j + 1 → sgAt (el xs) k i = sgAt (el xs) k 0 ∨ sgAt (el xs) k i = -sgAt (el xs) k 0) := by rw [hX, hY]; exact HA
          rw [← hX] at hck sk HN
          rw [← hY] at hc0 s0 HN
          clear hX hY HA
          have i0 : (0 : Int) ≤ (j : Int) := by omega
          have i1 : (j : Int) < k := by omega
          have i2 : (0 : Int) < k := by omega
          have j1 : IntKind.i64.wrap (-Y) = -Y := IntWalk.i64_in _ (by omega)
          by_cases hq : X = Y
          · have hqb : (X != Y) = false := by simp [hq]
            have HQ := Lib.hid hq
            clear hq
            go_wp2_with fail
            go_quiet (fail)
            clear j1
            go_wp2_with fail
            go_roundw
            case rel => exact ⟨j + 1, by omega, by go_num, HA2.out (.inl HQ.out), bdrewN hblr _⟩
            case measure => simp [intOf]; omega
          · have hqb : (X != Y) = true := by simp [hq]
            by_cases hq2 : X = -Y
            · have hqb2 : (X != -Y) = false := by simp [hq2]
              have HQ := Lib.hid hq2
              clear hq hq2
              go_wp2_with fail
              go_quiet (fail)
              clear j1
              go_wp2_with fail
              go_roundw
              case rel => exact ⟨j + 1, by omega, by go_num, HA2.out (.inr HQ.out), bdrewN hblr _⟩
              case measure => simp [intOf]; omega
            · have hqb2 : (X != -Y) = true := by simp [hq2]
              have HQ : Hid (¬ (X = Y ∨ X = -Y)) := by rw [Hid]; omega
              clear hq hq2
              go_wp2_with fail
              go_quiet (fail)
              clear j1
              go_wp2_with fail
              go_ret
              exact ⟨ret_bool (HN.out HQ.out).symm, bdrewN (bstep hbl hblr) _⟩
        · obtain rfl : j = k := by omega
          go_wp2_with fail
          go_ret
          exact ⟨ret_bool (by rw [HBF.out, bsF_iff.2 hall2.out]), bstep hbl hblr⟩
set_option maxHeartbeats 1600000 in
theorem law_FnExactIsBent (w : World) (a : Option Addr) (n c : Nat) (xs : List Int) (hR : n ≤ 1125899906842624 → Row w a n c xs) (hM : n ≤ 9223372036854775807) :
    Calls Try.prog 7 #[.slice a n c] w fun e w' => Says w w' e true := by
  by_cases hbig : 1048576 < n
  · clear hR
    go_enter Try.func7, Try.ntmps7
    go_wp2
    go_ret
    exact ⟨rfl, Below.refl _ _⟩
  have hrow := hR (by omega)
  clear hR
  obtain ⟨v, hvv⟩ : ∃ v, v = bentB xs := ⟨_, rfl⟩
  have HS : Hid (∀ w a c, Row w a n c xs → Calls Try.prog 26 #[.slice a n c] w fun e w' => Says w w' e v) := by
    intro w a c h; rw [hvv]; exact sIsBent_all w a n c xs h
  have HI : Hid (∀ w a c, Row w a n c xs → Calls Try.prog 27 #[.slice a n c] w fun e w' => Says w w' e v) := by
    intro w a c h; rw [hvv]; exact IsBent_all w a n c xs h
  clear hvv
  cases v
  all_goals
    go_enter Try.func7, Try.ntmps7
    go_wp2_with fail
    refine (toIntS_any w a n c xs hrow (by omega)).mono ?_
    rintro e w1 ⟨a1, c1, rfl, own1, b1⟩
    go_wp2_with fail
    refine (HS.out w1 a1 c1 (own1.row (by omega))).mono ?_
    rintro e w2 ⟨rfl, b2⟩
    have l2 := bstep b1 b2
    go_wp2_with fail
    refine (toIntS_any w2 a n c xs (hrow.below l2) (by omega)).mono ?_
    rintro e w3 ⟨a3, c3, rfl, own3, b3⟩
    have l3 := bstep l2 b3
    go_wp2_with fail
    refine (HI.out w3 a3 c3 (own3.row (by omega))).mono ?_
    rintro e w4 ⟨rfl, b4⟩
    have l4 := bstep l3 b4
    have r4 := (own3.below b4).row (by omega)
    go_wp2_with fail
    refine (toIntS_any w4 a n c xs (hrow.below l4) (by omega)).mono ?_
    rintro e w5 ⟨a5, c5, rfl, own5, b5⟩
    have l5 := bstep l4 b5
    go_wp2_with fail
    refine (eqIntS_any_eq w5 a3 a5 n n c3 c5 _ _ (r4.below b5) (own5.row (by omega)) rfl).mono ?_
    rintro e w6 ⟨rfl, b6⟩
    go_wp2_with fail
    go_ret
    exact ⟨ret_bool (by simp), bstep l5 b6⟩
end Go.Proofs.Ytccddkgpcgnaoaa
