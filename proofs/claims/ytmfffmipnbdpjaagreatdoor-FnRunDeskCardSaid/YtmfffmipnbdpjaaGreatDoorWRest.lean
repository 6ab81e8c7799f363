/-
  Rests: powers, orders, roots, the tests on rows of rests; the program's and the reference's.
-/
import Derived.Test.YtmfffmipnbdpjaaGreatDoorWNum
import Derived.Test.YtmfffmipnbdpjaaGreatDoorVal
import Derived.Lib.Hide
namespace Go.Proofs.YtmfffmipnbdpjaaGreatDoor
open Go.RowKit

/-- The first numbers are rests. -/
def rokF (xs : List Int) : Nat → Bool
  | 0 => true
  | k + 1 => rokF xs k && (decide (0 ≤ el xs k) && decide (el xs k < 97))
theorem rokF_iff {xs : List Int} {n : Nat} : rokF xs n = true ↔ ∀ i, i < n → 0 ≤ el xs i ∧ el xs i < 97 := by
  induction n with
  | zero => simp [rokF]
  | succ k ih =>
    simp only [rokF, Bool.and_eq_true, decide_eq_true_eq, ih]
    constructor
    · rintro ⟨h1, h2⟩ i hi
      by_cases e : i = k
      · subst e; exact h2
      · exact h1 i (by omega)
    · intro h; exact ⟨fun i hi => h i (by omega), h k (by omega)⟩
def rests (xs : List Int) : Bool := dv xs.length && rokF xs xs.length
theorem rests_iff {xs : List Int} : rests xs = true ↔ dv xs.length = true ∧ ∀ i, i < xs.length → 0 ≤ el xs i ∧ el xs i < 97 := by
  rw [rests, Bool.and_eq_true, rokF_iff]
theorem rests_no {xs : List Int} {i : Nat} (hi : i < xs.length) (h : ¬ (0 ≤ el xs i ∧ el xs i < 97)) : rests xs = false := by
  cases hv : rests xs with
  | false => rfl
  | true => exact absurd ((rests_iff.1 hv).2 i hi) h
theorem rests_nolen {xs : List Int} (h : dv xs.length = false) : rests xs = false := by rw [rests, h]; rfl
theorem rests_len {xs : List Int} {n : Nat} (h : rests xs = true) (hl : xs.length = n) : dv n = true ∧ 1 ≤ n ∧ n ≤ 96 := by
  have := (rests_iff.1 h).1
  rw [hl] at this
  have h2 := dv_iff.1 this
  exact ⟨this, h2.1, by omega⟩

set_option maxHeartbeats 400000 in
theorem mod_any (w : World) (x : Int) (h : 0 ≤ x) (h2 : x ≤ 1000000000) :
    Calls Tryz.prog 72 #[.int .i64 x] w fun e w' => e = .returned (.int .i64 (x % 97)) ∧ w = w' := by
  go_enter Tryz.func72, Tryz.ntmps72
  go_wp2_with fail
  go_ret
  exact ⟨ret_int (by omega), rfl⟩
set_option maxHeartbeats 400000 in
theorem raise_any (w : World) (x n : Nat) (hx : x ≤ 96) (hn : n ≤ 10000) :
    Calls Tryz.prog 73 #[.int .i64 x, .int .i64 n] w fun e w' => e = .returned (.int .i64 (pw x n)) ∧ w = w' := by
  go_enter Tryz.func73, Tryz.ntmps73
  go_wp2_with fail
  go_loop [1, 5] (fun u v => ∃ k : Nat, k ≤ n ∧ u = .int .i64 ((n : Int) - k) ∧ v = .int .i64 (pw x k)) (fun u _ => (intOf u).toNat)
  case atStart => exact ⟨0, Nat.zero_le _, by go_num, by rw [pw_zero]; rfl⟩
  case round =>
    obtain ⟨k, hk, rfl, rfl⟩ := hrel
    have hpl := pw_lt x k
    have hsu : (pw x (k + 1) : Int) = (pw x k : Int) * (x : Int) % 97 := by rw [pw_succ]; simp
    have HSU := Lib.hid hsu
    clear hsu
    have hml : pw x k * x ≤ 96 * 96 := Nat.mul_le_mul (by omega) (by omega)
    have hmi : (0 : Int) ≤ (pw x k : Int) * (x : Int) ∧ (pw x k : Int) * (x : Int) ≤ 9216 := by
      have : ((pw x k * x : Nat) : Int) = (pw x k : Int) * (x : Int) := Int.natCast_mul _ _
      omega
    clear hml
    by_cases hlt : k < n
    · go_wp2_with fail
      refine (mod_any _ _ hmi.1 (by omega)).mono ?_
      rintro e w' ⟨rfl, rfl⟩
      go_wp2_with fail
      go_round
      case rel => exact ⟨k + 1, by omega, by go_num, by rw [HSU.out]⟩
      case measure => simp [intOf]; omega
    · obtain rfl : k = n := by omega
      go_wp2_with fail
      go_ret
      exact ⟨rfl, rfl⟩
theorem pwb_yes {x j : Nat} (h : pw x j = 1) : ((pw x j : Int) != 1) = false := by rw [h]; rfl
theorem pwb_no {x j : Nat} (h : pw x j ≠ 1) : ((pw x j : Int) != 1) = true := by simp; omega
set_option maxHeartbeats 400000 in
theorem OrderBy_any (w : World) (x : Nat) (h1 : 1 ≤ x) (hx : x ≤ 96) :
    Calls Tryz.prog 79 #[.int .i64 x] w fun e w' => e = .returned (.int .i64 (ordN x)) ∧ w = w' := by
  obtain ⟨o1, o2, o3, o4⟩ := ord_facts (x := x) (by omega) h1
  have O3 := Lib.hid o3
  have O4 := Lib.hid o4
  clear o3 o4
  have P1 : Hid (pw x 1 = x) := pw_one (by omega)
  go_enter Tryz.func79, Tryz.ntmps79
  go_wp2_with fail
  go_loop [3, 4] (fun u v => ∃ j : Nat, 1 ≤ j ∧ j ≤ ordN x ∧ u = .int .i64 j ∧ v = .int .i64 (pw x j)) (fun u _ => ordN x - (intOf u).toNat)
  case atStart => exact ⟨1, Nat.le_refl _, o1, rfl, by rw [P1.out]⟩
  case round =>
    obtain ⟨j, hj1, hj, rfl, rfl⟩ := hrel
    have hpl := pw_lt x j
    have hsu : (pw x (j + 1) : Int) = (pw x j : Int) * (x : Int) % 97 := by rw [pw_succ]; simp
    have HSU := Lib.hid hsu
    clear hsu
    have hml : pw x j * x ≤ 96 * 96 := Nat.mul_le_mul (by omega) (by omega)
    have hmi : (0 : Int) ≤ (pw x j : Int) * (x : Int) ∧ (pw x j : Int) * (x : Int) ≤ 9216 := by
      have : ((pw x j * x : Nat) : Int) = (pw x j : Int) * (x : Int) := Int.natCast_mul _ _
      omega
    clear hml
    by_cases hlt : j < ordN x
    · have hb := pwb_no (O4.out j hlt hj1)
      go_wp2_with fail
      go_round
      case rel => exact ⟨j + 1, by omega, by omega, by go_num, by rw [HSU.out]⟩
      case measure => simp [intOf]; omega
    · have e : j = ordN x := by omega
      have hb : ((pw x j : Int) != 1) = false := by rw [e]; exact pwb_yes O3.out
      have E := Lib.hid e
      clear e
      go_wp2_with fail
      go_ret
      exact ⟨ret_int (by rw [E.out]), rfl⟩
set_option maxHeartbeats 400000 in
theorem order_any (w : World) (x : Nat) (h1 : 1 ≤ x) (hx : x ≤ 96) :
    Calls Tryz.prog 74 #[.int .i64 x] w fun e w' => e = .returned (.int .i64 (ordN x)) ∧ w = w' := by
  obtain ⟨o1, o2, o3, o4⟩ := ord_facts (x := x) (by omega) h1
  have O3 := Lib.hid o3
  have O4 := Lib.hid o4
  clear o3 o4
  go_enter Tryz.func74, Tryz.ntmps74
  go_wp2_with fail
  go_loop [3] (fun u => ∃ j : Nat, 1 ≤ j ∧ j ≤ ordN x ∧ u = .int .i64 j) (fun u => ordN x - (intOf u).toNat)
  case atStart => exact ⟨1, Nat.le_refl _, o1, rfl⟩
  case round =>
    obtain ⟨j, hj1, hj, rfl⟩ := hrel
    by_cases hlt : j < ordN x
    · have hb := pwb_no (O4.out j hlt hj1)
      go_wp2_with fail
      refine (raise_any w x j hx (by omega)).mono ?_
      rintro e w' ⟨rfl, rfl⟩
      go_wp2_with fail
      go_round
      case rel => exact ⟨j + 1, by omega, by omega, by go_num⟩
      case measure => simp [intOf]; omega
    · have e : j = ordN x := by omega
      have hb : ((pw x j : Int) != 1) = false := by rw [e]; exact pwb_yes O3.out
      have E := Lib.hid e
      clear e
      go_wp2_with fail
      refine (raise_any w x j hx (by omega)).mono ?_
      rintro e w' ⟨rfl, rfl⟩
      go_wp2_with fail
      go_ret
      exact ⟨ret_int (by rw [E.out]), rfl⟩
set_option maxHeartbeats 400000 in
theorem RootOf_any (w : World) (n : Nat) (h : dv n = true) :
    Calls Tryz.prog 60 #[.int .i64 n] w fun e w' => e = .returned (.int .i64 (rootN n)) ∧ w = w' := by
  obtain ⟨r1, r2, r3, r4⟩ := root_facts h
  have R3 := Lib.hid r3
  have R4 := Lib.hid r4
  clear r3 r4
  obtain ⟨d1, d2, d3⟩ := dv_iff.1 h
  have d4 : ((96 : Int) % (n : Int) != 0) = false := by
    have : ((96 % n : Nat) : Int) = (96 : Int) % (n : Int) := by simp
    rw [← this, d3]; rfl
  clear d3
  go_enter Tryz.func60, Tryz.ntmps60
  go_wp2_with fail
  go_loop [3] (fun u => ∃ x : Nat, 1 ≤ x ∧ x ≤ rootN n ∧ u = .int .i64 x) (fun u => rootN n - (intOf u).toNat)
  case atStart => exact ⟨1, Nat.le_refl _, r1, rfl⟩
  case round =>
    obtain ⟨x, hx1, hx, rfl⟩ := hrel
    by_cases hlt : x < rootN n
    · have hb : ((ordN x : Int) == (n : Int)) = false := by have := R4.out x hlt hx1; simp; omega
      go_wp2_with fail
      refine (OrderBy_any w x hx1 (by omega)).mono ?_
      rintro e w' ⟨rfl, rfl⟩
      go_wp2_with fail
      go_round
      case rel => exact ⟨x + 1, by omega, by omega, by go_num⟩
      case measure => simp [intOf]; omega
    · have e : x = rootN n := by omega
      have hb : ((ordN x : Int) == (n : Int)) = true := by rw [e, R3.out]; simp
      have E := Lib.hid e
      clear e
      go_wp2_with fail
      refine (OrderBy_any w x hx1 (by omega)).mono ?_
      rintro e w' ⟨rfl, rfl⟩
      go_wp2_with fail
      go_ret
      exact ⟨ret_int (by rw [E.out]), rfl⟩
set_option maxHeartbeats 400000 in
theorem root_any (w : World) (n : Nat) (h : dv n = true) :
    Calls Tryz.prog 50 #[.int .i64 n] w fun e w' => e = .returned (.int .i64 (rootN n)) ∧ w = w' := by
  obtain ⟨r1, r2, r3, r4⟩ := root_facts h
  have R3 := Lib.hid r3
  have R4 := Lib.hid r4
  clear r3 r4
  have d2 := (dv_iff.1 h).2.1
  go_enter Tryz.func50, Tryz.ntmps50
  go_wp2_with fail
  go_loop [3] (fun u => ∃ x : Nat, 1 ≤ x ∧ x ≤ rootN n ∧ u = .int .i64 x) (fun u => rootN n - (intOf u).toNat)
  case atStart => exact ⟨1, Nat.le_refl _, r1, rfl⟩
  case round =>
    obtain ⟨x, hx1, hx, rfl⟩ := hrel
    by_cases hlt : x < rootN n
    · have hb : ((ordN x : Int) != (n : Int)) = true := by have := R4.out x hlt hx1; simp; omega
      go_wp2_with fail
      refine (order_any w x hx1 (by omega)).mono ?_
      rintro e w' ⟨rfl, rfl⟩
      go_wp2_with fail
      go_round
      case rel => exact ⟨x + 1, by omega, by omega, by go_num⟩
      case measure => simp [intOf]; omega
    · have e : x = rootN n := by omega
      have hb : ((ordN x : Int) != (n : Int)) = false := by rw [e, R3.out]; simp
      have E := Lib.hid e
      clear e
      go_wp2_with fail
      refine (order_any w x hx1 (by omega)).mono ?_
      rintro e w' ⟨rfl, rfl⟩
      go_wp2_with fail
      go_ret
      exact ⟨ret_int (by rw [E.out]), rfl⟩
set_option maxHeartbeats 800000 in
theorem ValidRests_any (w : World) (a : Option Addr) (n c : Nat) (xs : List Int) (h : Row w a n c xs) :
    Calls Tryz.prog 58 #[.slice a n c] w fun e w' => Tells w w' e (rests xs) := by
  have hlen : Hid (xs.length = n) := h.len
  have hsm := h.small
  by_cases h1 : n < 1
  · have HN : Hid (rests xs = false) := rests_nolen (by rw [hlen.out]; cases hd : dv n with | false => rfl | true => have := dv_iff.1 hd; omega)
    go_enter Tryz.func58, Tryz.ntmps58
    go_wp2_with fail
    go_ret
    exact ⟨ret_bool HN.out.symm, rfl⟩
  by_cases h2 : 97 ≤ n
  · have HN : Hid (rests xs = false) := rests_nolen (by rw [hlen.out]; cases hd : dv n with | false => rfl | true => have := dv_iff.1 hd; omega)
    go_enter Tryz.func58, Tryz.ntmps58
    go_wp2_with fail
    go_ret
    exact ⟨ret_bool HN.out.symm, rfl⟩
  have h96 : ((96 % n : Nat) : Int) = (96 : Int) % (n : Int) := by simp
  by_cases h3 : 96 % n = 0
  · have d4 : ((96 : Int) % (n : Int) != 0) = false := by rw [← h96, h3]; rfl
    have HD : Hid (dv xs.length = true) := by rw [Hid, hlen.out]; exact dv_iff.2 ⟨by omega, by omega, h3⟩
    clear h96 h3
    go_enter Tryz.func58, Tryz.ntmps58
    go_wp2_with fail
    go_loop [21] (fun u => ∃ k : Nat, k ≤ n ∧ u = .int .i64 k ∧ Hid (∀ i, i < k → 0 ≤ el xs i ∧ el xs i < 97)) (fun u => n - (intOf u).toNat)
    case atStart => exact ⟨0, Nat.zero_le _, rfl, fun i hi => by omega⟩
    case round =>
      obtain ⟨k, hk, rfl, hall⟩ := hrel
      by_cases hlt : k < n
      · obtain ⟨b, off, rfl, hbb, hcell⟩ := h.cell k hlt
        have hc := hcell k hlt
        clear hcell
        by_cases h4 : el xs k < 0
        · go_wp2_with fail
          go_ret
          exact ⟨ret_bool (rests_no (i := k) (by rw [hlen.out]; exact hlt) (by omega)).symm, rfl⟩
        · by_cases h5 : 97 ≤ el xs k
          · go_wp2_with fail
            go_ret
            exact ⟨ret_bool (rests_no (i := k) (by rw [hlen.out]; exact hlt) (by omega)).symm, rfl⟩
          · go_wp2_with fail
            go_round
            case rel =>
              refine ⟨k + 1, by omega, by go_num, fun i hi => ?_⟩
              by_cases e : i = k
              · subst e; omega
              · exact hall.out i (by omega)
            case measure => simp [intOf]; omega
      · go_wp2_with fail
        go_ret
        refine ⟨ret_bool (rests_iff.2 ⟨HD.out, fun i hi => hall.out i ?_⟩).symm, rfl⟩
        rw [hlen.out] at hi; omega
  · have d4 : ((96 : Int) % (n : Int) != 0) = true := by rw [← h96]; simp; omega
    have HN : Hid (rests xs = false) := rests_nolen (by rw [hlen.out]; cases hd : dv n with | false => rfl | true => have := dv_iff.1 hd; omega)
    clear h96 h3
    go_enter Tryz.func58, Tryz.ntmps58
    go_wp2_with fail
    go_ret
    exact ⟨ret_bool HN.out.symm, rfl⟩
theorem ValidRests_is (w : World) (a : Option Addr) (n c : Nat) (xs : List Int) (v : Bool) (h : Row w a n c xs) (hv : rests xs = v) :
    Calls Tryz.prog 58 #[.slice a n c] w fun e w' => Tells w w' e v := by subst hv; exact ValidRests_any w a n c xs h
set_option maxHeartbeats 800000 in
theorem validRests_any (w : World) (a : Option Addr) (n c : Nat) (xs : List Int) (h : Row w a n c xs) :
    Calls Tryz.prog 27 #[.slice a n c] w fun e w' => Tells w w' e (rests xs) := by
  have hlen : Hid (xs.length = n) := h.len
  have hsm := h.small
  go_enter Tryz.func27, Tryz.ntmps27
  go_wp2_with fail
  go_loop [3] (fun u => ∃ k : Nat, k ≤ n ∧ u = .int .i64 k ∧ Hid (∀ i, i < k → 0 ≤ el xs i ∧ el xs i < 97)) (fun u => n - (intOf u).toNat)
  case atStart => exact ⟨0, Nat.zero_le _, rfl, fun i hi => by omega⟩
  case round =>
    obtain ⟨k, hk, rfl, hall⟩ := hrel
    by_cases hlt : k < n
    · obtain ⟨b, off, rfl, hbb, hcell⟩ := h.cell k hlt
      have hc := hcell k hlt
      clear hcell
      go_wp2_with fail
      refine (inRange_any w (el xs k) 0 96).mono ?_
      rintro e w' ⟨rfl, rfl⟩
      by_cases hr : 0 ≤ el xs k ∧ el xs k ≤ 96
      · have hd := within_yes hr
        rw [hd]
        go_wp2_with fail
        go_round
        case rel =>
          refine ⟨k + 1, by omega, by go_num, fun i hi => ?_⟩
          by_cases e : i = k
          · subst e; omega
          · exact hall.out i (by omega)
        case measure => simp [intOf]; omega
      · have hd := within_no hr
        rw [hd]
        go_wp2_with fail
        go_ret
        exact ⟨ret_bool (rests_no (i := k) (by rw [hlen.out]; exact hlt) (by omega)).symm, rfl⟩
    · by_cases hr : (1 : Int) ≤ (n : Int) ∧ (n : Int) ≤ 96
      · have hd := within_yes hr
        have h96 : ((96 % n : Nat) : Int) = (96 : Int) % (n : Int) := by simp
        by_cases h3 : 96 % n = 0
        · have d4 : ((96 : Int) % (n : Int) == 0) = true := by rw [← h96, h3]; rfl
          have HD : Hid (dv xs.length = true) := by rw [Hid, hlen.out]; exact dv_iff.2 ⟨by omega, by omega, h3⟩
          clear h96 h3
          go_wp2_with fail
          refine (inRange_any w n 1 96).mono ?_
          rw [hd]
          rintro e w' ⟨rfl, rfl⟩
          go_wp2_with fail
          go_ret
          refine ⟨ret_bool (rests_iff.2 ⟨HD.out, fun i hi => hall.out i ?_⟩).symm, rfl⟩
          rw [hlen.out] at hi; omega
        · have d4 : ((96 : Int) % (n : Int) == 0) = false := by rw [← h96]; simp; omega
          have HN : Hid (rests xs = false) := rests_nolen (by rw [hlen.out]; cases hd : dv n with | false => rfl | true => have := dv_iff.1 hd; omega)
          clear h96 h3
          go_wp2_with fail
          refine (inRange_any w n 1 96).mono ?_
          rw [hd]
          rintro e w' ⟨rfl, rfl⟩
          go_wp2_with fail
          go_ret
          exact ⟨ret_bool HN.out.symm, rfl⟩
      · have hd := within_no hr
        have HN : Hid (rests xs = false) := rests_nolen (by rw [hlen.out]; cases hd : dv n with | false => rfl | true => have := dv_iff.1 hd; omega)
        go_wp2_with fail
        refine (inRange_any w n 1 96).mono ?_
        rw [hd]
        rintro e w' ⟨rfl, rfl⟩
        go_wp2_with fail
        go_ret
        exact ⟨ret_bool HN.out.symm, rfl⟩
theorem validRests_is (w : World) (a : Option Addr) (n c : Nat) (xs : List Int) (v : Bool) (h : Row w a n c xs) (hv : rests xs = v) :
    Calls Tryz.prog 27 #[.slice a n c] w fun e w' => Tells w w' e v := by subst hv; exact validRests_any w a n c xs h
end Go.Proofs.YtmfffmipnbdpjaaGreatDoor
