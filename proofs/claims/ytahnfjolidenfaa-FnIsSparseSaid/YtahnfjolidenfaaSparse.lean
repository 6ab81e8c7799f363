/-
  Sparse sets of places: the tests of the program and of the reference; counts of sums; the greatest sparse set.
-/
import Derived.Test.YtahnfjolidenfaaOnes
import Derived.Test.YtahnfjolidenfaaMk
import Derived.Test.YtahnfjolidenfaaNum
import Derived.Test.YtahnfjolidenfaaTwo
import Derived.Lib.Hide
namespace Go.Proofs.Ytahnfjolidenfaa
open Go.RowKit

theorem shr_bit (s i : Nat) (h : s < 8192) : bits .and .i64 ((s : Int) / 2 ^ i) 1 = if s.testBit i then 1 else 0 := by
  have e : (s : Int) / 2 ^ i = ((s / 2 ^ i : Nat) : Int) := by simp
  have hd : s / 2 ^ i ≤ s := Nat.div_le_self _ _
  have h1 := i64_and (s / 2 ^ i) 1 (by omega) (by omega)
  rw [e]
  have e1 : ((1 : Nat) : Int) = 1 := rfl
  rw [e1] at h1
  rw [h1, Nat.and_one_is_mod, Nat.testBit_eq_decide_div_mod_eq]
  have := Nat.mod_lt (s / 2 ^ i) (show 0 < 2 by decide)
  by_cases hm : s / 2 ^ i % 2 = 1
  · simp [hm]
  · have h0 : s / 2 ^ i % 2 = 0 := by omega
    rw [h0]; simp
theorem shl13 : ∀ e, e < 13 → wrap64 ((2 : Int) ^ e) = (p2 e : Int) := by decide +kernel
theorem p2_13 : ∀ e, e < 13 → p2 e ≤ 4096 := by decide
theorem and_has (q e : Nat) (hq : q < 8192) (he : e < 13) : (bits .and .i64 (q : Int) (p2 e : Int) != 0) = q.testBit e := by
  have hp := p2_13 e he
  have hp0 := p2_pos e
  have ha : q &&& p2 e = if q.testBit e then p2 e else 0 := by
    apply Nat.eq_of_testBit_eq
    intro j
    rw [Nat.testBit_and, p2, Nat.testBit_two_pow]
    by_cases hj : e = j
    · subst hj
      cases q.testBit e
      · simp
      · simp [Nat.testBit_two_pow]
    · cases q.testBit e
      · simp [hj]
      · simp [hj, Nat.testBit_two_pow]
  rw [i64_and q (p2 e) (by omega) (by omega), ha]
  cases q.testBit e
  · simp
  · rw [if_pos rfl, bne_iff_ne.mpr (by omega)]
theorem or_add (q e : Nat) (hq : q < 8192) (he : e < 13) (hb : q.testBit e = false) : bits .or .i64 (q : Int) (p2 e : Int) = ((q + p2 e : Nat) : Int) ∧ q + p2 e < 8192 := by
  have hp := p2_13 e he
  have h1 : q ||| p2 e = q + p2 e := by
    have hd := Nat.div_add_mod q (2 ^ (e + 1))
    have hm : q % 2 ^ (e + 1) < 2 ^ e := by
      rw [Nat.testBit_eq_decide_div_mod_eq] at hb
      have hb0 : q / 2 ^ e % 2 = 0 := by
        have := Nat.mod_lt (q / 2 ^ e) (show 0 < 2 by decide)
        have : ¬ q / 2 ^ e % 2 = 1 := by simpa using hb
        omega
      have e1 : q % 2 ^ (e + 1) = q % 2 ^ e + 2 ^ e * (q / 2 ^ e % 2) := by rw [Nat.pow_succ]; exact Nat.mod_mul
      rw [e1, hb0, Nat.mul_zero, Nat.add_zero]
      exact Nat.mod_lt _ (Nat.pow_pos (by decide))
    apply Nat.eq_of_testBit_eq
    intro j
    rw [Nat.testBit_or, p2, Nat.testBit_two_pow]
    rw [show q + 2 ^ e = 2 ^ (e + 1) * (q / 2 ^ (e + 1)) + (2 ^ e + q % 2 ^ (e + 1)) by omega]
    have hlt : 2 ^ e + q % 2 ^ (e + 1) < 2 ^ (e + 1) := by
      have hs : 2 ^ (e + 1) = 2 ^ e * 2 := Nat.pow_succ 2 e
      omega
    rw [Nat.testBit_two_pow_mul_add _ hlt]
    conv => lhs; rw [← hd, Nat.testBit_two_pow_mul_add _ (Nat.mod_lt _ (Nat.pow_pos (by decide)))]
    by_cases hj : j < e + 1
    · rw [if_pos hj, if_pos hj]
      by_cases he2 : e = j
      · subst he2
        rw [Nat.testBit_two_pow_add_eq, Nat.testBit_lt_two_pow hm]; simp
      · rw [Nat.testBit_two_pow_add_gt (by omega)]; simp [he2]
    · rw [if_neg hj, if_neg hj]
      have : ¬ e = j := by omega
      simp [this]
  have hp0 := p2_pos e
  refine ⟨by rw [i64_or q (p2 e) (by omega) (by omega), h1], ?_⟩
  rw [← h1]
  exact Nat.or_lt_two_pow (n := 13) hq (by omega)

def spK (s i : Nat) : Nat → Nat → Nat → Option Nat
  | 0, _, q => some q
  | m + 1, k, q => if s.testBit i && s.testBit k then (if q.testBit ((i + k) % 13) then none else spK s i m (k + 1) (q + p2 ((i + k) % 13))) else spK s i m (k + 1) q
def spI (s : Nat) : Nat → Nat → Nat → Bool
  | 0, _, _ => true
  | m + 1, i, q => match spK s i (13 - i) i q with
    | none => false
    | some q' => spI s m (i + 1) q'
/-- Whether all sums of two places are different. -/
def spB (s : Nat) : Bool := spI s 13 0 0
def contK (s i : Nat) (o : Option Nat) : Bool := match o with
  | none => false
  | some q' => spI s (12 - i) (i + 1) q'
theorem spI_step {s i q : Nat} (hi : i < 13) : spI s (13 - i) i q = contK s i (spK s i (13 - i) i q) := by
  rw [show spI s (13 - i) i q = spI s ((12 - i) + 1) i q by rw [show 12 - i + 1 = 13 - i by omega]]
  rw [spI]; rfl
theorem spK_step {s i k q : Nat} (hk : k < 13) : spK s i (13 - k) k q = if s.testBit i && s.testBit k then (if q.testBit ((i + k) % 13) then none else spK s i (13 - (k + 1)) (k + 1) (q + p2 ((i + k) % 13))) else spK s i (13 - (k + 1)) (k + 1) q := by
  rw [show 13 - k = (13 - (k + 1)) + 1 by omega]; rfl

theorem setOk_yes (w : World) (s : Nat) (h : s < 8192) :
    Calls Try.prog 26 #[.int .i64 s] w fun e w' => Tells w w' e true := by
  go_enter Try.func26, Try.ntmps26
  go_wp2_with fail
  go_ret
  exact ⟨ret_bool (by simp <;> omega), rfl⟩
theorem setOk_no (w : World) (s : Int) (h : ¬ (0 ≤ s ∧ s < 8192)) :
    Calls Try.prog 26 #[.int .i64 s] w fun e w' => Tells w w' e false := by
  by_cases h1 : 0 ≤ s
  · have h2 : 8192 ≤ s := by omega
    clear h
    go_enter Try.func26, Try.ntmps26
    go_wp2_with fail
    go_ret
    exact ⟨ret_bool (by simp <;> omega), rfl⟩
  · clear h
    go_enter Try.func26, Try.ntmps26
    go_wp2_with fail
    go_ret
    exact ⟨ret_bool (by simp <;> omega), rfl⟩
set_option maxHeartbeats 1600000 in
theorem IsSparse_nat (w : World) (s : Nat) (h : s < 8192) :
    Calls Try.prog 13 #[.int .i64 s] w fun e w' => Tells w w' e (spB s) := by
  go_enter Try.func13, Try.ntmps13
  go_wp2_with fail
  refine (setOk_yes w s h).mono ?_
  rintro e w' ⟨rfl, rfl⟩
  go_wp2_with fail
  go_loop [3, 10] (fun u v => ∃ i q : Nat, i ≤ 13 ∧ q < 8192 ∧ v = .int .i64 i ∧ u = .int .i64 q ∧ Hid (spB s = spI s (13 - i) i q)) (fun _ v => 13 - (intOf v).toNat)
  case atStart => exact ⟨0, 0, by omega, by omega, rfl, rfl, rfl⟩
  case round =>
    obtain ⟨i, q, hi, hq, rfl, rfl, HS⟩ := hrel
    by_cases hlt : i < 13
    · have HS2 : Hid (spB s = contK s i (spK s i (13 - i) i q)) := by rw [Hid, HS.out, spI_step hlt]
      clear HS
      go_wp2_with fail
      go_loop [3, 5] (fun u v => ∃ k q : Nat, k ≤ 13 ∧ q < 8192 ∧ v = .int .i64 k ∧ u = .int .i64 q ∧ Hid (spB s = contK s i (spK s i (13 - k) k q))) (fun _ v => 13 - (intOf v).toNat)
      case atStart => exact ⟨i, q, by omega, by omega, rfl, rfl, HS2⟩
      case round =>
        obtain ⟨k, q2, hk, hq2, rfl, rfl, HK⟩ := hrel
        clear HS2
        by_cases hkt : k < 13
        · have hei := shr_bit s i h
          have hek := shr_bit s k h
          have hst := spK_step (s := s) (i := i) (q := q2) hkt
          have hz := Nat.mod_lt (i + k) (show 0 < 13 by decide)
          cases hbi : s.testBit i
          · rw [hbi] at hei hst
            have HK2 : Hid (spB s = contK s i (spK s i (13 - (k + 1)) (k + 1) q2)) := by rw [Hid, HK.out, hst]; simp
            have hei2 : bits .and .i64 ((s : Int) / 2 ^ i) 1 = 0 := hei
            clear hst hbi hei hek
            go_wp2_with fail
            go_round
            case rel => exact ⟨k + 1, q2, by omega, hq2, by go_num, rfl, HK2⟩
            case measure => simp [intOf]; omega
          · rw [hbi] at hei hst
            have hei2 : bits .and .i64 ((s : Int) / 2 ^ i) 1 = 1 := hei
            clear hei
            cases hbk : s.testBit k
            · rw [hbk] at hek hst
              have HK2 : Hid (spB s = contK s i (spK s i (13 - (k + 1)) (k + 1) q2)) := by rw [Hid, HK.out, hst]; simp
              have hek2 : bits .and .i64 ((s : Int) / 2 ^ k) 1 = 0 := hek
              clear hst hbi hbk hek
              go_wp2_with fail
              go_round
              case rel => exact ⟨k + 1, q2, by omega, hq2, by go_num, rfl, HK2⟩
              case measure => simp [intOf]; omega
            · rw [hbk] at hek hst
              have hek2 : bits .and .i64 ((s : Int) / 2 ^ k) 1 = 1 := hek
              have hsh := shl13 _ hz
              have hand := and_has q2 _ hq2 hz
              have hor := or_add q2 ((i + k) % 13) hq2 hz
              clear hek hbi hbk
              have hkm : (((i + k) % 13 : Nat) : Int) = ((i : Int) + (k : Int)) % 13 := by simp
              have f4 : (((i : Int) + (k : Int)) % 13).toNat = (i + k) % 13 := by omega
              clear hkm
              cases hbq : q2.testBit ((i + k) % 13)
              · rw [hbq] at hst hand
                obtain ⟨hor1, hor2⟩ := hor hbq
                have HK2 : Hid (spB s = contK s i (spK s i (13 - (k + 1)) (k + 1) (q2 + p2 ((i + k) % 13)))) := by rw [Hid, HK.out, hst]; simp
                clear hst hbq hor
                generalize (i + k) % 13 = z at *
                go_wp2_with fail
                go_round
                case rel => exact ⟨k + 1, q2 + p2 z, by omega, hor2, by go_num, by first | rfl | (rw [hor1]) | (rw [hsh, hor1]), HK2⟩
                case measure => simp [intOf]; omega
              · rw [hbq] at hst hand
                have HK2 : Hid (spB s = false) := by rw [Hid, HK.out, hst]; simp [contK]
                clear hst hbq hor
                generalize (i + k) % 13 = z at *
                go_wp2_with fail
                go_ret
                exact ⟨ret_bool HK2.out.symm, rfl⟩
        · obtain rfl : k = 13 := by omega
          have HS3 : Hid (spB s = spI s (13 - (i + 1)) (i + 1) q2) := by rw [Hid, HK.out, Nat.sub_self, spK, contK, show 12 - i = 13 - (i + 1) by omega]
          go_wp2_with fail
          go_round
          case rel => exact ⟨i + 1, q2, by omega, hq2, by go_num, rfl, HS3⟩
          case measure => simp [intOf]; omega
    · obtain rfl : i = 13 := by omega
      go_wp2_with fail
      go_ret
      exact ⟨ret_bool (by rw [HS.out]; rfl), rfl⟩
theorem IsSparse_is (w : World) (s : Nat) (v : Bool) (h : s < 8192) (hv : spB s = v) :
    Calls Try.prog 13 #[.int .i64 s] w fun e w' => Tells w w' e v := by subst hv; exact IsSparse_nat w s h
theorem IsSparse_no (w : World) (s : Int) (h : ¬ (0 ≤ s ∧ s < 8192)) :
    Calls Try.prog 13 #[.int .i64 s] w fun e w' => Tells w w' e false := by
  go_enter Try.func13, Try.ntmps13
  go_wp2_with fail
  refine (setOk_no w s h).mono ?_
  rintro e w' ⟨rfl, rfl⟩
  go_wp2_with fail
  go_ret
  exact ⟨rfl, rfl⟩
end Go.Proofs.Ytahnfjolidenfaa
