/-
  The law of IsSparse.
-/
import Derived.Test.YtahnfjolidenfaaPSparse
import Derived.Test.YtahnfjolidenfaaDSparse
namespace Go.Proofs.Ytahnfjolidenfaa
open Go.RowKit

set_option maxHeartbeats 3200000 in
theorem law_IsSparse (w : World) (a : Option Addr) (n c : Nat) (h : Bts w a n w.heap.size) (hnc : n ≤ c) :
    Calls Try.prog 4 #[.slice a n c] w fun e w' => Says w w' e true := by
  by_cases hbig : 1048576 < n
  · go_enter Try.func4, Try.ntmps4
    go_wp2
    go_ret
    exact ⟨rfl, Below.refl _ _⟩
  go_enter Try.func4, Try.ntmps4
  go_wp2_with fail
  refine (DrawIsSparse_any w a n c h hnc (by omega)).mono ?_
  rintro e w1 ⟨x, hx0, hx1, rfl, hbl⟩
  by_cases hv : 0 ≤ x ∧ x < 8192
  · obtain ⟨s, rfl⟩ := Int.eq_ofNat_of_zero_le hv.1
    have hs : s < 8192 := by omega
    clear hv hx0 hx1
    cases hsp : spB s
    · go_wp2_with fail
      refine (IsSparse_is w1 s false hs hsp).mono ?_
      rintro e w' ⟨rfl, rfl⟩
      go_wp2_with fail
      refine (sIsSparse_is w1 s false hs hsp).mono ?_
      rintro e w' ⟨rfl, rfl⟩
      go_wp2_with fail
      refine (sIsSparse_is w1 s false hs hsp).mono ?_
      rintro e w' ⟨rfl, rfl⟩
      go_wp2_with fail
      go_ret
      exact ⟨rfl, hbl⟩
    · obtain ⟨hp4, hc2⟩ := sparse_facts hs hsp
      have HC := Lib.hid hc2
      clear hc2
      go_wp2_with fail
      refine (IsSparse_is w1 s true hs hsp).mono ?_
      rintro e w' ⟨rfl, rfl⟩
      go_wp2_with fail
      refine (sIsSparse_is w1 s true hs hsp).mono ?_
      rintro e w' ⟨rfl, rfl⟩
      go_wp2_with fail
      refine (SumCounts_yes w1 s s hs hs).mono ?_
      rintro e w2 ⟨a2, c2, rfl, own2, b2⟩
      have l2 := bstep hbl b2
      have ry := own2.row (show 13 ≤ 1125899906842624 by omega)
      clear b2 hbl own2 hsp
      go_wp2_with fail
      go_loop [6] (fun u => ∃ j : Nat, j ≤ 13 ∧ u = .int .i64 j) (fun u => 13 - (intOf u).toNat)
      case atStart => exact ⟨0, Nat.zero_le _, rfl⟩
      case round =>
        obtain ⟨j, hj, rfl⟩ := hrel
        by_cases hlt : j < 13
        · obtain ⟨b5, o5, rfl, _, hcy⟩ := ry.cell j hlt
          have hc := hcy j hlt
          have hle := HC.out j hlt
          clear hcy
          obtain ⟨X, hX⟩ : ∃ X, X = el (cntL s s) j := ⟨_, rfl⟩
          rw [← hX] at hc hle
          clear hX
          go_wp2_with fail
          go_round
          case rel => exact ⟨j + 1, by omega, by go_num⟩
          case measure => simp [intOf]; omega
        · obtain rfl : j = 13 := by omega
          go_wp2_with fail
          refine (lones_any w2 s hs).mono ?_
          rintro e w' ⟨rfl, rfl⟩
          obtain ⟨P, hP⟩ : ∃ P, P = pop s := ⟨_, rfl⟩
          rw [← hP] at hp4 ⊢
          clear hP
          have hmul : (P : Int) * ((P : Int) + 1) ≤ 26 := by
            have h5 : P = 0 ∨ P = 1 ∨ P = 2 ∨ P = 3 ∨ P = 4 := by omega
            rcases h5 with e | e | e | e | e <;> subst e <;> decide
          have hmul0 : 0 ≤ (P : Int) * ((P : Int) + 1) := Int.mul_nonneg (by omega) (by omega)
          go_wp2_with fail
          refine (MostSparse_any w2).mono ?_
          rintro e w' ⟨b, hb, hb4, rfl, rfl⟩
          have hpb := pop_le b
          go_wp2_with fail
          refine (lones_any w2 b hb).mono ?_
          rintro e w' ⟨rfl, rfl⟩
          go_wp2_with fail
          go_ret
          exact ⟨ret_bool (by simp; omega), l2⟩
  · go_wp2_with fail
    refine (IsSparse_no w1 x hv).mono ?_
    rintro e w' ⟨rfl, rfl⟩
    go_wp2_with fail
    refine (sIsSparse_no w1 x hv).mono ?_
    rintro e w' ⟨rfl, rfl⟩
    go_wp2_with fail
    refine (sIsSparse_no w1 x hv).mono ?_
    rintro e w' ⟨rfl, rfl⟩
    go_wp2_with fail
    go_ret
    exact ⟨rfl, hbl⟩
end Go.Proofs.Ytahnfjolidenfaa
