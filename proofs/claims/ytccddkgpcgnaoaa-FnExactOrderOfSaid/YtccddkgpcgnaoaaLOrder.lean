/-
  The laws of OrderOf.
-/
import Derived.Test.YtccddkgpcgnaoaaOrder2
namespace Go.Proofs.Ytccddkgpcgnaoaa
open Go.RowKit

set_option maxHeartbeats 3200000 in
theorem law_FnExactOrderOf (w : World) (k : Int) :
    Calls Try.prog 4 #[.int .i64 k] w fun e w' => Says w w' e true := by
  obtain ⟨ys, hys⟩ : ∃ ys, ys = ordR k := ⟨_, rfl⟩
  obtain ⟨m, hm⟩ : ∃ m, m = ys.length := ⟨_, rfl⟩
  have hm1 : m ≤ 1000 := by rw [hm, hys]; exact Nat.le_trans (ordR_len k) (by decide)
  have HS : Hid (∀ w, Calls Try.prog 19 #[.int .i64 k] w fun e w' => Fresh w w' e m ys) := by
    intro w; rw [hm, hys]; exact sOrderOf_all w k
  have HI : Hid (∀ w, Calls Try.prog 20 #[.int .i64 k] w fun e w' => Fresh w w' e m ys) := by
    intro w; rw [hm, hys]; exact OrderOf_all w k
  clear hm hys
  go_enter Try.func4, Try.ntmps4
  go_wp2_with fail
  refine (HS.out w).mono ?_
  rintro e w2 ⟨a2, c2, rfl, own2, b2⟩
  go_wp2_with fail
  refine (HI.out w2).mono ?_
  rintro e w4 ⟨a4, c4, rfl, own4, b4⟩
  have l4 := bstep b2 b4
  have r2 := own2.row (by omega)
  go_wp2_with fail
  refine (eqIntS_any_eq w4 a4 a2 m m c4 c2 _ _ (own4.row (by omega)) (r2.below b4) rfl).mono ?_
  rintro e w9 ⟨rfl, b9⟩
  have l9 := bstep l4 b9
  have z9 := bstep b4 b9
  have own49 := own4.below b9
  go_wp2_with fail
  refine (markIntS_any w9 w2.heap.size a4 m c4 ys 1 own49 (by omega) (by omega) (by omega)).mono ?_
  rintro e w10 ⟨rfl, own410, g10⟩
  have l10 := below_app l9 g10 own49 b2.size l9.size
  have z10 := below_app z9 g10 own49 (Nat.le_refl _) z9.size
  clear own49 l9 z9 g10
  go_wp2_with fail
  refine (heldIntS_any w10 a4 m c4 1 (own410.row (by omega)) (by omega) (by omega) (by omega)).mono ?_
  rintro e w' ⟨rfl, rfl⟩
  go_wp2_with fail
  refine (HI.out w10).mono ?_
  rintro e w12 ⟨a12, c12, rfl, own12, b12⟩
  have l12 := bstep l10 b12
  have z12 := bstep z10 b12
  have own412 := own410.below b12
  go_wp2_with fail
  refine (eqIntS_any_eq w12 a12 a2 m m c12 c2 _ _ (own12.row (by omega)) (r2.below z12) rfl).mono ?_
  rintro e w13 ⟨rfl, b13⟩
  have l13 := bstep l12 b13
  go_wp2_with fail
  refine (heldIntS_any w13 a4 m c4 1 ((own412.below b13).row (by omega)) (by omega) (by omega) (by omega)).mono ?_
  rintro e w' ⟨rfl, rfl⟩
  go_wp2_with fail
  go_ret
  exact ⟨ret_bool (by simp), l13⟩
set_option maxHeartbeats 400000 in
theorem DrawOrderOf_any (w : World) (a : Option Addr) (n c : Nat) (h : Bts w a n w.heap.size) (hnc : n ≤ c) (hn : n ≤ 140737488355328) :
    Calls Try.prog 21 #[.slice a n c] w fun e w' => ∃ k : Int, e = .returned (.int .i64 k) ∧ Below w.heap.size w w' := by
  go_enter Try.func21, Try.ntmps21
  go_wp2_with fail
  refine (newReader_any w a n c h hnc hn).mono ?_
  rintro e w1 ⟨rfl, hrd, hbl⟩
  have hsz := hrd.lt
  go_wp2_with fail
  refine (one_any _ w.heap.size 0 (w.heap.size + 1) _ _ _ [3, 4, 2, 1, 0, 5, -1] (-1) 5 (hrd.alloc _) (by omega) (by decide) (by decide) (own_lit _ (w.heap.size + 1) [3, 4, 2, 1, 0, 5, -1] rfl (by omega) (by decide)) (by omega) (by decide)).mono ?_
  rintro e w2 ⟨x, hx0, hx1, rfl, hask⟩
  go_wp2_with fail
  go_ret
  exact ⟨x, rfl, below_asked hbl hask.of_alloc (Nat.le_refl _) hsz⟩
set_option maxHeartbeats 3200000 in
theorem law_OrderOf (w : World) (a : Option Addr) (n c : Nat) (h : Bts w a n w.heap.size) (hnc : n ≤ c) :
    Calls Try.prog 5 #[.slice a n c] w fun e w' => Says w w' e true := by
  by_cases hbig : 1048576 < n
  · go_enter Try.func5, Try.ntmps5
    go_wp2
    go_ret
    exact ⟨rfl, Below.refl _ _⟩
  go_enter Try.func5, Try.ntmps5
  go_wp2_with fail
  refine (DrawOrderOf_any w a n c h hnc (by omega)).mono ?_
  rintro e w1 ⟨k, rfl, hbl⟩
  obtain ⟨ys, hys⟩ : ∃ ys, ys = ordR k := ⟨_, rfl⟩
  obtain ⟨m, hm⟩ : ∃ m, m = ys.length := ⟨_, rfl⟩
  have hm1 : m ≤ 16 := by rw [hm, hys]; exact ordR_len k
  have HS : Hid (∀ w, Calls Try.prog 19 #[.int .i64 k] w fun e w' => Fresh w w' e m ys) := by
    intro w; rw [hm, hys]; exact sOrderOf_all w k
  have HI : Hid (∀ w, Calls Try.prog 20 #[.int .i64 k] w fun e w' => Fresh w w' e m ys) := by
    intro w; rw [hm, hys]; exact OrderOf_all w k
  have HM := Lib.hid hm
  have HY := Lib.hid hys
  clear hm hys
  go_wp2_with fail
  refine (HI.out w1).mono ?_
  rintro e w2 ⟨a2, c2, rfl, own2, b2⟩
  go_wp2_with fail
  refine (HS.out w2).mono ?_
  rintro e w3 ⟨a3, c3, rfl, own3, b3⟩
  have l3 := bstep (bstep hbl b2) b3
  have r2 := (own2.below b3).row (by omega)
  go_wp2_with fail
  refine (equalInts_any_eq w3 a2 a3 m m c2 c3 _ _ r2 (own3.row (by omega)) rfl).mono ?_
  rintro e w4 ⟨rfl, b4⟩
  have l4 := bstep l3 b4
  have r4 := r2.below b4
  clear own2 own3 r2 l3 b2 b3 b4 hbl
  by_cases h0 : m = 0
  · have hkb : ((m : Int) == 0) = true := by simp; omega
    clear h0
    go_wp2_with fail
    refine (HS.out w4).mono ?_
    rintro e w5 ⟨a5, c5, rfl, own5, b5⟩
    go_wp2_with fail
    refine (equalInts_any_eq w5 a2 a5 m m c2 c5 _ _ (r4.below b5) (own5.row (by omega)) rfl).mono ?_
    rintro e w6 ⟨rfl, b6⟩
    go_wp2_with fail
    go_ret
    exact ⟨ret_bool rfl, bstep (bstep l4 b5) b6⟩
  have hkb : ((m : Int) == 0) = false := by simp; omega
  have hk : 0 ≤ k ∧ k ≤ 4 := by
    by_cases hk : 0 ≤ k ∧ k ≤ 4
    · exact hk
    · have e := HY.out
      rw [ordR, if_neg hk] at e
      have e2 := HM.out
      rw [e] at e2
      exact absurd e2 h0
  obtain ⟨t, rfl⟩ := Int.eq_ofNat_of_zero_le hk.1
  have ht : t < 5 := by omega
  have hyt : ys = ordL t := by rw [HY.out, ordR, if_pos hk]; rfl
  have hmt : m = p2 t := by rw [HM.out, hyt]; exact ordF_len _ _
  have HT : Hid (∀ n, n < m → 0 ≤ el ys n ∧ (el ys n).toNat < p2 t ∧ chgT t (el ys n).toNat = n) := by rw [hyt, hmt]; exact ord_tells t ht
  have hz0 : el ys 0 = 0 := by rw [hyt]; exact ord_zero t ht
  have hm0 : 0 < m := by omega
  clear hk h0 hyt hmt
  obtain ⟨b, off, rfl, _, hcx⟩ := r4.cell 0 hm0
  have HCX := Lib.hid hcx
  have e0 : w4.cell? ⟨b, off, none⟩ = some (.int .i64 0) := by rw [← hz0]; exact hcx 0 hm0
  clear hcx hz0
  go_wp2_with fail
  go_loop [5] (fun u => ∃ j : Nat, j ≤ m ∧ u = .int .i64 j) (fun u => m - (intOf u).toNat)
  case atStart => exact ⟨0, Nat.zero_le _, rfl⟩
  case round =>
    obtain ⟨j, hj, rfl⟩ := hrel
    by_cases hlt : j < m
    · have ej := HCX.out j hlt
      obtain ⟨t1, t2, t3⟩ := HT.out j hlt
      obtain ⟨v, hv⟩ := Int.eq_ofNat_of_zero_le t1
      rw [hv] at ej t2 t3
      have hvn : ((v : Int)).toNat = v := by omega
      rw [hvn] at t2 t3
      have T3 := Lib.hid t3
      clear t1 t3 hv hvn
      go_wp2_with fail
      refine (ChangesIn_any _ t v ht t2).mono ?_
      rw [T3.out]
      rintro e w' ⟨rfl, rfl⟩
      go_wp2_with fail
      go_round
      case rel => exact ⟨j + 1, by omega, by go_num⟩
      case measure => simp [intOf]; omega
    · go_wp2_with fail
      go_ret
      exact ⟨ret_bool (by simp), l4⟩
end Go.Proofs.Ytccddkgpcgnaoaa
