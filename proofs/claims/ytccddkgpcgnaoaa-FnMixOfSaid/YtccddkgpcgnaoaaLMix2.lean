/-
  The law of MixOf.
-/
import Derived.Test.YtccddkgpcgnaoaaLMix
import Derived.Test.YtccddkgpcgnaoaaBent
namespace Go.Proofs.Ytccddkgpcgnaoaa
open Go.RowKit

theorem el_mx {K : Nat} {xs ys : List Int} {n r : Nat} (hr : r < n) : el (mxL K xs ys n) r = mxAt K (el xs) (el ys) n r := by rw [mxL, el_tab hr, mst_full]
theorem mxL_comm (K : Nat) (xs ys : List Int) (n : Nat) : mxL K ys xs n = mxL K xs ys n := tab_congr fun r _ => by rw [mst_full, mst_full, mx_comm]
theorem mix_swap {xs ys : List Int} {s : ByteArray} (h : mixOk xs ys s = true) : mixR ys xs s = mixR xs ys s := by
  have h2 : mixOk ys xs s = true := by
    simp only [mixOk, Bool.and_eq_true, decide_eq_true_eq] at h ⊢
    exact ⟨h.2.1, h.1, h.2.2.1.symm, h.2.2.2⟩
  have hl : xs.length = ys.length := by simp only [mixOk, Bool.and_eq_true, decide_eq_true_eq] at h; exact h.2.2.1
  rw [mixR, if_pos h2, mixR, if_pos h, ← hl, mxL_comm]

set_option maxRecDepth 100000 in
set_option maxHeartbeats 6400000 in
theorem law_MixOf (w : World) (a : Option Addr) (n c : Nat) (h : Bts w a n w.heap.size) (hnc : n ≤ c) :
    Calls Try.prog 12 #[.slice a n c] w fun e w' => Says w w' e true := by
  by_cases hbig : 1048576 < n
  · go_enter Try.func12, Try.ntmps12
    go_wp2
    go_ret
    exact ⟨rfl, Below.refl _ _⟩
  go_enter Try.func12, Try.ntmps12
  go_wp2_with fail
  refine (DrawMixOf_any w a n c h hnc (by omega)).mono ?_
  rintro e w1 ⟨a1, d1, m, c1, m2, f1, xs, ys, s, rfl, hm, hm2, hss, hown, hown2, hbl⟩
  have rx := hown.row (show m ≤ 1125899906842624 by omega)
  have ry := hown2.row (show m2 ≤ 1125899906842624 by omega)
  have hlen : Hid (xs.length = m) := rx.len
  have hlen2 : Hid (ys.length = m2) := ry.len
  clear hown hown2
  obtain ⟨zs, hzs⟩ : ∃ zs, zs = mixR xs ys s := ⟨_, rfl⟩
  obtain ⟨k, hk⟩ : ∃ k, k = zs.length := ⟨_, rfl⟩
  have hk1 : k ≤ 1000 := by rw [hk, hzs]; exact mixR_len xs ys s
  have HS : Hid (∀ w, Row w a1 m c1 xs → Row w d1 m2 f1 ys → Calls Try.prog 13 #[.slice a1 m c1, .slice d1 m2 f1, .string s] w fun e w' => Fresh w w' e k zs) := by
    intro w h h2; rw [hk, hzs]; exact sMixOf_all w a1 d1 m c1 m2 f1 xs ys s h h2
  have HI : Hid (∀ w, Row w a1 m c1 xs → Row w d1 m2 f1 ys → Calls Try.prog 15 #[.slice a1 m c1, .slice d1 m2 f1, .string s] w fun e w' => Fresh w w' e k zs) := by
    intro w h h2; rw [hk, hzs]; exact MixOf_all w a1 d1 m c1 m2 f1 xs ys s h h2
  have HZ := Lib.hid hzs
  have HK := Lib.hid hk
  clear hk hzs
  go_wp2_with fail
  refine (HI.out w1 rx ry).mono ?_
  rintro e w2 ⟨a2, c2, rfl, own2, b2⟩
  go_wp2_with fail
  refine (HS.out w2 (rx.below b2) (ry.below b2)).mono ?_
  rintro e w3 ⟨a3, c3, rfl, own3, b3⟩
  have l3 := bstep (bstep hbl b2) b3
  have rx3 := (rx.below b2).below b3
  have ry3 := (ry.below b2).below b3
  have rz3 := (own2.below b3).row (show k ≤ 1125899906842624 by omega)
  go_wp2_with fail
  refine (equalInts_any_eq w3 a2 a3 k k c2 c3 _ _ rz3 (own3.row (by omega)) rfl).mono ?_
  rintro e w4 ⟨rfl, b4⟩
  have l4 := bstep l3 b4
  have rx4 := rx3.below b4
  have ry4 := ry3.below b4
  have rz4 := rz3.below b4
  clear rx ry rx3 ry3 rz3 own2 own3 l3 b2 b3 b4 hbl
  by_cases hk0 : k = 0
  · have hkb : ((k : Int) == 0) = true := by simp; omega
    clear hk0
    go_wp2_with fail
    refine (HS.out w4 rx4 ry4).mono ?_
    rintro e w5 ⟨a5, c5, rfl, own5, b5⟩
    go_wp2_with fail
    refine (equalInts_any_eq w5 a2 a5 k k c2 c5 _ _ (rz4.below b5) (own5.row (by omega)) rfl).mono ?_
    rintro e w6 ⟨rfl, b6⟩
    go_wp2_with fail
    go_ret
    exact ⟨ret_bool rfl, bstep (bstep l4 b5) b6⟩
  have hkb : ((k : Int) == 0) = false := by simp; omega
  have hok : mixOk xs ys s = true := by
    cases hv : mixOk xs ys s with
    | true => rfl
    | false => have e := HZ.out; rw [mixR, hv] at e; have e2 := HK.out; rw [e] at e2; exact absurd e2 hk0
  have hzm : zs = mxL (kd s) xs ys m := by rw [HZ.out, mixR, if_pos hok, hlen.out]
  have hkm : k = m := by rw [HK.out, hzm, mxL, tab_length]
  have hsw : mixR ys xs s = zs := by rw [mix_swap hok, ← HZ.out]
  have hok2 := hok
  simp only [mixOk, Bool.and_eq_true, decide_eq_true_eq] at hok2
  obtain ⟨hx, hy, hxy, hkd⟩ := hok2
  have hmm : m2 = m := by have h1 := hlen.out; have h2 := hlen2.out; omega
  subst hkm
  subst hmm
  obtain ⟨kq, hkq, hnq, hbx⟩ := cube_p2 hx hlen.out
  have hby : ∀ i, i < m2 → -1000 ≤ el ys i ∧ el ys i ≤ 1000 := fun i hi => valid_bd (cube_iff.1 hy).1 (by rw [hlen2.out]; exact hi)
  have hm16 : m2 ≤ 16 := by rw [hnq]; exact p2_le (show kq ≤ 4 by omega)
  have HSW : Hid (∀ w, Row w a1 m2 c1 xs → Row w d1 m2 f1 ys → Calls Try.prog 15 #[.slice d1 m2 f1, .slice a1 m2 c1, .string s] w fun e w' => Fresh w w' e m2 zs) := by
    intro w h h2
    have := MixOf_all w d1 a1 m2 f1 m2 c1 ys xs s h2 h
    rw [hsw, ← HK.out] at this; exact this
  have hlt : ∀ x y, x < m2 → y < m2 → opK (kd s) x y < m2 := fun x y h1 h2 => by rw [hnq] at h1 h2 ⊢; exact opK_lt h1 h2
  have hze : ∀ r, r < m2 → el zs r = mxAt (kd s) (el xs) (el ys) m2 r := fun r hr => by rw [hzm, el_mx hr]
  have htot : sm (el zs) m2 = sm (el xs) m2 * sm (el ys) m2 := by rw [sm_congr hze]; exact mx_total _ _ _ hlt
  have HZB : Hid (∀ i, i < m2 → -1000000000 ≤ el zs i ∧ el zs i ≤ 1000000000) := fun i hi => by
    rw [hze i hi, mxAt]
    have h1 : -(16000000 * (m2 : Int)) ≤ sm (fun t => mrow (kd s) (el xs) (el ys) t m2 i) m2 ∧ sm (fun t => mrow (kd s) (el xs) (el ys) t m2 i) m2 ≤ 16000000 * (m2 : Int) := sm_bd fun t ht => by
      have := @mrow_bd (kd s) (el xs) (el ys) m2 t m2 i hbx hby ht (Nat.le_refl _); omega
    omega
  have hm1000 : m2 ≤ 1000 := by omega
  obtain ⟨T, hT⟩ : ∃ T, T = sm (el zs) m2 := ⟨_, rfl⟩
  have HTO : Hid (∀ w, Row w a2 m2 c2 zs → Calls Try.prog 33 #[.slice a2 m2 c2] w fun e w' => e = .returned (.int .i64 T) ∧ w = w') := fun w h => by
    rw [hT]; exact total_any w _ m2 c2 zs 1000000000 h hm1000 (by decide) HZB.out
  have htt : T = sm (el xs) m2 * sm (el ys) m2 := by rw [hT]; exact htot
  have hsx := @sm_bd (el xs) 1000 m2 hbx
  have hsy := @sm_bd (el ys) 1000 m2 hby
  have hss2 := @mul_bd (sm (el xs) m2) (sm (el ys) m2) 16000 16000 (by omega) (by omega)
  have HBX := Lib.hid hbx
  have HBY := Lib.hid hby
  have hcq : kq ≤ 4 := by omega
  have HNQ := Lib.hid hnq
  have HZM := Lib.hid hzm
  have HZE := Lib.hid hze
  have hne : (T != sm (el xs) m2 * sm (el ys) m2) = false := by rw [htt]; simp
  have HVX : Hid (cube xs = true) := hx
  have HVY : Hid (cube ys = true) := hy
  clear hT htt htot hbx hby hnq hlt hze hzm hsw hok hx hy hxy hkd HI HS HZ
  go_wp2_with fail
  refine (HSW.out w4 rx4 ry4).mono ?_
  rintro e w5 ⟨a5, c5, rfl, own5, b5⟩
  go_wp2_with fail
  refine (equalInts_any_eq w5 a5 a2 m2 m2 c5 c2 _ _ (own5.row (by omega)) (rz4.below b5) rfl).mono ?_
  rintro e w6 ⟨rfl, b6⟩
  have l6 := bstep (bstep l4 b5) b6
  have rx6 := (rx4.below b5).below b6
  have ry6 := (ry4.below b5).below b6
  have rz6 := (rz4.below b5).below b6
  clear rx4 ry4 rz4 own5 l4 b5 b6 HSW
  go_wp2_with fail
  refine (HTO.out w6 rz6).mono ?_
  rintro e w' ⟨rfl, rfl⟩
  go_wp2_with fail
  refine (total_any w6 a1 m2 c1 xs 1000 rx6 hm1000 (by decide) HBX.out).mono ?_
  rintro e w' ⟨rfl, rfl⟩
  go_wp2_with fail
  refine (total_any w6 d1 m2 f1 ys 1000 ry6 hm1000 (by decide) HBY.out).mono ?_
  rintro e w' ⟨rfl, rfl⟩
  clear HTO
  cases hvz : valid zs
  · go_wp2_with fail
    refine (ValidRow_is w6 a2 m2 c2 zs false rz6 hvz).mono ?_
    rintro e w' ⟨rfl, rfl⟩
    go_wp2_with fail
    go_ret
    exact ⟨ret_bool rfl, l6⟩
  · have HVZ := Lib.hid hvz
    go_wp2_with fail
    refine (ValidRow_is w6 a2 m2 c2 zs true rz6 hvz).mono ?_
    rintro e w' ⟨rfl, rfl⟩
    clear hvz hne hsx hsy hss2
    have hlz : zs.length = m2 := HK.out.symm
    have HCZ : Hid (cube zs = true) := cube_iff.2 ⟨HVZ.out, by rw [hlz, HNQ.out]; exact isP2_p2 kq hkq⟩
    rcases kd_cases s with ⟨hk, hs⟩ | ⟨hk, hs⟩ | ⟨hk, hs⟩ | ⟨hk, hs1, hs2, hs3⟩
    · have HPB : Hid (∀ us vs : List Int, us = xs → vs = ys → ∀ i, i < m2 → -1000000000000 ≤ el (tab (fun i => partI (el us) i m2) m2) i * el (tab (fun i => partI (el vs) i m2) m2) i ∧ el (tab (fun i => partI (el us) i m2) m2) i * el (tab (fun i => partI (el vs) i m2) m2) i ≤ 1000000000000) := fun us vs hu hv i hi => by
        rw [el_tab hi, el_tab hi, hu, hv]
        have q1 := @part_bd (el xs) m2 m2 i HBX.out (Nat.le_refl _)
        have q2 := @part_bd (el ys) m2 m2 i HBY.out (Nat.le_refl _)
        have := @mul_bd (partI (el xs) i m2) (partI (el ys) i m2) 16000 16000 (by omega) (by omega)
        omega
      have HEQ : Hid (tab (fun i => partI (el zs) i m2) m2 = tab (fun i => el (tab (fun i => partI (el xs) i m2) m2) i * el (tab (fun i => partI (el ys) i m2) m2) i) m2) := tab_congr fun i hi => by
        rw [el_tab hi, el_tab hi]
        have e1 : partI (el zs) i m2 = partI (mxAt 1 (el xs) (el ys) m2) i m2 := sm_congr fun r hr => by rw [HZE.out r hr, hk]
        rw [e1]
        have := mx_below (el xs) (el ys) hkq (z := i) (by rw [← HNQ.out]; exact hi)
        rw [← HNQ.out] at this; exact this
      clear hk
      go_wp2_with fail
      refine (BelowOf_yes0 w6 a2 m2 c2 zs rz6 HCZ.out).mono ?_
      rintro e w7 ⟨a7, c7, rfl, own7, b7⟩
      go_wp2_with fail
      refine (BelowOf_yes0 w7 a1 m2 c1 xs (rx6.below b7) HVX.out).mono ?_
      rintro e w8 ⟨a8, c8, rfl, own8, b8⟩
      go_wp2_with fail
      refine (BelowOf_yes0 w8 d1 m2 f1 ys ((ry6.below b7).below b8) HVY.out).mono ?_
      rintro e w9 ⟨a9, c9, rfl, own9, b9⟩
      go_wp2_with fail
      refine (times_any w9 a8 a9 m2 c8 c9 _ _ ((own8.below b9).row (by omega)) (own9.row (by omega)) hm1000 (HPB.out xs ys rfl rfl)).mono ?_
      rintro e w10 ⟨a10, c10, rfl, own10, b10⟩
      go_wp2_with fail
      refine (equalInts_any_eq w10 a7 a10 m2 m2 c7 c10 _ _ ((((own7.below b8).below b9).below b10).row (by omega)) (own10.row (by omega)) HEQ.out).mono ?_
      rintro e w11 ⟨rfl, b11⟩
      go_wp2_with fail
      go_ret
      exact ⟨ret_bool (by simp), bstep (bstep (bstep (bstep (bstep l6 b7) b8) b9) b10) b11⟩
    · clear hk
      go_wp2_with fail
      go_ret
      exact ⟨ret_bool (by simp), l6⟩
    · have hsx : signsR xs = signsL xs m2 := by rw [signsR, if_pos HVX.out, hlen.out]
      have hsy : signsR ys = signsL ys m2 := by rw [signsR, if_pos HVY.out, hlen2.out]
      have hsz : signsR zs = signsL zs m2 := by rw [signsR, if_pos HCZ.out, hlz]
      have HCX : Hid (∀ w, Row w a1 m2 c1 xs → Calls Try.prog 25 #[.slice a1 m2 c1] w fun e w' => Fresh w w' e m2 (signsL xs m2)) := fun w h => by
        have := SignsOf_all w a1 m2 c1 xs h
        rw [hsx, signsL, tab_length] at this; exact this
      have HCY : Hid (∀ w, Row w d1 m2 f1 ys → Calls Try.prog 25 #[.slice d1 m2 f1] w fun e w' => Fresh w w' e m2 (signsL ys m2)) := fun w h => by
        have := SignsOf_all w d1 m2 f1 ys h
        rw [hsy, signsL, tab_length] at this; exact this
      have HCZ2 : Hid (∀ w, Row w a2 m2 c2 zs → Calls Try.prog 25 #[.slice a2 m2 c2] w fun e w' => Fresh w w' e m2 (signsL zs m2)) := fun w h => by
        have := SignsOf_all w a2 m2 c2 zs h
        rw [hsz, signsL, tab_length] at this; exact this
      have HPB : Hid (∀ us vs : List Int, us = signsL xs m2 → vs = signsL ys m2 → ∀ i, i < m2 → -1000000000000 ≤ el us i * el vs i ∧ el us i * el vs i ≤ 1000000000000) := fun us vs hu hv i hi => by
        rw [hu, hv, signs_el hi, signs_el hi]
        have q1 := @sgs_bd (el xs) 1000 m2 i HBX.out
        have q2 := @sgs_bd (el ys) 1000 m2 i HBY.out
        have := @mul_bd (sgAt (el xs) m2 i) (sgAt (el ys) m2 i) 16000 16000 (by omega) (by omega)
        omega
      have HEQ : Hid (signsL zs m2 = tab (fun i => el (signsL xs m2) i * el (signsL ys m2) i) m2) := tab_congr fun i hi => by
        rw [signs_el hi, signs_el hi]
        have e1 : sgAt (el zs) m2 i = sgAt (mxAt 3 (el xs) (el ys) m2) m2 i := sg_congr fun r hr => by rw [HZE.out r hr, hk]
        rw [e1]
        have := mx_signs (el xs) (el ys) hkq (z := i) (by rw [← HNQ.out]; exact hi)
        rw [← HNQ.out] at this; exact this
      clear hk hsx hsy hsz
      go_wp2_with fail
      refine (HCZ2.out w6 rz6).mono ?_
      rintro e w7 ⟨a7, c7, rfl, own7, b7⟩
      go_wp2_with fail
      refine (HCX.out w7 (rx6.below b7)).mono ?_
      rintro e w8 ⟨a8, c8, rfl, own8, b8⟩
      go_wp2_with fail
      refine (HCY.out w8 ((ry6.below b7).below b8)).mono ?_
      rintro e w9 ⟨a9, c9, rfl, own9, b9⟩
      go_wp2_with fail
      refine (times_any w9 a8 a9 m2 c8 c9 _ _ ((own8.below b9).row (by omega)) (own9.row (by omega)) hm1000 (HPB.out _ _ rfl rfl)).mono ?_
      rintro e w10 ⟨a10, c10, rfl, own10, b10⟩
      go_wp2_with fail
      refine (equalInts_any_eq w10 a7 a10 m2 m2 c7 c10 _ _ ((((own7.below b8).below b9).below b10).row (by omega)) (own10.row (by omega)) HEQ.out).mono ?_
      rintro e w11 ⟨rfl, b11⟩
      go_wp2_with fail
      go_ret
      exact ⟨ret_bool (by simp), bstep (bstep (bstep (bstep (bstep l6 b7) b8) b9) b10) b11⟩
    · have hb1 : (s.toList == [111, 114]) = false := by simpa using hs1
      have hb3 : (s.toList == [120, 111, 114]) = false := by simpa using hs3
      clear hk hs1 hs2 hs3
      go_wp2_with fail
      go_ret
      exact ⟨ret_bool (by simp [hb1]), l6⟩
end Go.Proofs.Ytccddkgpcgnaoaa
