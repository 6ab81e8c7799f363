/-
  Sparse sets in the reference; counts of sums; the greatest sparse set.
-/
import Derived.Test.YtahnfjolidenfaaSparse
import Derived.Test.YtahnfjolidenfaaExact
namespace Go.Proofs.Ytahnfjolidenfaa
open Go.RowKit

set_option maxHeartbeats 400000 in
theorem validMarks_any (w : World) (s : Int) :
    Calls Try.prog 27 #[.int .i64 s] w fun e w' => Tells w w' e (within s 0 8191) := by
  go_enter Try.func27, Try.ntmps27
  go_wp2_with fail
  refine (power_any w 13 (by omega)).mono ?_
  rintro e w' ⟨rfl, rfl⟩
  have hp : p2 13 = 8192 := by decide
  rw [hp]
  go_wp2_with fail
  refine (inRange_any w s 0 8191).mono ?_
  rintro e w' ⟨rfl, rfl⟩
  go_wp2_with fail
  go_ret
  exact ⟨rfl, rfl⟩
theorem validMarks_is (w : World) (s : Int) (v : Bool) (hv : within s 0 8191 = v) :
    Calls Try.prog 27 #[.int .i64 s] w fun e w' => Tells w w' e v := by subst hv; exact validMarks_any w s
set_option maxHeartbeats 1600000 in
theorem apart_nat (w : World) (s : Nat) (h : s < 8192) :
    Calls Try.prog 28 #[.int .i64 s] w fun e w' => Tells w w' e (spB s) := by
  go_enter Try.func28, Try.ntmps28
  go_wp2_with fail
  go_loop [3, 4, 5, 6] (fun u v _ _ => ∃ i q : Nat, i ≤ 13 ∧ q < 8192 ∧ v = .int .i64 i ∧ u = .int .i64 q ∧ Hid (spB s = spI s (13 - i) i q)) (fun _ v _ _ => 13 - (intOf v).toNat)
  case atStart => exact ⟨0, 0, by omega, by omega, rfl, rfl, rfl⟩
  case round =>
    obtain ⟨i, q, hi, hq, rfl, rfl, HS⟩ := hrel
    by_cases hlt : i < 13
    · have HS2 : Hid (spB s = contK s i (spK s i (13 - i) i q)) := by rw [Hid, HS.out, spI_step hlt]
      clear HS
      go_wp2_with fail
      go_loop [3, 5, 6] (fun u v _ => ∃ k q : Nat, k ≤ 13 ∧ q < 8192 ∧ v = .int .i64 k ∧ u = .int .i64 q ∧ Hid (spB s = contK s i (spK s i (13 - k) k q))) (fun _ v _ => 13 - (intOf v).toNat)
      case atStart => exact ⟨i, q, by omega, by omega, rfl, rfl, HS2⟩
      case round =>
        obtain ⟨k, q2, hk, hq2, rfl, rfl, HK⟩ := hrel
        clear HS2
        by_cases hkt : k < 13
        · have hst := spK_step (s := s) (i := i) (q := q2) hkt
          have hz := Nat.mod_lt (i + k) (show 0 < 13 by decide)
          go_wp2_with fail
          refine (bit_any w s i (by omega) (by omega)).mono ?_
          rintro e w' ⟨rfl, rfl⟩
          cases hbi : s.testBit i
          · have hb0 : bt s i = 0 := by simp [bt, hbi]
            rw [hbi] at hst
            have HK2 : Hid (spB s = contK s i (spK s i (13 - (k + 1)) (k + 1) q2)) := by rw [Hid, HK.out, hst]; simp
            rw [hb0]
            clear hst hbi hb0
            go_wp2_with fail
            go_round
            case rel => exact ⟨k + 1, q2, by omega, hq2, by go_num, rfl, HK2⟩
            case measure => simp [intOf]; omega
          · have hb0 : bt s i = 1 := by simp [bt, hbi]
            rw [hbi] at hst
            rw [hb0]
            go_wp2_with fail
            refine (bit_any w s k (by omega) (by omega)).mono ?_
            rintro e w' ⟨rfl, rfl⟩
            cases hbk : s.testBit k
            · have hb1 : bt s k = 0 := by simp [bt, hbk]
              rw [hbk] at hst
              have HK2 : Hid (spB s = contK s i (spK s i (13 - (k + 1)) (k + 1) q2)) := by rw [Hid, HK.out, hst]; simp
              rw [hb1]
              clear hst hbi hbk hb0 hb1
              go_wp2_with fail
              go_round
              case rel => exact ⟨k + 1, q2, by omega, hq2, by go_num, rfl, HK2⟩
              case measure => simp [intOf]; omega
            · have hb1 : bt s k = 1 := by simp [bt, hbk]
              rw [hbk] at hst
              rw [hb1]
              have hor := or_add q2 ((i + k) % 13) hq2 hz
              have hkm : (((i + k) % 13 : Nat) : Int) = ((i : Int) + (k : Int)) % 13 := by simp
              clear hb0 hb1 hbi hbk
              go_wp2_with fail
              rw [← hkm]
              clear hkm
              refine (bit_any w q2 ((i + k) % 13) (by omega) (by omega)).mono ?_
              rintro e w' ⟨rfl, rfl⟩
              cases hbq : q2.testBit ((i + k) % 13)
              · have hb2 : bt q2 ((i + k) % 13) = 0 := by simp [bt, hbq]
                rw [hbq] at hst
                have hor2 := (hor hbq).2
                have HK2 : Hid (spB s = contK s i (spK s i (13 - (k + 1)) (k + 1) (q2 + p2 ((i + k) % 13)))) := by rw [Hid, HK.out, hst]; simp
                rw [hb2]
                clear hst hbq hor hb2
                generalize (i + k) % 13 = z at *
                go_wp2_with fail
                refine (power_any w z (by omega)).mono ?_
                rintro e w' ⟨rfl, rfl⟩
                go_wp2_with fail
                go_round
                case rel => exact ⟨k + 1, q2 + p2 z, by omega, hor2, by go_num, by go_num, HK2⟩
                case measure => simp [intOf]; omega
              · have hb2 : bt q2 ((i + k) % 13) = 1 := by simp [bt, hbq]
                rw [hbq] at hst
                have HK2 : Hid (spB s = false) := by rw [Hid, HK.out, hst]; simp [contK]
                rw [hb2]
                clear hst hbq hor hb2
                generalize (i + k) % 13 = z at *
                go_wp2_with fail
                go_ret
                exact ⟨ret_bool HK2.out.symm, rfl⟩
        · obtain rfl : k = 13 := by omega
          have HS3 : Hid (spB s = spI s (13 - (i + 1)) (i + 1) q2) := by rw [Hid, HK.out, Nat.sub_self, spK, contK, show 12 - i = 13 - (i + 1) by omega]
          go_wp2_with fail
          go_round
          case rel => exact ⟨i + 1, q2, by omega, hq2, by go_num, rfl, HS3⟩
          case measure => simp [intOf]; omega
    · obtain rfl : i = 13 := by omega
      go_wp2_with fail
      go_ret
      exact ⟨ret_bool (by rw [HS.out]; rfl), rfl⟩
theorem sIsSparse_is (w : World) (s : Nat) (v : Bool) (h : s < 8192) (hv : spB s = v) :
    Calls Try.prog 14 #[.int .i64 s] w fun e w' => Tells w w' e v := by
  subst hv
  have hw : within (s : Int) 0 8191 = true := within_yes (by omega)
  go_enter Try.func14, Try.ntmps14
  go_wp2_with fail
  refine (validMarks_is w s true hw).mono ?_
  rintro e w' ⟨rfl, rfl⟩
  go_wp2_with fail
  refine (apart_nat w s h).mono ?_
  rintro e w' ⟨rfl, rfl⟩
  go_wp2_with fail
  go_ret
  exact ⟨rfl, rfl⟩
theorem sIsSparse_no (w : World) (s : Int) (h : ¬ (0 ≤ s ∧ s < 8192)) :
    Calls Try.prog 14 #[.int .i64 s] w fun e w' => Tells w w' e false := by
  have hw : within s 0 8191 = false := within_no (by omega)
  clear h
  go_enter Try.func14, Try.ntmps14
  go_wp2_with fail
  refine (validMarks_is w s false hw).mono ?_
  rintro e w' ⟨rfl, rfl⟩
  go_wp2_with fail
  go_ret
  exact ⟨rfl, rfl⟩

/-- One place of the second set, all of them; the counts so far. -/
def cK (s t i : Nat) : Nat → Nat → List Int → List Int
  | 0, _, xs => xs
  | m + 1, k, xs => cK s t i m (k + 1) (if s.testBit i && t.testBit k then xs.set ((i + k) % 13) (el xs ((i + k) % 13) + 1) else xs)
def cI (s t : Nat) : Nat → Nat → List Int → List Int
  | 0, _, xs => xs
  | m + 1, i, xs => cI s t m (i + 1) (cK s t i 13 0 xs)
/-- How often each number is a sum of a place of s and one of t. -/
def cntL (s t : Nat) : List Int := cI s t 13 0 (tab (fun _ => 0) 13)
theorem cI_step {s t i : Nat} {xs : List Int} (hi : i < 13) : cI s t (13 - i) i xs = cI s t (13 - (i + 1)) (i + 1) (cK s t i 13 0 xs) := by
  rw [show 13 - i = (13 - (i + 1)) + 1 by omega]; rfl
theorem cK_step {s t i k : Nat} {xs : List Int} (hk : k < 13) : cK s t i (13 - k) k xs = cK s t i (13 - (k + 1)) (k + 1) (if s.testBit i && t.testBit k then xs.set ((i + k) % 13) (el xs ((i + k) % 13) + 1) else xs) := by
  rw [show 13 - k = (13 - (k + 1)) + 1 by omega]; rfl
theorem cnt_bd {xs : List Int} {z : Nat} {M : Int} (hz : z < xs.length) (h : ∀ j, 0 ≤ el xs j ∧ el xs j ≤ M) : ∀ j, 0 ≤ el (xs.set z (el xs z + 1)) j ∧ el (xs.set z (el xs z + 1)) j ≤ M + 1 := by
  intro j
  rw [el_setX hz]
  have h1 := h j
  have h2 := h z
  split <;> omega

set_option maxHeartbeats 1600000 in
theorem SumCounts_yes (w : World) (s t : Nat) (h : s < 8192) (ht : t < 8192) :
    Calls Try.prog 15 #[.int .i64 s, .int .i64 t] w fun e w' => Fresh w w' e 13 (cntL s t) := by
  go_enter Try.func15, Try.ntmps15
  go_wp2_with fail
  refine (setOk_yes w s h).mono ?_
  rintro e w' ⟨rfl, rfl⟩
  go_wp2_with fail
  refine (setOk_yes w t ht).mono ?_
  rintro e w' ⟨rfl, rfl⟩
  go_wp2_with (at_make; go_must (refine make_int w rfl _ _ rfl .i64 .i64 _ _ 13 rfl rfl rfl rfl (by omega) ?_); intro w0 hown0 hb0 hsz0)
  go_loopw [17] (fun v wr => ∃ (i : Nat) (xs : List Int), i ≤ 13 ∧ v = .int .i64 i ∧ Own wr w.heap.size (some ⟨w.heap.size, 0, none⟩) 13 13 xs ∧ Below w.heap.size w wr ∧ Hid (cntL s t = cI s t (13 - i) i xs) ∧ Hid (∀ j, 0 ≤ el xs j ∧ el xs j ≤ 13 * (i : Int))) (fun v _ => 13 - (intOf v).toNat)
  case atStart => exact ⟨0, _, by omega, rfl, hown0, hb0, rfl, by
    intro j
    by_cases hj : j < 13
    · rw [el_tab hj]; omega
    · rw [el_out (by rw [tab_length]; omega)]; omega⟩
  case round =>
    obtain ⟨i, xs, hi, rfl, hown, hbl, HS, HB⟩ := hrel
    clear hown0 hb0
    by_cases hlt : i < 13
    · have HS2 : Hid (cntL s t = cI s t (13 - (i + 1)) (i + 1) (cK s t i (13 - 0) 0 xs)) := by rw [Hid, HS.out, cI_step hlt]
      have HB2 : Hid (∀ j, 0 ≤ el xs j ∧ el xs j ≤ 13 * (i : Int) + ((0 : Nat) : Int)) := by intro j; have := HB.out j; omega
      clear HS HB
      go_wp2_with fail
      obtain ⟨wo, rfl⟩ : ∃ wo : World, wo = wr := ⟨_, rfl⟩
      go_loopw [20] (fun v wr => ∃ (k : Nat) (xs : List Int), k ≤ 13 ∧ v = .int .i64 k ∧ Own wr w.heap.size (some ⟨w.heap.size, 0, none⟩) 13 13 xs ∧ Below w.heap.size w wr ∧ Hid (cntL s t = cI s t (13 - (i + 1)) (i + 1) (cK s t i (13 - k) k xs)) ∧ Hid (∀ j, 0 ≤ el xs j ∧ el xs j ≤ 13 * (i : Int) + (k : Int))) (fun v _ => 13 - (intOf v).toNat)
      case atStart => exact ⟨0, xs, by omega, rfl, hown, hbl, HS2, HB2⟩
      case round =>
        obtain ⟨k, ys, hk, rfl, hown2, hbl2, HK, HC⟩ := hrel
        clear hown hbl HS2 HB2
        by_cases hkt : k < 13
        · have hei := shr_bit s i h
          have hek := shr_bit t k ht
          have hst := cK_step (s := s) (t := t) (i := i) (xs := ys) hkt
          have hz := Nat.mod_lt (i + k) (show 0 < 13 by decide)
          have HC2 : Hid (∀ j, 0 ≤ el ys j ∧ el ys j ≤ 13 * (i : Int) + ((k + 1 : Nat) : Int)) := by intro j; have := HC.out j; omega
          cases hbi : s.testBit i
          · rw [hbi] at hei hst
            have HK2 : Hid (cntL s t = cI s t (13 - (i + 1)) (i + 1) (cK s t i (13 - (k + 1)) (k + 1) ys)) := by rw [Hid, HK.out, hst]; simp
            have hei2 : bits .and .i64 ((s : Int) / 2 ^ i) 1 = 0 := hei
            clear hst hbi hei hek
            go_wp2_with fail
            go_roundw
            case rel => exact ⟨k + 1, ys, by omega, by go_num, hown2, hbl2, HK2, HC2⟩
            case measure => simp [intOf]; omega
          · rw [hbi] at hei hst
            have hei2 : bits .and .i64 ((s : Int) / 2 ^ i) 1 = 1 := hei
            clear hei
            cases hbk : t.testBit k
            · rw [hbk] at hek hst
              have HK2 : Hid (cntL s t = cI s t (13 - (i + 1)) (i + 1) (cK s t i (13 - (k + 1)) (k + 1) ys)) := by rw [Hid, HK.out, hst]; simp
              have hek2 : bits .and .i64 ((t : Int) / 2 ^ k) 1 = 0 := hek
              clear hst hbi hbk hek
              go_wp2_with fail
              go_roundw
              case rel => exact ⟨k + 1, ys, by omega, by go_num, hown2, hbl2, HK2, HC2⟩
              case measure => simp [intOf]; omega
            · rw [hbk] at hek hst
              have hek2 : bits .and .i64 ((t : Int) / 2 ^ k) 1 = 1 := hek
              have hkm : (((i + k) % 13 : Nat) : Int) = ((i : Int) + (k : Int)) % 13 := by simp
              have f4 : (((i : Int) + (k : Int)) % 13).toNat = (i + k) % 13 := by omega
              have f5 : (0 : Int) ≤ ((i : Int) + (k : Int)) % 13 := by omega
              have f6 : ((i : Int) + (k : Int)) % 13 < 13 := by omega
              have HK2 : Hid (cntL s t = cI s t (13 - (i + 1)) (i + 1) (cK s t i (13 - (k + 1)) (k + 1) (ys.set ((i + k) % 13) (el ys ((i + k) % 13) + 1)))) := by rw [Hid, HK.out, hst]; simp
              have HC3 : Hid (∀ j, 0 ≤ el (ys.set ((i + k) % 13) (el ys ((i + k) % 13) + 1)) j ∧ el (ys.set ((i + k) % 13) (el ys ((i + k) % 13) + 1)) j ≤ 13 * (i : Int) + ((k + 1 : Nat) : Int)) := by
                intro j
                have := cnt_bd (z := (i + k) % 13) (by rw [hown2.len]; exact hz) HC.out j
                omega
              have hbd := HC.out ((i + k) % 13)
              clear hst hbi hbk hek hkm
              obtain ⟨g, hg, hBg, hgl, hcell, hfr⟩ := hown2.at ((i + k) % 13) hz
              injection hg with hg; injection hg with hg; subst hg
              have HST := hown2.store ((i + k) % 13) (el ys ((i + k) % 13) + 1)
              generalize (i + k) % 13 = z at *
              go_wp2_with fail
              go_roundw
              case rel => exact ⟨k + 1, _, by omega, by go_num, HST, hbl2.setCell hBg _, HK2, HC3⟩
              case measure => simp [intOf]; omega
        · obtain rfl : k = 13 := by omega
          have HS3 : Hid (cntL s t = cI s t (13 - (i + 1)) (i + 1) ys) := by rw [Hid, HK.out, Nat.sub_self, cK]
          have HB3 : Hid (∀ j, 0 ≤ el ys j ∧ el ys j ≤ 13 * ((i + 1 : Nat) : Int)) := by intro j; have := HC.out j; omega
          go_wp2_with fail
          go_roundw
          case rel => exact ⟨i + 1, ys, by omega, by go_num, hown2, hbl2, HS3, HB3⟩
          case measure => simp [intOf]; omega
    · obtain rfl : i = 13 := by omega
      have HE : cntL s t = xs := by rw [HS.out, Nat.sub_self, cI]
      rw [← HE] at hown
      clear HE
      go_wp2_with fail
      go_ret
      exact Fresh.mk hown hbl

theorem sp523 : spB 523 = true ∧ pop 523 = 4 := by decide +kernel
set_option maxRecDepth 100000 in
set_option maxHeartbeats 1600000 in
theorem MostSparse_any (w : World) :
    Calls Try.prog 17 #[] w fun e w' => ∃ b : Nat, b < 8192 ∧ 4 ≤ pop b ∧ e = .returned (.int .i64 b) ∧ w = w' := by
  go_enter Try.func17, Try.ntmps17
  go_wp2_with fail
  go_loop [1, 2, 3] (fun u _ v => ∃ b n : Nat, n ≤ 8192 ∧ b < 8192 ∧ v = .int .i64 n ∧ u = .int .i64 b ∧ Hid (523 < n → 4 ≤ pop b)) (fun _ _ v => 8192 - (intOf v).toNat)
  case atStart => exact ⟨0, 0, by omega, by omega, rfl, rfl, by intro h; omega⟩
  case round =>
    obtain ⟨b, n, hn, hb, rfl, rfl, HP⟩ := hrel
    have hpn := pop_le n
    have hpb := pop_le b
    by_cases hlt : n < 8192
    · go_wp2_with fail
      refine (OnesCount_any w n hlt).mono ?_
      rintro e w' ⟨rfl, rfl⟩
      go_wp2_with fail
      refine (OnesCount_any w b hb).mono ?_
      rintro e w' ⟨rfl, rfl⟩
      by_cases hg : pop b < pop n
      · cases hs : spB n
        · have HP2 : Hid (523 < n + 1 → 4 ≤ pop b) := by
            intro hh
            by_cases h5 : n = 523
            · subst h5; rw [sp523.1] at hs; exact absurd hs (by decide)
            · exact HP.out (by omega)
          go_wp2_with fail
          refine (IsSparse_is w n false hlt hs).mono ?_
          rintro e w' ⟨rfl, rfl⟩
          go_wp2_with fail
          go_round
          case rel => exact ⟨b, n + 1, by omega, hb, by go_num, rfl, HP2⟩
          case measure => simp [intOf]; omega
        · have HP2 : Hid (523 < n + 1 → 4 ≤ pop n) := by
            intro hh
            by_cases h5 : n = 523
            · subst h5; rw [sp523.2]; omega
            · have := HP.out (by omega); omega
          go_wp2_with fail
          refine (IsSparse_is w n true hlt hs).mono ?_
          rintro e w' ⟨rfl, rfl⟩
          go_wp2_with fail
          go_round
          case rel => exact ⟨n, n + 1, by omega, hlt, by go_num, rfl, HP2⟩
          case measure => simp [intOf]; omega
      · have HP2 : Hid (523 < n + 1 → 4 ≤ pop b) := by
          intro hh
          by_cases h5 : n = 523
          · subst h5; rw [sp523.2] at hg; omega
          · exact HP.out (by omega)
        go_wp2_with fail
        go_round
        case rel => exact ⟨b, n + 1, by omega, hb, by go_num, rfl, HP2⟩
        case measure => simp [intOf]; omega
    · obtain rfl : n = 8192 := by omega
      have h4 := HP.out (by omega)
      go_wp2_with fail
      go_ret
      exact ⟨b, hb, h4, rfl, rfl⟩
end Go.Proofs.Ytahnfjolidenfaa
