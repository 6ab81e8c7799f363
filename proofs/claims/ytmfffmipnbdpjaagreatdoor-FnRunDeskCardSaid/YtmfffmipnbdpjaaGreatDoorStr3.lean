/-
  The reference's reading of numbers and rows.
-/
import Derived.Test.YtmfffmipnbdpjaaGreatDoorPStr
import Derived.Test.YtmfffmipnbdpjaaGreatDoorVal
namespace Go.Proofs.YtmfffmipnbdpjaaGreatDoor
open Go.RowKit

theorem emp_list (p : ByteArray) : (p.toList == []) = decide (p.size = 0) := by
  obtain ⟨⟨l⟩⟩ := p
  rw [ByteArray.toList_eq]
  show (l == []) = decide (l.length = 0)
  cases l with
  | nil => rfl
  | cons a t => simp
theorem tl_beq (a b : ByteArray) : (a.toList == b.toList) = decide (a = b) := by
  rw [ByteArray.toList_eq, ByteArray.toList_eq, Bool.eq_iff_iff, beq_iff_eq, decide_eq_true_iff]
  constructor
  · intro h; rw [bs_eq a, bs_eq b, h]
  · intro h; rw [h]
theorem dgs_bd {t : ByteArray} {i n : Nat} (h : dgs t i = some n) : n ≤ 100009 := by
  cases i with
  | zero => rw [dgs] at h; injection h with h; omega
  | succ k =>
    rw [dgs] at h
    split at h
    · cases h
    · split at h
      · cases h
      · injection h with h; omega
theorem rdN_no {s : ByteArray} (h : dgs (sgT s) (sgT s).size = none) : rdN s = (0, false) := by unfold rdN; rw [h]
theorem rdN_yes {s : ByteArray} {n : Nat} (h : dgs (sgT s) (sgT s).size = some n) : rdN s = (sgN s * n, decide ((sgT s).size ≠ 0) && decide (numB (sgN s * n) = s)) := by unfold rdN; rw [h]
theorem rdN_bd (s : ByteArray) : -100009 ≤ (rdN s).1 ∧ (rdN s).1 ≤ 100009 := by
  unfold rdN
  cases hd : dgs (sgT s) (sgT s).size with
  | none => exact ⟨by show (-100009 : Int) ≤ 0; decide, by show (0 : Int) ≤ 100009; decide⟩
  | some n =>
    have h := dgs_bd hd
    show -100009 ≤ sgN s * n ∧ sgN s * n ≤ 100009
    unfold sgN
    split <;> omega

set_option maxRecDepth 100000 in
set_option maxHeartbeats 3200000 in
theorem readNumber_any (w : World) (s : ByteArray) (hs : s.size ≤ 2097152) :
    Calls Tryz.prog 44 #[.string s] w fun e w' => e = .returned (.tuple #[.int .i64 (rdN s).1, .bool (rdN s).2]) ∧ w = w' := by
  have hby := byt_get
  have hes := emp_list s
  by_cases h00 : s.size = 0
  · rw [decide_eq_true h00] at hes
    have HT : Hid (sgT s = s) := by rw [Hid, sgT, if_neg (by intro h; exact h.1 h00)]
    have HG : Hid (sgN s = 1) := by rw [Hid, sgN, if_neg (by intro h; exact h.1 h00)]
    have HY := Lib.hid (rdN_yes (s := s) (n := 0) (by rw [HT.out, h00]; rfl))
    rw [HG.out, HT.out] at HY
    have HZ := Lib.hid h00
    have hz : (s.size : Int) = 0 := by omega
    clear h00
    go_enter Tryz.func44, Tryz.ntmps44
    go_wp2_with fail
    go_loop [6, 7] (fun v u => u = .int .i64 0 ∧ v = .int .i64 0) (fun _ _ => 0)
    case atStart => exact ⟨rfl, rfl⟩
    case round =>
      obtain ⟨rfl, rfl⟩ := hrel
      go_wp2_with fail
      go_ret2
      exact ⟨by rw [HY.out]; simp [HZ.out], rfl⟩
  · rw [decide_eq_false h00] at hes
    by_cases h45 : byt s 0 = 45
    · obtain ⟨T, hT⟩ : ∃ T, T = s.extract 1 s.size := ⟨_, rfl⟩
      have HT : Hid (sgT s = T) := by rw [Hid, sgT, if_pos ⟨h00, h45⟩, hT]
      have HG : Hid (sgN s = -1) := by rw [Hid, sgN, if_pos ⟨h00, h45⟩]
      have hTz : T.size ≤ 2097152 := by rw [hT, ByteArray.size_extract]; omega
      have HTS := Lib.hid hT
      have h45b : ((byt s 0 : Int) == 45) = true := by simp; omega
      clear hT h45
      go_enter Tryz.func44, Tryz.ntmps44
      go_wp2_with fail
      rw [← HTS.out]
      go_loop [6, 7] (fun v u => ∃ (k n : Nat), k ≤ T.size ∧ u = .int .i64 k ∧ v = .int .i64 n ∧ n ≤ 100009 ∧ Hid (dgs T k = some n)) (fun _ u => T.size - (intOf u).toNat)
      case atStart => exact ⟨0, 0, Nat.zero_le _, rfl, rfl, by omega, rfl⟩
      case round =>
        obtain ⟨k, n, hk, rfl, rfl, hn, HD⟩ := hrel
        by_cases hlt : k < T.size
        · by_cases c1 : byt T k < 48
          · have HF := Lib.hid (rdN_no (s := s) (by rw [HT.out]; exact dgs_none (dgs_no HD.out (by omega)) _ (by omega)))
            go_wp2_with fail
            go_ret2
            exact ⟨by rw [HF.out]; rfl, rfl⟩
          · by_cases c2 : 57 < byt T k
            · have HF := Lib.hid (rdN_no (s := s) (by rw [HT.out]; exact dgs_none (dgs_no HD.out (by omega)) _ (by omega)))
              go_wp2_with fail
              go_ret2
              exact ⟨by rw [HF.out]; rfl, rfl⟩
            · by_cases c3 : 10000 < n
              · have HF := Lib.hid (rdN_no (s := s) (by rw [HT.out]; exact dgs_none (dgs_no HD.out (by omega)) _ (by omega)))
                go_wp2_with fail
                go_ret2
                exact ⟨by rw [HF.out]; rfl, rfl⟩
              · have HD2 := Lib.hid (dgs_yes HD.out (by omega))
                go_wp2_with fail
                go_round
                case rel => exact ⟨k + 1, 10 * n + (byt T k - 48), by omega, by go_num, congrArg (Value.int .i64) (by omega), by omega, HD2⟩
                case measure => simp [intOf]; omega
        · obtain rfl : k = T.size := by omega
          have HY := Lib.hid (rdN_yes (s := s) (by rw [HT.out]; exact HD.out))
          rw [HG.out, HT.out] at HY
          have het := emp_list T
          by_cases h0 : T.size = 0
          · first
              | exact absurd h0 h00
              | (rw [decide_eq_true h0] at het
                 go_wp2_with fail
                 go_ret2
                 exact ⟨by rw [HY.out]; simp [h0], rfl⟩)
          · rw [decide_eq_false h0] at het
            have htb := tl_beq (numB (-(n : Int))) s
            have hnb := @numB_size (-(n : Int)) (by omega) (by omega)
            go_wp2_with fail
            refine (number_any w (-(n : Int)) (by omega) (by omega)).mono ?_
            rintro e w' ⟨rfl, rfl⟩
            cases hd : decide (numB (-(n : Int)) = s)
            · rw [hd] at htb
              have HN := Lib.hid hd
              clear hd
              go_wp2_with fail
              go_ret2
              exact ⟨by rw [HY.out]; simp [h0, Int.neg_mul]; simpa using HN.out, rfl⟩
            · rw [hd] at htb
              have HN := Lib.hid hd
              clear hd
              go_wp2_with fail
              go_ret2
              exact ⟨by rw [HY.out]; simp [h0, Int.neg_mul]; simpa using HN.out, rfl⟩
    · have HT : Hid (sgT s = s) := by rw [Hid, sgT, if_neg (by intro h; exact h45 h.2)]
      have HG : Hid (sgN s = 1) := by rw [Hid, sgN, if_neg (by intro h; exact h45 h.2)]
      have h45b : ((byt s 0 : Int) == 45) = false := by simp; omega
      clear h45
      go_enter Tryz.func44, Tryz.ntmps44
      go_wp2_with fail
      go_loop [6, 7] (fun v u => ∃ (k n : Nat), k ≤ s.size ∧ u = .int .i64 k ∧ v = .int .i64 n ∧ n ≤ 100009 ∧ Hid (dgs s k = some n)) (fun _ u => s.size - (intOf u).toNat)
      case atStart => exact ⟨0, 0, Nat.zero_le _, rfl, rfl, by omega, rfl⟩
      case round =>
        obtain ⟨k, n, hk, rfl, rfl, hn, HD⟩ := hrel
        by_cases hlt : k < s.size
        · by_cases c1 : byt s k < 48
          · have HF := Lib.hid (rdN_no (s := s) (by rw [HT.out]; exact dgs_none (dgs_no HD.out (by omega)) _ (by omega)))
            go_wp2_with fail
            go_ret2
            exact ⟨by rw [HF.out]; rfl, rfl⟩
          · by_cases c2 : 57 < byt s k
            · have HF := Lib.hid (rdN_no (s := s) (by rw [HT.out]; exact dgs_none (dgs_no HD.out (by omega)) _ (by omega)))
              go_wp2_with fail
              go_ret2
              exact ⟨by rw [HF.out]; rfl, rfl⟩
            · by_cases c3 : 10000 < n
              · have HF := Lib.hid (rdN_no (s := s) (by rw [HT.out]; exact dgs_none (dgs_no HD.out (by omega)) _ (by omega)))
                go_wp2_with fail
                go_ret2
                exact ⟨by rw [HF.out]; rfl, rfl⟩
              · have HD2 := Lib.hid (dgs_yes HD.out (by omega))
                go_wp2_with fail
                go_round
                case rel => exact ⟨k + 1, 10 * n + (byt s k - 48), by omega, by go_num, congrArg (Value.int .i64) (by omega), by omega, HD2⟩
                case measure => simp [intOf]; omega
        · obtain rfl : k = s.size := by omega
          have HY := Lib.hid (rdN_yes (s := s) (by rw [HT.out]; exact HD.out))
          rw [HG.out, HT.out] at HY
          have het := emp_list s
          by_cases h0 : s.size = 0
          · first
              | exact absurd h0 h00
              | (rw [decide_eq_true h0] at het
                 go_wp2_with fail
                 go_ret2
                 exact ⟨by rw [HY.out]; simp [h0], rfl⟩)
          · rw [decide_eq_false h0] at het
            have htb := tl_beq (numB ((n : Int))) s
            have hnb := @numB_size ((n : Int)) (by omega) (by omega)
            go_wp2_with fail
            refine (number_any w ((n : Int)) (by omega) (by omega)).mono ?_
            rintro e w' ⟨rfl, rfl⟩
            cases hd : decide (numB ((n : Int)) = s)
            · rw [hd] at htb
              have HN := Lib.hid hd
              clear hd
              go_wp2_with fail
              go_ret2
              exact ⟨by rw [HY.out]; simp [h0, Int.one_mul]; simpa using HN.out, rfl⟩
            · rw [hd] at htb
              have HN := Lib.hid hd
              clear hd
              go_wp2_with fail
              go_ret2
              exact ⟨by rw [HY.out]; simp [h0, Int.one_mul]; simpa using HN.out, rfl⟩
end Go.Proofs.YtmfffmipnbdpjaaGreatDoor
