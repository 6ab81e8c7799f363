/-
  Lists of numbers as texts; texts cut at a byte.
-/
import Derived.Test.YtmfffmipnbdpjaaGreatDoorStr
import Derived.Test.YtmfffmipnbdpjaaGreatDoorNum
import Derived.Lib.Hide
namespace Go.Proofs.YtmfffmipnbdpjaaGreatDoor
open Go.RowKit

/-- The first k numbers as a text, a comma between two. -/
def ltx (xs : List Int) : Nat → ByteArray
  | 0 => bs []
  | k + 1 => (if 0 < k then ltx xs k ++ bs [44] else ltx xs k) ++ numB (el xs k)
theorem numB_size {n : Int} (h1 : -4000000000 ≤ n) (h2 : n ≤ 4000000000) : (numB n).size ≤ 11 := by
  by_cases h : 0 ≤ n
  · obtain ⟨u, rfl⟩ := Int.eq_ofNat_of_zero_le h
    rw [← numB_nat]
    have := decB_size (u := u) (by omega)
    omega
  · obtain ⟨u, hu⟩ := Int.eq_ofNat_of_zero_le (show 0 ≤ -n by omega)
    obtain rfl : n = -(u : Int) := by omega
    rw [← numB_neg (by omega), ByteArray.size_append]
    have := decB_size (u := u) (by omega)
    have e : ((⟨#[45]⟩ : ByteArray)).size = 1 := rfl
    omega
theorem ltx_size {xs : List Int} {k : Nat} (h : ∀ i, i < k → -4000000000 ≤ el xs i ∧ el xs i ≤ 4000000000) : (ltx xs k).size ≤ 12 * k := by
  induction k with
  | zero => exact Nat.le_refl _
  | succ k ih =>
    have h1 := ih fun i hi => h i (by omega)
    have h2 := numB_size (h k (by omega)).1 (h k (by omega)).2
    rw [ltx, ByteArray.size_append]
    split
    · rw [ByteArray.size_append]
      have e : (bs [44]).size = 1 := rfl
      omega
    · omega
theorem ltx_one (xs : List Int) : ltx xs 1 = bs [] ++ numB (el xs 0) := rfl
theorem ltx_more (xs : List Int) {k : Nat} (h : 0 < k) : ltx xs (k + 1) = ltx xs k ++ bs [44] ++ numB (el xs k) := by rw [ltx, if_pos h]

set_option maxHeartbeats 800000 in
theorem listText_any (w : World) (a : Option Addr) (n c : Nat) (xs : List Int) (h : Row w a n c xs) (hn : n ≤ 1000) (hb : ∀ i, i < n → -4000000000 ≤ el xs i ∧ el xs i ≤ 4000000000) :
    Calls Tryz.prog 17 #[.slice a n c] w fun e w' => e = .returned (.string (ltx xs n)) ∧ w = w' := by
  have HB := Lib.hid hb
  clear hb
  go_enter Tryz.func17, Tryz.ntmps17
  go_wp2_with fail
  go_loop [3, 4] (fun v u => ∃ k : Nat, k ≤ n ∧ u = .int .i64 k ∧ v = .string (ltx xs k)) (fun _ u => n - (intOf u).toNat)
  case atStart => exact ⟨0, Nat.zero_le _, rfl, rfl⟩
  case round =>
    obtain ⟨k, hk, rfl, rfl⟩ := hrel
    have hsz := @ltx_size xs k fun i hi => HB.out i (by omega)
    by_cases hlt : k < n
    · obtain ⟨b, off, rfl, hbb, hcell⟩ := h.cell k hlt
      have hc := hcell k hlt
      have hv := HB.out k hlt
      have hnz := numB_size hv.1 hv.2
      clear hcell
      by_cases h0 : 0 < k
      · have HE := Lib.hid (ltx_more xs h0)
        have hz2 : (ltx xs k ++ (⟨#[44]⟩ : ByteArray)).size ≤ 12 * k + 1 := by
          rw [ByteArray.size_append]
          have e : ((⟨#[44]⟩ : ByteArray)).size = 1 := rfl
          omega
        go_wp2_with fail
        refine (number_any w _ hv.1 hv.2).mono ?_
        rintro e w' ⟨rfl, rfl⟩
        go_wp2_with fail
        go_round
        case rel => exact ⟨k + 1, by omega, by go_num, congrArg Value.string HE.out.symm⟩
        case measure => simp [intOf]; omega
      · obtain rfl : k = 0 := by omega
        have HE := Lib.hid (ltx_one xs)
        rw [Nat.add_zero] at hc
        go_wp2_with fail
        refine (number_any w _ hv.1 hv.2).mono ?_
        rintro e w' ⟨rfl, rfl⟩
        go_wp2_with fail
        go_round
        case rel => exact ⟨0 + 1, by omega, by go_num, congrArg Value.string HE.out.symm⟩
        case measure => simp [intOf]; omega
    · obtain rfl : k = n := by omega
      go_wp2_with fail
      go_ret
      exact ⟨rfl, rfl⟩

/-- The pieces up to the i-th byte, and where the next one begins. -/
def cutO (s : ByteArray) (c : Nat) : Nat → List ByteArray × Nat
  | 0 => ([], 0)
  | i + 1 => if byt s i = c then ((cutO s c i).1 ++ [s.extract (cutO s c i).2 i], i + 1) else cutO s c i
/-- A text cut at each byte that is c. -/
def splS (s : ByteArray) (c : Nat) : List ByteArray := (cutO s c s.size).1 ++ [s.extract (cutO s c s.size).2 s.size]
theorem cutO_bd (s : ByteArray) (c i : Nat) : (cutO s c i).2 ≤ i ∧ (cutO s c i).1.length ≤ i := by
  induction i with
  | zero => exact ⟨Nat.le_refl _, Nat.le_refl _⟩
  | succ k ih =>
    rw [cutO]
    split
    · refine ⟨Nat.le_refl _, ?_⟩
      rw [List.length_append, List.length_singleton]; omega
    · omega
set_option maxHeartbeats 1600000 in
theorem splitAt_any (w : World) (s : ByteArray) (c : Nat) (hs : s.size ≤ 2097152) :
    Calls Tryz.prog 22 #[.string s, .int .u8 c] w fun e w' => FreshS w w' e (splS s c) := by
  have hby := byt_get
  go_enter Tryz.func22, Tryz.ntmps22
  go_wp2_with fail
  go_loopw [5, 6, 7] (fun v f u wr => ∃ (k : Nat) (a1 : Option Addr) (c1 m q : Nat) (ps : List ByteArray), k ≤ s.size ∧ u = .int .i64 k ∧ f = .int .i64 q ∧ v = .slice a1 m c1 ∧ m ≤ k ∧ q ≤ k ∧ Hid (cutO s c k = (ps, q)) ∧ OwnS wr w.heap.size a1 m c1 ps ∧ Below w.heap.size w wr ∧ w.heap.size + 1 ≤ wr.heap.size) (fun _ _ u _ => s.size - (intOf u).toNat)
  case atStart => exact ⟨0, _, 0, 0, 0, [], Nat.zero_le _, rfl, rfl, rfl, Nat.le_refl _, Nat.le_refl _, rfl, ownS_empty w, (Below.refl _ _).alloc (Nat.le_refl _) _, by simp⟩
  case round =>
    obtain ⟨k, a1, c1, m, q, ps, hk, rfl, rfl, rfl, hm, hq, HC, hown, hbl, hsz⟩ := hrel
    by_cases hlt : k < s.size
    · by_cases he : byt s k = c
      · have HC2 : Hid (cutO s c (k + 1) = (ps ++ [s.extract q k], k + 1)) := by rw [Hid, cutO, if_pos he, HC.out]
        have heb : ((byt s k : Int) == (c : Int)) = true := by simp; omega
        clear he
        go_wp2_with (at_builtin; go_must (refine app_str wr rfl _ _ rfl w.heap.size _ _ _ _ _ rfl hown rfl (by omega) (by omega) ?_); intro a2 c2 w2 hown3 hgr3 hsz3)
        go_roundw
        case rel => exact ⟨k + 1, a2, c2, m + 1, k + 1, _, by omega, by go_num, by go_num, rfl, by omega, Nat.le_refl _, HC2, hown3, below_appS hbl hgr3 hown (Nat.le_refl _) (by omega), by omega⟩
        case measure => simp [intOf]; omega
      · have HC2 : Hid (cutO s c (k + 1) = (ps, q)) := by rw [Hid, cutO, if_neg he, HC.out]
        have heb : ((byt s k : Int) == (c : Int)) = false := by simp; omega
        clear he
        go_wp2_with fail
        go_roundw
        case rel => exact ⟨k + 1, a1, c1, m, q, ps, by omega, by go_num, rfl, rfl, by omega, by omega, HC2, hown, hbl, hsz⟩
        case measure => simp [intOf]; omega
    · obtain rfl : k = s.size := by omega
      have HR : Hid (splS s c = ps ++ [s.extract q s.size]) := by rw [Hid, splS, HC.out]
      go_wp2_with (at_builtin; go_must (refine app_str wr rfl _ _ rfl w.heap.size _ _ _ _ _ rfl hown rfl (by omega) (by omega) ?_); intro a2 c2 w2 hown3 hgr3 hsz3)
      go_ret
      have hl := hown3.len
      rw [HR.out]
      exact ⟨a2, c2, by rw [hl]; rfl, by rw [hl]; exact hown3, below_appS hbl hgr3 hown (Nat.le_refl _) (by omega)⟩
end Go.Proofs.YtmfffmipnbdpjaaGreatDoor
