/-
  The desk: all answers, one after the other.
-/
import Derived.Test.YtmfffmipnbdpjaaGreatDoorDesk5
namespace Go.Proofs.YtmfffmipnbdpjaaGreatDoor
open Go.RowKit

/-- The answers to the first k lines, by f. -/
def deskF (f : Nat → ByteArray) : Nat → ByteArray
  | 0 => bs []
  | k + 1 => deskF f k ++ (f k ++ bs [10])
theorem deskF_size {f : Nat → ByteArray} {k : Nat} (h : ∀ i, i < k → (f i).size ≤ 300) : (deskF f k).size ≤ 301 * k := by
  induction k with
  | zero => exact Nat.le_refl _
  | succ k ih =>
    have h1 := ih fun i hi => h i (by omega)
    have h2 := h k (by omega)
    rw [deskF, ByteArray.size_append, ByteArray.size_append]
    have e : (bs [10]).size = 1 := rfl
    omega
theorem ba_assoc (a b c : ByteArray) : a ++ b ++ c = a ++ (b ++ c) := ByteArray.append_assoc ..
/-- What the desk answers to n lines. -/
def deskR (f : Nat → ByteArray) (n : Nat) : ByteArray := if 20 < n then bs [] else deskF f n

set_option maxHeartbeats 1600000 in
theorem RunDesk_any (w : World) (a : Option Addr) (n c : Nat) (ss : List ByteArray) (f : Nat → ByteArray) (hE : Env w) (h : RowS w a n c ss) (hn : n ≤ 1048576) (hf : ∀ i, i < n → Line (st ss i) (f i)) :
    Calls Tryz.prog 8 #[.slice a n c] w fun e w' => e = .returned (.string (deskR f n)) ∧ Below w.heap.size w w' := by
  have hlo := hE.lo
  by_cases h20 : 20 < n
  · have HT : Hid (deskR f n = bs []) := if_pos h20
    go_enter Tryz.func8, Tryz.ntmps8
    go_wp2_with fail
    go_ret
    exact ⟨by rw [HT.out]; rfl, Below.refl _ _⟩
  · have HT : Hid (deskR f n = deskF f n) := if_neg h20
    have HI : Hid (∀ w i, Env w → i < n → Calls Tryz.prog 13 #[.string (st ss i)] w fun e w' => e = .returned (.string (f i)) ∧ Below w.heap.size w w') := fun w i hE hi => (hf i hi).imp w hE
    have HZ : Hid (∀ i, i < n → (f i).size ≤ 300) := fun i hi => (hf i hi).sz
    clear hf
    go_enter Tryz.func8, Tryz.ntmps8
    go_wp2_with fail
    go_loopw [3, 11] (fun v u wr => ∃ k : Nat, k ≤ n ∧ u = .int .i64 k ∧ v = .string (deskF f k) ∧ Below w.heap.size w wr) (fun _ u _ => n - (intOf u).toNat)
    case atStart => exact ⟨0, Nat.zero_le _, rfl, rfl, Below.refl _ _⟩
    case round =>
      obtain ⟨k, hk, rfl, rfl, hbl⟩ := hrel
      by_cases hlt : k < n
      · obtain ⟨b, off, rfl, hbb, hcell⟩ := (h.below hbl).cell k hlt
        have hc := hcell k hlt
        clear hcell
        have hz := HZ.out k hlt
        have hdz := @deskF_size f k fun i hi => HZ.out i (by omega)
        have hz2 : (f k ++ (⟨#[10]⟩ : ByteArray)).size ≤ 301 := by
          rw [ByteArray.size_append]
          have e : ((⟨#[10]⟩ : ByteArray)).size = 1 := rfl
          omega
        go_wp2_with fail
        refine (HI.out wr k (hE.below hbl hlo) hlt).mono ?_
        rintro e w' ⟨rfl, b4⟩
        go_wp2_with fail
        go_roundw
        case rel => exact ⟨k + 1, by omega, by go_num, rfl, bstep hbl b4⟩
        case measure => simp [intOf]; omega
      · obtain rfl : k = n := by omega
        go_wp2_with fail
        go_ret
        exact ⟨by rw [HT.out]; rfl, hbl⟩
set_option maxHeartbeats 1600000 in
theorem sRunDesk_any (w : World) (a : Option Addr) (n c : Nat) (ss : List ByteArray) (f : Nat → ByteArray) (h : RowS w a n c ss) (hn : n ≤ 1048576) (hf : ∀ i, i < n → Line (st ss i) (f i)) :
    Calls Tryz.prog 6 #[.slice a n c] w fun e w' => e = .returned (.string (deskR f n)) ∧ Below w.heap.size w w' := by
  by_cases h20 : 20 < n
  · have HT : Hid (deskR f n = bs []) := if_pos h20
    go_enter Tryz.func6, Tryz.ntmps6
    go_wp2_with fail
    go_ret
    exact ⟨by rw [HT.out]; rfl, Below.refl _ _⟩
  · have HT : Hid (deskR f n = deskF f n) := if_neg h20
    have HI : Hid (∀ w i, i < n → Calls Tryz.prog 12 #[.string (st ss i)] w fun e w' => e = .returned (.string (f i)) ∧ Below w.heap.size w w') := fun w i hi => (hf i hi).ref w
    have HZ : Hid (∀ i, i < n → (f i).size ≤ 300) := fun i hi => (hf i hi).sz
    clear hf
    go_enter Tryz.func6, Tryz.ntmps6
    go_wp2_with fail
    go_loopw [3, 4] (fun v u wr => ∃ k : Nat, k ≤ n ∧ u = .int .i64 k ∧ v = .string (deskF f k) ∧ Below w.heap.size w wr) (fun _ u _ => n - (intOf u).toNat)
    case atStart => exact ⟨0, Nat.zero_le _, rfl, rfl, Below.refl _ _⟩
    case round =>
      obtain ⟨k, hk, rfl, rfl, hbl⟩ := hrel
      by_cases hlt : k < n
      · obtain ⟨b, off, rfl, hbb, hcell⟩ := (h.below hbl).cell k hlt
        have hc := hcell k hlt
        clear hcell
        have hz := HZ.out k hlt
        have hdz := @deskF_size f k fun i hi => HZ.out i (by omega)
        have hz2 : (deskF f k ++ f k).size ≤ 301 * k + 300 := by rw [ByteArray.size_append]; omega
        have HAS := Lib.hid (ba_assoc (deskF f k) (f k) (bs [10]))
        go_wp2_with fail
        refine (HI.out wr k hlt).mono ?_
        rintro e w' ⟨rfl, b4⟩
        go_wp2_with fail
        go_roundw
        case rel => exact ⟨k + 1, by omega, by go_num, congrArg Value.string HAS.out, bstep hbl b4⟩
        case measure => simp [intOf]; omega
      · obtain rfl : k = n := by omega
        go_wp2_with fail
        go_ret
        exact ⟨by rw [HT.out]; rfl, hbl⟩
end Go.Proofs.YtmfffmipnbdpjaaGreatDoor
