/-
  Energies, products at the same places, rows multiplied by one number.
-/
import Derived.Test.YthmajnfppkgflaaEq
import Derived.Test.YthmajnfppkgflaaNum
import Derived.Lib.Hide
import Derived.Deep.RegionHeld3
namespace Go.Proofs.Ythmajnfppkgflaa
open Go.RowKit

/-- The sum of the squares. -/
def en (f : Nat → Int) (n : Nat) : Int := sm (fun i => f i * f i) n
theorem sq_bd {a M : Int} (h : -M ≤ a ∧ a ≤ M) : 0 ≤ a * a ∧ a * a ≤ M * M := by
  have h1 : 0 ≤ a * a := by
    rcases Int.le_total 0 a with h | h
    · exact Int.mul_nonneg h h
    · exact Int.mul_nonneg_of_nonpos_of_nonpos h h
  have h2 := (mul_bd h h).2
  exact ⟨h1, h2⟩
theorem en_bd {f : Nat → Int} {n : Nat} (h : ∀ i, i < n → -1000 ≤ f i ∧ f i ≤ 1000) : 0 ≤ en f n ∧ en f n ≤ 1000000 * (n : Int) := by
  unfold en
  induction n with
  | zero => simp [sm]
  | succ k ih =>
    have h1 := ih fun i hi => h i (by omega)
    have h2 := sq_bd (h k (by omega))
    rw [sm]; omega
theorem en_congr {f g : Nat → Int} {n : Nat} (h : ∀ i, i < n → f i = g i) : en f n = en g n := sm_congr fun i hi => by rw [h i hi]
set_option maxHeartbeats 800000 in
theorem EnergyOf_yes (w : World) (a : Option Addr) (n c : Nat) (xs : List Int) (h : Row w a n c xs) (hv : valid xs = true) :
    Calls Try.prog 13 #[.slice a n c] w fun e w' => e = .returned (.int .i64 (en (el xs) n)) ∧ w = w' := by
  have HL : Hid (xs.length = n) := h.len
  have hn : n ≤ 16 := by have := valid_len hv; rw [HL.out] at this; exact this
  have HB : Hid (∀ i, i < n → -1000 ≤ el xs i ∧ el xs i ≤ 1000) := fun i hi => valid_bd hv (by rw [HL.out]; exact hi)
  go_enter Try.func13, Try.ntmps13
  go_wp2_with fail
  refine (ValidRow_is w a n c xs true h hv).mono ?_
  rintro e w' ⟨rfl, rfl⟩
  go_wp2_with fail
  go_loop [3, 11] (fun s u => ∃ k : Nat, k ≤ n ∧ u = .int .i64 k ∧ s = .int .i64 (en (el xs) k)) (fun _ u => n - (intOf u).toNat)
  case atStart => exact ⟨0, Nat.zero_le _, rfl, rfl⟩
  case round =>
    obtain ⟨k, hk, rfl, rfl⟩ := hrel
    by_cases hlt : k < n
    · obtain ⟨b, off, rfl, hbb, hcell⟩ := h.cell k hlt
      have hc := hcell k hlt
      clear hcell
      have hs := @en_bd (el xs) k (fun i hi => HB.out i (by omega))
      have hq := sq_bd (HB.out k hlt)
      go_wp2_with fail
      go_round
      case rel => exact ⟨k + 1, by omega, by go_num, rfl⟩
      case measure => simp [intOf]; omega
    · obtain rfl : k = n := by omega
      go_wp2_with fail
      go_ret
      exact ⟨rfl, rfl⟩
set_option maxHeartbeats 800000 in
theorem scaled_any (w : World) (a : Option Addr) (n c : Nat) (xs : List Int) (t : Int) (h : Row w a n c xs) (hn : n ≤ 1000) (hb : ∀ i, i < n → -1000000000000 ≤ t * el xs i ∧ t * el xs i ≤ 1000000000000) :
    Calls Try.prog 18 #[.slice a n c, .int .i64 t] w fun e w' => Fresh w w' e n (tab (fun i => t * el xs i) n) := by
  have HB := Lib.hid hb
  clear hb
  go_enter Try.func18, Try.ntmps18
  go_wp2_with fail
  go_loopw [5, 6] (fun v u wr => ∃ (k : Nat) (a1 : Option Addr) (c1 : Nat), k ≤ n ∧ u = .int .i64 k ∧ v = .slice a1 k c1 ∧ Own wr w.heap.size a1 k c1 (tab (fun i => t * el xs i) k) ∧ Below w.heap.size w wr ∧ w.heap.size + 1 ≤ wr.heap.size) (fun v _ _ => n - lenOf v)
  case atStart => exact ⟨0, _, 0, Nat.zero_le _, rfl, rfl, own_empty w, (Below.refl _ _).alloc (Nat.le_refl _) _, by simp⟩
  case round =>
    obtain ⟨k, a1, c1, hk, rfl, rfl, hown, hbl, hsz⟩ := hrel
    by_cases hlt : k < n
    · obtain ⟨b, off, rfl, hbb, hcell⟩ := (h.below hbl).cell k hlt
      have hc := hcell k hlt
      clear hcell
      have hq := HB.out k hlt
      go_wp2_with (at_builtin; go_must (refine app_int wr rfl _ _ rfl w.heap.size _ _ _ _ _ rfl hown rfl (by omega) (by omega) ?_); intro a2 c2 w2 hown2 hgr2 hsz2)
      go_roundw
      case rel => exact ⟨k + 1, a2, c2, by omega, by go_num, rfl, hown2, below_app hbl hgr2 hown (Nat.le_refl _) (by omega), by omega⟩
      case measure => simp [lenOf]; omega
    · obtain rfl : k = n := by omega
      go_wp2_with fail
      go_ret
      exact Fresh.mk hown hbl
end Go.Proofs.Ythmajnfppkgflaa
