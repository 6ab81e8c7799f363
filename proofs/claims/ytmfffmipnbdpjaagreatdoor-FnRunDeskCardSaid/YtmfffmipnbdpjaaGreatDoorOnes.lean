/-
  How many ones a number has: the library's count, the program's odd, the reference's ones.
-/
import Derived.Test.YtmfffmipnbdpjaaGreatDoorCube
import Derived.Lib.Hide
namespace Go.Proofs.YtmfffmipnbdpjaaGreatDoor
open Go.RowKit

/-- How many of the first f binary digits are 1. -/
def popF : Nat → Nat → Nat
  | 0, _ => 0
  | f + 1, n => n % 2 + popF f (n / 2)
/-- How many binary digits are 1, of a number below 8192. Not reducible: the walk takes it for an atom. -/
def pop (n : Nat) : Nat := popF 13 n
theorem popF_le (f : Nat) : ∀ n, popF f n ≤ f := by
  induction f with
  | zero => intro n; exact Nat.le_refl _
  | succ f ih => intro n; have := ih (n / 2); rw [popF]; omega
theorem pop_le (n : Nat) : pop n ≤ 13 := popF_le 13 n
theorem popF_more (f : Nat) : ∀ n, n < p2 f → ∀ g, f ≤ g → popF g n = popF f n := by
  induction f with
  | zero =>
    intro n hn g _
    obtain rfl : n = 0 := by simp [p2] at hn; exact hn
    clear hn
    show popF g 0 = 0
    induction g with
    | zero => rfl
    | succ g ih => rw [popF]; simp; exact ih (by omega)
  | succ f ih =>
    intro n hn g hg
    cases g with
    | zero => omega
    | succ g => rw [popF, popF, ih (n / 2) (by rw [p2_succ] at hn; omega) g (by omega)]

set_option maxRecDepth 100000 in
set_option maxHeartbeats 1600000 in
theorem OnesCount64_any (w : World) (n : Nat) (hn : n < 8192) :
    Calls Tryz.prog 107 #[.int .u64 n] w fun e w' => e = .returned (.int .i64 (pop n)) ∧ w = w' := by
  go_enter Tryz.func107, Tryz.ntmps107
  go_wp2
  go_ret
  refine ⟨ret_int ?_, rfl⟩
  clear w
  obtain ⟨x, y, hx, hy, rfl⟩ : ∃ x y, x < 128 ∧ y < 64 ∧ n = 64 * x + y := ⟨n / 64, n % 64, by omega, by omega, by omega⟩
  clear hn
  revert hy
  revert y
  revert hx
  revert x
  decide +kernel
set_option maxHeartbeats 400000 in
theorem OnesCount_any (w : World) (n : Nat) (hn : n < 8192) :
    Calls Tryz.prog 89 #[.int .u64 n] w fun e w' => e = .returned (.int .i64 (pop n)) ∧ w = w' := by
  go_enter Tryz.func89, Tryz.ntmps89
  go_wp2_with fail
  refine (OnesCount64_any w n hn).mono ?_
  rintro e w' ⟨rfl, rfl⟩
  go_wp2_with fail
  go_ret
  exact ⟨rfl, rfl⟩
/-- Whether a number has an odd number of ones. -/
def oddB (n : Nat) : Bool := decide (pop n % 2 = 1)
set_option maxHeartbeats 400000 in
theorem odd_any (w : World) (n : Nat) (hn : n < 8192) :
    Calls Tryz.prog 78 #[.int .i64 n] w fun e w' => Tells w w' e (oddB n) := by
  have hp := pop_le n
  by_cases ho : pop n % 2 = 1
  · have hb : ((pop n : Int) % 2 == 1) = true := by simp; omega
    have HO := Lib.hid ho
    clear ho
    go_enter Tryz.func78, Tryz.ntmps78
    go_wp2_with fail
    refine (OnesCount_any w n hn).mono ?_
    rintro e w' ⟨rfl, rfl⟩
    go_wp2_with fail
    go_ret
    exact ⟨ret_bool (by simp [oddB, HO.out]), rfl⟩
  · have hb : ((pop n : Int) % 2 == 1) = false := by simp; omega
    have HO := Lib.hid ho
    clear ho
    go_enter Tryz.func78, Tryz.ntmps78
    go_wp2_with fail
    refine (OnesCount_any w n hn).mono ?_
    rintro e w' ⟨rfl, rfl⟩
    go_wp2_with fail
    go_ret
    exact ⟨ret_bool (by have := HO.out; simp [oddB]; omega), rfl⟩
theorem odd_is (w : World) (n : Nat) (v : Bool) (hn : n < 8192) (hv : oddB n = v) :
    Calls Tryz.prog 78 #[.int .i64 n] w fun e w' => Tells w w' e v := by subst hv; exact odd_any w n hn
set_option maxHeartbeats 800000 in
theorem sones_any (w : World) (n : Nat) (hn : n < 8192) :
    Calls Tryz.prog 47 #[.int .i64 n] w fun e w' => e = .returned (.int .i64 (pop n)) ∧ w = w' := by
  go_enter Tryz.func47, Tryz.ntmps47
  go_wp2_with fail
  go_loop [0, 3] (fun u v => ∃ (f x s : Nat), f ≤ 13 ∧ x < p2 f ∧ u = .int .i64 x ∧ v = .int .i64 s ∧ s ≤ 13 - f ∧ Hid (s + popF f x = pop n)) (fun u _ => (intOf u).toNat)
  case atStart => exact ⟨13, n, 0, Nat.le_refl _, by have : p2 13 = 8192 := by decide
                                                     omega, rfl, rfl, by omega, by rw [Hid, pop, Nat.zero_add]⟩
  case round =>
    obtain ⟨f, x, s, hf, hx, rfl, rfl, hs, HP⟩ := hrel
    have hx8 : x < 8192 := Nat.lt_of_lt_of_le hx (p2_le hf)
    by_cases h0 : 0 < x
    · obtain ⟨g, rfl⟩ : ∃ g, f = g + 1 := by
        cases f with
        | zero => simp [p2] at hx; omega
        | succ g => exact ⟨g, rfl⟩
      have hx2 : x / 2 < p2 g := by rw [p2_succ] at hx; omega
      have HQ : Hid (s + x % 2 + popF g (x / 2) = pop n) := by have := HP.out; rw [popF] at this; rw [Hid]; omega
      go_wp2_with fail
      go_round
      case rel => exact ⟨g, x / 2, s + x % 2, by omega, hx2, by simp, by simp, by omega, HQ⟩
      case measure => simp [intOf]; omega
    · obtain rfl : x = 0 := by omega
      have hz : popF f 0 = 0 := by
        have := popF_more 0 0 (by decide) f (Nat.zero_le _)
        rw [this]; rfl
      have HE : Hid (s = pop n) := by have := HP.out; rw [hz] at this; exact this
      clear hz
      go_wp2_with fail
      go_ret
      exact ⟨ret_int (by rw [HE.out]), rfl⟩
end Go.Proofs.YtmfffmipnbdpjaaGreatDoor
