/-
  Plain facts on sums of products of numbers that are apart.
-/
import Derived.Test.YtmfffmipnbdpjaaGreatDoorNum
namespace Go.Proofs.YtmfffmipnbdpjaaGreatDoor
open Go.RowKit

/-- The sum of the products of numbers that are d apart. -/
def sfAt (f : Nat → Int) (n d : Nat) : Int := sm (fun i => f i * f (i + d)) (n - d)
def selfL (xs : List Int) (n : Nat) : List Int := tab (sfAt (el xs) n) n
theorem sm_joinS (f : Nat → Int) (i k : Nat) : sm f (i + k) = sm f i + sm (fun t => f (i + t)) k := by
  induction k with
  | zero => simp [sm]
  | succ k ih => rw [← Nat.add_assoc, sm, sm, ih]; omega
theorem sm_backS (f : Nat → Int) (n : Nat) : sm f n = sm (fun i => f (n - 1 - i)) n := by
  induction n with
  | zero => rfl
  | succ n ih =>
    rw [sm_shift (fun i => f (n + 1 - 1 - i))]
    rw [sm, ih]
    have e : sm (fun i => f (n - 1 - i)) n = sm (fun i => f (n + 1 - 1 - (i + 1))) n := sm_congr fun i _ => by rw [show n + 1 - 1 - (i + 1) = n - 1 - i by omega]
    rw [e]
    show _ + f n = f (n + 1 - 1 - 0) + _
    rw [show n + 1 - 1 - 0 = n by omega]; omega
theorem sm_mono {f g : Nat → Int} {n : Nat} (h : ∀ i, i < n → f i ≤ g i) : sm f n ≤ sm g n := by
  induction n with
  | zero => exact Int.le_refl _
  | succ k ih => rw [sm, sm]; have := ih fun i hi => h i (by omega); have := h k (by omega); omega
theorem sm_pos {f : Nat → Int} {n : Nat} (h : ∀ i, i < n → 0 ≤ f i) : 0 ≤ sm f n := by
  have := sm_mono (f := fun _ => 0) (g := f) (n := n) h
  rw [sm_zeros fun _ _ => rfl] at this; exact this
theorem sq_nonneg (x : Int) : 0 ≤ x * x := by
  rcases Int.le_total 0 x with h | h
  · exact Int.mul_nonneg h h
  · exact Int.mul_nonneg_of_nonpos_of_nonpos h h
theorem two_mul_le (a b : Int) : 2 * (a * b) ≤ a * a + b * b ∧ -(2 * (a * b)) ≤ a * a + b * b := by
  have h1 := sq_nonneg (a - b)
  have h2 := sq_nonneg (a + b)
  rw [Int.sub_mul, Int.mul_sub, Int.mul_sub, Int.mul_comm b a] at h1
  rw [Int.add_mul, Int.mul_add, Int.mul_add, Int.mul_comm b a] at h2
  omega
theorem sf_le (f : Nat → Int) {n d : Nat} (hd : d ≤ n) : sfAt f n d ≤ sfAt f n 0 ∧ -(sfAt f n 0) ≤ sfAt f n d := by
  have e0 : sfAt f n 0 = sm (fun i => f i * f i) n := rfl
  have hsq : ∀ i, i < n → 0 ≤ f i * f i := fun i _ => sq_nonneg _
  have h1 : sm (fun i => f i * f i) (n - d) ≤ sm (fun i => f i * f i) n := by
    have := sm_joinS (fun i => f i * f i) (n - d) d
    rw [show n - d + d = n by omega] at this
    have h2 : 0 ≤ sm (fun t => f (n - d + t) * f (n - d + t)) d := sm_pos fun i _ => sq_nonneg _
    omega
  have h3 : sm (fun i => f (i + d) * f (i + d)) (n - d) ≤ sm (fun i => f i * f i) n := by
    have := sm_joinS (fun i => f i * f i) d (n - d)
    rw [show d + (n - d) = n by omega] at this
    have h2 : 0 ≤ sm (fun i => f i * f i) d := sm_pos fun i _ => sq_nonneg _
    have h4 : sm (fun i => f (i + d) * f (i + d)) (n - d) = sm (fun t => f (d + t) * f (d + t)) (n - d) := sm_congr fun i _ => by rw [Nat.add_comm]
    omega
  have a1 : sm (fun i => 2 * (f i * f (i + d))) (n - d) ≤ sm (fun i => f i * f i + f (i + d) * f (i + d)) (n - d) := sm_mono fun i _ => (two_mul_le _ _).1
  have a2 : sm (fun i => -2 * (f i * f (i + d))) (n - d) ≤ sm (fun i => f i * f i + f (i + d) * f (i + d)) (n - d) := sm_mono fun i _ => by have := (two_mul_le (f i) (f (i + d))).2; omega
  rw [sm_mul, sm_plus] at a1 a2
  rw [e0, sfAt]
  omega
theorem sf_turn (f : Nat → Int) {n d : Nat} (hd : d < n) : sfAt (fun i => f (n - 1 - i)) n d = sfAt f n d := by
  rw [sfAt, sfAt, sm_backS]
  refine sm_congr fun i hi => ?_
  show f (n - 1 - (n - d - 1 - i)) * f (n - 1 - (n - d - 1 - i + d)) = _
  rw [show n - 1 - (n - d - 1 - i) = i + d by omega, show n - 1 - (n - d - 1 - i + d) = i by omega, Int.mul_comm]
theorem sf_neg (f : Nat → Int) (n d : Nat) : sfAt (fun i => -1 * f i) n d = sfAt f n d := sm_congr fun i _ => by
  show -1 * f i * (-1 * f (i + d)) = _
  rw [Int.neg_one_mul, Int.neg_one_mul, Int.neg_mul_neg]
theorem sf_congr {f g : Nat → Int} {n d : Nat} (h : ∀ i, i < n → f i = g i) : sfAt f n d = sfAt g n d := sm_congr fun i hi => by rw [h i (by omega), h (i + d) (by omega)]
theorem sf_total (f : Nat → Int) (n : Nat) : 2 * sm (sfAt f n) n - sfAt f n 0 = sm f n * sm f n := by
  induction n with
  | zero => rfl
  | succ n ih =>
    have h1 : sm (sfAt f (n + 1)) (n + 1) = sm (sfAt f n) n + f n * sm f (n + 1) := by
      have a1 : sm (sfAt f (n + 1)) (n + 1) = sm (fun d => sfAt f n d + f n * f (n - d)) (n + 1) := sm_congr fun d hd => by
        rw [sfAt, show n + 1 - d = (n - d) + 1 by omega, sm, sfAt, show n - d + d = n by omega, Int.mul_comm (f (n - d))]
      rw [a1, sm_plus, sm_mul]
      have a2 : sm (fun d => f (n - d)) (n + 1) = sm f (n + 1) := (sm_backS f (n + 1)).symm
      rw [a2, sm]
      have a3 : sfAt f n n = 0 := by rw [sfAt, Nat.sub_self]; rfl
      rw [a3, Int.add_zero]
    have h2 : sfAt f (n + 1) 0 = sfAt f n 0 + f n * f n := rfl
    rw [h1, h2, sm]
    generalize sm (sfAt f n) n = A at *
    generalize sfAt f n 0 = B at *
    generalize sm f n = T at *
    rw [Int.mul_add (f n), Int.add_mul T, Int.mul_add T, Int.mul_add (f n), ← ih, Int.mul_comm T (f n)]
    omega
/-- Rows doubled. -/
def dbl (s : Int) (f g : Nat → Int) (n i : Nat) : Int := if i < n then f i else s * g (i - n)
theorem sf_double (f g : Nat → Int) {n d : Nat} (h : ∀ d, 1 ≤ d → d < n → sfAt f n d + sfAt g n d = 0) (h1 : 1 ≤ d) (h2 : d < 2 * n) : sfAt (dbl 1 f g n) (2 * n) d + sfAt (dbl (-1) f g n) (2 * n) d = 0 := by
  rw [sfAt, sfAt, ← sm_plus]
  by_cases hd : d < n
  · have e : 2 * n - d = (n - d) + (d + (n - d)) := by omega
    rw [e, sm_joinS, sm_joinS]
    have a1 : sm (fun i => dbl 1 f g n i * dbl 1 f g n (i + d) + dbl (-1) f g n i * dbl (-1) f g n (i + d)) (n - d) = 2 * sfAt f n d := by
      rw [sfAt, ← sm_mul]
      refine sm_congr fun i hi => ?_
      rw [dbl, dbl, dbl, dbl, if_pos (by omega), if_pos (by omega), if_pos (by omega), if_pos (by omega)]; omega
    have a2 : sm (fun t => dbl 1 f g n (n - d + t) * dbl 1 f g n (n - d + t + d) + dbl (-1) f g n (n - d + t) * dbl (-1) f g n (n - d + t + d)) d = 0 := sm_zeros fun i hi => by
      rw [dbl, dbl, dbl, dbl, if_pos (by omega), if_neg (by omega), if_pos (by omega), if_neg (by omega), Int.one_mul, Int.neg_one_mul, Int.mul_neg]; omega
    have a3 : sm (fun t => dbl 1 f g n (n - d + (d + t)) * dbl 1 f g n (n - d + (d + t) + d) + dbl (-1) f g n (n - d + (d + t)) * dbl (-1) f g n (n - d + (d + t) + d)) (n - d) = 2 * sfAt g n d := by
      rw [sfAt, ← sm_mul]
      refine sm_congr fun i hi => ?_
      rw [dbl, dbl, dbl, dbl, if_neg (by omega), if_neg (by omega), if_neg (by omega), if_neg (by omega), show n - d + (d + i) - n = i by omega, show n - d + (d + i) + d - n = i + d by omega, Int.one_mul, Int.one_mul, Int.neg_one_mul, Int.neg_one_mul, Int.neg_mul_neg]; omega
    rw [a1, a2, a3]
    have := h d h1 hd
    omega
  · refine sm_zeros fun i hi => ?_
    rw [dbl, dbl, dbl, dbl, if_pos (by omega), if_neg (by omega), if_pos (by omega), if_neg (by omega), Int.one_mul, Int.neg_one_mul, Int.mul_neg]; omega
end Go.Proofs.YtmfffmipnbdpjaaGreatDoor
