/-
  Plain facts on sums, products, differences, binomial numbers.
-/
import Derived.Test.YtmfffmipnbdpjaaGreatDoorBase
namespace Go.Proofs.YtmfffmipnbdpjaaGreatDoor

theorem mul_bd {a b A B : Int} (h1 : -A ≤ a ∧ a ≤ A) (h2 : -B ≤ b ∧ b ≤ B) : -(A * B) ≤ a * b ∧ a * b ≤ A * B := by
  have hA : 0 ≤ A := by omega
  have hB : 0 ≤ B := by omega
  have e : (a * b).natAbs ≤ (A * B).natAbs := by
    rw [Int.natAbs_mul, Int.natAbs_mul]
    exact Nat.mul_le_mul (by omega) (by omega)
  have hAB : 0 ≤ A * B := Int.mul_nonneg hA hB
  omega

theorem sm_shift (f : Nat → Int) (n : Nat) : sm f (n + 1) = f 0 + sm (fun i => f (i + 1)) n := by
  induction n with
  | zero => simp [sm]
  | succ k ih => rw [sm, ih, sm]; omega
theorem sm_plus (f g : Nat → Int) (n : Nat) : sm (fun i => f i + g i) n = sm f n + sm g n := by
  induction n with
  | zero => rfl
  | succ k ih => rw [sm, ih, sm, sm]; omega
theorem sm_mul (c : Int) (f : Nat → Int) (n : Nat) : sm (fun i => c * f i) n = c * sm f n := by
  induction n with
  | zero => simp [sm]
  | succ k ih => rw [sm, ih, sm, Int.mul_add]
theorem sm_zeros {f : Nat → Int} {n : Nat} (h : ∀ i, i < n → f i = 0) : sm f n = 0 := by
  induction n with
  | zero => rfl
  | succ k ih => rw [sm, ih fun i hi => h i (by omega), h k (by omega)]; rfl
theorem sm_swap (f : Nat → Nat → Int) (n m : Nat) : sm (fun i => sm (fun j => f i j) m) n = sm (fun j => sm (fun i => f i j) n) m := by
  induction n with
  | zero => exact (sm_zeros (f := fun j => sm (fun i => f i j) 0) fun _ _ => rfl).symm
  | succ k ih => rw [sm, ih, ← sm_plus]; rfl
/-- A sum of which all but one are 0. -/
theorem sm_single {f : Nat → Int} {n k : Nat} (hk : k < n) (h : ∀ i, i < n → i ≠ k → f i = 0) : sm f n = f k := by
  induction n with
  | zero => omega
  | succ m ih =>
    rw [sm]
    by_cases e : k = m
    · subst e; rw [sm_zeros fun i hi => h i (by omega) (by omega)]; omega
    · rw [ih (by omega) fun i hi => h i (by omega), h m (by omega) (by omega)]; omega

/-- The k-th differences. -/
def Dit : Nat → (Nat → Int) → Nat → Int
  | 0, f => f
  | k + 1, f => Dit k (fun i => f (i + 1) - f i)

theorem Dit_succ (k : Nat) : ∀ (f : Nat → Int) (i : Nat), Dit (k + 1) f i = Dit k f (i + 1) - Dit k f i := by
  induction k with
  | zero => intro f i; rfl
  | succ k ih => intro f i; rw [Dit, ih]; rfl
theorem Dit_congr (k : Nat) : ∀ (f g : Nat → Int) (i : Nat), (∀ j, j ≤ i + k → f j = g j) → Dit k f i = Dit k g i := by
  induction k with
  | zero => intro f g i h; exact h i (by omega)
  | succ k ih => intro f g i h; rw [Dit, Dit]; exact ih _ _ _ fun j hj => by rw [h j (by omega), h (j + 1) (by omega)]
theorem Dit_bd (k : Nat) : ∀ (f : Nat → Int) (n : Nat) (M : Int), (∀ i, i < n → -M ≤ f i ∧ f i ≤ M) → ∀ i, i + k < n → -(M * 2 ^ k) ≤ Dit k f i ∧ Dit k f i ≤ M * 2 ^ k := by
  induction k with
  | zero => intro f n M h i hi; have := h i (by omega); rw [Dit]; omega
  | succ k ih =>
    intro f n M h i hi
    have := ih (fun i => f (i + 1) - f i) (n - 1) (M * 2) (fun j hj => by have h1 := h j (by omega); have h2 := h (j + 1) (by omega); omega) i (by omega)
    rw [Dit, show M * 2 ^ (k + 1) = M * 2 * 2 ^ k by rw [Int.pow_succ, Int.mul_comm (2 ^ k) 2, Int.mul_assoc]]
    exact this
theorem Dit_bd16 {f : Nat → Int} {n k i : Nat} (h : ∀ i, i < n → -1000 ≤ f i ∧ f i ≤ 1000) (hn : n ≤ 16) (hi : i + k < n) : -32768000 ≤ Dit k f i ∧ Dit k f i ≤ 32768000 := by
  have h1 := Dit_bd k f n 1000 h i hi
  have h2 : (2 : Int) ^ k ≤ 32768 := by
    have : (2 : Nat) ^ k ≤ 2 ^ 15 := Nat.pow_le_pow_right (by decide) (by omega)
    have e : ((2 ^ k : Nat) : Int) = (2 : Int) ^ k := by simp
    omega
  omega

/-- Binomial numbers. -/
def Cb : Nat → Nat → Nat
  | _, 0 => 1
  | 0, _ + 1 => 0
  | n + 1, k + 1 => Cb n k + Cb n (k + 1)
theorem Cb_zero (n : Nat) : Cb n 0 = 1 := by cases n <;> rfl
theorem Cb_over : ∀ (n k : Nat), n < k → Cb n k = 0 := by
  intro n
  induction n with
  | zero => intro k hk; cases k with | zero => omega | succ k => rfl
  | succ n ih => intro k hk; cases k with | zero => omega | succ k => rw [Cb, ih k (by omega), ih (k + 1) (by omega)]

/-- The row with the edge f. -/
def Fe (f : Nat → Int) (n : Nat) : Int := sm (fun k => (Cb n k : Int) * f k) (n + 1)

theorem Fe_zero (f : Nat → Int) : Fe f 0 = f 0 := by simp [Fe, sm, Cb_zero]
theorem Fe_succ (f : Nat → Int) (n : Nat) : Fe f (n + 1) = Fe f n + Fe (fun k => f (k + 1)) n := by
  have h1 : Fe f (n + 1) = f 0 + sm (fun k => ((Cb n k : Int) * f (k + 1)) + ((Cb n (k + 1) : Int) * f (k + 1))) (n + 1) := by
    rw [Fe, sm_shift, Cb_zero]
    rw [sm_congr (g := fun k => ((Cb n k : Int) * f (k + 1)) + ((Cb n (k + 1) : Int) * f (k + 1))) fun i _ => by rw [Cb, Int.natCast_add, Int.add_mul]]
    simp
  have h2 : Fe f n = f 0 + sm (fun k => (Cb n (k + 1) : Int) * f (k + 1)) (n + 1) := by
    have : sm (fun k => (Cb n k : Int) * f k) (n + 1 + 1) = Fe f n := by rw [sm, Cb_over n (n + 1) (by omega)]; simp [Fe]
    rw [← this, sm_shift, Cb_zero]; simp
  rw [h1, sm_plus, h2, Fe]; omega
theorem Dit_Fe (k : Nat) : ∀ f : Nat → Int, Dit k (Fe f) 0 = f k := by
  induction k with
  | zero => intro f; exact Fe_zero f
  | succ k ih =>
    intro f
    rw [Dit, show (fun i => Fe f (i + 1) - Fe f i) = Fe (fun k => f (k + 1)) from funext fun i => by rw [Fe_succ]; omega, ih]
theorem Fe_Dit (n : Nat) : ∀ f : Nat → Int, Fe (fun k => Dit k f 0) n = f n := by
  induction n with
  | zero => intro f; exact Fe_zero _
  | succ n ih =>
    intro f
    rw [Fe_succ, ih]
    have := ih (fun i => f (i + 1) - f i)
    rw [show (fun k => Dit (k + 1) f 0) = (fun k => Dit k (fun i => f (i + 1) - f i) 0) from rfl, this]; omega
theorem Fe_congr {f g : Nat → Int} {n : Nat} (h : ∀ k, k ≤ n → f k = g k) : Fe f n = Fe g n := by
  rw [Fe, Fe]; exact sm_congr fun i hi => by rw [h i (by omega)]

/-- Binomial numbers as the program takes them, one from the other. -/
def chI (n : Nat) : Nat → Int
  | 0 => 1
  | k + 1 => chI n k * ((n : Int) - k) / ((k : Int) + 1)
theorem chI_Cb : ∀ n, n < 17 → ∀ k, k < 18 → chI n k = (Cb n k : Int) := by decide +kernel
theorem chI_bd0 : ∀ n, n < 17 → ∀ k, k < 18 → 0 ≤ chI n k ∧ chI n k ≤ 12870 := by decide +kernel
theorem chI_bd {n k : Nat} (h : n ≤ 16) (hk : k ≤ 17) : 0 ≤ chI n k ∧ chI n k ≤ 12870 := chI_bd0 n (by omega) k (by omega)

end Go.Proofs.YtmfffmipnbdpjaaGreatDoor
