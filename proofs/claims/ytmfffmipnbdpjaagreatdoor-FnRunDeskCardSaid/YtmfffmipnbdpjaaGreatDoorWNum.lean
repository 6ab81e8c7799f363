/-
  Plain facts on rests by 97: powers, orders, roots, waves and their inversion.
-/
import Derived.Test.YtmfffmipnbdpjaaGreatDoorNum
import Derived.Test.YtmfffmipnbdpjaaGreatDoorBase2
import Derived.Lib.Hide
namespace Go.Proofs.YtmfffmipnbdpjaaGreatDoor
open Go.RowKit

/-- The rest of a power. Not reducible: the walk takes it for an atom. -/
def pw (x e : Nat) : Nat := x ^ e % 97
theorem pw_zero (x : Nat) : pw x 0 = 1 := by simp [pw]
theorem pw_succ (x e : Nat) : pw x (e + 1) = pw x e * x % 97 := by
  unfold pw
  rw [Nat.pow_succ, Nat.mod_mul_mod]
theorem pw_lt (x e : Nat) : pw x e < 97 := Nat.mod_lt _ (by decide)
theorem pw_one {x : Nat} (h : x < 97) : pw x 1 = x := by unfold pw; rw [Nat.pow_one]; exact Nat.mod_eq_of_lt h

/-- As many numbers as divide 96. -/
def dv (n : Nat) : Bool := decide (1 ≤ n) && (decide (n < 97) && decide (96 % n = 0))
theorem dv_iff {n : Nat} : dv n = true ↔ 1 ≤ n ∧ n < 97 ∧ 96 % n = 0 := by simp [dv]
/-- The order of a rest. -/
def ordN (x : Nat) : Nat := ((List.range 97).find? fun j => decide (1 ≤ j) && decide (pw x j = 1)).getD 0
/-- The least rest of an order. -/
def rootN (n : Nat) : Nat := ((List.range 97).find? fun x => decide (1 ≤ x) && decide (ordN x = n)).getD 0

theorem ord_facts0 : ∀ x, x < 97 → 1 ≤ x → 1 ≤ ordN x ∧ ordN x ≤ 96 ∧ pw x (ordN x) = 1 ∧ ∀ j, j < ordN x → 1 ≤ j → pw x j ≠ 1 := by decide +kernel
theorem ord_facts {x : Nat} (h : x < 97) (h1 : 1 ≤ x) : 1 ≤ ordN x ∧ ordN x ≤ 96 ∧ pw x (ordN x) = 1 ∧ ∀ j, j < ordN x → 1 ≤ j → pw x j ≠ 1 := ord_facts0 x h h1
theorem root_facts0 : ∀ n, n < 97 → dv n = true → 1 ≤ rootN n ∧ rootN n ≤ 96 ∧ ordN (rootN n) = n ∧ ∀ x, x < rootN n → 1 ≤ x → ordN x ≠ n := by decide +kernel
theorem root_facts {n : Nat} (h : dv n = true) : 1 ≤ rootN n ∧ rootN n ≤ 96 ∧ ordN (rootN n) = n ∧ ∀ x, x < rootN n → 1 ≤ x → ordN x ≠ n := root_facts0 n (dv_iff.1 h).2.1 h
/-- The inverse of the root. -/
def rinv (n : Nat) : Nat := pw (rootN n) 95
theorem rinv_facts0 : ∀ n, n < 97 → dv n = true → pw (rootN n) n = 1 ∧ pw (rinv n) n = 1 ∧ n * pw n 95 % 97 = 1 ∧ ∀ j, j < n → pw (rinv n) j = pw (rootN n) (n - j) := by decide +kernel
/-- Sums of powers of a root. -/
theorem orth0 : ∀ n, n < 97 → dv n = true → ∀ d, d < n → sm (fun k => (pw (rootN n) (d * k % n) : Int)) n % 97 = if d = 0 then (n : Int) else 0 := by decide +kernel

/-- Congruence by 97. -/
theorem cg_mul {a b c d : Int} (h : a % 97 = b % 97) (k : c % 97 = d % 97) : a * c % 97 = b * d % 97 := by rw [Int.mul_emod, h, k, ← Int.mul_emod]
theorem cg_add {a b c d : Int} (h : a % 97 = b % 97) (k : c % 97 = d % 97) : (a + c) % 97 = (b + d) % 97 := by rw [Int.add_emod, h, k, ← Int.add_emod]
theorem sm_cg {f g : Nat → Int} {n : Nat} (h : ∀ i, i < n → f i % 97 = g i % 97) : sm f n % 97 = sm g n % 97 := by
  induction n with
  | zero => rfl
  | succ k ih => exact cg_add (ih fun i hi => h i (by omega)) (h k (by omega))
theorem cg_self (a : Int) : a % 97 % 97 = a % 97 := Int.emod_emod_of_dvd a (Int.dvd_refl 97)
theorem pw_cast (x e : Nat) : (pw x e : Int) = ((x ^ e : Nat) : Int) % 97 := by unfold pw; simp
theorem pw_cg (x e : Nat) : (pw x e : Int) % 97 = ((x ^ e : Nat) : Int) % 97 := by rw [pw_cast, cg_self]
theorem pow_add_cg (x a b : Nat) : ((pw x (a + b) : Nat) : Int) % 97 = (pw x a : Int) * (pw x b : Int) % 97 := by
  rw [pw_cg, Nat.pow_add, Int.natCast_mul]
  exact (cg_mul (pw_cg x a) (pw_cg x b)).symm

/-- Powers by an exponent's rest. -/
theorem pw_period {x n : Nat} (h : pw x n = 1) (e : Nat) : pw x (e % n) = pw x e := by
  have h1 : ∀ q, (x ^ n) ^ q % 97 = 1 := fun q => by
    rw [Nat.pow_mod]
    have : x ^ n % 97 = 1 := h
    rw [this, Nat.one_pow]
  unfold pw
  have e1 := Nat.div_add_mod e n
  conv => rhs; rw [← e1]
  rw [Nat.pow_add, Nat.pow_mul, Nat.mul_mod, h1, Nat.one_mul, Nat.mod_mod]

/-- A wave: sums with powers of a root, as rests. -/
def wvAt (r : Nat) (f : Nat → Int) (n k : Nat) : Int := sm (fun i => f i * (pw r (i * k % n) : Int)) n % 97
def wvL (r : Nat) (xs : List Int) (n : Nat) : List Int := tab (wvAt r (el xs) n) n
theorem wvAt_bd (r : Nat) (f : Nat → Int) (n k : Nat) : 0 ≤ wvAt r f n k ∧ wvAt r f n k < 97 := ⟨Int.emod_nonneg _ (by decide), Int.emod_lt_of_pos _ (by decide)⟩
theorem wv_congr {r : Nat} {f g : Nat → Int} {n k : Nat} (h : ∀ i, i < n → f i = g i) : wvAt r f n k = wvAt r g n k := by
  unfold wvAt; rw [sm_congr fun i hi => by rw [h i hi]]
theorem wv_cg {r : Nat} {f g : Nat → Int} {n k : Nat} (h : ∀ i, i < n → f i % 97 = g i % 97) : wvAt r f n k = wvAt r g n k := by
  unfold wvAt; exact sm_cg fun i hi => cg_mul (h i hi) rfl
/-- The numbers of which the wave is f. -/
def uwAt (f : Nat → Int) (n k : Nat) : Int := wvAt (rinv n) f n k * (pw n 95 : Int) % 97
theorem uwAt_bd (f : Nat → Int) (n k : Nat) : 0 ≤ uwAt f n k ∧ uwAt f n k < 97 := ⟨Int.emod_nonneg _ (by decide), Int.emod_lt_of_pos _ (by decide)⟩

/-- The product of a power of the root and of its inverse. -/
theorem pw_cross {n : Nat} (h : dv n = true) {i j : Nat} (hj : j < n) (k : Nat) : (pw (rootN n) (i * k % n) : Int) * (pw (rinv n) (k * j % n) : Int) % 97 = (pw (rootN n) (((i + (n - j)) % n) * k % n) : Int) % 97 := by
  obtain ⟨f1, f2, f3, f4⟩ := rinv_facts0 n (dv_iff.1 h).2.1 h
  rw [pw_period f1, pw_period f2, pw_period f1]
  have e1 : pw (rinv n) (k * j) = pw (rootN n) ((n - j) * k) := by
    have a1 : pw (rinv n) (k * j) = (pw (rinv n) j) ^ k % 97 := by
      unfold pw; rw [Nat.mul_comm, Nat.pow_mul, Nat.pow_mod]
    have a2 : pw (rootN n) ((n - j) * k) = (pw (rootN n) (n - j)) ^ k % 97 := by
      unfold pw; rw [Nat.pow_mul, Nat.pow_mod]
    rw [a1, a2, f4 j hj]
  rw [e1, ← pow_add_cg, ← Nat.add_mul]
  have e2 : pw (rootN n) (((i + (n - j)) % n) * k) = pw (rootN n) ((i + (n - j)) * k) := by
    have a2 : ∀ t, pw (rootN n) (t * k) = (pw (rootN n) t) ^ k % 97 := fun t => by
      unfold pw; rw [Nat.pow_mul, Nat.pow_mod]
    rw [a2, a2, pw_period f1]
  rw [e2]
theorem cross_sum {n : Nat} (h : dv n = true) {i j : Nat} (hi : i < n) (hj : j < n) : sm (fun k => (pw (rootN n) (i * k % n) : Int) * (pw (rinv n) (k * j % n) : Int)) n % 97 = if i = j then (n : Int) else 0 := by
  have hn := (dv_iff.1 h)
  rw [sm_cg fun k _ => pw_cross h hj k, orth0 n hn.2.1 h _ (Nat.mod_lt _ (by omega))]
  by_cases e : i = j
  · subst e
    rw [if_pos rfl, if_pos]
    rw [show i + (n - i) = n by omega, Nat.mod_self]
  · rw [if_neg e, if_neg]
    intro e2
    by_cases hlt : i < j
    · rw [Nat.mod_eq_of_lt (by omega)] at e2; omega
    · rw [show i + (n - j) = (i - j) + n by omega, Nat.add_mod_right, Nat.mod_eq_of_lt (by omega)] at e2; omega
theorem ninv {n : Nat} (h : dv n = true) (x : Int) : x * n * (pw n 95 : Int) % 97 = x % 97 := by
  obtain ⟨f1, f2, f3, f4⟩ := rinv_facts0 n (dv_iff.1 h).2.1 h
  have e : ((n : Int) * (pw n 95 : Int)) % 97 = 1 % 97 := by
    have : ((n * pw n 95 % 97 : Nat) : Int) = 1 := by rw [f3]; rfl
    rw [← Int.natCast_mul]
    omega
  rw [Int.mul_assoc, cg_mul rfl e, Int.mul_one]
theorem sm_bilW (K : Nat → Nat → Int) (f g : Nat → Int) (n m : Nat) : sm (fun y => g y * sm (fun x => K x y * f x) n) m = sm (fun x => f x * sm (fun y => K x y * g y) m) n := by
  rw [sm_congr (g := fun y => sm (fun x => g y * (K x y * f x)) n) fun y _ => (sm_mul _ _ _).symm, sm_swap]
  exact sm_congr fun x _ => by rw [← sm_mul]; exact sm_congr fun y _ => by ac_rfl
theorem pick_sum {f : Nat → Int} {c : Int} {n j : Nat} (hj : j < n) : sm (fun i => f i * if i = j then c else 0) n = f j * c := by
  rw [sm_single hj fun i _ hi => by rw [if_neg hi, Int.mul_zero], if_pos rfl]
/-- The wave is taken back. -/
theorem wave_back {n : Nat} (h : dv n = true) (f : Nat → Int) {j : Nat} (hj : j < n) : uwAt (wvAt (rootN n) f n) n j = f j % 97 := by
  have h1 : wvAt (rinv n) (wvAt (rootN n) f n) n j = f j * n % 97 := by
    have a1 : wvAt (rinv n) (wvAt (rootN n) f n) n j = sm (fun k => (pw (rinv n) (k * j % n) : Int) * sm (fun i => (pw (rootN n) (i * k % n) : Int) * f i) n) n % 97 := by
      unfold wvAt
      refine sm_cg fun k _ => ?_
      rw [Int.mul_comm]
      refine cg_mul rfl ?_
      rw [cg_self]
      exact congrArg (· % 97) (sm_congr fun i _ => Int.mul_comm _ _)
    rw [a1, sm_bilW]
    rw [sm_cg (g := fun i => f i * if i = j then (n : Int) else 0) fun i hi => ?_, pick_sum hj]
    refine cg_mul rfl ?_
    rw [cross_sum h hi hj]
    split
    · have := (dv_iff.1 h).2.1; omega
    · rfl
  rw [uwAt, h1, cg_mul (cg_self _) rfl]
  exact ninv h _
/-- The rests are given again. -/
theorem unwave_back {n : Nat} (h : dv n = true) (f : Nat → Int) {j : Nat} (hj : j < n) : wvAt (rootN n) (uwAt f n) n j = f j % 97 := by
  have h0 : wvAt (rootN n) (uwAt f n) n j = sm (fun k => (pw (rootN n) (j * k % n) : Int) * sm (fun i => (pw (rinv n) (k * i % n) : Int) * f i) n) n * (pw n 95 : Int) % 97 := by
    rw [Int.mul_comm, ← sm_mul]
    unfold wvAt
    refine sm_cg fun k _ => ?_
    rw [Int.mul_comm (uwAt f n k), Nat.mul_comm k j, Int.mul_left_comm]
    refine cg_mul rfl ?_
    unfold uwAt
    rw [cg_self, Int.mul_comm]
    refine cg_mul rfl ?_
    unfold wvAt
    rw [cg_self]
    exact congrArg (· % 97) (sm_congr fun i _ => by rw [Int.mul_comm, Nat.mul_comm])
  rw [h0, sm_bilW (fun i k => (pw (rinv n) (k * i % n) : Int)), cg_mul (b := f j * n) ?_ rfl]
  · exact ninv h _
  · rw [sm_cg (g := fun i => f i * if i = j then (n : Int) else 0) fun i hi => ?_, pick_sum hj]
    refine cg_mul rfl ?_
    have e : sm (fun k => (pw (rinv n) (k * i % n) : Int) * (pw (rootN n) (j * k % n) : Int)) n = sm (fun k => (pw (rootN n) (j * k % n) : Int) * (pw (rinv n) (k * i % n) : Int)) n := sm_congr fun k _ => Int.mul_comm _ _
    rw [e, cross_sum h hj hi]
    by_cases e2 : i = j
    · rw [if_pos e2, if_pos e2.symm]; have := (dv_iff.1 h).2.1; omega
    · rw [if_neg e2, if_neg (Ne.symm e2)]; rfl
end Go.Proofs.YtmfffmipnbdpjaaGreatDoor
