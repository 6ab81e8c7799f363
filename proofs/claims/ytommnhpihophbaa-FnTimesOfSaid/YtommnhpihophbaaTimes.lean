/-
  Products of rows.
-/
import Derived.Test.YtommnhpihophbaaMk
import Derived.Test.YtommnhpihophbaaNum
import Derived.Test.YtommnhpihophbaaPar
namespace Go.Proofs.Ytommnhpihophbaa
open Go.RowKit

def cvt (f g : Nat → Int) (r i : Nat) : Int := if i ≤ r then f i * g (r - i) else 0
/-- The number at r of the product. -/
def cv (f g : Nat → Int) (n r : Nat) : Int := sm (cvt f g r) n
/-- The state while row i is worked on, k of the other one done. -/
def pst (f g : Nat → Int) (i k r : Nat) : Int := cv f g i r + (if i ≤ r ∧ r - i < k then f i * g (r - i) else 0)
def timesL (xs ys : List Int) (n m : Nat) : List Int := tab (cv (el xs) (el ys) n) (n + m - 1)

theorem pst_zero (f g : Nat → Int) (i r : Nat) : pst f g i 0 r = cv f g i r := by simp [pst]
theorem pst_end {f g : Nat → Int} {i m r : Nat} (hg : ∀ k, m ≤ k → g k = 0) : pst f g i m r = cv f g (i + 1) r := by
  rw [pst, cv, cv, sm, cvt]
  by_cases h : i ≤ r
  · by_cases h2 : r - i < m
    · rw [if_pos ⟨h, h2⟩, if_pos h]
    · rw [if_neg (by omega), if_pos h, hg _ (by omega)]; simp
  · rw [if_neg (by omega), if_neg h]
theorem pst_step (f g : Nat → Int) (i k r : Nat) : pst f g i (k + 1) r = if r = i + k then pst f g i k r + f i * g k else pst f g i k r := by
  rw [pst, pst]
  by_cases h : r = i + k
  · subst h
    rw [if_pos rfl, if_pos ⟨by omega, by omega⟩, if_neg (by omega), show i + k - i = k by omega]; omega
  · rw [if_neg h]
    by_cases h2 : i ≤ r ∧ r - i < k
    · rw [if_pos h2, if_pos (by omega)]
    · rw [if_neg h2, if_neg (by omega)]
theorem pst_set (f g : Nat → Int) {i k N : Nat} (h : i + k < N) : (tab (pst f g i k) N).set (i + k) (pst f g i k (i + k) + f i * g k) = tab (pst f g i (k + 1)) N := by
  rw [set_tab h]
  apply tab_congr
  intro r hr
  rw [pst_step]
  by_cases e : r = i + k
  · subst e; simp
  · simp [e]
theorem cvt_bd {f g : Nat → Int} {A B : Int} (hA : 0 ≤ A) (hB : 0 ≤ B) (hf : ∀ i, -A ≤ f i ∧ f i ≤ A) (hg : ∀ i, -B ≤ g i ∧ g i ≤ B) (r i : Nat) : -(A * B) ≤ cvt f g r i ∧ cvt f g r i ≤ A * B := by
  rw [cvt]
  have := Int.mul_nonneg hA hB
  split
  · exact mul_bd (hf _) (hg _)
  · omega
theorem cv_bd {f g : Nat → Int} (hf : ∀ i, -1000 ≤ f i ∧ f i ≤ 1000) (hg : ∀ i, -1000 ≤ g i ∧ g i ≤ 1000) (n r : Nat) : -(1000000 * (n : Int)) ≤ cv f g n r ∧ cv f g n r ≤ 1000000 * (n : Int) :=
  sm_bd fun i _ => cvt_bd (by omega) (by omega) hf hg r i
theorem pst_bd {f g : Nat → Int} (hf : ∀ i, -1000 ≤ f i ∧ f i ≤ 1000) (hg : ∀ i, -1000 ≤ g i ∧ g i ≤ 1000) (i k r : Nat) : -(1000000 * ((i : Int) + 1)) ≤ pst f g i k r ∧ pst f g i k r ≤ 1000000 * ((i : Int) + 1) := by
  have h1 := cv_bd hf hg i r
  have h2 := @mul_bd (f i) (g (r - i)) 1000 1000 (hf _) (hg _)
  rw [pst]; split <;> omega
theorem el_bd {xs : List Int} (h : ∀ i, i < xs.length → -1000 ≤ el xs i ∧ el xs i ≤ 1000) (i : Nat) : -1000 ≤ el xs i ∧ el xs i ≤ 1000 := by
  by_cases e : i < xs.length
  · exact h i e
  · rw [el_out (by omega)]; omega

theorem sm_join (f : Nat → Int) (i k : Nat) : sm f (i + k) = sm f i + sm (fun t => f (i + t)) k := by
  induction k with
  | zero => simp [sm]
  | succ j ih => rw [← Nat.add_assoc, sm, ih, sm]; omega
theorem sm_ext {f : Nat → Int} {n N : Nat} (h : n ≤ N) (hz : ∀ i, n ≤ i → f i = 0) : sm f N = sm f n := by
  induction N with
  | zero => obtain rfl : n = 0 := by omega
            rfl
  | succ k ih =>
    by_cases e : n = k + 1
    · rw [e]
    · rw [sm, ih (by omega), hz k (by omega)]; omega
theorem sm_rev (f : Nat → Int) (n : Nat) : sm f n = sm (fun i => f (n - 1 - i)) n := by
  induction n with
  | zero => rfl
  | succ k ih =>
    rw [sm_shift (fun i => f (k + 1 - 1 - i)), sm, ih]
    have e : sm (fun i => f (k + 1 - 1 - (i + 1))) k = sm (fun i => f (k - 1 - i)) k := sm_congr fun i _ => by rw [show k + 1 - 1 - (i + 1) = k - 1 - i by omega]
    rw [e, show k + 1 - 1 - 0 = k by omega]; omega
/-- The product's number at r, over all pairs that give it. -/
theorem cv_full {f g : Nat → Int} {n : Nat} (hf : ∀ i, n ≤ i → f i = 0) (r : Nat) : cv f g n r = sm (fun i => f i * g (r - i)) (r + 1) := by
  have h1 : sm (cvt f g r) (max n (r + 1)) = cv f g n r := sm_ext (by omega) fun i hi => by rw [cvt, hf i hi]; simp
  have h2 : sm (cvt f g r) (max n (r + 1)) = sm (cvt f g r) (r + 1) := sm_ext (by omega) fun i hi => by rw [cvt, if_neg (by omega)]
  rw [← h1, h2]
  exact sm_congr fun i hi => by rw [cvt, if_pos (by omega)]
theorem cv_comm {f g : Nat → Int} {n m : Nat} (hf : ∀ i, n ≤ i → f i = 0) (hg : ∀ i, m ≤ i → g i = 0) (r : Nat) : cv f g n r = cv g f m r := by
  rw [cv_full hf, cv_full hg, sm_rev]
  exact sm_congr fun i hi => by rw [show r + 1 - 1 - i = r - i by omega, show r - (r - i) = i by omega, Int.mul_comm]
theorem cv_total {f g : Nat → Int} {n m : Nat} (hn : 0 < n) (hm : 0 < m) (hg : ∀ i, m ≤ i → g i = 0) : sm (cv f g n) (n + m - 1) = sm f n * sm g m := by
  have h1 : sm (cv f g n) (n + m - 1) = sm (fun i => sm (fun r => cvt f g r i) (n + m - 1)) n := (sm_swap (fun i r => cvt f g r i) n (n + m - 1)).symm
  have h2 : ∀ i, i < n → sm (fun r => cvt f g r i) (n + m - 1) = f i * sm g m := by
    intro i hi
    have e : n + m - 1 = i + (n + m - 1 - i) := by omega
    rw [e, sm_join, sm_zeros (f := fun r => cvt f g r i) fun r hr => by rw [cvt, if_neg (by omega)]]
    have e2 : sm (fun t => cvt f g (i + t) i) (n + m - 1 - i) = sm (fun t => f i * g t) (n + m - 1 - i) := sm_congr fun t _ => by rw [cvt, if_pos (by omega), show i + t - i = t by omega]
    rw [e2, sm_mul, sm_ext (n := m) (by omega) hg]; omega
  rw [h1, sm_congr h2]
  have e3 : (fun i => f i * sm g m) = (fun i => sm g m * f i) := funext fun i => Int.mul_comm _ _
  rw [e3, sm_mul, Int.mul_comm]
/-- Turned round, the product of rows turned round. -/
theorem cv_turn {f g : Nat → Int} {n m r : Nat} (_hn : 0 < n) (_hm : 0 < m) (hr : r < n + m - 1) (hg : ∀ i, m ≤ i → g i = 0) :
    cv (fun i => if i < n then f (n - 1 - i) else 0) (fun i => if i < m then g (m - 1 - i) else 0) n r = cv f g n (n + m - 1 - 1 - r) := by
  rw [cv, cv, sm_rev]
  refine sm_congr fun i hi => ?_
  rw [cvt, cvt, if_pos (show n - 1 - i < n by omega), show n - 1 - (n - 1 - i) = i by omega]
  by_cases h1 : n - 1 - i ≤ r
  · rw [if_pos h1]
    by_cases h2 : r - (n - 1 - i) < m
    · rw [if_pos h2, if_pos (by omega), show n + m - 1 - 1 - r - i = m - 1 - (r - (n - 1 - i)) by omega]
    · rw [if_neg h2]
      by_cases h3 : i ≤ n + m - 1 - 1 - r
      · omega
      · rw [if_neg h3]; simp
  · rw [if_neg h1]
    by_cases h3 : i ≤ n + m - 1 - 1 - r
    · rw [if_pos h3, hg _ (by omega)]; simp
    · rw [if_neg h3]
end Go.Proofs.Ytommnhpihophbaa
