/-
  Plain facts on the number in the middle, by size, of an odd number of numbers.
-/
import Derived.Test.YtbnlfacggchoiaaNum
namespace Go.Proofs.Ytbnlfacggchoiaa
open Go.RowKit

/-- How many numbers are less than v; are v; are more. -/
def lessN (f : Nat → Int) (v : Int) (n : Nat) : Int := sm (fun k => if f k < v then 1 else 0) n
def sameN (f : Nat → Int) (v : Int) (n : Nat) : Int := sm (fun k => if f k = v then 1 else 0) n
def moreN (f : Nat → Int) (v : Int) (n : Nat) : Int := sm (fun k => if v < f k then 1 else 0) n
theorem sm_joinM (f : Nat → Int) (i k : Nat) : sm f (i + k) = sm f i + sm (fun t => f (i + t)) k := by
  induction k with
  | zero => simp [sm]
  | succ k ih => rw [← Nat.add_assoc, sm, sm, ih]; omega
theorem sm_01 {f : Nat → Int} {n : Nat} (h : ∀ i, i < n → 0 ≤ f i ∧ f i ≤ 1) : 0 ≤ sm f n ∧ sm f n ≤ n := by
  induction n with
  | zero => simp [sm]
  | succ k ih => rw [sm]; have := ih fun i hi => h i (by omega); have := h k (by omega); omega
theorem sm_all1 {f : Nat → Int} {n : Nat} (h : ∀ i, i < n → f i = 1) : sm f n = n := by
  induction n with
  | zero => rfl
  | succ k ih => rw [sm, ih fun i hi => h i (by omega), h k (by omega)]; omega
theorem if01 (p : Prop) [Decidable p] : (0 : Int) ≤ (if p then 1 else 0) ∧ (if p then (1 : Int) else 0) ≤ 1 := by split <;> omega

def totL (p : Int → Int) : List Int → Int
  | [] => 0
  | x :: xs => p x + totL p xs
theorem totL_perm (p : Int → Int) {xs ys : List Int} (h : xs.Perm ys) : totL p xs = totL p ys := by
  induction h with
  | nil => rfl
  | cons x _ ih => rw [totL, totL, ih]
  | swap x y l => rw [totL, totL, totL, totL]; omega
  | trans _ _ h1 h2 => rw [h1, h2]
theorem totL_sm (p : Int → Int) (xs : List Int) : sm (fun k => p (el xs k)) xs.length = totL p xs := by
  induction xs with
  | nil => rfl
  | cons x xs ih =>
    rw [List.length_cons, sm_shift, totL, ← ih]
    have e0 : el (x :: xs) 0 = x := by simp [el]
    have e1 : sm (fun i => p (el (x :: xs) (i + 1))) xs.length = sm (fun k => p (el xs k)) xs.length := sm_congr fun i _ => by simp [el]
    rw [e0, e1]
theorem sm_perm (p : Int → Int) {xs ys : List Int} (h : xs.Perm ys) {n : Nat} (hn : xs.length = n) : sm (fun k => p (el xs k)) n = sm (fun k => p (el ys k)) n := by
  have h1 := totL_sm p xs
  have h2 := totL_sm p ys
  rw [← h.length_eq] at h2
  rw [hn] at h1 h2
  rw [h1, h2, totL_perm p h]

/-- The number in the middle. -/
def midV (ys : List Int) (n : Nat) : Int := el (ys.mergeSort fun x y => decide (x ≤ y)) (n / 2)
theorem msort_perm (ys : List Int) : (ys.mergeSort fun x y => decide (x ≤ y)).Perm ys := List.mergeSort_perm ys _
theorem msort_le (ys : List Int) {i j : Nat} (hij : i ≤ j) (hj : j < ys.length) : el (ys.mergeSort fun x y => decide (x ≤ y)) i ≤ el (ys.mergeSort fun x y => decide (x ≤ y)) j := by
  have hp := List.pairwise_mergeSort (le := fun x y : Int => decide (x ≤ y)) (fun a b c h1 h2 => by simp at h1 h2 ⊢; omega) (fun a b => by simp; omega) ys
  have hl := (msort_perm ys).length_eq
  generalize ys.mergeSort (fun x y => decide (x ≤ y)) = zs at *
  by_cases e : i = j
  · rw [e]; exact Int.le_refl _
  · rw [el_mk (by omega), el_mk (by omega)]
    have := List.pairwise_iff_getElem.1 hp i j (by omega) (by omega) (by omega)
    simpa using this
theorem less_sort (ys : List Int) (v : Int) {n : Nat} (hn : ys.length = n) : lessN (el ys) v n = lessN (el (ys.mergeSort fun x y => decide (x ≤ y))) v n :=
  sm_perm (fun x => if x < v then 1 else 0) (msort_perm ys).symm hn
theorem same_sort (ys : List Int) (v : Int) {n : Nat} (hn : ys.length = n) : sameN (el ys) v n = sameN (el (ys.mergeSort fun x y => decide (x ≤ y))) v n :=
  sm_perm (fun x => if x = v then 1 else 0) (msort_perm ys).symm hn
/-- Only the number in the middle is in the middle. -/
theorem mid_iff {ys : List Int} {n h : Nat} (hn : ys.length = n) (hh : n = 2 * h + 1) (v : Int) : (lessN (el ys) v n ≤ h ∧ (h : Int) < lessN (el ys) v n + sameN (el ys) v n) ↔ v = midV ys n := by
  have hm : midV ys n = el (ys.mergeSort fun x y => decide (x ≤ y)) h := by rw [midV, show n / 2 = h by omega]
  rw [less_sort ys v hn, same_sort ys v hn, hm]
  have hle : ∀ i j, i ≤ j → j < n → el (ys.mergeSort fun x y => decide (x ≤ y)) i ≤ el (ys.mergeSort fun x y => decide (x ≤ y)) j := fun i j h1 h2 => msort_le ys h1 (by rw [hn]; exact h2)
  generalize el (ys.mergeSort fun x y => decide (x ≤ y)) = z at *
  have e1 : n = h + (h + 1) := by omega
  have e2 : n = (h + 1) + h := by omega
  have hA : lessN z v n + sameN z v n = sm (fun k => if z k ≤ v then 1 else 0) n := by
    rw [lessN, sameN, ← sm_plus]
    refine sm_congr fun k _ => ?_
    by_cases a : z k < v
    · rw [if_pos a, if_neg (by omega), if_pos (by omega)]; rfl
    · by_cases b : z k = v
      · rw [if_neg a, if_pos b, if_pos (by omega)]; rfl
      · rw [if_neg a, if_neg b, if_neg (by omega)]; rfl
  rw [hA]
  constructor
  · rintro ⟨h1, h2⟩
    rcases Int.lt_trichotomy v (z h) with hlt | heq | hgt
    · exfalso
      rw [e1, sm_joinM] at h2
      have a1 := (@sm_01 (fun k => if z k ≤ v then 1 else 0) h fun i _ => if01 _).2
      have a2 : sm (fun t => if z (h + t) ≤ v then (1 : Int) else 0) (h + 1) = 0 := sm_zeros fun i hi => by
        have := hle h (h + i) (by omega) (by omega)
        exact if_neg (by omega)
      omega
    · exact heq
    · exfalso
      rw [lessN, e2, sm_joinM] at h1
      have a1 : sm (fun k => if z k < v then (1 : Int) else 0) (h + 1) = ((h + 1 : Nat) : Int) := sm_all1 fun i hi => by
        have := hle i h (by omega) (by omega)
        exact if_pos (by omega)
      have a2 := (@sm_01 (fun t => if z (h + 1 + t) < v then (1 : Int) else 0) h fun i _ => if01 _).1
      omega
  · intro e
    subst e
    constructor
    · rw [lessN, e1, sm_joinM]
      have a1 := (@sm_01 (fun k => if z k < z h then (1 : Int) else 0) h fun i _ => if01 _).2
      have a2 : sm (fun t => if z (h + t) < z h then (1 : Int) else 0) (h + 1) = 0 := sm_zeros fun i hi => by
        have := hle h (h + i) (by omega) (by omega)
        exact if_neg (by omega)
      omega
    · rw [e2, sm_joinM]
      have a1 : sm (fun k => if z k ≤ z h then (1 : Int) else 0) (h + 1) = ((h + 1 : Nat) : Int) := sm_all1 fun i hi => by
        have := hle i h (by omega) (by omega)
        exact if_pos (by omega)
      have a2 := (@sm_01 (fun t => if z (h + 1 + t) ≤ z h then (1 : Int) else 0) h fun i _ => if01 _).1
      omega
theorem mid_in {ys : List Int} {n : Nat} (hn : ys.length = n) (h0 : 0 < n) : ∃ i, i < n ∧ el ys i = midV ys n := by
  have hl := (msort_perm ys).length_eq
  have h1 : midV ys n ∈ ys.mergeSort fun x y => decide (x ≤ y) := by
    rw [midV, el_mk (by omega)]; exact List.getElem_mem _
  have h2 := (msort_perm ys).mem_iff.1 h1
  obtain ⟨i, hi, e⟩ := List.mem_iff_getElem.1 h2
  exact ⟨i, by omega, by rw [el_mk hi, e]⟩
theorem more_bd {ys : List Int} {n h : Nat} (hn : ys.length = n) (hh : n = 2 * h + 1) : lessN (el ys) (midV ys n) n ≤ h ∧ moreN (el ys) (midV ys n) n ≤ h := by
  have h1 := (mid_iff hn hh (midV ys n)).2 rfl
  have h2 : lessN (el ys) (midV ys n) n + sameN (el ys) (midV ys n) n + moreN (el ys) (midV ys n) n = n := by
    rw [lessN, sameN, moreN, ← sm_plus, ← sm_plus]
    refine sm_all1 fun k _ => ?_
    rcases Int.lt_trichotomy (el ys k) (midV ys n) with a | a | a
    · rw [if_pos a, if_neg (by omega), if_neg (by omega)]; rfl
    · rw [if_neg (by omega), if_pos a, if_neg (by omega)]; rfl
    · rw [if_neg (by omega), if_neg (by omega), if_pos a]; rfl
  omega
theorem less_bd (f : Nat → Int) (v : Int) (n : Nat) : 0 ≤ lessN f v n ∧ lessN f v n ≤ n := sm_01 fun _ _ => if01 _
theorem same_bd (f : Nat → Int) (v : Int) (n : Nat) : 0 ≤ sameN f v n ∧ sameN f v n ≤ n := sm_01 fun _ _ => if01 _
theorem more_bd0 (f : Nat → Int) (v : Int) (n : Nat) : 0 ≤ moreN f v n ∧ moreN f v n ≤ n := sm_01 fun _ _ => if01 _
end Go.Proofs.Ytbnlfacggchoiaa
