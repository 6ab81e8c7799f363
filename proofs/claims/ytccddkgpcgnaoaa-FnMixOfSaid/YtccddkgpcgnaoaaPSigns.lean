/-
  Plain facts on sums with signs: taken twice, their energy, rows turned round.
-/
import Derived.Test.YtccddkgpcgnaoaaUnsigns
import Derived.Test.YtccddkgpcgnaoaaNum
namespace Go.Proofs.Ytccddkgpcgnaoaa
open Go.RowKit

theorem sgn_comm (x y : Nat) : sgn x y = sgn y x := by unfold sgn; rw [Nat.and_comm]
theorem sgn_orth : ∀ k, k < 5 → ∀ x, x < p2 k → ∀ z, z < p2 k → sm (fun y => sgn x y * sgn y z) (p2 k) = if x = z then (p2 k : Int) else 0 := by decide +kernel
theorem sgn_turn : ∀ k, k < 5 → ∀ x, x < p2 k → ∀ y, y < p2 k → sgn (p2 k - 1 - x) y = sgn (p2 k - 1) y * sgn x y := by decide +kernel
theorem sgn_zero : ∀ k, k < 5 → ∀ x, x < p2 k → sgn x 0 = 1 := by decide +kernel
theorem sgn_sq (x y : Nat) : sgn x y * sgn x y = 1 := by rcases sgn_bd x y with e | e <;> rw [e] <;> rfl

theorem sm_bil (K : Nat → Nat → Int) (f g : Nat → Int) (n m : Nat) : sm (fun y => g y * sm (fun x => K x y * f x) n) m = sm (fun x => f x * sm (fun y => K x y * g y) m) n := by
  rw [sm_congr (g := fun y => sm (fun x => g y * (K x y * f x)) n) fun y _ => (sm_mul _ _ _).symm, sm_swap]
  exact sm_congr fun x _ => by rw [← sm_mul]; exact sm_congr fun y _ => by ac_rfl
theorem sm_back (f : Nat → Int) (n : Nat) : sm f n = sm (fun i => f (n - 1 - i)) n := by
  induction n with
  | zero => rfl
  | succ n ih =>
    rw [sm_shift (fun i => f (n + 1 - 1 - i))]
    rw [sm, ih]
    have e : sm (fun i => f (n - 1 - i)) n = sm (fun i => f (n + 1 - 1 - (i + 1))) n := sm_congr fun i _ => by rw [show n + 1 - 1 - (i + 1) = n - 1 - i by omega]
    rw [e]
    show _ + f n = f (n + 1 - 1 - 0) + _
    rw [show n + 1 - 1 - 0 = n by omega]; omega

theorem sg_twice (f : Nat → Int) {k z : Nat} (hk : k < 5) (hz : z < p2 k) : sgAt (sgAt f (p2 k)) (p2 k) z = (p2 k : Int) * f z := by
  have h1 : sgAt (sgAt f (p2 k)) (p2 k) z = sm (fun y => sgn y z * sm (fun x => sgn x y * f x) (p2 k)) (p2 k) := rfl
  rw [h1, sm_bil, sm_congr (g := fun x => if x = z then (p2 k : Int) * f x else 0) fun x hx => ?_]
  · rw [sm_single hz fun i _ hi => if_neg hi, if_pos rfl]
  · rw [sgn_orth k hk x hx z hz]
    split
    · rw [Int.mul_comm]
    · simp
theorem sg_energy (f : Nat → Int) {k : Nat} (hk : k < 5) : sm (fun y => sgAt f (p2 k) y * sgAt f (p2 k) y) (p2 k) = (p2 k : Int) * sm (fun x => f x * f x) (p2 k) := by
  have h1 : sm (fun y => sgAt f (p2 k) y * sgAt f (p2 k) y) (p2 k) = sm (fun y => sgAt f (p2 k) y * sm (fun x => sgn x y * f x) (p2 k)) (p2 k) := rfl
  rw [h1, sm_bil, ← sm_mul]
  refine sm_congr fun x hx => ?_
  have h2 : sm (fun y => sgn x y * sgAt f (p2 k) y) (p2 k) = sgAt (sgAt f (p2 k)) (p2 k) x := sm_congr fun y _ => by rw [sgn_comm]
  rw [h2, sg_twice f hk hx]; ac_rfl
theorem sg_turn (f : Nat → Int) {k y : Nat} (hk : k < 5) (hy : y < p2 k) : sgAt (fun i => f (p2 k - 1 - i)) (p2 k) y = sgn (p2 k - 1) y * sgAt f (p2 k) y := by
  have h1 : sgAt (fun i => f (p2 k - 1 - i)) (p2 k) y = sm (fun x => sgn x y * f (p2 k - 1 - x)) (p2 k) := rfl
  have h2 := sm_back (fun x => sgn x y * f (p2 k - 1 - x)) (p2 k)
  have h3 : sm (fun i => sgn (p2 k - 1 - i) y * f (p2 k - 1 - (p2 k - 1 - i))) (p2 k) = sm (fun x => sgn (p2 k - 1) y * (sgn x y * f x)) (p2 k) := by
    refine sm_congr fun x hx => ?_
    have e1 := sgn_turn k hk x hx y hy
    have e2 : p2 k - 1 - (p2 k - 1 - x) = x := by omega
    rw [e1, e2, Int.mul_assoc]
  rw [h1]
  exact h2.trans (h3.trans (sm_mul _ _ _))
theorem sg_first (f : Nat → Int) {k : Nat} (hk : k < 5) : sgAt f (p2 k) 0 = sm f (p2 k) := sm_congr fun x hx => by rw [sgn_zero k hk x hx, Int.one_mul]
theorem sg_congr {f g : Nat → Int} {n y : Nat} (h : ∀ i, i < n → f i = g i) : sgAt f n y = sgAt g n y := sm_congr fun i hi => by rw [h i hi]

theorem cube_p2 {xs : List Int} {n : Nat} (h : cube xs = true) (hl : xs.length = n) : ∃ k, k < 5 ∧ n = p2 k ∧ ∀ i, i < n → -1000 ≤ el xs i ∧ el xs i ≤ 1000 := by
  obtain ⟨hv, hp⟩ := cube_iff.1 h
  rw [hl, isP2_iff] at hp
  have hb : ∀ i, i < n → -1000 ≤ el xs i ∧ el xs i ≤ 1000 := fun i hi => valid_bd hv (by rw [hl]; exact hi)
  rcases hp with e | e | e | e | e
  · exact ⟨0, by omega, e, hb⟩
  · exact ⟨1, by omega, e, hb⟩
  · exact ⟨2, by omega, e, hb⟩
  · exact ⟨3, by omega, e, hb⟩
  · exact ⟨4, by omega, e, hb⟩
theorem isP2_p2 : ∀ k, k < 5 → isP2 (p2 k) = true := by decide
theorem cubeS_pos {L : List Int → Nat → List Int} {xs : List Int} {k : Nat} (hk : k = (if cube xs then L xs xs.length else []).length) (h0 : ¬ k = 0) : cube xs = true := by
  cases hv : cube xs with
  | true => rfl
  | false => rw [hv] at hk; exact absurd hk h0

/-- Signs of signs are the row, as many times as there are numbers. -/
theorem signs_twice {xs ys : List Int} {n : Nat} (hl : xs.length = n) (hy : ys = signsR xs) (hx : cube xs = true) (hv : valid ys = true) : signsR ys = tab (fun i => (n : Int) * el xs i) n := by
  obtain ⟨k, hk, hn, hb⟩ := cube_p2 hx hl
  have hys : ys = signsL xs n := by rw [hy, signsR, if_pos hx, hl]
  have hyl : ys.length = n := by rw [hys, signsL, tab_length]
  have hyc : cube ys = true := cube_iff.2 ⟨hv, by rw [hyl, hn]; exact isP2_p2 k hk⟩
  rw [signsR, if_pos hyc, hyl, signsL]
  refine tab_congr fun i hi => ?_
  rw [sg_congr (g := sgAt (el xs) n) fun j hj => by rw [hys, signsL, el_tab hj]]
  subst hn
  exact sg_twice _ hk hi
/-- The row that was asked for. -/
theorem unsigns_back {xs ys : List Int} {n : Nat} (hl : xs.length = n) (hy : ys = unsR xs) (hx : unsOk xs = true) : valid ys = true ∧ signsR ys = xs := by
  rw [unsOk, Bool.and_eq_true, divF_iff, hl] at hx
  obtain ⟨hc, hd⟩ := hx
  obtain ⟨k, hk, hn, hb⟩ := cube_p2 hc hl
  have hok : unsOk xs = true := by rw [unsOk, hc, hl, divF_iff.2 hd]; rfl
  have hys : ys = tab (unsAt (el xs) n) n := by rw [hy, unsR, if_pos hok, hl]
  have hyl : ys.length = n := by rw [hys, tab_length]
  have hp : 0 < n := by rw [hn]; exact p2_pos k
  have hmul : ∀ i, i < n → (n : Int) * unsAt (el xs) n i = sgAt (el xs) n i := fun i hi => by
    rw [unsAt, Int.mul_comm]; exact Int.ediv_mul_cancel (Int.dvd_of_emod_eq_zero (hd i hi))
  have hv : valid ys = true := valid_iff.2 ⟨by rw [hyl, hn]; exact p2_le (show k ≤ 4 by omega), fun i hi => by
    rw [hyl] at hi
    rw [hys, el_tab hi]
    have h1 := @sgs_bd (el xs) 1000 n i hb
    have h2 := hmul i hi
    rw [← h2] at h1
    generalize unsAt (el xs) n i = q at *
    have h3 : ((n : Int) * q).natAbs = n * q.natAbs := by rw [Int.natAbs_mul]; simp
    have h4 : n * q.natAbs ≤ n * 1000 := by omega
    have h5 := Nat.le_of_mul_le_mul_left h4 hp
    omega⟩
  have hyc : cube ys = true := cube_iff.2 ⟨hv, by rw [hyl, hn]; exact isP2_p2 k hk⟩
  refine ⟨hv, ?_⟩
  rw [signsR, if_pos hyc, hyl, signsL]
  apply el_ext
  · rw [tab_length, hl]
  · intro i hi
    rw [tab_length] at hi
    rw [el_tab hi, sg_congr (g := unsAt (el xs) n) fun j hj => by rw [hys, el_tab hj]]
    have h1 : (n : Int) * sgAt (unsAt (el xs) n) n i = sgAt (sgAt (el xs) n) n i := by
      rw [sgAt, ← sm_mul]
      exact sm_congr fun x hx => by rw [← hmul x hx]; ac_rfl
    have h2 : sgAt (sgAt (el xs) n) n i = (n : Int) * el xs i := by subst hn; exact sg_twice _ hk hi
    rw [h2] at h1
    exact Int.eq_of_mul_eq_mul_left (by omega) h1
end Go.Proofs.Ytccddkgpcgnaoaa
