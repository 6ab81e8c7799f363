/-
  Plain facts on mixed rows: the same both ways, their total, their transforms.
-/
import Derived.Test.YtccddkgpcgnaoaaMix
import Derived.Test.YtccddkgpcgnaoaaPSigns
import Derived.Test.YtccddkgpcgnaoaaPar2
namespace Go.Proofs.Ytccddkgpcgnaoaa
open Go.RowKit

/-- The sum of the products of all pairs that give r. -/
def mxAt (K : Nat) (f g : Nat → Int) (n r : Nat) : Int := sm (fun i => mrow K f g i n r) n
theorem mst_full (K : Nat) (f g : Nat → Int) (n r : Nat) : mst K f g n n 0 r = mxAt K f g n r := by simp [mst, mrow, sm, mxAt]
theorem opK_comm (K x y : Nat) : opK K x y = opK K y x := by unfold opK; rw [Nat.or_comm, Nat.and_comm, Nat.xor_comm]
theorem mx_comm (K : Nat) (f g : Nat → Int) (n r : Nat) : mxAt K f g n r = mxAt K g f n r := by
  unfold mxAt mrow
  rw [sm_swap]
  exact sm_congr fun i _ => sm_congr fun j _ => by rw [opK_comm, Int.mul_comm]
/-- Sums by a character. -/
theorem mx_char (K : Nat) (f g c : Nat → Int) {n : Nat} (hlt : ∀ x y, x < n → y < n → opK K x y < n) (hc : ∀ x y, x < n → y < n → c (opK K x y) = c x * c y) :
    sm (fun r => c r * mxAt K f g n r) n = sm (fun x => c x * f x) n * sm (fun y => c y * g y) n := by
  have h1 : sm (fun r => c r * mxAt K f g n r) n = sm (fun x => sm (fun r => c r * mrow K f g x n r) n) n := by
    rw [← sm_swap]; exact sm_congr fun r _ => (sm_mul _ _ _).symm
  have h2 : ∀ x, x < n → sm (fun r => c r * mrow K f g x n r) n = (c x * f x) * sm (fun y => c y * g y) n := fun x hx => by
    have a1 : sm (fun r => c r * mrow K f g x n r) n = sm (fun j => sm (fun r => c r * (if opK K x j = r then f x * g j else 0)) n) n := by
      rw [← sm_swap]; exact sm_congr fun r _ => (sm_mul _ _ _).symm
    rw [a1, ← sm_mul]
    refine sm_congr fun j hj => ?_
    rw [sm_single (hlt x j hx hj) fun i _ hi => by rw [if_neg (Ne.symm hi), Int.mul_zero], if_pos rfl, hc x j hx hj]; ac_rfl
  rw [h1, sm_congr h2]
  have h3 : sm (fun x => c x * f x * sm (fun y => c y * g y) n) n = sm (fun x => sm (fun y => c y * g y) n * (c x * f x)) n := sm_congr fun x _ => Int.mul_comm _ _
  rw [h3, sm_mul, Int.mul_comm]
theorem mx_total (K : Nat) (f g : Nat → Int) {n : Nat} (hlt : ∀ x y, x < n → y < n → opK K x y < n) : sm (mxAt K f g n) n = sm f n * sm g n := by
  have h := mx_char K f g (fun _ => 1) hlt fun _ _ _ _ => rfl
  have e : ∀ u : Nat → Int, sm (fun x => 1 * u x) n = sm u n := fun u => sm_congr fun x _ => Int.one_mul _
  rw [e, e, e] at h; exact h
theorem sgn_xor : ∀ k, k < 5 → ∀ x, x < p2 k → ∀ y, y < p2 k → ∀ z, z < p2 k → sgn (opK 3 x y) z = sgn x z * sgn y z := by decide +kernel
theorem sub_or : ∀ k, k < 5 → ∀ x, x < p2 k → ∀ y, y < p2 k → ∀ z, z < p2 k → subB (opK 1 x y) z = (subB x z && subB y z) := by decide +kernel
theorem mx_signs (f g : Nat → Int) {k z : Nat} (hk : k < 5) (hz : z < p2 k) : sgAt (mxAt 3 f g (p2 k)) (p2 k) z = sgAt f (p2 k) z * sgAt g (p2 k) z :=
  mx_char 3 f g (fun x => sgn x z) (fun _ _ hx hy => opK_lt hx hy) fun x y hx hy => sgn_xor k hk x hx y hy z hz
theorem part_char (f : Nat → Int) (n i : Nat) : partI f i n = sm (fun k => (if subB k i = true then 1 else 0) * f k) n := sm_congr fun k _ => by split <;> simp
theorem mx_below (f g : Nat → Int) {k z : Nat} (hk : k < 5) (hz : z < p2 k) : partI (mxAt 1 f g (p2 k)) z (p2 k) = partI f z (p2 k) * partI g z (p2 k) := by
  rw [part_char, part_char, part_char]
  refine mx_char 1 f g (fun x => if subB x z = true then 1 else 0) (fun _ _ hx hy => opK_lt hx hy) fun x y hx hy => ?_
  show (if subB (opK 1 x y) z = true then (1 : Int) else 0) = (if subB x z = true then 1 else 0) * (if subB y z = true then 1 else 0)
  rw [sub_or k hk x hx y hy z hz]
  cases subB x z <;> cases subB y z <;> rfl
end Go.Proofs.Ytccddkgpcgnaoaa
