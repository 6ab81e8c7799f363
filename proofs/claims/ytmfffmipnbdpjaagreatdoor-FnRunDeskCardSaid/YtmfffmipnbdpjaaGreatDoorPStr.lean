/-
  Numbers in decimal: what is read is what was written, for all numbers that a row may hold.
-/
import Derived.Test.YtmfffmipnbdpjaaGreatDoorStr2
import Derived.Lib.AtoiAll
import Derived.Lib.Split
namespace Go.Proofs.YtmfffmipnbdpjaaGreatDoor
open Go.RowKit

/-- The digits, in a form that can be computed. -/
def decF : Nat → Nat → List UInt8
  | 0, u => [UInt8.ofNat (48 + u % 10)]
  | k + 1, u => if u < 10 then [UInt8.ofNat (48 + u)] else decF k (u / 10) ++ [UInt8.ofNat (48 + u % 10)]
theorem decF_eq : ∀ (k u : Nat), u < 10 ^ (k + 1) → Lib.decDigits u = decF k u := by
  intro k
  induction k with
  | zero =>
    intro u h
    have h1 : u < 10 := by simpa using h
    rw [decDigits_lt h1, decF, Nat.mod_eq_of_lt h1]
  | succ k ih =>
    intro u h
    by_cases h1 : u < 10
    · rw [decDigits_lt h1, decF, if_pos h1]
    · rw [decDigits_ge h1, decF, if_neg h1, ih (u / 10) (by rw [Nat.pow_succ] at h; omega)]
theorem decB_F {u : Nat} (h : u < 1001) : decB u = bs (decF 3 u) := by rw [decB, decF_eq 3 u (by omega)]

/-- The number that the first i bytes spell, in the reference's way. -/
def dgs (t : ByteArray) : Nat → Option Nat
  | 0 => some 0
  | i + 1 => match dgs t i with
    | none => none
    | some n => if byt t i < 48 ∨ 57 < byt t i ∨ 10000 < n then none else some (10 * n + (byt t i - 48))
theorem dgs_no {t : ByteArray} {i n : Nat} (h : dgs t i = some n) (h2 : byt t i < 48 ∨ 57 < byt t i ∨ 10000 < n) : dgs t (i + 1) = none := by rw [dgs, h]; exact if_pos h2
theorem dgs_yes {t : ByteArray} {i n : Nat} (h : dgs t i = some n) (h2 : ¬ (byt t i < 48 ∨ 57 < byt t i ∨ 10000 < n)) : dgs t (i + 1) = some (10 * n + (byt t i - 48)) := by rw [dgs, h]; exact if_neg h2
theorem dgs_none {t : ByteArray} {i : Nat} (h : dgs t i = none) : ∀ j, i ≤ j → dgs t j = none := by
  intro j
  induction j with
  | zero => intro hj; obtain rfl : i = 0 := by omega
            exact h
  | succ j ih =>
    intro hj
    by_cases e : i = j + 1
    · subst e; exact h
    · rw [dgs, ih (by omega)]
def sgT (s : ByteArray) : ByteArray := if s.size ≠ 0 ∧ byt s 0 = 45 then s.extract 1 s.size else s
def sgN (s : ByteArray) : Int := if s.size ≠ 0 ∧ byt s 0 = 45 then -1 else 1
/-- What the reference reads: a number, and whether there is one. -/
def rdN (s : ByteArray) : Int × Bool := match dgs (sgT s) (sgT s).size with
  | none => (0, false)
  | some n => (sgN s * n, decide ((sgT s).size ≠ 0) && decide (numB (sgN s * n) = s))
theorem rdN_ok {s : ByteArray} (h : (rdN s).2 = true) : s = numB (rdN s).1 := by
  unfold rdN at h ⊢
  cases hd : dgs (sgT s) (sgT s).size with
  | none => rw [hd] at h; cases h
  | some n =>
    rw [hd] at h
    have h2 : decide (numB (sgN s * n) = s) = true := (Bool.and_eq_true _ _ ▸ h).2
    exact (of_decide_eq_true h2).symm

def chkF (u : Nat) : Bool :=
  decide (Lib.atoiAll (decF 3 u) = .ok (u : Int)) && (u == 0 || decide (Lib.atoiAll (45 :: decF 3 u) = .ok (-(u : Int)))) &&
    decide (dgs (bs (decF 3 u)) (decF 3 u).length = some u) && decide (byt (bs (decF 3 u)) 0 ≠ 45) && decide ((decF 3 u).length ≠ 0)
set_option maxRecDepth 100000 in
theorem chk_all : ∀ u, u < 1001 → chkF u = true := by decide +kernel
theorem chk {u : Nat} (h : u < 1001) : Lib.atoiAll (decF 3 u) = .ok (u : Int) ∧ (u ≠ 0 → Lib.atoiAll (45 :: decF 3 u) = .ok (-(u : Int))) ∧
    dgs (bs (decF 3 u)) (decF 3 u).length = some u ∧ byt (bs (decF 3 u)) 0 ≠ 45 ∧ (decF 3 u).length ≠ 0 := by
  have h1 := chk_all u h
  rw [chkF, Bool.and_eq_true, Bool.and_eq_true, Bool.and_eq_true, Bool.and_eq_true, Bool.or_eq_true] at h1
  obtain ⟨⟨⟨⟨a, b⟩, c⟩, d⟩, e⟩ := h1
  exact ⟨of_decide_eq_true a, fun hu => by rcases b with b | b; exact absurd (by simpa using b) hu; exact of_decide_eq_true b, of_decide_eq_true c, of_decide_eq_true d, of_decide_eq_true e⟩
theorem numB_cases {v : Int} (h1 : -1000 ≤ v) (h2 : v ≤ 1000) : (∃ u : Nat, u < 1001 ∧ v = (u : Int) ∧ numB v = bs (decF 3 u)) ∨ (∃ u : Nat, u < 1001 ∧ u ≠ 0 ∧ v = -(u : Int) ∧ numB v = bs (45 :: decF 3 u)) := by
  by_cases h : 0 ≤ v
  · obtain ⟨u, rfl⟩ := Int.eq_ofNat_of_zero_le h
    exact Or.inl ⟨u, by omega, rfl, by rw [← numB_nat, decB_F (by omega)]⟩
  · obtain ⟨u, hu⟩ := Int.eq_ofNat_of_zero_le (show 0 ≤ -v by omega)
    obtain rfl : v = -(u : Int) := by omega
    exact Or.inr ⟨u, by omega, by omega, rfl, by rw [← numB_neg (by omega), decB_F (by omega)]; exact bs_app [45] _⟩
/-- What the library reads of a number written. -/
theorem atoi_numB {v : Int} (h1 : -1000 ≤ v) (h2 : v ≤ 1000) : Lib.atoiAll (numB v).data.toList = .ok v := by
  rcases numB_cases h1 h2 with ⟨u, hu, rfl, e⟩ | ⟨u, hu, h0, rfl, e⟩
  · rw [e, bs_data]; exact (chk hu).1
  · rw [e, bs_data]; exact (chk hu).2.1 h0
theorem numB_inj {v u : Int} (h1 : -1000 ≤ v) (h2 : v ≤ 1000) (h3 : -1000 ≤ u) (h4 : u ≤ 1000) (e : numB v = numB u) : v = u := by
  have a := atoi_numB h1 h2
  have b := atoi_numB h3 h4
  rw [e, b] at a
  injection a with a
  exact a.symm
theorem cons_extract (a : UInt8) (l : List UInt8) : (bs (a :: l)).extract 1 (bs (a :: l)).size = bs l := by
  rw [bs_eq ((bs (a :: l)).extract 1 (bs (a :: l)).size), Lib.extract_to_end, bs_data]; rfl
theorem byt_cons (a : UInt8) (l : List UInt8) : byt (bs (a :: l)) 0 = a.toNat := by unfold byt; rw [bs_data]; rfl
/-- What the reference reads of a number written. -/
theorem rdN_numB {v : Int} (h1 : -1000 ≤ v) (h2 : v ≤ 1000) : rdN (numB v) = (v, true) := by
  rcases numB_cases h1 h2 with ⟨u, hu, rfl, e⟩ | ⟨u, hu, h0, rfl, e⟩
  · obtain ⟨_, _, c3, c4, c5⟩ := chk hu
    have t1 : sgT (numB (u : Int)) = bs (decF 3 u) := by rw [e, sgT, if_neg (by intro h; exact c4 h.2)]
    have t2 : sgN (numB (u : Int)) = 1 := by rw [e, sgN, if_neg (by intro h; exact c4 h.2)]
    rw [rdN, t1, t2, bs_size, c3]
    simp [c5]
  · obtain ⟨_, _, c3, c4, c5⟩ := chk hu
    have hc : (bs (45 :: decF 3 u)).size ≠ 0 ∧ byt (bs (45 :: decF 3 u)) 0 = 45 := ⟨by rw [bs_size, List.length_cons]; omega, byt_cons _ _⟩
    have t1 : sgT (numB (-(u : Int))) = bs (decF 3 u) := by rw [e, sgT, if_pos hc, cons_extract]
    have t2 : sgN (numB (-(u : Int))) = -1 := by rw [e, sgN, if_pos hc]
    rw [rdN, t1, t2, bs_size, c3]
    simp [c5]
end Go.Proofs.YtmfffmipnbdpjaaGreatDoor
