/-
  The finite identities on sums over parts, printed by program (pargen.py), case by case.
-/
import Derived.Test.YtccddkgpcgnaoaaPar
namespace Go.Proofs.Ytccddkgpcgnaoaa
open Go.RowKit

/-- Whether the binary digits of k are among those of i. -/
def subB (k i : Nat) : Bool := k &&& i == k
def partI (f : Nat → Int) (i n : Nat) : Int := sm (fun k => if subB k i = true then f k else 0) n

theorem part_G0 (f : Nat → Int) : ∀ i, i < 1 → partI f i 1 = Gs 1 f 0 i
  | 0, _ => by
    have h1 : partI f 0 1 = (0 + f 0) := rfl
    have h2 : Gs 1 f 0 0 = f 0 := rfl
    rw [h1, h2]; omega
  | _ + 1, h => by omega
theorem part_G1 (f : Nat → Int) : ∀ i, i < 2 → partI f i 2 = Gs 1 f 1 i
  | 0, _ => by
    have h1 : partI f 0 2 = ((0 + f 0) + 0) := rfl
    have h2 : Gs 1 f 1 0 = f 0 := rfl
    rw [h1, h2]; omega
  | 1, _ => by
    have h1 : partI f 1 2 = ((0 + f 0) + f 1) := rfl
    have h2 : Gs 1 f 1 1 = (f 1 + 1 * f 0) := rfl
    rw [h1, h2]; omega
  | _ + 2, h => by omega
theorem part_G2 (f : Nat → Int) : ∀ i, i < 4 → partI f i 4 = Gs 1 f 2 i
  | 0, _ => by
    have h1 : partI f 0 4 = ((((0 + f 0) + 0) + 0) + 0) := rfl
    have h2 : Gs 1 f 2 0 = f 0 := rfl
    rw [h1, h2]; omega
  | 1, _ => by
    have h1 : partI f 1 4 = ((((0 + f 0) + f 1) + 0) + 0) := rfl
    have h2 : Gs 1 f 2 1 = (f 1 + 1 * f 0) := rfl
    rw [h1, h2]; omega
  | 2, _ => by
    have h1 : partI f 2 4 = ((((0 + f 0) + 0) + f 2) + 0) := rfl
    have h2 : Gs 1 f 2 2 = (f 2 + 1 * f 0) := rfl
    rw [h1, h2]; omega
  | 3, _ => by
    have h1 : partI f 3 4 = ((((0 + f 0) + f 1) + f 2) + f 3) := rfl
    have h2 : Gs 1 f 2 3 = ((f 3 + 1 * f 2) + 1 * (f 1 + 1 * f 0)) := rfl
    rw [h1, h2]; omega
  | _ + 4, h => by omega
theorem part_G3 (f : Nat → Int) : ∀ i, i < 8 → partI f i 8 = Gs 1 f 3 i
  | 0, _ => by
    have h1 : partI f 0 8 = ((((((((0 + f 0) + 0) + 0) + 0) + 0) + 0) + 0) + 0) := rfl
    have h2 : Gs 1 f 3 0 = f 0 := rfl
    rw [h1, h2]; omega
  | 1, _ => by
    have h1 : partI f 1 8 = ((((((((0 + f 0) + f 1) + 0) + 0) + 0) + 0) + 0) + 0) := rfl
    have h2 : Gs 1 f 3 1 = (f 1 + 1 * f 0) := rfl
    rw [h1, h2]; omega
  | 2, _ => by
    have h1 : partI f 2 8 = ((((((((0 + f 0) + 0) + f 2) + 0) + 0) + 0) + 0) + 0) := rfl
    have h2 : Gs 1 f 3 2 = (f 2 + 1 * f 0) := rfl
    rw [h1, h2]; omega
  | 3, _ => by
    have h1 : partI f 3 8 = ((((((((0 + f 0) + f 1) + f 2) + f 3) + 0) + 0) + 0) + 0) := rfl
    have h2 : Gs 1 f 3 3 = ((f 3 + 1 * f 2) + 1 * (f 1 + 1 * f 0)) := rfl
    rw [h1, h2]; omega
  | 4, _ => by
    have h1 : partI f 4 8 = ((((((((0 + f 0) + 0) + 0) + 0) + f 4) + 0) + 0) + 0) := rfl
    have h2 : Gs 1 f 3 4 = (f 4 + 1 * f 0) := rfl
    rw [h1, h2]; omega
  | 5, _ => by
    have h1 : partI f 5 8 = ((((((((0 + f 0) + f 1) + 0) + 0) + f 4) + f 5) + 0) + 0) := rfl
    have h2 : Gs 1 f 3 5 = ((f 5 + 1 * f 4) + 1 * (f 1 + 1 * f 0)) := rfl
    rw [h1, h2]; omega
  | 6, _ => by
    have h1 : partI f 6 8 = ((((((((0 + f 0) + 0) + f 2) + 0) + f 4) + 0) + f 6) + 0) := rfl
    have h2 : Gs 1 f 3 6 = ((f 6 + 1 * f 4) + 1 * (f 2 + 1 * f 0)) := rfl
    rw [h1, h2]; omega
  | 7, _ => by
    have h1 : partI f 7 8 = ((((((((0 + f 0) + f 1) + f 2) + f 3) + f 4) + f 5) + f 6) + f 7) := rfl
    have h2 : Gs 1 f 3 7 = (((f 7 + 1 * f 6) + 1 * (f 5 + 1 * f 4)) + 1 * ((f 3 + 1 * f 2) + 1 * (f 1 + 1 * f 0))) := rfl
    rw [h1, h2]; omega
  | _ + 8, h => by omega
theorem part_G4 (f : Nat → Int) : ∀ i, i < 16 → partI f i 16 = Gs 1 f 4 i
  | 0, _ => by
    have h1 : partI f 0 16 = ((((((((((((((((0 + f 0) + 0) + 0) + 0) + 0) + 0) + 0) + 0) + 0) + 0) + 0) + 0) + 0) + 0) + 0) + 0) := rfl
    have h2 : Gs 1 f 4 0 = f 0 := rfl
    rw [h1, h2]; omega
  | 1, _ => by
    have h1 : partI f 1 16 = ((((((((((((((((0 + f 0) + f 1) + 0) + 0) + 0) + 0) + 0) + 0) + 0) + 0) + 0) + 0) + 0) + 0) + 0) + 0) := rfl
    have h2 : Gs 1 f 4 1 = (f 1 + 1 * f 0) := rfl
    rw [h1, h2]; omega
  | 2, _ => by
    have h1 : partI f 2 16 = ((((((((((((((((0 + f 0) + 0) + f 2) + 0) + 0) + 0) + 0) + 0) + 0) + 0) + 0) + 0) + 0) + 0) + 0) + 0) := rfl
    have h2 : Gs 1 f 4 2 = (f 2 + 1 * f 0) := rfl
    rw [h1, h2]; omega
  | 3, _ => by
    have h1 : partI f 3 16 = ((((((((((((((((0 + f 0) + f 1) + f 2) + f 3) + 0) + 0) + 0) + 0) + 0) + 0) + 0) + 0) + 0) + 0) + 0) + 0) := rfl
    have h2 : Gs 1 f 4 3 = ((f 3 + 1 * f 2) + 1 * (f 1 + 1 * f 0)) := rfl
    rw [h1, h2]; omega
  | 4, _ => by
    have h1 : partI f 4 16 = ((((((((((((((((0 + f 0) + 0) + 0) + 0) + f 4) + 0) + 0) + 0) + 0) + 0) + 0) + 0) + 0) + 0) + 0) + 0) := rfl
    have h2 : Gs 1 f 4 4 = (f 4 + 1 * f 0) := rfl
    rw [h1, h2]; omega
  | 5, _ => by
    have h1 : partI f 5 16 = ((((((((((((((((0 + f 0) + f 1) + 0) + 0) + f 4) + f 5) + 0) + 0) + 0) + 0) + 0) + 0) + 0) + 0) + 0) + 0) := rfl
    have h2 : Gs 1 f 4 5 = ((f 5 + 1 * f 4) + 1 * (f 1 + 1 * f 0)) := rfl
    rw [h1, h2]; omega
  | 6, _ => by
    have h1 : partI f 6 16 = ((((((((((((((((0 + f 0) + 0) + f 2) + 0) + f 4) + 0) + f 6) + 0) + 0) + 0) + 0) + 0) + 0) + 0) + 0) + 0) := rfl
    have h2 : Gs 1 f 4 6 = ((f 6 + 1 * f 4) + 1 * (f 2 + 1 * f 0)) := rfl
    rw [h1, h2]; omega
  | 7, _ => by
    have h1 : partI f 7 16 = ((((((((((((((((0 + f 0) + f 1) + f 2) + f 3) + f 4) + f 5) + f 6) + f 7) + 0) + 0) + 0) + 0) + 0) + 0) + 0) + 0) := rfl
    have h2 : Gs 1 f 4 7 = (((f 7 + 1 * f 6) + 1 * (f 5 + 1 * f 4)) + 1 * ((f 3 + 1 * f 2) + 1 * (f 1 + 1 * f 0))) := rfl
    rw [h1, h2]; omega
  | 8, _ => by
    have h1 : partI f 8 16 = ((((((((((((((((0 + f 0) + 0) + 0) + 0) + 0) + 0) + 0) + 0) + f 8) + 0) + 0) + 0) + 0) + 0) + 0) + 0) := rfl
    have h2 : Gs 1 f 4 8 = (f 8 + 1 * f 0) := rfl
    rw [h1, h2]; omega
  | 9, _ => by
    have h1 : partI f 9 16 = ((((((((((((((((0 + f 0) + f 1) + 0) + 0) + 0) + 0) + 0) + 0) + f 8) + f 9) + 0) + 0) + 0) + 0) + 0) + 0) := rfl
    have h2 : Gs 1 f 4 9 = ((f 9 + 1 * f 8) + 1 * (f 1 + 1 * f 0)) := rfl
    rw [h1, h2]; omega
  | 10, _ => by
    have h1 : partI f 10 16 = ((((((((((((((((0 + f 0) + 0) + f 2) + 0) + 0) + 0) + 0) + 0) + f 8) + 0) + f 10) + 0) + 0) + 0) + 0) + 0) := rfl
    have h2 : Gs 1 f 4 10 = ((f 10 + 1 * f 8) + 1 * (f 2 + 1 * f 0)) := rfl
    rw [h1, h2]; omega
  | 11, _ => by
    have h1 : partI f 11 16 = ((((((((((((((((0 + f 0) + f 1) + f 2) + f 3) + 0) + 0) + 0) + 0) + f 8) + f 9) + f 10) + f 11) + 0) + 0) + 0) + 0) := rfl
    have h2 : Gs 1 f 4 11 = (((f 11 + 1 * f 10) + 1 * (f 9 + 1 * f 8)) + 1 * ((f 3 + 1 * f 2) + 1 * (f 1 + 1 * f 0))) := rfl
    rw [h1, h2]; omega
  | 12, _ => by
    have h1 : partI f 12 16 = ((((((((((((((((0 + f 0) + 0) + 0) + 0) + f 4) + 0) + 0) + 0) + f 8) + 0) + 0) + 0) + f 12) + 0) + 0) + 0) := rfl
    have h2 : Gs 1 f 4 12 = ((f 12 + 1 * f 8) + 1 * (f 4 + 1 * f 0)) := rfl
    rw [h1, h2]; omega
  | 13, _ => by
    have h1 : partI f 13 16 = ((((((((((((((((0 + f 0) + f 1) + 0) + 0) + f 4) + f 5) + 0) + 0) + f 8) + f 9) + 0) + 0) + f 12) + f 13) + 0) + 0) := rfl
    have h2 : Gs 1 f 4 13 = (((f 13 + 1 * f 12) + 1 * (f 9 + 1 * f 8)) + 1 * ((f 5 + 1 * f 4) + 1 * (f 1 + 1 * f 0))) := rfl
    rw [h1, h2]; omega
  | 14, _ => by
    have h1 : partI f 14 16 = ((((((((((((((((0 + f 0) + 0) + f 2) + 0) + f 4) + 0) + f 6) + 0) + f 8) + 0) + f 10) + 0) + f 12) + 0) + f 14) + 0) := rfl
    have h2 : Gs 1 f 4 14 = (((f 14 + 1 * f 12) + 1 * (f 10 + 1 * f 8)) + 1 * ((f 6 + 1 * f 4) + 1 * (f 2 + 1 * f 0))) := rfl
    rw [h1, h2]; omega
  | 15, _ => by
    have h1 : partI f 15 16 = ((((((((((((((((0 + f 0) + f 1) + f 2) + f 3) + f 4) + f 5) + f 6) + f 7) + f 8) + f 9) + f 10) + f 11) + f 12) + f 13) + f 14) + f 15) := rfl
    have h2 : Gs 1 f 4 15 = ((((f 15 + 1 * f 14) + 1 * (f 13 + 1 * f 12)) + 1 * ((f 11 + 1 * f 10) + 1 * (f 9 + 1 * f 8))) + 1 * (((f 7 + 1 * f 6) + 1 * (f 5 + 1 * f 4)) + 1 * ((f 3 + 1 * f 2) + 1 * (f 1 + 1 * f 0)))) := rfl
    rw [h1, h2]; omega
  | _ + 16, h => by omega

theorem inv_a0 (f g : Nat → Int) (h : ∀ i, i < 1 → g i = Gs (1) f 0 i) : ∀ i, i < 1 → Gs (-1) g 0 i = f i
  | 0, _ => by
    have g0 : g 0 = f 0 := (h 0 (by omega)).trans rfl
    have e : Gs (-1) g 0 0 = g 0 := rfl
    rw [e]; omega
  | _ + 1, h => by omega
theorem inv_a1 (f g : Nat → Int) (h : ∀ i, i < 2 → g i = Gs (1) f 1 i) : ∀ i, i < 2 → Gs (-1) g 1 i = f i
  | 0, _ => by
    have g0 : g 0 = f 0 := (h 0 (by omega)).trans rfl
    have e : Gs (-1) g 1 0 = g 0 := rfl
    rw [e]; omega
  | 1, _ => by
    have g0 : g 0 = f 0 := (h 0 (by omega)).trans rfl
    have g1 : g 1 = (f 1 + 1 * f 0) := (h 1 (by omega)).trans rfl
    have e : Gs (-1) g 1 1 = (g 1 + -1 * g 0) := rfl
    rw [e]; omega
  | _ + 2, h => by omega
theorem inv_a2 (f g : Nat → Int) (h : ∀ i, i < 4 → g i = Gs (1) f 2 i) : ∀ i, i < 4 → Gs (-1) g 2 i = f i
  | 0, _ => by
    have g0 : g 0 = f 0 := (h 0 (by omega)).trans rfl
    have e : Gs (-1) g 2 0 = g 0 := rfl
    rw [e]; omega
  | 1, _ => by
    have g0 : g 0 = f 0 := (h 0 (by omega)).trans rfl
    have g1 : g 1 = (f 1 + 1 * f 0) := (h 1 (by omega)).trans rfl
    have e : Gs (-1) g 2 1 = (g 1 + -1 * g 0) := rfl
    rw [e]; omega
  | 2, _ => by
    have g0 : g 0 = f 0 := (h 0 (by omega)).trans rfl
    have g2 : g 2 = (f 2 + 1 * f 0) := (h 2 (by omega)).trans rfl
    have e : Gs (-1) g 2 2 = (g 2 + -1 * g 0) := rfl
    rw [e]; omega
  | 3, _ => by
    have g0 : g 0 = f 0 := (h 0 (by omega)).trans rfl
    have g1 : g 1 = (f 1 + 1 * f 0) := (h 1 (by omega)).trans rfl
    have g2 : g 2 = (f 2 + 1 * f 0) := (h 2 (by omega)).trans rfl
    have g3 : g 3 = ((f 3 + 1 * f 2) + 1 * (f 1 + 1 * f 0)) := (h 3 (by omega)).trans rfl
    have e : Gs (-1) g 2 3 = ((g 3 + -1 * g 2) + -1 * (g 1 + -1 * g 0)) := rfl
    rw [e]; omega
  | _ + 4, h => by omega
theorem inv_a3 (f g : Nat → Int) (h : ∀ i, i < 8 → g i = Gs (1) f 3 i) : ∀ i, i < 8 → Gs (-1) g 3 i = f i
  | 0, _ => by
    have g0 : g 0 = f 0 := (h 0 (by omega)).trans rfl
    have e : Gs (-1) g 3 0 = g 0 := rfl
    rw [e]; omega
  | 1, _ => by
    have g0 : g 0 = f 0 := (h 0 (by omega)).trans rfl
    have g1 : g 1 = (f 1 + 1 * f 0) := (h 1 (by omega)).trans rfl
    have e : Gs (-1) g 3 1 = (g 1 + -1 * g 0) := rfl
    rw [e]; omega
  | 2, _ => by
    have g0 : g 0 = f 0 := (h 0 (by omega)).trans rfl
    have g2 : g 2 = (f 2 + 1 * f 0) := (h 2 (by omega)).trans rfl
    have e : Gs (-1) g 3 2 = (g 2 + -1 * g 0) := rfl
    rw [e]; omega
  | 3, _ => by
    have g0 : g 0 = f 0 := (h 0 (by omega)).trans rfl
    have g1 : g 1 = (f 1 + 1 * f 0) := (h 1 (by omega)).trans rfl
    have g2 : g 2 = (f 2 + 1 * f 0) := (h 2 (by omega)).trans rfl
    have g3 : g 3 = ((f 3 + 1 * f 2) + 1 * (f 1 + 1 * f 0)) := (h 3 (by omega)).trans rfl
    have e : Gs (-1) g 3 3 = ((g 3 + -1 * g 2) + -1 * (g 1 + -1 * g 0)) := rfl
    rw [e]; omega
  | 4, _ => by
    have g0 : g 0 = f 0 := (h 0 (by omega)).trans rfl
    have g4 : g 4 = (f 4 + 1 * f 0) := (h 4 (by omega)).trans rfl
    have e : Gs (-1) g 3 4 = (g 4 + -1 * g 0) := rfl
    rw [e]; omega
  | 5, _ => by
    have g0 : g 0 = f 0 := (h 0 (by omega)).trans rfl
    have g1 : g 1 = (f 1 + 1 * f 0) := (h 1 (by omega)).trans rfl
    have g4 : g 4 = (f 4 + 1 * f 0) := (h 4 (by omega)).trans rfl
    have g5 : g 5 = ((f 5 + 1 * f 4) + 1 * (f 1 + 1 * f 0)) := (h 5 (by omega)).trans rfl
    have e : Gs (-1) g 3 5 = ((g 5 + -1 * g 4) + -1 * (g 1 + -1 * g 0)) := rfl
    rw [e]; omega
  | 6, _ => by
    have g0 : g 0 = f 0 := (h 0 (by omega)).trans rfl
    have g2 : g 2 = (f 2 + 1 * f 0) := (h 2 (by omega)).trans rfl
    have g4 : g 4 = (f 4 + 1 * f 0) := (h 4 (by omega)).trans rfl
    have g6 : g 6 = ((f 6 + 1 * f 4) + 1 * (f 2 + 1 * f 0)) := (h 6 (by omega)).trans rfl
    have e : Gs (-1) g 3 6 = ((g 6 + -1 * g 4) + -1 * (g 2 + -1 * g 0)) := rfl
    rw [e]; omega
  | 7, _ => by
    have g0 : g 0 = f 0 := (h 0 (by omega)).trans rfl
    have g1 : g 1 = (f 1 + 1 * f 0) := (h 1 (by omega)).trans rfl
    have g2 : g 2 = (f 2 + 1 * f 0) := (h 2 (by omega)).trans rfl
    have g3 : g 3 = ((f 3 + 1 * f 2) + 1 * (f 1 + 1 * f 0)) := (h 3 (by omega)).trans rfl
    have g4 : g 4 = (f 4 + 1 * f 0) := (h 4 (by omega)).trans rfl
    have g5 : g 5 = ((f 5 + 1 * f 4) + 1 * (f 1 + 1 * f 0)) := (h 5 (by omega)).trans rfl
    have g6 : g 6 = ((f 6 + 1 * f 4) + 1 * (f 2 + 1 * f 0)) := (h 6 (by omega)).trans rfl
    have g7 : g 7 = (((f 7 + 1 * f 6) + 1 * (f 5 + 1 * f 4)) + 1 * ((f 3 + 1 * f 2) + 1 * (f 1 + 1 * f 0))) := (h 7 (by omega)).trans rfl
    have e : Gs (-1) g 3 7 = (((g 7 + -1 * g 6) + -1 * (g 5 + -1 * g 4)) + -1 * ((g 3 + -1 * g 2) + -1 * (g 1 + -1 * g 0))) := rfl
    rw [e]; omega
  | _ + 8, h => by omega
theorem inv_a4 (f g : Nat → Int) (h : ∀ i, i < 16 → g i = Gs (1) f 4 i) : ∀ i, i < 16 → Gs (-1) g 4 i = f i
  | 0, _ => by
    have g0 : g 0 = f 0 := (h 0 (by omega)).trans rfl
    have e : Gs (-1) g 4 0 = g 0 := rfl
    rw [e]; omega
  | 1, _ => by
    have g0 : g 0 = f 0 := (h 0 (by omega)).trans rfl
    have g1 : g 1 = (f 1 + 1 * f 0) := (h 1 (by omega)).trans rfl
    have e : Gs (-1) g 4 1 = (g 1 + -1 * g 0) := rfl
    rw [e]; omega
  | 2, _ => by
    have g0 : g 0 = f 0 := (h 0 (by omega)).trans rfl
    have g2 : g 2 = (f 2 + 1 * f 0) := (h 2 (by omega)).trans rfl
    have e : Gs (-1) g 4 2 = (g 2 + -1 * g 0) := rfl
    rw [e]; omega
  | 3, _ => by
    have g0 : g 0 = f 0 := (h 0 (by omega)).trans rfl
    have g1 : g 1 = (f 1 + 1 * f 0) := (h 1 (by omega)).trans rfl
    have g2 : g 2 = (f 2 + 1 * f 0) := (h 2 (by omega)).trans rfl
    have g3 : g 3 = ((f 3 + 1 * f 2) + 1 * (f 1 + 1 * f 0)) := (h 3 (by omega)).trans rfl
    have e : Gs (-1) g 4 3 = ((g 3 + -1 * g 2) + -1 * (g 1 + -1 * g 0)) := rfl
    rw [e]; omega
  | 4, _ => by
    have g0 : g 0 = f 0 := (h 0 (by omega)).trans rfl
    have g4 : g 4 = (f 4 + 1 * f 0) := (h 4 (by omega)).trans rfl
    have e : Gs (-1) g 4 4 = (g 4 + -1 * g 0) := rfl
    rw [e]; omega
  | 5, _ => by
    have g0 : g 0 = f 0 := (h 0 (by omega)).trans rfl
    have g1 : g 1 = (f 1 + 1 * f 0) := (h 1 (by omega)).trans rfl
    have g4 : g 4 = (f 4 + 1 * f 0) := (h 4 (by omega)).trans rfl
    have g5 : g 5 = ((f 5 + 1 * f 4) + 1 * (f 1 + 1 * f 0)) := (h 5 (by omega)).trans rfl
    have e : Gs (-1) g 4 5 = ((g 5 + -1 * g 4) + -1 * (g 1 + -1 * g 0)) := rfl
    rw [e]; omega
  | 6, _ => by
    have g0 : g 0 = f 0 := (h 0 (by omega)).trans rfl
    have g2 : g 2 = (f 2 + 1 * f 0) := (h 2 (by omega)).trans rfl
    have g4 : g 4 = (f 4 + 1 * f 0) := (h 4 (by omega)).trans rfl
    have g6 : g 6 = ((f 6 + 1 * f 4) + 1 * (f 2 + 1 * f 0)) := (h 6 (by omega)).trans rfl
    have e : Gs (-1) g 4 6 = ((g 6 + -1 * g 4) + -1 * (g 2 + -1 * g 0)) := rfl
    rw [e]; omega
  | 7, _ => by
    have g0 : g 0 = f 0 := (h 0 (by omega)).trans rfl
    have g1 : g 1 = (f 1 + 1 * f 0) := (h 1 (by omega)).trans rfl
    have g2 : g 2 = (f 2 + 1 * f 0) := (h 2 (by omega)).trans rfl
    have g3 : g 3 = ((f 3 + 1 * f 2) + 1 * (f 1 + 1 * f 0)) := (h 3 (by omega)).trans rfl
    have g4 : g 4 = (f 4 + 1 * f 0) := (h 4 (by omega)).trans rfl
    have g5 : g 5 = ((f 5 + 1 * f 4) + 1 * (f 1 + 1 * f 0)) := (h 5 (by omega)).trans rfl
    have g6 : g 6 = ((f 6 + 1 * f 4) + 1 * (f 2 + 1 * f 0)) := (h 6 (by omega)).trans rfl
    have g7 : g 7 = (((f 7 + 1 * f 6) + 1 * (f 5 + 1 * f 4)) + 1 * ((f 3 + 1 * f 2) + 1 * (f 1 + 1 * f 0))) := (h 7 (by omega)).trans rfl
    have e : Gs (-1) g 4 7 = (((g 7 + -1 * g 6) + -1 * (g 5 + -1 * g 4)) + -1 * ((g 3 + -1 * g 2) + -1 * (g 1 + -1 * g 0))) := rfl
    rw [e]; omega
  | 8, _ => by
    have g0 : g 0 = f 0 := (h 0 (by omega)).trans rfl
    have g8 : g 8 = (f 8 + 1 * f 0) := (h 8 (by omega)).trans rfl
    have e : Gs (-1) g 4 8 = (g 8 + -1 * g 0) := rfl
    rw [e]; omega
  | 9, _ => by
    have g0 : g 0 = f 0 := (h 0 (by omega)).trans rfl
    have g1 : g 1 = (f 1 + 1 * f 0) := (h 1 (by omega)).trans rfl
    have g8 : g 8 = (f 8 + 1 * f 0) := (h 8 (by omega)).trans rfl
    have g9 : g 9 = ((f 9 + 1 * f 8) + 1 * (f 1 + 1 * f 0)) := (h 9 (by omega)).trans rfl
    have e : Gs (-1) g 4 9 = ((g 9 + -1 * g 8) + -1 * (g 1 + -1 * g 0)) := rfl
    rw [e]; omega
  | 10, _ => by
    have g0 : g 0 = f 0 := (h 0 (by omega)).trans rfl
    have g2 : g 2 = (f 2 + 1 * f 0) := (h 2 (by omega)).trans rfl
    have g8 : g 8 = (f 8 + 1 * f 0) := (h 8 (by omega)).trans rfl
    have g10 : g 10 = ((f 10 + 1 * f 8) + 1 * (f 2 + 1 * f 0)) := (h 10 (by omega)).trans rfl
    have e : Gs (-1) g 4 10 = ((g 10 + -1 * g 8) + -1 * (g 2 + -1 * g 0)) := rfl
    rw [e]; omega
  | 11, _ => by
    have g0 : g 0 = f 0 := (h 0 (by omega)).trans rfl
    have g1 : g 1 = (f 1 + 1 * f 0) := (h 1 (by omega)).trans rfl
    have g2 : g 2 = (f 2 + 1 * f 0) := (h 2 (by omega)).trans rfl
    have g3 : g 3 = ((f 3 + 1 * f 2) + 1 * (f 1 + 1 * f 0)) := (h 3 (by omega)).trans rfl
    have g8 : g 8 = (f 8 + 1 * f 0) := (h 8 (by omega)).trans rfl
    have g9 : g 9 = ((f 9 + 1 * f 8) + 1 * (f 1 + 1 * f 0)) := (h 9 (by omega)).trans rfl
    have g10 : g 10 = ((f 10 + 1 * f 8) + 1 * (f 2 + 1 * f 0)) := (h 10 (by omega)).trans rfl
    have g11 : g 11 = (((f 11 + 1 * f 10) + 1 * (f 9 + 1 * f 8)) + 1 * ((f 3 + 1 * f 2) + 1 * (f 1 + 1 * f 0))) := (h 11 (by omega)).trans rfl
    have e : Gs (-1) g 4 11 = (((g 11 + -1 * g 10) + -1 * (g 9 + -1 * g 8)) + -1 * ((g 3 + -1 * g 2) + -1 * (g 1 + -1 * g 0))) := rfl
    rw [e]; omega
  | 12, _ => by
    have g0 : g 0 = f 0 := (h 0 (by omega)).trans rfl
    have g4 : g 4 = (f 4 + 1 * f 0) := (h 4 (by omega)).trans rfl
    have g8 : g 8 = (f 8 + 1 * f 0) := (h 8 (by omega)).trans rfl
    have g12 : g 12 = ((f 12 + 1 * f 8) + 1 * (f 4 + 1 * f 0)) := (h 12 (by omega)).trans rfl
    have e : Gs (-1) g 4 12 = ((g 12 + -1 * g 8) + -1 * (g 4 + -1 * g 0)) := rfl
    rw [e]; omega
  | 13, _ => by
    have g0 : g 0 = f 0 := (h 0 (by omega)).trans rfl
    have g1 : g 1 = (f 1 + 1 * f 0) := (h 1 (by omega)).trans rfl
    have g4 : g 4 = (f 4 + 1 * f 0) := (h 4 (by omega)).trans rfl
    have g5 : g 5 = ((f 5 + 1 * f 4) + 1 * (f 1 + 1 * f 0)) := (h 5 (by omega)).trans rfl
    have g8 : g 8 = (f 8 + 1 * f 0) := (h 8 (by omega)).trans rfl
    have g9 : g 9 = ((f 9 + 1 * f 8) + 1 * (f 1 + 1 * f 0)) := (h 9 (by omega)).trans rfl
    have g12 : g 12 = ((f 12 + 1 * f 8) + 1 * (f 4 + 1 * f 0)) := (h 12 (by omega)).trans rfl
    have g13 : g 13 = (((f 13 + 1 * f 12) + 1 * (f 9 + 1 * f 8)) + 1 * ((f 5 + 1 * f 4) + 1 * (f 1 + 1 * f 0))) := (h 13 (by omega)).trans rfl
    have e : Gs (-1) g 4 13 = (((g 13 + -1 * g 12) + -1 * (g 9 + -1 * g 8)) + -1 * ((g 5 + -1 * g 4) + -1 * (g 1 + -1 * g 0))) := rfl
    rw [e]; omega
  | 14, _ => by
    have g0 : g 0 = f 0 := (h 0 (by omega)).trans rfl
    have g2 : g 2 = (f 2 + 1 * f 0) := (h 2 (by omega)).trans rfl
    have g4 : g 4 = (f 4 + 1 * f 0) := (h 4 (by omega)).trans rfl
    have g6 : g 6 = ((f 6 + 1 * f 4) + 1 * (f 2 + 1 * f 0)) := (h 6 (by omega)).trans rfl
    have g8 : g 8 = (f 8 + 1 * f 0) := (h 8 (by omega)).trans rfl
    have g10 : g 10 = ((f 10 + 1 * f 8) + 1 * (f 2 + 1 * f 0)) := (h 10 (by omega)).trans rfl
    have g12 : g 12 = ((f 12 + 1 * f 8) + 1 * (f 4 + 1 * f 0)) := (h 12 (by omega)).trans rfl
    have g14 : g 14 = (((f 14 + 1 * f 12) + 1 * (f 10 + 1 * f 8)) + 1 * ((f 6 + 1 * f 4) + 1 * (f 2 + 1 * f 0))) := (h 14 (by omega)).trans rfl
    have e : Gs (-1) g 4 14 = (((g 14 + -1 * g 12) + -1 * (g 10 + -1 * g 8)) + -1 * ((g 6 + -1 * g 4) + -1 * (g 2 + -1 * g 0))) := rfl
    rw [e]; omega
  | 15, _ => by
    have g0 : g 0 = f 0 := (h 0 (by omega)).trans rfl
    have g1 : g 1 = (f 1 + 1 * f 0) := (h 1 (by omega)).trans rfl
    have g2 : g 2 = (f 2 + 1 * f 0) := (h 2 (by omega)).trans rfl
    have g3 : g 3 = ((f 3 + 1 * f 2) + 1 * (f 1 + 1 * f 0)) := (h 3 (by omega)).trans rfl
    have g4 : g 4 = (f 4 + 1 * f 0) := (h 4 (by omega)).trans rfl
    have g5 : g 5 = ((f 5 + 1 * f 4) + 1 * (f 1 + 1 * f 0)) := (h 5 (by omega)).trans rfl
    have g6 : g 6 = ((f 6 + 1 * f 4) + 1 * (f 2 + 1 * f 0)) := (h 6 (by omega)).trans rfl
    have g7 : g 7 = (((f 7 + 1 * f 6) + 1 * (f 5 + 1 * f 4)) + 1 * ((f 3 + 1 * f 2) + 1 * (f 1 + 1 * f 0))) := (h 7 (by omega)).trans rfl
    have g8 : g 8 = (f 8 + 1 * f 0) := (h 8 (by omega)).trans rfl
    have g9 : g 9 = ((f 9 + 1 * f 8) + 1 * (f 1 + 1 * f 0)) := (h 9 (by omega)).trans rfl
    have g10 : g 10 = ((f 10 + 1 * f 8) + 1 * (f 2 + 1 * f 0)) := (h 10 (by omega)).trans rfl
    have g11 : g 11 = (((f 11 + 1 * f 10) + 1 * (f 9 + 1 * f 8)) + 1 * ((f 3 + 1 * f 2) + 1 * (f 1 + 1 * f 0))) := (h 11 (by omega)).trans rfl
    have g12 : g 12 = ((f 12 + 1 * f 8) + 1 * (f 4 + 1 * f 0)) := (h 12 (by omega)).trans rfl
    have g13 : g 13 = (((f 13 + 1 * f 12) + 1 * (f 9 + 1 * f 8)) + 1 * ((f 5 + 1 * f 4) + 1 * (f 1 + 1 * f 0))) := (h 13 (by omega)).trans rfl
    have g14 : g 14 = (((f 14 + 1 * f 12) + 1 * (f 10 + 1 * f 8)) + 1 * ((f 6 + 1 * f 4) + 1 * (f 2 + 1 * f 0))) := (h 14 (by omega)).trans rfl
    have g15 : g 15 = ((((f 15 + 1 * f 14) + 1 * (f 13 + 1 * f 12)) + 1 * ((f 11 + 1 * f 10) + 1 * (f 9 + 1 * f 8))) + 1 * (((f 7 + 1 * f 6) + 1 * (f 5 + 1 * f 4)) + 1 * ((f 3 + 1 * f 2) + 1 * (f 1 + 1 * f 0)))) := (h 15 (by omega)).trans rfl
    have e : Gs (-1) g 4 15 = ((((g 15 + -1 * g 14) + -1 * (g 13 + -1 * g 12)) + -1 * ((g 11 + -1 * g 10) + -1 * (g 9 + -1 * g 8))) + -1 * (((g 7 + -1 * g 6) + -1 * (g 5 + -1 * g 4)) + -1 * ((g 3 + -1 * g 2) + -1 * (g 1 + -1 * g 0)))) := rfl
    rw [e]; omega
  | _ + 16, h => by omega

theorem inv_b0 (f g : Nat → Int) (h : ∀ i, i < 1 → g i = Gs (-1) f 0 i) : ∀ i, i < 1 → Gs (1) g 0 i = f i
  | 0, _ => by
    have g0 : g 0 = f 0 := (h 0 (by omega)).trans rfl
    have e : Gs (1) g 0 0 = g 0 := rfl
    rw [e]; omega
  | _ + 1, h => by omega
theorem inv_b1 (f g : Nat → Int) (h : ∀ i, i < 2 → g i = Gs (-1) f 1 i) : ∀ i, i < 2 → Gs (1) g 1 i = f i
  | 0, _ => by
    have g0 : g 0 = f 0 := (h 0 (by omega)).trans rfl
    have e : Gs (1) g 1 0 = g 0 := rfl
    rw [e]; omega
  | 1, _ => by
    have g0 : g 0 = f 0 := (h 0 (by omega)).trans rfl
    have g1 : g 1 = (f 1 + -1 * f 0) := (h 1 (by omega)).trans rfl
    have e : Gs (1) g 1 1 = (g 1 + 1 * g 0) := rfl
    rw [e]; omega
  | _ + 2, h => by omega
theorem inv_b2 (f g : Nat → Int) (h : ∀ i, i < 4 → g i = Gs (-1) f 2 i) : ∀ i, i < 4 → Gs (1) g 2 i = f i
  | 0, _ => by
    have g0 : g 0 = f 0 := (h 0 (by omega)).trans rfl
    have e : Gs (1) g 2 0 = g 0 := rfl
    rw [e]; omega
  | 1, _ => by
    have g0 : g 0 = f 0 := (h 0 (by omega)).trans rfl
    have g1 : g 1 = (f 1 + -1 * f 0) := (h 1 (by omega)).trans rfl
    have e : Gs (1) g 2 1 = (g 1 + 1 * g 0) := rfl
    rw [e]; omega
  | 2, _ => by
    have g0 : g 0 = f 0 := (h 0 (by omega)).trans rfl
    have g2 : g 2 = (f 2 + -1 * f 0) := (h 2 (by omega)).trans rfl
    have e : Gs (1) g 2 2 = (g 2 + 1 * g 0) := rfl
    rw [e]; omega
  | 3, _ => by
    have g0 : g 0 = f 0 := (h 0 (by omega)).trans rfl
    have g1 : g 1 = (f 1 + -1 * f 0) := (h 1 (by omega)).trans rfl
    have g2 : g 2 = (f 2 + -1 * f 0) := (h 2 (by omega)).trans rfl
    have g3 : g 3 = ((f 3 + -1 * f 2) + -1 * (f 1 + -1 * f 0)) := (h 3 (by omega)).trans rfl
    have e : Gs (1) g 2 3 = ((g 3 + 1 * g 2) + 1 * (g 1 + 1 * g 0)) := rfl
    rw [e]; omega
  | _ + 4, h => by omega
theorem inv_b3 (f g : Nat → Int) (h : ∀ i, i < 8 → g i = Gs (-1) f 3 i) : ∀ i, i < 8 → Gs (1) g 3 i = f i
  | 0, _ => by
    have g0 : g 0 = f 0 := (h 0 (by omega)).trans rfl
    have e : Gs (1) g 3 0 = g 0 := rfl
    rw [e]; omega
  | 1, _ => by
    have g0 : g 0 = f 0 := (h 0 (by omega)).trans rfl
    have g1 : g 1 = (f 1 + -1 * f 0) := (h 1 (by omega)).trans rfl
    have e : Gs (1) g 3 1 = (g 1 + 1 * g 0) := rfl
    rw [e]; omega
  | 2, _ => by
    have g0 : g 0 = f 0 := (h 0 (by omega)).trans rfl
    have g2 : g 2 = (f 2 + -1 * f 0) := (h 2 (by omega)).trans rfl
    have e : Gs (1) g 3 2 = (g 2 + 1 * g 0) := rfl
    rw [e]; omega
  | 3, _ => by
    have g0 : g 0 = f 0 := (h 0 (by omega)).trans rfl
    have g1 : g 1 = (f 1 + -1 * f 0) := (h 1 (by omega)).trans rfl
    have g2 : g 2 = (f 2 + -1 * f 0) := (h 2 (by omega)).trans rfl
    have g3 : g 3 = ((f 3 + -1 * f 2) + -1 * (f 1 + -1 * f 0)) := (h 3 (by omega)).trans rfl
    have e : Gs (1) g 3 3 = ((g 3 + 1 * g 2) + 1 * (g 1 + 1 * g 0)) := rfl
    rw [e]; omega
  | 4, _ => by
    have g0 : g 0 = f 0 := (h 0 (by omega)).trans rfl
    have g4 : g 4 = (f 4 + -1 * f 0) := (h 4 (by omega)).trans rfl
    have e : Gs (1) g 3 4 = (g 4 + 1 * g 0) := rfl
    rw [e]; omega
  | 5, _ => by
    have g0 : g 0 = f 0 := (h 0 (by omega)).trans rfl
    have g1 : g 1 = (f 1 + -1 * f 0) := (h 1 (by omega)).trans rfl
    have g4 : g 4 = (f 4 + -1 * f 0) := (h 4 (by omega)).trans rfl
    have g5 : g 5 = ((f 5 + -1 * f 4) + -1 * (f 1 + -1 * f 0)) := (h 5 (by omega)).trans rfl
    have e : Gs (1) g 3 5 = ((g 5 + 1 * g 4) + 1 * (g 1 + 1 * g 0)) := rfl
    rw [e]; omega
  | 6, _ => by
    have g0 : g 0 = f 0 := (h 0 (by omega)).trans rfl
    have g2 : g 2 = (f 2 + -1 * f 0) := (h 2 (by omega)).trans rfl
    have g4 : g 4 = (f 4 + -1 * f 0) := (h 4 (by omega)).trans rfl
    have g6 : g 6 = ((f 6 + -1 * f 4) + -1 * (f 2 + -1 * f 0)) := (h 6 (by omega)).trans rfl
    have e : Gs (1) g 3 6 = ((g 6 + 1 * g 4) + 1 * (g 2 + 1 * g 0)) := rfl
    rw [e]; omega
  | 7, _ => by
    have g0 : g 0 = f 0 := (h 0 (by omega)).trans rfl
    have g1 : g 1 = (f 1 + -1 * f 0) := (h 1 (by omega)).trans rfl
    have g2 : g 2 = (f 2 + -1 * f 0) := (h 2 (by omega)).trans rfl
    have g3 : g 3 = ((f 3 + -1 * f 2) + -1 * (f 1 + -1 * f 0)) := (h 3 (by omega)).trans rfl
    have g4 : g 4 = (f 4 + -1 * f 0) := (h 4 (by omega)).trans rfl
    have g5 : g 5 = ((f 5 + -1 * f 4) + -1 * (f 1 + -1 * f 0)) := (h 5 (by omega)).trans rfl
    have g6 : g 6 = ((f 6 + -1 * f 4) + -1 * (f 2 + -1 * f 0)) := (h 6 (by omega)).trans rfl
    have g7 : g 7 = (((f 7 + -1 * f 6) + -1 * (f 5 + -1 * f 4)) + -1 * ((f 3 + -1 * f 2) + -1 * (f 1 + -1 * f 0))) := (h 7 (by omega)).trans rfl
    have e : Gs (1) g 3 7 = (((g 7 + 1 * g 6) + 1 * (g 5 + 1 * g 4)) + 1 * ((g 3 + 1 * g 2) + 1 * (g 1 + 1 * g 0))) := rfl
    rw [e]; omega
  | _ + 8, h => by omega
theorem inv_b4 (f g : Nat → Int) (h : ∀ i, i < 16 → g i = Gs (-1) f 4 i) : ∀ i, i < 16 → Gs (1) g 4 i = f i
  | 0, _ => by
    have g0 : g 0 = f 0 := (h 0 (by omega)).trans rfl
    have e : Gs (1) g 4 0 = g 0 := rfl
    rw [e]; omega
  | 1, _ => by
    have g0 : g 0 = f 0 := (h 0 (by omega)).trans rfl
    have g1 : g 1 = (f 1 + -1 * f 0) := (h 1 (by omega)).trans rfl
    have e : Gs (1) g 4 1 = (g 1 + 1 * g 0) := rfl
    rw [e]; omega
  | 2, _ => by
    have g0 : g 0 = f 0 := (h 0 (by omega)).trans rfl
    have g2 : g 2 = (f 2 + -1 * f 0) := (h 2 (by omega)).trans rfl
    have e : Gs (1) g 4 2 = (g 2 + 1 * g 0) := rfl
    rw [e]; omega
  | 3, _ => by
    have g0 : g 0 = f 0 := (h 0 (by omega)).trans rfl
    have g1 : g 1 = (f 1 + -1 * f 0) := (h 1 (by omega)).trans rfl
    have g2 : g 2 = (f 2 + -1 * f 0) := (h 2 (by omega)).trans rfl
    have g3 : g 3 = ((f 3 + -1 * f 2) + -1 * (f 1 + -1 * f 0)) := (h 3 (by omega)).trans rfl
    have e : Gs (1) g 4 3 = ((g 3 + 1 * g 2) + 1 * (g 1 + 1 * g 0)) := rfl
    rw [e]; omega
  | 4, _ => by
    have g0 : g 0 = f 0 := (h 0 (by omega)).trans rfl
    have g4 : g 4 = (f 4 + -1 * f 0) := (h 4 (by omega)).trans rfl
    have e : Gs (1) g 4 4 = (g 4 + 1 * g 0) := rfl
    rw [e]; omega
  | 5, _ => by
    have g0 : g 0 = f 0 := (h 0 (by omega)).trans rfl
    have g1 : g 1 = (f 1 + -1 * f 0) := (h 1 (by omega)).trans rfl
    have g4 : g 4 = (f 4 + -1 * f 0) := (h 4 (by omega)).trans rfl
    have g5 : g 5 = ((f 5 + -1 * f 4) + -1 * (f 1 + -1 * f 0)) := (h 5 (by omega)).trans rfl
    have e : Gs (1) g 4 5 = ((g 5 + 1 * g 4) + 1 * (g 1 + 1 * g 0)) := rfl
    rw [e]; omega
  | 6, _ => by
    have g0 : g 0 = f 0 := (h 0 (by omega)).trans rfl
    have g2 : g 2 = (f 2 + -1 * f 0) := (h 2 (by omega)).trans rfl
    have g4 : g 4 = (f 4 + -1 * f 0) := (h 4 (by omega)).trans rfl
    have g6 : g 6 = ((f 6 + -1 * f 4) + -1 * (f 2 + -1 * f 0)) := (h 6 (by omega)).trans rfl
    have e : Gs (1) g 4 6 = ((g 6 + 1 * g 4) + 1 * (g 2 + 1 * g 0)) := rfl
    rw [e]; omega
  | 7, _ => by
    have g0 : g 0 = f 0 := (h 0 (by omega)).trans rfl
    have g1 : g 1 = (f 1 + -1 * f 0) := (h 1 (by omega)).trans rfl
    have g2 : g 2 = (f 2 + -1 * f 0) := (h 2 (by omega)).trans rfl
    have g3 : g 3 = ((f 3 + -1 * f 2) + -1 * (f 1 + -1 * f 0)) := (h 3 (by omega)).trans rfl
    have g4 : g 4 = (f 4 + -1 * f 0) := (h 4 (by omega)).trans rfl
    have g5 : g 5 = ((f 5 + -1 * f 4) + -1 * (f 1 + -1 * f 0)) := (h 5 (by omega)).trans rfl
    have g6 : g 6 = ((f 6 + -1 * f 4) + -1 * (f 2 + -1 * f 0)) := (h 6 (by omega)).trans rfl
    have g7 : g 7 = (((f 7 + -1 * f 6) + -1 * (f 5 + -1 * f 4)) + -1 * ((f 3 + -1 * f 2) + -1 * (f 1 + -1 * f 0))) := (h 7 (by omega)).trans rfl
    have e : Gs (1) g 4 7 = (((g 7 + 1 * g 6) + 1 * (g 5 + 1 * g 4)) + 1 * ((g 3 + 1 * g 2) + 1 * (g 1 + 1 * g 0))) := rfl
    rw [e]; omega
  | 8, _ => by
    have g0 : g 0 = f 0 := (h 0 (by omega)).trans rfl
    have g8 : g 8 = (f 8 + -1 * f 0) := (h 8 (by omega)).trans rfl
    have e : Gs (1) g 4 8 = (g 8 + 1 * g 0) := rfl
    rw [e]; omega
  | 9, _ => by
    have g0 : g 0 = f 0 := (h 0 (by omega)).trans rfl
    have g1 : g 1 = (f 1 + -1 * f 0) := (h 1 (by omega)).trans rfl
    have g8 : g 8 = (f 8 + -1 * f 0) := (h 8 (by omega)).trans rfl
    have g9 : g 9 = ((f 9 + -1 * f 8) + -1 * (f 1 + -1 * f 0)) := (h 9 (by omega)).trans rfl
    have e : Gs (1) g 4 9 = ((g 9 + 1 * g 8) + 1 * (g 1 + 1 * g 0)) := rfl
    rw [e]; omega
  | 10, _ => by
    have g0 : g 0 = f 0 := (h 0 (by omega)).trans rfl
    have g2 : g 2 = (f 2 + -1 * f 0) := (h 2 (by omega)).trans rfl
    have g8 : g 8 = (f 8 + -1 * f 0) := (h 8 (by omega)).trans rfl
    have g10 : g 10 = ((f 10 + -1 * f 8) + -1 * (f 2 + -1 * f 0)) := (h 10 (by omega)).trans rfl
    have e : Gs (1) g 4 10 = ((g 10 + 1 * g 8) + 1 * (g 2 + 1 * g 0)) := rfl
    rw [e]; omega
  | 11, _ => by
    have g0 : g 0 = f 0 := (h 0 (by omega)).trans rfl
    have g1 : g 1 = (f 1 + -1 * f 0) := (h 1 (by omega)).trans rfl
    have g2 : g 2 = (f 2 + -1 * f 0) := (h 2 (by omega)).trans rfl
    have g3 : g 3 = ((f 3 + -1 * f 2) + -1 * (f 1 + -1 * f 0)) := (h 3 (by omega)).trans rfl
    have g8 : g 8 = (f 8 + -1 * f 0) := (h 8 (by omega)).trans rfl
    have g9 : g 9 = ((f 9 + -1 * f 8) + -1 * (f 1 + -1 * f 0)) := (h 9 (by omega)).trans rfl
    have g10 : g 10 = ((f 10 + -1 * f 8) + -1 * (f 2 + -1 * f 0)) := (h 10 (by omega)).trans rfl
    have g11 : g 11 = (((f 11 + -1 * f 10) + -1 * (f 9 + -1 * f 8)) + -1 * ((f 3 + -1 * f 2) + -1 * (f 1 + -1 * f 0))) := (h 11 (by omega)).trans rfl
    have e : Gs (1) g 4 11 = (((g 11 + 1 * g 10) + 1 * (g 9 + 1 * g 8)) + 1 * ((g 3 + 1 * g 2) + 1 * (g 1 + 1 * g 0))) := rfl
    rw [e]; omega
  | 12, _ => by
    have g0 : g 0 = f 0 := (h 0 (by omega)).trans rfl
    have g4 : g 4 = (f 4 + -1 * f 0) := (h 4 (by omega)).trans rfl
    have g8 : g 8 = (f 8 + -1 * f 0) := (h 8 (by omega)).trans rfl
    have g12 : g 12 = ((f 12 + -1 * f 8) + -1 * (f 4 + -1 * f 0)) := (h 12 (by omega)).trans rfl
    have e : Gs (1) g 4 12 = ((g 12 + 1 * g 8) + 1 * (g 4 + 1 * g 0)) := rfl
    rw [e]; omega
  | 13, _ => by
    have g0 : g 0 = f 0 := (h 0 (by omega)).trans rfl
    have g1 : g 1 = (f 1 + -1 * f 0) := (h 1 (by omega)).trans rfl
    have g4 : g 4 = (f 4 + -1 * f 0) := (h 4 (by omega)).trans rfl
    have g5 : g 5 = ((f 5 + -1 * f 4) + -1 * (f 1 + -1 * f 0)) := (h 5 (by omega)).trans rfl
    have g8 : g 8 = (f 8 + -1 * f 0) := (h 8 (by omega)).trans rfl
    have g9 : g 9 = ((f 9 + -1 * f 8) + -1 * (f 1 + -1 * f 0)) := (h 9 (by omega)).trans rfl
    have g12 : g 12 = ((f 12 + -1 * f 8) + -1 * (f 4 + -1 * f 0)) := (h 12 (by omega)).trans rfl
    have g13 : g 13 = (((f 13 + -1 * f 12) + -1 * (f 9 + -1 * f 8)) + -1 * ((f 5 + -1 * f 4) + -1 * (f 1 + -1 * f 0))) := (h 13 (by omega)).trans rfl
    have e : Gs (1) g 4 13 = (((g 13 + 1 * g 12) + 1 * (g 9 + 1 * g 8)) + 1 * ((g 5 + 1 * g 4) + 1 * (g 1 + 1 * g 0))) := rfl
    rw [e]; omega
  | 14, _ => by
    have g0 : g 0 = f 0 := (h 0 (by omega)).trans rfl
    have g2 : g 2 = (f 2 + -1 * f 0) := (h 2 (by omega)).trans rfl
    have g4 : g 4 = (f 4 + -1 * f 0) := (h 4 (by omega)).trans rfl
    have g6 : g 6 = ((f 6 + -1 * f 4) + -1 * (f 2 + -1 * f 0)) := (h 6 (by omega)).trans rfl
    have g8 : g 8 = (f 8 + -1 * f 0) := (h 8 (by omega)).trans rfl
    have g10 : g 10 = ((f 10 + -1 * f 8) + -1 * (f 2 + -1 * f 0)) := (h 10 (by omega)).trans rfl
    have g12 : g 12 = ((f 12 + -1 * f 8) + -1 * (f 4 + -1 * f 0)) := (h 12 (by omega)).trans rfl
    have g14 : g 14 = (((f 14 + -1 * f 12) + -1 * (f 10 + -1 * f 8)) + -1 * ((f 6 + -1 * f 4) + -1 * (f 2 + -1 * f 0))) := (h 14 (by omega)).trans rfl
    have e : Gs (1) g 4 14 = (((g 14 + 1 * g 12) + 1 * (g 10 + 1 * g 8)) + 1 * ((g 6 + 1 * g 4) + 1 * (g 2 + 1 * g 0))) := rfl
    rw [e]; omega
  | 15, _ => by
    have g0 : g 0 = f 0 := (h 0 (by omega)).trans rfl
    have g1 : g 1 = (f 1 + -1 * f 0) := (h 1 (by omega)).trans rfl
    have g2 : g 2 = (f 2 + -1 * f 0) := (h 2 (by omega)).trans rfl
    have g3 : g 3 = ((f 3 + -1 * f 2) + -1 * (f 1 + -1 * f 0)) := (h 3 (by omega)).trans rfl
    have g4 : g 4 = (f 4 + -1 * f 0) := (h 4 (by omega)).trans rfl
    have g5 : g 5 = ((f 5 + -1 * f 4) + -1 * (f 1 + -1 * f 0)) := (h 5 (by omega)).trans rfl
    have g6 : g 6 = ((f 6 + -1 * f 4) + -1 * (f 2 + -1 * f 0)) := (h 6 (by omega)).trans rfl
    have g7 : g 7 = (((f 7 + -1 * f 6) + -1 * (f 5 + -1 * f 4)) + -1 * ((f 3 + -1 * f 2) + -1 * (f 1 + -1 * f 0))) := (h 7 (by omega)).trans rfl
    have g8 : g 8 = (f 8 + -1 * f 0) := (h 8 (by omega)).trans rfl
    have g9 : g 9 = ((f 9 + -1 * f 8) + -1 * (f 1 + -1 * f 0)) := (h 9 (by omega)).trans rfl
    have g10 : g 10 = ((f 10 + -1 * f 8) + -1 * (f 2 + -1 * f 0)) := (h 10 (by omega)).trans rfl
    have g11 : g 11 = (((f 11 + -1 * f 10) + -1 * (f 9 + -1 * f 8)) + -1 * ((f 3 + -1 * f 2) + -1 * (f 1 + -1 * f 0))) := (h 11 (by omega)).trans rfl
    have g12 : g 12 = ((f 12 + -1 * f 8) + -1 * (f 4 + -1 * f 0)) := (h 12 (by omega)).trans rfl
    have g13 : g 13 = (((f 13 + -1 * f 12) + -1 * (f 9 + -1 * f 8)) + -1 * ((f 5 + -1 * f 4) + -1 * (f 1 + -1 * f 0))) := (h 13 (by omega)).trans rfl
    have g14 : g 14 = (((f 14 + -1 * f 12) + -1 * (f 10 + -1 * f 8)) + -1 * ((f 6 + -1 * f 4) + -1 * (f 2 + -1 * f 0))) := (h 14 (by omega)).trans rfl
    have g15 : g 15 = ((((f 15 + -1 * f 14) + -1 * (f 13 + -1 * f 12)) + -1 * ((f 11 + -1 * f 10) + -1 * (f 9 + -1 * f 8))) + -1 * (((f 7 + -1 * f 6) + -1 * (f 5 + -1 * f 4)) + -1 * ((f 3 + -1 * f 2) + -1 * (f 1 + -1 * f 0)))) := (h 15 (by omega)).trans rfl
    have e : Gs (1) g 4 15 = ((((g 15 + 1 * g 14) + 1 * (g 13 + 1 * g 12)) + 1 * ((g 11 + 1 * g 10) + 1 * (g 9 + 1 * g 8))) + 1 * (((g 7 + 1 * g 6) + 1 * (g 5 + 1 * g 4)) + 1 * ((g 3 + 1 * g 2) + 1 * (g 1 + 1 * g 0)))) := rfl
    rw [e]; omega
  | _ + 16, h => by omega

theorem tot_a0 (f : Nat → Int) : sm f 1 = Gs 1 f 0 0 := by
  have h1 : sm f 1 = (0 + f 0) := rfl
  have h2 : Gs 1 f 0 0 = f 0 := rfl
  rw [h1, h2]; omega
theorem tot_b0 (f g : Nat → Int) (h : ∀ i, i < 1 → g i = Gs (-1) f 0 i) : sm g 1 = f 0 := by
  have g0 : g 0 = f 0 := (h 0 (by omega)).trans rfl
  have h1 : sm g 1 = (0 + g 0) := rfl
  rw [h1]; omega
theorem tot_a1 (f : Nat → Int) : sm f 2 = Gs 1 f 1 1 := by
  have h1 : sm f 2 = ((0 + f 0) + f 1) := rfl
  have h2 : Gs 1 f 1 1 = (f 1 + 1 * f 0) := rfl
  rw [h1, h2]; omega
theorem tot_b1 (f g : Nat → Int) (h : ∀ i, i < 2 → g i = Gs (-1) f 1 i) : sm g 2 = f 1 := by
  have g0 : g 0 = f 0 := (h 0 (by omega)).trans rfl
  have g1 : g 1 = (f 1 + -1 * f 0) := (h 1 (by omega)).trans rfl
  have h1 : sm g 2 = ((0 + g 0) + g 1) := rfl
  rw [h1]; omega
theorem tot_a2 (f : Nat → Int) : sm f 4 = Gs 1 f 2 3 := by
  have h1 : sm f 4 = ((((0 + f 0) + f 1) + f 2) + f 3) := rfl
  have h2 : Gs 1 f 2 3 = ((f 3 + 1 * f 2) + 1 * (f 1 + 1 * f 0)) := rfl
  rw [h1, h2]; omega
theorem tot_b2 (f g : Nat → Int) (h : ∀ i, i < 4 → g i = Gs (-1) f 2 i) : sm g 4 = f 3 := by
  have g0 : g 0 = f 0 := (h 0 (by omega)).trans rfl
  have g1 : g 1 = (f 1 + -1 * f 0) := (h 1 (by omega)).trans rfl
  have g2 : g 2 = (f 2 + -1 * f 0) := (h 2 (by omega)).trans rfl
  have g3 : g 3 = ((f 3 + -1 * f 2) + -1 * (f 1 + -1 * f 0)) := (h 3 (by omega)).trans rfl
  have h1 : sm g 4 = ((((0 + g 0) + g 1) + g 2) + g 3) := rfl
  rw [h1]; omega
theorem tot_a3 (f : Nat → Int) : sm f 8 = Gs 1 f 3 7 := by
  have h1 : sm f 8 = ((((((((0 + f 0) + f 1) + f 2) + f 3) + f 4) + f 5) + f 6) + f 7) := rfl
  have h2 : Gs 1 f 3 7 = (((f 7 + 1 * f 6) + 1 * (f 5 + 1 * f 4)) + 1 * ((f 3 + 1 * f 2) + 1 * (f 1 + 1 * f 0))) := rfl
  rw [h1, h2]; omega
theorem tot_b3 (f g : Nat → Int) (h : ∀ i, i < 8 → g i = Gs (-1) f 3 i) : sm g 8 = f 7 := by
  have g0 : g 0 = f 0 := (h 0 (by omega)).trans rfl
  have g1 : g 1 = (f 1 + -1 * f 0) := (h 1 (by omega)).trans rfl
  have g2 : g 2 = (f 2 + -1 * f 0) := (h 2 (by omega)).trans rfl
  have g3 : g 3 = ((f 3 + -1 * f 2) + -1 * (f 1 + -1 * f 0)) := (h 3 (by omega)).trans rfl
  have g4 : g 4 = (f 4 + -1 * f 0) := (h 4 (by omega)).trans rfl
  have g5 : g 5 = ((f 5 + -1 * f 4) + -1 * (f 1 + -1 * f 0)) := (h 5 (by omega)).trans rfl
  have g6 : g 6 = ((f 6 + -1 * f 4) + -1 * (f 2 + -1 * f 0)) := (h 6 (by omega)).trans rfl
  have g7 : g 7 = (((f 7 + -1 * f 6) + -1 * (f 5 + -1 * f 4)) + -1 * ((f 3 + -1 * f 2) + -1 * (f 1 + -1 * f 0))) := (h 7 (by omega)).trans rfl
  have h1 : sm g 8 = ((((((((0 + g 0) + g 1) + g 2) + g 3) + g 4) + g 5) + g 6) + g 7) := rfl
  rw [h1]; omega
theorem tot_a4 (f : Nat → Int) : sm f 16 = Gs 1 f 4 15 := by
  have h1 : sm f 16 = ((((((((((((((((0 + f 0) + f 1) + f 2) + f 3) + f 4) + f 5) + f 6) + f 7) + f 8) + f 9) + f 10) + f 11) + f 12) + f 13) + f 14) + f 15) := rfl
  have h2 : Gs 1 f 4 15 = ((((f 15 + 1 * f 14) + 1 * (f 13 + 1 * f 12)) + 1 * ((f 11 + 1 * f 10) + 1 * (f 9 + 1 * f 8))) + 1 * (((f 7 + 1 * f 6) + 1 * (f 5 + 1 * f 4)) + 1 * ((f 3 + 1 * f 2) + 1 * (f 1 + 1 * f 0)))) := rfl
  rw [h1, h2]; omega
theorem tot_b4 (f g : Nat → Int) (h : ∀ i, i < 16 → g i = Gs (-1) f 4 i) : sm g 16 = f 15 := by
  have g0 : g 0 = f 0 := (h 0 (by omega)).trans rfl
  have g1 : g 1 = (f 1 + -1 * f 0) := (h 1 (by omega)).trans rfl
  have g2 : g 2 = (f 2 + -1 * f 0) := (h 2 (by omega)).trans rfl
  have g3 : g 3 = ((f 3 + -1 * f 2) + -1 * (f 1 + -1 * f 0)) := (h 3 (by omega)).trans rfl
  have g4 : g 4 = (f 4 + -1 * f 0) := (h 4 (by omega)).trans rfl
  have g5 : g 5 = ((f 5 + -1 * f 4) + -1 * (f 1 + -1 * f 0)) := (h 5 (by omega)).trans rfl
  have g6 : g 6 = ((f 6 + -1 * f 4) + -1 * (f 2 + -1 * f 0)) := (h 6 (by omega)).trans rfl
  have g7 : g 7 = (((f 7 + -1 * f 6) + -1 * (f 5 + -1 * f 4)) + -1 * ((f 3 + -1 * f 2) + -1 * (f 1 + -1 * f 0))) := (h 7 (by omega)).trans rfl
  have g8 : g 8 = (f 8 + -1 * f 0) := (h 8 (by omega)).trans rfl
  have g9 : g 9 = ((f 9 + -1 * f 8) + -1 * (f 1 + -1 * f 0)) := (h 9 (by omega)).trans rfl
  have g10 : g 10 = ((f 10 + -1 * f 8) + -1 * (f 2 + -1 * f 0)) := (h 10 (by omega)).trans rfl
  have g11 : g 11 = (((f 11 + -1 * f 10) + -1 * (f 9 + -1 * f 8)) + -1 * ((f 3 + -1 * f 2) + -1 * (f 1 + -1 * f 0))) := (h 11 (by omega)).trans rfl
  have g12 : g 12 = ((f 12 + -1 * f 8) + -1 * (f 4 + -1 * f 0)) := (h 12 (by omega)).trans rfl
  have g13 : g 13 = (((f 13 + -1 * f 12) + -1 * (f 9 + -1 * f 8)) + -1 * ((f 5 + -1 * f 4) + -1 * (f 1 + -1 * f 0))) := (h 13 (by omega)).trans rfl
  have g14 : g 14 = (((f 14 + -1 * f 12) + -1 * (f 10 + -1 * f 8)) + -1 * ((f 6 + -1 * f 4) + -1 * (f 2 + -1 * f 0))) := (h 14 (by omega)).trans rfl
  have g15 : g 15 = ((((f 15 + -1 * f 14) + -1 * (f 13 + -1 * f 12)) + -1 * ((f 11 + -1 * f 10) + -1 * (f 9 + -1 * f 8))) + -1 * (((f 7 + -1 * f 6) + -1 * (f 5 + -1 * f 4)) + -1 * ((f 3 + -1 * f 2) + -1 * (f 1 + -1 * f 0)))) := (h 15 (by omega)).trans rfl
  have h1 : sm g 16 = ((((((((((((((((0 + g 0) + g 1) + g 2) + g 3) + g 4) + g 5) + g 6) + g 7) + g 8) + g 9) + g 10) + g 11) + g 12) + g 13) + g 14) + g 15) := rfl
  rw [h1]; omega

theorem part_G (f : Nat → Int) (kk : Nat) (hk : kk ≤ 4) (i : Nat) (hi : i < p2 kk) : partI f i (p2 kk) = Gs 1 f kk i := by
  have h5 : kk = 0 ∨ kk = 1 ∨ kk = 2 ∨ kk = 3 ∨ kk = 4 := by omega
  rcases h5 with rfl | rfl | rfl | rfl | rfl
  · exact part_G0 f i hi
  · exact part_G1 f i hi
  · exact part_G2 f i hi
  · exact part_G3 f i hi
  · exact part_G4 f i hi
theorem inv_a (f g : Nat → Int) (kk : Nat) (hk : kk ≤ 4) (h : ∀ i, i < p2 kk → g i = Gs 1 f kk i) (i : Nat) (hi : i < p2 kk) : Gs (-1) g kk i = f i := by
  have h5 : kk = 0 ∨ kk = 1 ∨ kk = 2 ∨ kk = 3 ∨ kk = 4 := by omega
  rcases h5 with rfl | rfl | rfl | rfl | rfl
  · exact inv_a0 f g h i hi
  · exact inv_a1 f g h i hi
  · exact inv_a2 f g h i hi
  · exact inv_a3 f g h i hi
  · exact inv_a4 f g h i hi
theorem inv_b (f g : Nat → Int) (kk : Nat) (hk : kk ≤ 4) (h : ∀ i, i < p2 kk → g i = Gs (-1) f kk i) (i : Nat) (hi : i < p2 kk) : Gs 1 g kk i = f i := by
  have h5 : kk = 0 ∨ kk = 1 ∨ kk = 2 ∨ kk = 3 ∨ kk = 4 := by omega
  rcases h5 with rfl | rfl | rfl | rfl | rfl
  · exact inv_b0 f g h i hi
  · exact inv_b1 f g h i hi
  · exact inv_b2 f g h i hi
  · exact inv_b3 f g h i hi
  · exact inv_b4 f g h i hi
theorem tot_a (f : Nat → Int) (kk : Nat) (hk : kk ≤ 4) : sm f (p2 kk) = Gs 1 f kk (p2 kk - 1) := by
  have h5 : kk = 0 ∨ kk = 1 ∨ kk = 2 ∨ kk = 3 ∨ kk = 4 := by omega
  rcases h5 with rfl | rfl | rfl | rfl | rfl
  · exact tot_a0 f
  · exact tot_a1 f
  · exact tot_a2 f
  · exact tot_a3 f
  · exact tot_a4 f
theorem tot_b (f g : Nat → Int) (kk : Nat) (hk : kk ≤ 4) (h : ∀ i, i < p2 kk → g i = Gs (-1) f kk i) : sm g (p2 kk) = f (p2 kk - 1) := by
  have h5 : kk = 0 ∨ kk = 1 ∨ kk = 2 ∨ kk = 3 ∨ kk = 4 := by omega
  rcases h5 with rfl | rfl | rfl | rfl | rfl
  · exact tot_b0 f g h
  · exact tot_b1 f g h
  · exact tot_b2 f g h
  · exact tot_b3 f g h
  · exact tot_b4 f g h
theorem Gs_0 (s : Int) (f : Nat → Int) (kk : Nat) (hk : kk ≤ 4) : Gs s f kk 0 = f 0 := by
  have h5 : kk = 0 ∨ kk = 1 ∨ kk = 2 ∨ kk = 3 ∨ kk = 4 := by omega
  rcases h5 with rfl | rfl | rfl | rfl | rfl <;> rfl
end Go.Proofs.Ytccddkgpcgnaoaa
