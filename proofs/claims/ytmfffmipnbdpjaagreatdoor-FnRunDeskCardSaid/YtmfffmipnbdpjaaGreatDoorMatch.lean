/-
  Texts and patterns: what the program and the reference compute.
-/
import Derived.Test.YtmfffmipnbdpjaaGreatDoorMk
import Derived.Test.YtmfffmipnbdpjaaGreatDoorNum
import Derived.Test.YtmfffmipnbdpjaaGreatDoorDraw
import Derived.Lib.Hide
namespace Go.Proofs.YtmfffmipnbdpjaaGreatDoor
open Go.RowKit

/-- The i-th byte of a text (0 beyond). Not reducible: the walk takes it for an atom. -/
def byt (s : ByteArray) (i : Nat) : Nat := (s.data.toList.getD i 0).toNat
theorem byt_get (s : ByteArray) (i : Nat) (h : i < s.size) : (s[i]'h).toNat = byt s i := by
  obtain ⟨⟨l⟩⟩ := s
  have hl : i < l.length := h
  have e : (ByteArray.mk ⟨l⟩)[i]'h = l.getD i 0 := by
    simp only [List.getD, List.getElem?_eq_getElem hl, Option.getD_some]
    rfl
  rw [e]; rfl
theorem byt_lt (s : ByteArray) (i : Nat) : byt s i ≤ 255 := by
  have := (s.data.toList.getD i 0).toNat_lt
  unfold byt; omega

/-- Whether all of the first n bytes pass. -/
def allF (f : Nat → Bool) : Nat → Bool
  | 0 => true
  | k + 1 => allF f k && f k
theorem allF_iff {f : Nat → Bool} {n : Nat} : allF f n = true ↔ ∀ i, i < n → f i = true := by
  induction n with
  | zero => exact ⟨fun _ i hi => by omega, fun _ => rfl⟩
  | succ k ih =>
    rw [allF, Bool.and_eq_true, ih]
    constructor
    · intro h i hi
      by_cases e : i = k
      · subst e; exact h.2
      · exact h.1 i (by omega)
    · intro h
      exact ⟨fun i hi => h i (by omega), h k (by omega)⟩
theorem allF_no {f : Nat → Bool} {n i : Nat} (hi : i < n) (h : f i = false) : allF f n = false := by
  cases hb : allF f n with
  | false => rfl
  | true => rw [allF_iff.1 hb i hi] at h; cases h
def okc (c : Nat) : Bool := decide (97 ≤ c ∧ c ≤ 100)
def okp (c : Nat) : Bool := decide (c = 63 ∨ (97 ≤ c ∧ c ≤ 100))
theorem okc_yes {c : Nat} (h1 : 97 ≤ c) (h2 : c ≤ 100) : okc c = true := decide_eq_true ⟨h1, h2⟩
theorem okc_no {c : Nat} (h : c < 97 ∨ 100 < c) : okc c = false := decide_eq_false (by omega)
theorem okp_yes {c : Nat} (h : c = 63 ∨ (97 ≤ c ∧ c ≤ 100)) : okp c = true := decide_eq_true h
theorem okp_no {c : Nat} (h : ¬ (c = 63 ∨ (97 ≤ c ∧ c ≤ 100))) : okp c = false := decide_eq_false h
def textF (s : ByteArray) : Bool := allF (fun i => okc (byt s i)) s.size
def patF (s : ByteArray) : Bool := allF (fun i => okp (byt s i)) s.size
/-- Whether a text and a pattern are ones. -/
def textB (s p : ByteArray) : Bool := decide (s.size ≤ 20 ∧ 1 ≤ p.size ∧ p.size ≤ 20) && (textF s && patF p)
theorem textB_iff {s p : ByteArray} : textB s p = true ↔ (s.size ≤ 20 ∧ 1 ≤ p.size ∧ p.size ≤ 20) ∧ textF s = true ∧ patF p = true := by
  simp [textB, and_assoc]
theorem textB_no {s p : ByteArray} (h : ¬ ((s.size ≤ 20 ∧ 1 ≤ p.size ∧ p.size ≤ 20) ∧ textF s = true ∧ patF p = true)) : textB s p = false := by
  cases hb : textB s p with
  | false => rfl
  | true => exact absurd (textB_iff.1 hb) h

/-- What the reference takes for a text, or a pattern. -/
def vpB (s : ByteArray) (o : Bool) : Bool := (if o then patF s else textF s) && decide (s.size ≤ 20)
def VPF (s : ByteArray) (o : Bool) (i : Nat) : Bool := if o then okp (byt s i) else okc (byt s i)
theorem vpB_eq (s : ByteArray) (o : Bool) : vpB s o = (allF (VPF s o) s.size && decide (s.size ≤ 20)) := by
  cases o <;> rfl
end Go.Proofs.YtmfffmipnbdpjaaGreatDoor
