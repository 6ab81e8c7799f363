/-
  UnhalveAll, and the reference's HalveAll and UnhalveAll.
-/
import Derived.Test.YtmfffmipnbdpjaaGreatDoorHAllW
namespace Go.Proofs.YtmfffmipnbdpjaaGreatDoor
open Go.RowKit


/-- A row's rest. -/
theorem Row.suf {w : World} {a : Option Addr} {n c : Nat} {xs : List Int} (h : Row w a n c xs) (m : Nat) (hm : m ≤ n) (g : Nat) (ha : a = some ⟨g, 0, none⟩) : Row w (some ⟨g, m, none⟩) (n - m) (c - m) (xs.drop m) :=
  ⟨by simp [h.len], by have := h.small; omega, by have := h.cap; omega, (fun e => by cases e), fun i hi => by
    obtain ⟨b, off, hb, hlt, hc⟩ := h.cell (m + i) (by omega)
    subst ha
    injection hb with hb; injection hb with hb1 hb2; subst hb1; subst hb2
    refine ⟨g, m, rfl, hlt, fun j hj => ?_⟩
    have := hc (m + j) (by omega)
    rw [Nat.zero_add] at this
    rw [this, el_drop]⟩
theorem row_none {w : World} {g c o : Nat} : Row w (some ⟨g, o, none⟩) 0 c [] := ⟨rfl, by omega, by omega, (fun e => by cases e), fun i hi => by omega⟩

end Go.Proofs.YtmfffmipnbdpjaaGreatDoor
