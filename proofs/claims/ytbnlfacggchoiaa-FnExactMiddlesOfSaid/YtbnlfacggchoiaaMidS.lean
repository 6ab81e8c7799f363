/-
  The library's sort at a slice of integers of the call's own.
-/
import Derived.Test.YtbnlfacggchoiaaMid
import Derived.Test.YtbnlfacggchoiaaShelf
import Derived.Sort.OwnSortedInts
namespace Go.Proofs.Ytbnlfacggchoiaa
open Go.RowKit

theorem Sort_own (w : World) (B g n c : Nat) (xs : List Int) (h : Own w B (some ⟨g, 0, none⟩) n c xs) (hn : n ≤ 1000) :
    Calls Try.prog 19 #[.slice (some ⟨g, 0, none⟩) n c] w fun e w' => e = .returned (.tuple #[]) ∧ Own w' B (some ⟨g, 0, none⟩) n c (xs.mergeSort fun x y => decide (x ≤ y)) ∧ w.grownBy w' (some g) := by
  have hl := h.len
  rcases h.2 with ⟨h1, _⟩ | ⟨g', cap, cur, hv, hg, hh, hnc, hc, hz, ht⟩
  · cases h1
  · injection hv with e1 e2 e3
    injection e1 with e1
    injection e1 with e1
    subst e1
    subst e3
    rw [Nat.mul_one, ← hl] at ht
    have hH := holds_of_blockI hh ht
    have hlt : g < w.heap.size := (Array.getElem?_eq_some_iff.1 hh).1
    have hs := Try.slices_Sort_int g 0 c xs w hH hlt (by omega)
    rw [hl] at hs
    refine hs.mono ?_
    rintro e w' ⟨rfl, k, os, rfl⟩
    refine ⟨rfl, ?_, grownBy_sortedI _⟩
    have hml : (xs.mergeSort fun x y => decide (x ≤ y)).length = xs.length := (List.mergeSort_perm xs _).length_eq
    have := ownsRow_sortedI (n := k) (os := os) hml hg hh (by omega) hc hz
    rw [hl] at this
    exact this
end Go.Proofs.Ytbnlfacggchoiaa
