/-
  The helpers of the exact laws: copies of lists, marks written into them, marks asked for.
-/
import Derived.Test.YtahnfjolidenfaaMk
import Derived.Test.YtahnfjolidenfaaNum
import Derived.Test.YtahnfjolidenfaaDraw
import Derived.StillTailTactics
import Derived.Lib.Hide
namespace Go.Proofs.Ytahnfjolidenfaa
open Go.RowKit

theorem el_setX {xs : List Int} {i k : Nat} {y : Int} (hi : i < xs.length) : el (xs.set i y) k = if k = i then y else el xs k := by
  unfold el
  by_cases e : k = i
  · subst e; simp [List.getD, hi]
  · rw [if_neg e]; simp [List.getD, List.getElem?_set, Ne.symm e]
theorem set_tabX {f : Nat → Int} {n i : Nat} {y : Int} (hi : i < n) : (tab f n).set i y = tab (fun x => if x = i then y else f x) n := by
  apply el_ext
  · simp [tab_length]
  · intro k hk
    have hk' : k < n := by simpa [tab_length] using hk
    rw [el_setX (by rw [tab_length]; exact hi), el_tab hk', el_tab hk']

/-- A row kept while another row of the call's own is written. -/
theorem Own.beside {w w' : World} {B : Nat} {a b : Option Addr} {n c m d : Nat} {xs : List Int} (h : Own w B a n c xs) (hg : w.grownBy w' (Value.slice b m d).ownBlock)
    (hne : ∀ k j, (Value.slice a n c).ownBlock = some k → (Value.slice b m d).ownBlock = some j → k ≠ j) : Own w' B a n c xs := by
  refine World.ownsRow.kept h hg ?_
  cases hb : (Value.slice a n c).ownBlock with
  | none => exact .inl rfl
  | some k =>
    refine .inr ?_
    intro e
    exact hne k k hb e.symm rfl
theorem Own.after {w w' : World} {B B2 : Nat} {a b : Option Addr} {n c m d : Nat} {xs ys : List Int} (h : Own w B a n c xs) (hg : w.grownBy w' (Value.slice b m d).ownBlock) {w0 : World} (h2 : Own w0 B2 b m d ys) (hB : w0.heap.size ≤ B) : Own w' B a n c xs :=
  h.beside hg fun k j hk hj => by have h1 := h.blk k hk; have h3 := h2.blk j hj; omega
/-- What lies below stays below. -/
theorem below_row {H B : Nat} {W0 w w' : World} {a : Option Addr} {n c : Nat} {xs : List Int} (h : Below H W0 w) (hg : w.grownBy w' (Value.slice a n c).ownBlock) (hown : Own w B a n c xs) (hB : H ≤ B) (hH : H ≤ w.heap.size) : Below H W0 w' :=
  below_app h hg hown hB hH


def marks (k : Int) (n : Nat) : List Int := tab (fun i => k + i) n
theorem marks_len (k : Int) (n : Nat) : (marks k n).length = n := tab_length _ _


end Go.Proofs.Ytahnfjolidenfaa
