/-
  Equality of lists of integers, sums, lists turned round.
-/
import Derived.Test.YtmfffmipnbdpjaaGreatDoorVal
import Derived.Deep.QuietTactic
import Derived.BigQuiet
namespace Go.Proofs.YtmfffmipnbdpjaaGreatDoor
open Go.RowKit

theorem bdrewN {B : Nat} {a w : World} (h : Below B a w) (k : Nat) : Below B a (w.drewN k) := ⟨h.os, h.tape, h.output, h.size, h.block⟩

theorem quiet_tells {f : FuncId} {args : Array Value} {w : World} {n : Nat} {b : Bool} (h : Calls Tryz.prog f args (w.drewN n) fun e w' => Tells (w.drewN n) w' e b) :
    Calls Tryz.prog f args (w.drewN n) fun e w'' => e = .returned (.bool b) ∧ ∃ m, w'' = w.drewN m :=
  h.mono fun _ _ h => ⟨h.1, n, h.2.symm⟩
theorem quiet_same {f : FuncId} {args : Array Value} {w : World} {n : Nat} {v : Value} (h : Calls Tryz.prog f args (w.drewN n) fun e w' => e = .returned v ∧ w.drewN n = w') :
    Calls Tryz.prog f args (w.drewN n) fun e w'' => e = .returned v ∧ ∃ m, w'' = w.drewN m :=
  h.mono fun _ _ h => ⟨h.1, n, h.2.symm⟩

/-- Whether two lists are equal. -/
def same (xs ys : List Int) : Bool := decide (xs = ys)
theorem same_yes {xs ys : List Int} (h : xs = ys) : same xs ys = true := decide_eq_true h
theorem same_no {xs ys : List Int} (h : xs ≠ ys) : same xs ys = false := decide_eq_false h
theorem same_refl (xs : List Int) : same xs xs = true := same_yes rfl
theorem same_iff {xs ys : List Int} : same xs ys = true ↔ xs = ys := by simp [same]



/-- 'append([]int{}, row...)': a copy of a row. -/
theorem copy_row {ops : Array Oper} {rest : List Oper} {o : Oper} {a : Act} {Q : Exit → Act → World → Prop} (W : World) (k : Nat) (hk : W.heap.size = k) (hg : o.guard = none) (s x : Operand)
    (ho : o.op = .call { callee := .builtin .append, args := #[s, x], argTypes := #[36, 36] })
    (ax : Option Addr) (m cx : Nat) (ys : List Int) (hs : a.eval s = .slice (some ⟨k, 0, none⟩) 0 0) (hx : a.eval x = .slice ax m cx) (hrow : Row W ax m cx ys) (hm : m ≤ 1125899906842)
    (h : ∀ a2 c2 w2, Own w2 k a2 m c2 ys → Below k W w2 → k + 1 ≤ w2.heap.size → wpList Tryz.prog ops Q rest (a.put o.dst (.slice a2 m c2)) w2) :
    wpList Tryz.prog ops Q (o :: rest) a (W.alloc (.cells #[] 3)) := by
  subst hk
  have hA := (Below.refl W.heap.size W).alloc (Nat.le_refl _) (.cells #[] 3)
  refine wpList_app_own _ hg s x ho W.heap.size _ 0 0 [] hs (own_empty W) ax m cx ys hx (hrow.below hA) (by omega) hA.size fun a2 c2 w2 h1 h2 => ?_
  rw [Nat.zero_add] at h1 ⊢
  have hz := h2.size
  simp at hz
  exact h a2 c2 w2 h1 (below_app hA h2 (own_empty W) (Nat.le_refl _) hA.size) hz
end Go.Proofs.YtmfffmipnbdpjaaGreatDoor
