/-
  The reader made anew, and the rows that the codes give.
-/
import Derived.Test.YtmfffmipnbdpjaaGreatDoorDraw
namespace Go.Proofs.YtmfffmipnbdpjaaGreatDoor
open Go.RowKit

set_option maxHeartbeats 400000 in
theorem newReader_any (w : World) (a : Option Addr) (n c : Nat) (h : Bts w a n w.heap.size) (hnc : n ≤ c) (hn : n ≤ 140737488355328) :
    Calls Tryz.prog 14 #[.slice a n c] w fun e w' => e = .returned (.pointer (some ⟨w.heap.size, 0, none⟩)) ∧ Rdr w' w.heap.size 0 ∧ Below w.heap.size w w' := by
  by_cases hlt : 2000 < n
  · obtain ⟨b, off, rfl, hb, hcell⟩ := h 0 (by omega)
    go_enter Tryz.func14, Tryz.ntmps14
    go_wp2
    go_ret
    refine ⟨rfl, ⟨⟨some ⟨b, off, none⟩, 2000, c, heap_alloc_new w _, by omega, ?_⟩⟩, (Below.refl _ _).alloc (Nat.le_refl _) _⟩
    intro i hi
    refine ⟨b, off, rfl, hb, fun j hj => ?_⟩
    obtain ⟨x, h0, h1, hx⟩ := hcell j (by omega)
    exact ⟨x, h0, h1, (World.cell?_alloc_past _ _ _ hb).trans hx⟩
  · go_enter Tryz.func14, Tryz.ntmps14
    go_wp2
    go_ret
    exact ⟨rfl, ⟨⟨a, n, c, heap_alloc_new w _, by omega, h.grown fun k hk => Below.heap_alloc _ _ _ hk⟩⟩, (Below.refl _ _).alloc (Nat.le_refl _) _⟩

/-- What a call hands back that draws a row. -/
def DrawnRow (w w' : World) (e : Ending) : Prop :=
  ∃ (a : Option Addr) (m c : Nat) (xs : List Int), e = .returned (.slice a m c) ∧ m ≤ 33 ∧ Own w' w.heap.size a m c xs ∧ Below w.heap.size w w'

theorem below_asked {H rb q : Nat} {w w1 w2 : World} (h : Below H w w1) (k : Asked w1 w2 rb q) (hH : H ≤ rb) (hrb : rb < w1.heap.size) : Below H w w2 :=
  h.grown k.gr (by omega) (fun j hj => by injection hj with e; omega)

/-- What a drawing of a row of some drawn length leaves. -/
def Drawn2 (w w' : World) (rb p : Nat) (e : Ending) : Prop :=
  ∃ (a : Option Addr) (m c : Nat) (xs : List Int) (q : Nat), e = .returned (.slice a m c) ∧ m ≤ 33 ∧ q ≤ p + 101 ∧ Own w' w.heap.size a m c xs ∧ Asked w w' rb q


end Go.Proofs.YtmfffmipnbdpjaaGreatDoor
