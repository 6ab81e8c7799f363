/-
  The reader made anew, and the rows that the codes give.
-/
import Derived.Test.YtbnlfacggchoiaaDraw
namespace Go.Proofs.Ytbnlfacggchoiaa
open Go.RowKit

set_option maxHeartbeats 400000 in
theorem newReader_any (w : World) (a : Option Addr) (n c : Nat) (h : Bts w a n w.heap.size) (hnc : n ≤ c) (hn : n ≤ 140737488355328) :
    Calls Try.prog 14 #[.slice a n c] w fun e w' => e = .returned (.pointer (some ⟨w.heap.size, 0, none⟩)) ∧ Rdr w' w.heap.size 0 ∧ Below w.heap.size w w' := by
  by_cases hlt : 2000 < n
  · obtain ⟨b, off, rfl, hb, hcell⟩ := h 0 (by omega)
    go_enter Try.func14, Try.ntmps14
    go_wp2
    go_ret
    refine ⟨rfl, ⟨⟨some ⟨b, off, none⟩, 2000, c, heap_alloc_new w _, by omega, ?_⟩⟩, (Below.refl _ _).alloc (Nat.le_refl _) _⟩
    intro i hi
    refine ⟨b, off, rfl, hb, fun j hj => ?_⟩
    obtain ⟨x, h0, h1, hx⟩ := hcell j (by omega)
    exact ⟨x, h0, h1, (World.cell?_alloc_past _ _ _ hb).trans hx⟩
  · go_enter Try.func14, Try.ntmps14
    go_wp2
    go_ret
    exact ⟨rfl, ⟨⟨a, n, c, heap_alloc_new w _, by omega, h.grown fun k hk => Below.heap_alloc _ _ _ hk⟩⟩, (Below.refl _ _).alloc (Nat.le_refl _) _⟩

/-- What a call hands back that draws a row. -/
def DrawnRow (w w' : World) (e : Ending) : Prop :=
  ∃ (a : Option Addr) (m c : Nat) (xs : List Int), e = .returned (.slice a m c) ∧ m ≤ 33 ∧ Own w' w.heap.size a m c xs ∧ Below w.heap.size w w'

theorem below_asked {H rb q : Nat} {w w1 w2 : World} (h : Below H w w1) (k : Asked w1 w2 rb q) (hH : H ≤ rb) (hrb : rb < w1.heap.size) : Below H w w2 :=
  h.grown k.gr (by omega) (fun j hj => by injection hj with e; omega)

/-- What a drawing of a row of some drawn length leaves. -/
def Drawn2 (w w' : World) (rb p : Nat) (e : Ending) : Prop :=
  ∃ (a : Option Addr) (m c : Nat) (xs : List Int) (q : Nat), e = .returned (.slice a m c) ∧ m ≤ 33 ∧ q ≤ p + 101 ∧ Own w' w.heap.size a m c xs ∧ Asked w w' rb q

set_option maxHeartbeats 400000 in
theorem someRow_any (w : World) (rb p : Nat) (h : Rdr w rb p) (hp : p ≤ 800000) :
    Calls Try.prog 15 #[.pointer (some ⟨rb, 0, none⟩)] w fun e w' => Drawn2 w w' rb p e := by
  have hrb := h.lt
  go_enter Try.func15, Try.ntmps15
  go_wp2_with fail
  refine (one_any _ rb p (rb + 1) _ _ _ [4, 6, 5, 8, 3, 2, 1, 0, 12, 16] 0 16 (h.alloc _) (by omega) (by decide) (by decide) (own_lit _ (rb + 1) [4, 6, 5, 8, 3, 2, 1, 0, 12, 16] rfl (by omega) (by decide)) (by omega) (by decide)).mono ?_
  rintro e w1 ⟨x, hx0, hx1, rfl, hask⟩
  obtain ⟨k, rfl⟩ := Int.eq_ofNat_of_zero_le hx0
  have hask' := hask.of_alloc
  have hsz := hask'.gr.size
  go_wp2_with fail
  refine (rowOf_any w1 rb (p + 1) k hask.rdr (by omega) (by omega)).mono ?_
  rintro e w2 ⟨a, m, c, xs, q, rfl, hm, hq, hown, hask2⟩
  go_wp2_with fail
  go_ret
  exact ⟨a, m, c, xs, q, rfl, hm, by omega, hown.mono hsz, hask'.trans hask2⟩

end Go.Proofs.Ytbnlfacggchoiaa
