/-
  What the drawing of arguments leaves: rows of whatever numbers, at most 33 of them, in new memory; the reader asked some times more.
-/
import Derived.Test.YtahnfjolidenfaaRd
namespace Go.Proofs.Ytahnfjolidenfaa
open Go.RowKit

theorem Own.grown {w w' : World} {B : Nat} {a : Option Addr} {n c rb : Nat} {xs : List Int} (h : Own w B a n c xs) (hg : w.grownBy w' (some rb)) (hB : rb < B) : Own w' B a n c xs := by
  refine World.ownsRow.kept h hg ?_
  cases hb : (Value.slice a n c).ownBlock with
  | none => exact .inl rfl
  | some k => exact .inr (by intro e; injection e with e; have := h.blk k hb; omega)

theorem grown_trans {w w1 w2 : World} {row : Option Nat} (h : w.grownBy w1 row) (k : w1.grownBy w2 row) : w.grownBy w2 row :=
  ⟨k.os.trans h.os, k.tape.trans h.tape, k.output.trans h.output, Nat.le_trans h.size k.size, fun j hj hne => (k.block j (Nat.lt_of_lt_of_le hj h.size) hne).trans (h.block j hj hne)⟩

/-- A step that writes nothing that was there when w was, but the one row. -/
theorem grown_below {w w1 w2 : World} {row : Option Nat} (h : w.grownBy w1 row) (k : Below w.heap.size w1 w2) : w.grownBy w2 row :=
  ⟨k.os.trans h.os, k.tape.trans h.tape, k.output.trans h.output, Nat.le_trans h.size k.size, fun j hj hne => (k.block j hj).trans (h.block j hj hne)⟩

theorem Asked.trans {w w1 w2 : World} {rb p q : Nat} (h : Asked w w1 rb p) (k : Asked w1 w2 rb q) : Asked w w2 rb q := ⟨k.rdr, grown_trans h.gr k.gr⟩

theorem Asked.below {w w1 w2 : World} {rb p : Nat} (h : Asked w w1 rb p) (k : Below w.heap.size w1 w2) (hrb : rb < w.heap.size) : Asked w w2 rb p :=
  ⟨h.rdr.below fun j hj => k.block j (by omega), grown_below h.gr k⟩

theorem Asked.refl {w : World} {rb p : Nat} (h : Rdr w rb p) : Asked w w rb p := ⟨h, World.grownBy.refl w _⟩

theorem Rdr.alloc {w : World} {rb p : Nat} (h : Rdr w rb p) (o : Obj) : Rdr (w.alloc o) rb p :=
  h.below fun k hk => Below.heap_alloc w o k (by have := h.lt; omega)

set_option maxHeartbeats 400000 in
theorem one_any (w : World) (rb p B : Nat) (a : Option Addr) (n c : Nat) (xs : List Int) (lo hi : Int) (h : Rdr w rb p) (hp : p ≤ 1000000) (hn : 1 ≤ n) (hn2 : n ≤ 1000)
    (hown : Own w B a n c xs) (hB : rb < B) (hx : ∀ i, i < n → lo ≤ el xs i ∧ el xs i ≤ hi) :
    Calls Try.prog 30 #[.pointer (some ⟨rb, 0, none⟩), .slice a n c] w fun e w' => ∃ x : Int, lo ≤ x ∧ x ≤ hi ∧ e = .returned (.int .i64 x) ∧ Asked w w' rb (p + 1) := by
  go_enter Try.func30, Try.ntmps30
  go_wp2_with fail
  refine (pick_any w rb p n h hp (by omega) (by omega)).mono ?_
  rintro e w1 ⟨x, hx0, hx1, rfl, hask⟩
  obtain ⟨k, rfl⟩ := Int.eq_ofNat_of_zero_le hx0
  have hk : k < n := by omega
  obtain ⟨b, off, rfl, hbb, hcell⟩ := (hown.grown hask.gr hB).row (by omega) |>.cell k hk
  have hc := hcell k hk
  clear hcell
  go_wp2
  go_ret
  exact ⟨_, (hx k hk).1, (hx k hk).2, rfl, hask⟩

/-- The head of rowOf's first loop: some numbers drawn. -/
def RelRow (w : World) (rb p n : Nat) (u5 : Value) (wr : World) : Prop :=
  ∃ (k : Nat) (a : Option Addr) (c : Nat) (xs : List Int) (q : Nat), u5 = .slice a k c ∧ k ≤ n ∧ q ≤ p + 2 * k ∧ Own wr w.heap.size a k c xs ∧ Asked w wr rb q ∧ w.heap.size + 1 ≤ wr.heap.size

/-- The head of rowOf's second loop. -/
def RelRow2 (w : World) (rb p n : Nat) (a : Option Addr) (c : Nat) (u7 : Value) (wr : World) : Prop :=
  ∃ (k : Nat) (xs : List Int) (q : Nat), u7 = .int .i64 k ∧ k ≤ n ∧ q ≤ p ∧ Own wr w.heap.size a n c xs ∧ Asked w wr rb q ∧ w.heap.size + 1 ≤ wr.heap.size

/-- What a drawing of a row leaves. -/
def Drawn (w w' : World) (rb p : Nat) (e : Ending) : Prop :=
  ∃ (a : Option Addr) (m c : Nat) (xs : List Int) (q : Nat), e = .returned (.slice a m c) ∧ m ≤ 33 ∧ q ≤ p + 100 ∧ Own w' w.heap.size a m c xs ∧ Asked w w' rb q

theorem Asked.of_alloc {w w1 : World} {o : Obj} {rb q : Nat} (h : Asked (w.alloc o) w1 rb q) : Asked w w1 rb q := ⟨h.rdr, grown_trans (World.grownBy_alloc w o _) h.gr⟩

theorem Asked.app {w w1 w2 : World} {rb q n c B : Nat} {a : Option Addr} {xs : List Int} (h : Asked w w1 rb q) (hown : Own w1 B a n c xs) (hg : w1.grownBy w2 (Value.slice a n c).ownBlock) (hB : w.heap.size ≤ B) (hrb : rb < w.heap.size) : Asked w w2 rb q :=
  h.below (below_app (Below.refl _ _) hg hown hB h.gr.size) hrb


end Go.Proofs.Ytahnfjolidenfaa
