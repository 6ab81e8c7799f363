/-
  make([]int, n): a new row of noughts.
-/
import Derived.Test.YtommnhpihophbaaEq
namespace Go.Proofs.Ytommnhpihophbaa
open Go.RowKit

theorem tab_zero (n : Nat) : tab (fun _ => 0) n = List.replicate n 0 := by
  induction n with
  | zero => rfl
  | succ k ih => rw [tab, ih, List.replicate_succ']

theorem make_int {ops : Array Oper} {rest : List Oper} {o : Oper} {a : Act} {Q : Exit → Act → World → Prop} (w : World) (hg : o.guard = none) (l c : Operand)
    (hop : o.op = Op.makeSlice 23 l c) (kl kc : IntKind) (L C : Int) (n : Nat) (hl : a.eval l = .int kl L) (hc : a.eval c = .int kc C) (hL : L = (n : Int)) (hC : C = (n : Int)) (hn : n ≤ 2000000)
    (h : ∀ w2, Own w2 w.heap.size (some ⟨w.heap.size, 0, none⟩) n n (tab (fun _ => 0) n) → Below w.heap.size w w2 → w.heap.size + 1 ≤ w2.heap.size → wpList Try.prog ops Q rest (a.put o.dst (.slice (some ⟨w.heap.size, 0, none⟩) n n)) w2) :
    wpList Try.prog ops Q (o :: rest) a w := by
  obtain ⟨i0, hi, hz0, hz1, hz2⟩ := info_parts Try.infoInt
  refine wpList_make_full w hg l c 23 hop w.heap.size 3 i0 (.int .i64 0) 1 Try.underlying23 hi hz0 hz1 kl kc L C n hl hc hL hC (by rw [hz2]; omega) (by unfold maxLen; omega) (Nat.le_refl _) fun w2 h1 h2 => ?_
  have e : (madeCells (Value.int .i64 0).cells (n * 1)).toList = (tab (fun _ => 0) n).map (Value.int .i64) := by
    rw [tab_zero, Nat.mul_one]
    show (madeCells #[Value.int .i64 0] n).toList = _
    rw [toList_madeCells_one]; simp
  rw [e] at h1
  have hb : Below w.heap.size w w2 := (Below.refl _ _).grown h2 (Nat.le_refl _) (fun k hk => by cases hk)
  refine h w2 h1 hb ?_
  have := (World.ownsRow.lt h1 w.heap.size rfl).2
  omega
/-- The block of a new row of n noughts. -/
def zeros (n : Nat) : Obj := .cells ((tab (fun _ => 0) n).map (Value.int .i64)).toArray 3
theorem run_make_int (n : Nat) (hn : n ≤ 2000000) (w : World) :
    (Instr.makeSlice 23 (.int .i64 n) (.int .i64 n)).run Try.prog w = .ok (.slice (some ⟨w.heap.size, 0, none⟩) n n) (w.alloc (zeros n)) := by
  obtain ⟨i0, hi, hz0, hz1, hz2⟩ := info_parts Try.infoInt
  have hr := run_make (P := Try.prog) w 23 3 i0 (.int .i64 0) Try.underlying23 hi hz0 .i64 .i64 n n (by omega) (Int.le_refl _) (by rw [hz2]; omega) (by omega)
  simp only [Int.toNat_natCast] at hr
  rw [hr]
  have e : (madeCells (Value.int .i64 0).cells (n * i0.size)).toList = (tab (fun _ => 0) n).map (Value.int .i64) := by
    rw [tab_zero, hz1, Nat.mul_one]
    show (madeCells #[Value.int .i64 0] n).toList = _
    rw [toList_madeCells_one]; simp
  unfold zeros
  rw [← e]
theorem own_zeros (w : World) (B n k : Nat) (hk : w.heap.size = k) (hB : B ≤ k) (hn : n ≤ 2000000) : Own (w.alloc (zeros n)) B (some ⟨k, 0, none⟩) n n (tab (fun _ => 0) n) := by
  subst hk
  have := World.ownsRow_lit (e := 3) (size := 1) w ((tab (fun _ => 0) n).map (Value.int .i64)).toArray n hB (by unfold maxLen; omega) (by simp [tab_length])
  simpa [Own, zeros] using this
end Go.Proofs.Ytommnhpihophbaa
