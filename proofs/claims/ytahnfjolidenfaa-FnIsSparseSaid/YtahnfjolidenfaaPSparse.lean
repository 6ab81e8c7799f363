/-
  Sparse sets have at most four places, and their sums come up at most twice.
-/
import Derived.Test.YtahnfjolidenfaaSparse2
namespace Go.Proofs.Ytahnfjolidenfaa
open Go.RowKit

/-- What a sparse set keeps. -/
def okS (s : Nat) : Bool := if spB s then decide (pop s ≤ 4) && (cntL s s).all (fun v => decide (v ≤ 2)) else true
set_option maxRecDepth 100000 in
set_option maxHeartbeats 4000000 in
theorem okS_all : ∀ x, x < 128 → ∀ y, y < 64 → okS (64 * x + y) = true := by decide +kernel
theorem cK_len (s t i : Nat) : ∀ m k xs, (cK s t i m k xs).length = xs.length := by
  intro m
  induction m with
  | zero => intro k xs; rfl
  | succ m ih => intro k xs; rw [cK, ih]; split <;> simp
theorem cI_len (s t : Nat) : ∀ m i xs, (cI s t m i xs).length = xs.length := by
  intro m
  induction m with
  | zero => intro i xs; rfl
  | succ m ih => intro i xs; rw [cI, ih, cK_len]
theorem cntL_len (s t : Nat) : (cntL s t).length = 13 := by rw [cntL, cI_len, tab_length]
theorem sparse_facts {s : Nat} (h : s < 8192) (hs : spB s = true) : pop s ≤ 4 ∧ ∀ j, j < 13 → el (cntL s s) j ≤ 2 := by
  have h1 := okS_all (s / 64) (by omega) (s % 64) (by omega)
  rw [show 64 * (s / 64) + s % 64 = s by omega, okS, if_pos hs, Bool.and_eq_true, List.all_eq_true] at h1
  refine ⟨of_decide_eq_true h1.1, fun j hj => ?_⟩
  have hl : j < (cntL s s).length := by rw [cntL_len]; exact hj
  have h2 := of_decide_eq_true (h1.2 ((cntL s s)[j]) (List.getElem_mem hl))
  have e : el (cntL s s) j = (cntL s s)[j] := by unfold el; simp [List.getD, hl]
  rw [e]; exact h2
end Go.Proofs.Ytahnfjolidenfaa
