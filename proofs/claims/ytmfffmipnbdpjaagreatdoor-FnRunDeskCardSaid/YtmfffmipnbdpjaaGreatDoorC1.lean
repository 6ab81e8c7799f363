/-
  Chapter 1: sums, steps, edges and degrees, sums over parts: what each function computes.
-/
import Derived.Test.YtmfffmipnbdpjaaGreatDoorEq
import Derived.Deep.RegionHeld3
namespace Go.Proofs.YtmfffmipnbdpjaaGreatDoor
open Go.RowKit

def sumsL (xs : List Int) (n : Nat) : List Int := tab (fun i => sm (el xs) (i + 1)) n
/-- Each number less the one ahead of it, the first one as it is. -/
def stepAt (xs : List Int) (i : Nat) : Int := if i = 0 then el xs 0 else el xs i - el xs (i - 1)
def stepsL (xs : List Int) (n : Nat) : List Int := tab (stepAt xs) n
/-- Each number but the first one less the one ahead of it. -/
def diffL (xs : List Int) (n : Nat) : List Int := tab (fun i => el xs (i + 1) - el xs i) (n - 1)

set_option maxHeartbeats 400000 in
theorem differences_any (w : World) (a : Option Addr) (n c : Nat) (xs : List Int) (M : Int) (h : Row w a n c xs) (hn : n ≤ 16) (hM : M ≤ 1000000000000) (hb : ∀ i, i < n → -M ≤ el xs i ∧ el xs i ≤ M) :
    Calls Tryz.prog 55 #[.slice a n c] w fun e w' => Fresh w w' e (n - 1) (diffL xs n) := by
  go_enter Tryz.func55, Tryz.ntmps55
  go_wp2
  go_loopw [3, 4] (fun v u wr => ∃ (k : Nat) (a1 : Option Addr) (c1 : Nat), k ≤ n - 1 ∧ u = .int .i64 ((k : Int) + 1) ∧ v = .slice a1 k c1 ∧ Own wr w.heap.size a1 k c1 (tab (fun i => el xs (i + 1) - el xs i) k) ∧ Below w.heap.size w wr ∧ w.heap.size + 1 ≤ wr.heap.size) (fun v _ _ => n - lenOf v)
  case atStart => exact ⟨0, _, 0, Nat.zero_le _, rfl, rfl, own_empty w, (Below.refl _ _).alloc (Nat.le_refl _) _, by simp⟩
  case round =>
    obtain ⟨k, a1, c1, hk, rfl, rfl, hown, hbl, hsz⟩ := hrel
    by_cases hlt : k + 1 < n
    · obtain ⟨b, off, rfl, hbb, hcell⟩ := h.at (by omega)
      have HC : Hid (∀ w', Below w.heap.size w w' → ∀ j, j < n → w'.cell? ⟨b, off + j, none⟩ = some (.int .i64 (el xs j))) := hcell
      have hc := hcell wr hbl k (by omega)
      have hc1 := hcell wr hbl (k + 1) (by omega)
      have he := hb k (by omega)
      have he1 := hb (k + 1) (by omega)
      clear hcell
      have i0 : (0 : Int) ≤ (k : Int) := by omega
      have i1 : (k : Int) < n := by omega
      have i2 : (0 : Int) ≤ (k : Int) + 1 := by omega
      have i3 : (k : Int) + 1 < n := by omega
      have i4 : ((k : Int) + 1).toNat = k + 1 := by omega
      have i5 : IntKind.i64.wrap (k : Int) = k := IntWalk.i64_in _ (by omega)
      have i6 : IntKind.i64.wrap (el xs (k + 1) - el xs k) = el xs (k + 1) - el xs k := IntWalk.i64_in _ (by omega)
      go_wp2
      go_region_held3 (fun w' => w'.cell? ⟨b, off + k, none⟩ = some (.int .i64 (el xs k)) ∧ w'.cell? ⟨b, off + (k + 1), none⟩ = some (.int .i64 (el xs (k + 1)))) (first | go_keep | exact ⟨HC.out _ hbl2 _ (by omega), HC.out _ hbl2 _ (by omega)⟩)
        ((refine step_app_own _ (by rfl) _ _ (by rfl) w.heap.size _ _ _ _ (by rfl) (by exact (hown.alloc _).drew) _ 1 1 [el xs (k + 1) - el xs k] (by rfl) (by exact (Own.row (own_lit wr wr.heap.size [el xs (k + 1) - el xs k] rfl (by omega) (by simp)) (by simp)).drew) (by omega) (by simp; omega) ?_; intro a2 c2 w2 hown2 hgr2; have hbl2 := below_app (hbl.alloc (by omega) _).drew hgr2 (hown.alloc _).drew (Nat.le_refl _) (by simp; omega)))
      clear i5 i6
      go_wp2
      go_roundw
      case rel => exact ⟨k + 1, a2, c2, by omega, by go_num, rfl, hown2, hbl2, by have := hgr2.size; simp at this; omega⟩
      case measure => simp [lenOf]; omega
    · go_wp2
      go_ret
      obtain rfl : k = n - 1 := by omega
      exact Fresh.mk hown hbl

/-- The steps are the first number and the differences. -/
theorem stepsL_cons (xs : List Int) (n : Nat) (hn : 0 < n) : [el xs 0] ++ diffL xs n = stepsL xs n := by
  apply el_ext
  · simp [diffL, stepsL, tab_length]; omega
  · intro i hi
    have hi' : i < n := by simp [diffL, tab_length] at hi; omega
    rw [stepsL, el_tab hi']
    cases i with
    | zero => rfl
    | succ j =>
      have : el ([el xs 0] ++ diffL xs n) (j + 1) = el (diffL xs n) j := rfl
      rw [this, diffL, el_tab (by omega)]; simp [stepAt]

end Go.Proofs.YtmfffmipnbdpjaaGreatDoor
