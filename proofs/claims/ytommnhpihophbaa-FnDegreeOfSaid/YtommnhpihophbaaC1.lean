/-
  Chapter 1: sums, steps, edges and degrees, sums over parts: what each function computes.
-/
import Derived.Test.YtommnhpihophbaaEq
import Derived.Deep.RegionHeld3
namespace Go.Proofs.Ytommnhpihophbaa
open Go.RowKit

def sumsL (xs : List Int) (n : Nat) : List Int := tab (fun i => sm (el xs) (i + 1)) n
/-- Each number less the one ahead of it, the first one as it is. -/
def stepAt (xs : List Int) (i : Nat) : Int := if i = 0 then el xs 0 else el xs i - el xs (i - 1)
def stepsL (xs : List Int) (n : Nat) : List Int := tab (stepAt xs) n
/-- Each number but the first one less the one ahead of it. -/
def diffL (xs : List Int) (n : Nat) : List Int := tab (fun i => el xs (i + 1) - el xs i) (n - 1)

set_option maxHeartbeats 400000 in
theorem SumsOf_yes (w : World) (a : Option Addr) (n c : Nat) (xs : List Int) (h : Row w a n c xs) (hv : valid xs = true) :
    Calls Try.prog 18 #[.slice a n c] w fun e w' => Fresh w w' e n (sumsL xs n) := by
  have hlen : Hid (xs.length = n) := h.len
  have hn : n ≤ 16 := by have := valid_len hv; rw [hlen.out] at this; exact this
  go_enter Try.func18, Try.ntmps18
  go_wp2_with (go_at_call 22; refine (ValidRow_any w a n c xs h).mono ?_; rintro e w' ⟨rfl, rfl⟩)
  go_loopw [3, 4, 13] (fun v s u wr => ∃ (k : Nat) (a1 : Option Addr) (c1 : Nat), k ≤ n ∧ u = .int .i64 k ∧ s = .int .i64 (sm (el xs) k) ∧ v = .slice a1 k c1 ∧ Own wr w.heap.size a1 k c1 (sumsL xs k) ∧ Below w.heap.size w wr ∧ w.heap.size + 1 ≤ wr.heap.size) (fun v _ _ _ => n - lenOf v)
  case atStart => exact ⟨0, _, 0, Nat.zero_le _, rfl, rfl, rfl, own_empty w, (Below.refl _ _).alloc (Nat.le_refl _) _, by simp⟩
  case round =>
    obtain ⟨k, a1, c1, hk, rfl, rfl, rfl, hown, hbl, hsz⟩ := hrel
    by_cases hlt : k < n
    · obtain ⟨b, off, rfl, hbb, hcell⟩ := (h.below hbl).cell k hlt
      have hc := hcell k hlt
      have he := valid_bd hv (i := k) (by rw [hlen.out]; exact hlt)
      have hs := @sm_bd (el xs) 1000 k (fun i hi => valid_bd hv (by rw [hlen.out]; omega))
      clear hcell
      go_wp2_with (at_builtin; go_must (refine app_int wr rfl _ _ rfl w.heap.size _ _ _ _ _ rfl hown rfl (by omega) (by omega) ?_); intro a2 c2 w2 hown2 hgr2 hsz2)
      go_roundw
      case rel => exact ⟨k + 1, a2, c2, by omega, by go_num, rfl, rfl, hown2, below_app hbl hgr2 hown (Nat.le_refl _) (by omega), by omega⟩
      case measure => simp [lenOf]; omega
    · go_wp2_with fail
      go_ret
      obtain rfl : k = n := by omega
      exact Fresh.mk hown hbl
set_option maxHeartbeats 400000 in
theorem SumsOf_no (w : World) (a : Option Addr) (n c : Nat) (xs : List Int) (h : Row w a n c xs) (hv : valid xs = false) :
    Calls Try.prog 18 #[.slice a n c] w fun e w' => e = .returned (.slice none 0 0) ∧ w = w' := by
  go_enter Try.func18, Try.ntmps18
  go_wp2_with (go_at_call 22; refine (ValidRow_any w a n c xs h).mono ?_; rintro e w' ⟨rfl, rfl⟩)
  go_ret
  exact ⟨rfl, rfl⟩
set_option maxHeartbeats 400000 in
theorem sums_any (w : World) (a : Option Addr) (n c : Nat) (xs : List Int) (h : Row w a n c xs) (hv : valid xs = true) :
    Calls Try.prog 66 #[.slice a n c] w fun e w' => Fresh w w' e n (sumsL xs n) := by
  have hlen : Hid (xs.length = n) := h.len
  have hn : n ≤ 16 := by have := valid_len hv; rw [hlen.out] at this; exact this
  go_enter Try.func66, Try.ntmps66
  go_wp2_with (go_at_call 22; refine (ValidRow_any w a n c xs h).mono ?_; rintro e w' ⟨rfl, rfl⟩)
  go_loopw [3, 4, 5] (fun v s u wr => ∃ (k : Nat) (a1 : Option Addr) (c1 : Nat), k ≤ n ∧ u = .int .i64 k ∧ s = .int .i64 (sm (el xs) k) ∧ v = .slice a1 k c1 ∧ Own wr w.heap.size a1 k c1 (sumsL xs k) ∧ Below w.heap.size w wr ∧ w.heap.size + 1 ≤ wr.heap.size) (fun v _ _ _ => n - lenOf v)
  case atStart => exact ⟨0, _, 0, Nat.zero_le _, rfl, rfl, rfl, own_empty w, (Below.refl _ _).alloc (Nat.le_refl _) _, by simp⟩
  case round =>
    obtain ⟨k, a1, c1, hk, rfl, rfl, rfl, hown, hbl, hsz⟩ := hrel
    by_cases hlt : k < n
    · obtain ⟨b, off, rfl, hbb, hcell⟩ := (h.below hbl).cell k hlt
      have hc := hcell k hlt
      have he := valid_bd hv (i := k) (by rw [hlen.out]; exact hlt)
      have hs := @sm_bd (el xs) 1000 k (fun i hi => valid_bd hv (by rw [hlen.out]; omega))
      clear hcell
      go_wp2_with (at_builtin; go_must (refine app_int wr rfl _ _ rfl w.heap.size _ _ _ _ _ rfl hown rfl (by omega) (by omega) ?_); intro a2 c2 w2 hown2 hgr2 hsz2)
      go_roundw
      case rel => exact ⟨k + 1, a2, c2, by omega, by go_num, rfl, rfl, hown2, below_app hbl hgr2 hown (Nat.le_refl _) (by omega), by omega⟩
      case measure => simp [lenOf]; omega
    · go_wp2_with fail
      go_ret
      obtain rfl : k = n := by omega
      exact Fresh.mk hown hbl
set_option maxHeartbeats 400000 in
theorem differences_any (w : World) (a : Option Addr) (n c : Nat) (xs : List Int) (M : Int) (h : Row w a n c xs) (hn : n ≤ 16) (hM : M ≤ 1000000000000) (hb : ∀ i, i < n → -M ≤ el xs i ∧ el xs i ≤ M) :
    Calls Try.prog 63 #[.slice a n c] w fun e w' => Fresh w w' e (n - 1) (diffL xs n) := by
  go_enter Try.func63, Try.ntmps63
  go_wp2
  go_loopw [3, 4] (fun v u wr => ∃ (k : Nat) (a1 : Option Addr) (c1 : Nat), k ≤ n - 1 ∧ u = .int .i64 ((k : Int) + 1) ∧ v = .slice a1 k c1 ∧ Own wr w.heap.size a1 k c1 (tab (fun i => el xs (i + 1) - el xs i) k) ∧ Below w.heap.size w wr ∧ w.heap.size + 1 ≤ wr.heap.size) (fun v _ _ => n - lenOf v)
  case atStart => exact ⟨0, _, 0, Nat.zero_le _, rfl, rfl, own_empty w, (Below.refl _ _).alloc (Nat.le_refl _) _, by simp⟩
  case round =>
    obtain ⟨k, a1, c1, hk, rfl, rfl, hown, hbl, hsz⟩ := hrel
    by_cases hlt : k + 1 < n
    · obtain ⟨b, off, rfl, hbb, hcell⟩ := h.at (by omega)
      have HC : Hid (∀ w', Below w.heap.size w w' → ∀ j, j < n → w'.cell? ⟨b, off + j, none⟩ = some (.int .i64 (el xs j))) := hcell
      have hc := hcell wr hbl k (by omega)
      have hc1 := hcell wr hbl (k + 1) (by omega)
      have he := hb k (by omega)
      have he1 := hb (k + 1) (by omega)
      clear hcell
      have i0 : (0 : Int) ≤ (k : Int) := by omega
      have i1 : (k : Int) < n := by omega
      have i2 : (0 : Int) ≤ (k : Int) + 1 := by omega
      have i3 : (k : Int) + 1 < n := by omega
      have i4 : ((k : Int) + 1).toNat = k + 1 := by omega
      have i5 : IntKind.i64.wrap (k : Int) = k := IntWalk.i64_in _ (by omega)
      have i6 : IntKind.i64.wrap (el xs (k + 1) - el xs k) = el xs (k + 1) - el xs k := IntWalk.i64_in _ (by omega)
      go_wp2
      go_region_held3 (fun w' => w'.cell? ⟨b, off + k, none⟩ = some (.int .i64 (el xs k)) ∧ w'.cell? ⟨b, off + (k + 1), none⟩ = some (.int .i64 (el xs (k + 1)))) (first | go_keep | exact ⟨HC.out _ hbl2 _ (by omega), HC.out _ hbl2 _ (by omega)⟩)
        ((refine step_app_own _ (by rfl) _ _ (by rfl) w.heap.size _ _ _ _ (by rfl) (by exact (hown.alloc _).drew) _ 1 1 [el xs (k + 1) - el xs k] (by rfl) (by exact (Own.row (own_lit wr wr.heap.size [el xs (k + 1) - el xs k] rfl (by omega) (by simp)) (by simp)).drew) (by omega) (by simp; omega) ?_; intro a2 c2 w2 hown2 hgr2; have hbl2 := below_app (hbl.alloc (by omega) _).drew hgr2 (hown.alloc _).drew (Nat.le_refl _) (by simp; omega)))
      clear i5 i6
      go_wp2
      go_roundw
      case rel => exact ⟨k + 1, a2, c2, by omega, by go_num, rfl, hown2, hbl2, by have := hgr2.size; simp at this; omega⟩
      case measure => simp [lenOf]; omega
    · go_wp2
      go_ret
      obtain rfl : k = n - 1 := by omega
      exact Fresh.mk hown hbl
set_option maxHeartbeats 1000000 in
theorem steps_any (w : World) (a : Option Addr) (n c : Nat) (xs : List Int) (M : Int) (h : Row w a n c xs) (hn : n ≤ 16) (hM : M ≤ 1000000000000) (hb : ∀ i, i < n → -M ≤ el xs i ∧ el xs i ≤ M) :
    Calls Try.prog 64 #[.slice a n c] w fun e w' => Fresh w w' e n (stepsL xs n) := by
  go_enter Try.func64, Try.ntmps64
  go_wp2
  go_loopw [3, 4] (fun v u wr => ∃ (k : Nat) (a1 : Option Addr) (c1 : Nat), k ≤ n ∧ u = .int .i64 k ∧ v = .slice a1 k c1 ∧ Own wr w.heap.size a1 k c1 (stepsL xs k) ∧ Below w.heap.size w wr ∧ w.heap.size + 1 ≤ wr.heap.size) (fun v _ _ => n - lenOf v)
  case atStart => exact ⟨0, _, 0, Nat.zero_le _, rfl, rfl, own_empty w, (Below.refl _ _).alloc (Nat.le_refl _) _, by simp⟩
  case round =>
    obtain ⟨k, a1, c1, hk, rfl, rfl, hown, hbl, hsz⟩ := hrel
    by_cases hlt : k < n
    · obtain ⟨b, off, rfl, hbb, hcell⟩ := h.at (by omega)
      have HC : Hid (∀ w', Below w.heap.size w w' → ∀ j, j < n → w'.cell? ⟨b, off + j, none⟩ = some (.int .i64 (el xs j))) := hcell
      clear hcell
      by_cases hk0 : k = 0
      · subst hk0
        have hc : wr.cell? ⟨b, off, none⟩ = some (.int .i64 (el xs 0)) := HC.out wr hbl 0 (by omega)
        go_wp2_with (at_builtin; go_must (refine app_int wr rfl _ _ rfl w.heap.size _ _ _ _ _ rfl hown rfl (by omega) (by omega) ?_); intro a2 c2 w2 hown2 hgr2 hsz2)
        go_roundw
        case rel => exact ⟨1, a2, c2, by omega, by go_num, rfl, hown2, below_app hbl hgr2 hown (Nat.le_refl _) (by omega), by omega⟩
        case measure => simp [lenOf]; omega
      · obtain ⟨j, rfl⟩ : ∃ j, k = j + 1 := ⟨k - 1, by omega⟩
        have hc := HC.out wr hbl j (by omega)
        have hc1 := HC.out wr hbl (j + 1) (by omega)
        have he := hb j (by omega)
        have he1 := hb (j + 1) (by omega)
        have hs : stepAt xs (j + 1) = el xs (j + 1) - el xs j := by simp [stepAt]
        have HS : Hid (stepAt xs (j + 1) = el xs (j + 1) - el xs j) := hs
        clear hs hk0
        have i00 : (((j + 1 : Nat) : Int) == 0) = false := by simp; omega
        have i0 : (0 : Int) ≤ (j : Int) := by omega
        have i1 : (j : Int) < n := by omega
        have i2 : (0 : Int) ≤ (j : Int) + 1 := by omega
        have i3 : (j : Int) + 1 < n := by omega
        have i4 : ((j : Int) + 1).toNat = j + 1 := by omega
        have i5 : IntKind.i64.wrap (j : Int) = j := IntWalk.i64_in _ (by omega)
        have i6 : IntKind.i64.wrap (el xs (j + 1) - el xs j) = el xs (j + 1) - el xs j := IntWalk.i64_in _ (by omega)
        go_wp2
        go_region_held3 (fun w' => w'.cell? ⟨b, off + j, none⟩ = some (.int .i64 (el xs j)) ∧ w'.cell? ⟨b, off + (j + 1), none⟩ = some (.int .i64 (el xs (j + 1)))) (first | go_keep | exact ⟨HC.out _ hbl2 _ (by omega), HC.out _ hbl2 _ (by omega)⟩)
          ((refine step_app_own _ (by rfl) _ _ (by rfl) w.heap.size _ _ _ _ (by rfl) (by exact (hown.alloc _).drew) _ 1 1 [el xs (j + 1) - el xs j] (by rfl) (by exact (Own.row (own_lit wr wr.heap.size [el xs (j + 1) - el xs j] rfl (by omega) (by simp)) (by simp)).drew) (by omega) (by simp; omega) ?_; intro a2 c2 w2 hown2 hgr2; have hbl2 := below_app (hbl.alloc (by omega) _).drew hgr2 (hown.alloc _).drew (Nat.le_refl _) (by simp; omega)))
        clear i5 i6
        go_wp2
        go_roundw
        case rel => exact ⟨j + 1 + 1, a2, c2, by omega, by go_num, rfl, by rw [← HS.out] at hown2; exact hown2, hbl2, by have := hgr2.size; simp at this; omega⟩
        case measure => simp [lenOf]; omega
    · go_wp2
      go_ret
      obtain rfl : k = n := by omega
      exact Fresh.mk hown hbl

/-- The steps are the first number and the differences. -/
theorem stepsL_cons (xs : List Int) (n : Nat) (hn : 0 < n) : [el xs 0] ++ diffL xs n = stepsL xs n := by
  apply el_ext
  · simp [diffL, stepsL, tab_length]; omega
  · intro i hi
    have hi' : i < n := by simp [diffL, tab_length] at hi; omega
    rw [stepsL, el_tab hi']
    cases i with
    | zero => rfl
    | succ j =>
      have : el ([el xs 0] ++ diffL xs n) (j + 1) = el (diffL xs n) j := rfl
      rw [this, diffL, el_tab (by omega)]; simp [stepAt]

set_option maxHeartbeats 1000000 in
theorem StepsOf_yes (w : World) (a : Option Addr) (n c : Nat) (xs : List Int) (h : Row w a n c xs) (hv : valid xs = true) :
    Calls Try.prog 20 #[.slice a n c] w fun e w' => Fresh w w' e n (stepsL xs n) := by
  have hlen : Hid (xs.length = n) := h.len
  have hn : n ≤ 16 := by have := valid_len hv; rw [hlen.out] at this; exact this
  have hbd : Hid (∀ i, i < n → -1000 ≤ el xs i ∧ el xs i ≤ 1000) := fun i hi => valid_bd hv (by rw [hlen.out]; exact hi)
  by_cases hn0 : n = 0
  · subst hn0
    go_enter Try.func20, Try.ntmps20
    go_wp2_with (go_at_call 22; refine (ValidRow_any w a 0 c xs h).mono ?_; rintro e w' ⟨rfl, rfl⟩)
    go_ret
    exact Fresh.mk (own_empty w) ((Below.refl _ _).alloc (Nat.le_refl _) _)
  · obtain ⟨b, off, rfl, hbb, hcell⟩ := h.at (by omega)
    have HC : Hid (∀ w', Below w.heap.size w w' → ∀ j, j < n → w'.cell? ⟨b, off + j, none⟩ = some (.int .i64 (el xs j))) := hcell
    have hc : w.cell? ⟨b, off, none⟩ = some (.int .i64 (el xs 0)) := hcell w (Below.refl _ _) 0 (by omega)
    clear hcell
    have hnb : ((n : Int) == 0) = false := by simp; omega
    have hn1 : (0 : Int) < n := by omega
    have hnm : 1 + (n - 1) ≤ 1125899906842 := by omega
    have hn2 : 0 < n := by omega
    have hn3 : (n == 0) = false := by simp; omega
    go_enter Try.func20, Try.ntmps20
    go_wp2_with (go_at_call 22; refine (ValidRow_any w _ n c xs h).mono ?_; rintro e w' ⟨rfl, rfl⟩)
    have hbA : Below w.heap.size w (w.alloc (.cells #[.int .i64 (el xs 0)] 3)).drew := ((Below.refl _ w).alloc (Nat.le_refl _) _).drew
    have hbB : Below w.heap.size w w.drew := (Below.refl _ w).drew
    have hRA := h.below hbA
    have hRB := h.below hbB
    have hLA := (own_lit w w.heap.size [el xs 0] rfl (Nat.le_refl _) (by simp)).drew
    have hnA : w.heap.size ≤ (w.alloc (.cells #[.int .i64 (el xs 0)] 3)).drew.heap.size := hbA.size
    go_region_held3 (fun w' => w'.cell? ⟨b, off, none⟩ = some (.int .i64 (el xs 0))) (first | go_keep | exact HC.out _ hbl1 0 hn2 | exact HC.out _ hbl2 0 hn2)
      (first
        | (go_at_call 63; ((with_reducible refine (differences_any (w.alloc (.cells #[.int .i64 (el xs 0)] 3)).drew _ n c xs 1000 hRA hn (by omega) hbd.out).mono ?_); rintro e w1 ⟨a1, c1, rfl, hown1, hbl0⟩; have hbl1 := hbA.trans (hbl0.mono hnA); have hlit := hLA.below hbl0; have hsrc := hown1.row (by omega); have hz1 := hbl1.size))
        | (go_at_call 63; ((with_reducible refine (differences_any w.drew _ n c xs 1000 hRB hn (by omega) hbd.out).mono ?_); rintro e w1 ⟨a1, c1, rfl, hown1, hbl0⟩; have hbl1 := hbB.trans hbl0; have hz1 := hbl1.size; have hlit := own_lit w1 w.heap.size [el xs 0] rfl hz1 (by simp); have hsrc := (hown1.alloc (.cells #[.int .i64 (el xs 0)] 3)).row (by omega); have hbl3 := hbl1.alloc hz1 (.cells #[.int .i64 (el xs 0)] 3)))
        | (refine step_app_own _ (by rfl) _ _ (by rfl) w.heap.size _ _ _ [el xs 0] (by rfl) (by exact hlit) _ _ _ _ (by rfl) (by exact hsrc) (by exact hnm) (by exact hz1) ?_; intro a2 c2 w2 hown2 hgr2; have hbl2 := below_app hbl1 hgr2 hlit (Nat.le_refl _) hz1)
        | (refine step_app_own _ (by rfl) _ _ (by rfl) w.heap.size _ _ _ [el xs 0] (by rfl) (by exact hlit) _ _ _ _ (by rfl) (by exact hsrc) (by exact hnm) (by exact hbl3.size) ?_; intro a2 c2 w2 hown2 hgr2; have hbl2 := below_app hbl3 hgr2 hlit (Nat.le_refl _) hbl3.size))
    all_goals
      go_wp2
      go_ret
      exact Fresh.mk' hown2 hbl2 (show 1 + (n - 1) = n by omega) (stepsL_cons xs n (by omega))
set_option maxHeartbeats 400000 in
theorem StepsOf_no (w : World) (a : Option Addr) (n c : Nat) (xs : List Int) (h : Row w a n c xs) (hv : valid xs = false) :
    Calls Try.prog 20 #[.slice a n c] w fun e w' => e = .returned (.slice none 0 0) ∧ w = w' := by
  go_enter Try.func20, Try.ntmps20
  go_wp2_with (go_at_call 22; refine (ValidRow_any w a n c xs h).mono ?_; rintro e w' ⟨rfl, rfl⟩)
  go_ret
  exact ⟨rfl, rfl⟩
set_option maxHeartbeats 400000 in
theorem sStepsOf_no (w : World) (a : Option Addr) (n c : Nat) (xs : List Int) (h : Row w a n c xs) (hv : valid xs = false) :
    Calls Try.prog 21 #[.slice a n c] w fun e w' => e = .returned (.slice none 0 0) ∧ w = w' := by
  go_enter Try.func21, Try.ntmps21
  go_wp2_with (go_at_call 61; refine (validRow_any w a n c xs h).mono ?_; rintro e w' ⟨rfl, rfl⟩)
  go_ret
  exact ⟨rfl, rfl⟩
set_option maxHeartbeats 400000 in
theorem sStepsOf_yes (w : World) (a : Option Addr) (n c : Nat) (xs : List Int) (h : Row w a n c xs) (hv : valid xs = true) :
    Calls Try.prog 21 #[.slice a n c] w fun e w' => Fresh w w' e n (stepsL xs n) := by
  have hlen : Hid (xs.length = n) := h.len
  have hn : n ≤ 16 := by have := valid_len hv; rw [hlen.out] at this; exact this
  have hbd : Hid (∀ i, i < n → -1000 ≤ el xs i ∧ el xs i ≤ 1000) := fun i hi => valid_bd hv (by rw [hlen.out]; exact hi)
  go_enter Try.func21, Try.ntmps21
  go_wp2_with (first | (go_at_call 61; refine (validRow_any w a n c xs h).mono ?_; rintro e w' ⟨rfl, rfl⟩) | (go_at_call 64; refine (steps_any w a n c xs 1000 h hn (by omega) hbd.out).mono ?_; rintro e w' ⟨a1, c1, rfl, hown, hbl⟩))
  go_ret
  exact Fresh.mk hown hbl
set_option maxHeartbeats 400000 in
theorem sSumsOf_no (w : World) (a : Option Addr) (n c : Nat) (xs : List Int) (h : Row w a n c xs) (hv : valid xs = false) :
    Calls Try.prog 29 #[.slice a n c] w fun e w' => e = .returned (.slice none 0 0) ∧ w = w' := by
  go_enter Try.func29, Try.ntmps29
  go_wp2_with (go_at_call 61; refine (validRow_any w a n c xs h).mono ?_; rintro e w' ⟨rfl, rfl⟩)
  go_ret
  exact ⟨rfl, rfl⟩
set_option maxHeartbeats 400000 in
theorem sSumsOf_yes (w : World) (a : Option Addr) (n c : Nat) (xs : List Int) (h : Row w a n c xs) (hv : valid xs = true) :
    Calls Try.prog 29 #[.slice a n c] w fun e w' => Fresh w w' e n (sumsL xs n) := by
  go_enter Try.func29, Try.ntmps29
  go_wp2_with (first | (go_at_call 61; refine (validRow_any w a n c xs h).mono ?_; rintro e w' ⟨rfl, rfl⟩) | (go_at_call 66; go_must (refine (sums_any w a n c xs h hv).mono ?_); rintro e w' ⟨a1, c1, rfl, hown, hbl⟩))
  go_ret
  exact Fresh.mk hown hbl
end Go.Proofs.Ytommnhpihophbaa
