/-
  The helpers of the exact laws: copies of lists, marks written into them, marks asked for.
-/
import Derived.Test.YtbnlfacggchoiaaMk
import Derived.Test.YtbnlfacggchoiaaNum
import Derived.Test.YtbnlfacggchoiaaDraw
import Derived.StillTailTactics
import Derived.Lib.Hide
namespace Go.Proofs.Ytbnlfacggchoiaa
open Go.RowKit

theorem el_setX {xs : List Int} {i k : Nat} {y : Int} (hi : i < xs.length) : el (xs.set i y) k = if k = i then y else el xs k := by
  unfold el
  by_cases e : k = i
  · subst e; simp [List.getD, hi]
  · rw [if_neg e]; simp [List.getD, List.getElem?_set, Ne.symm e]
theorem set_tabX {f : Nat → Int} {n i : Nat} {y : Int} (hi : i < n) : (tab f n).set i y = tab (fun x => if x = i then y else f x) n := by
  apply el_ext
  · simp [tab_length]
  · intro k hk
    have hk' : k < n := by simpa [tab_length] using hk
    rw [el_setX (by rw [tab_length]; exact hi), el_tab hk', el_tab hk']

/-- A row kept while another row of the call's own is written. -/
theorem Own.beside {w w' : World} {B : Nat} {a b : Option Addr} {n c m d : Nat} {xs : List Int} (h : Own w B a n c xs) (hg : w.grownBy w' (Value.slice b m d).ownBlock)
    (hne : ∀ k j, (Value.slice a n c).ownBlock = some k → (Value.slice b m d).ownBlock = some j → k ≠ j) : Own w' B a n c xs := by
  refine World.ownsRow.kept h hg ?_
  cases hb : (Value.slice a n c).ownBlock with
  | none => exact .inl rfl
  | some k =>
    refine .inr ?_
    intro e
    exact hne k k hb e.symm rfl
theorem Own.after {w w' : World} {B B2 : Nat} {a b : Option Addr} {n c m d : Nat} {xs ys : List Int} (h : Own w B a n c xs) (hg : w.grownBy w' (Value.slice b m d).ownBlock) {w0 : World} (h2 : Own w0 B2 b m d ys) (hB : w0.heap.size ≤ B) : Own w' B a n c xs :=
  h.beside hg fun k j hk hj => by have h1 := h.blk k hk; have h3 := h2.blk j hj; omega
/-- What lies below stays below. -/
theorem below_row {H B : Nat} {W0 w w' : World} {a : Option Addr} {n c : Nat} {xs : List Int} (h : Below H W0 w) (hg : w.grownBy w' (Value.slice a n c).ownBlock) (hown : Own w B a n c xs) (hB : H ≤ B) (hH : H ≤ w.heap.size) : Below H W0 w' :=
  below_app h hg hown hB hH

set_option maxHeartbeats 800000 in
theorem toIntS_any (w : World) (a : Option Addr) (n c : Nat) (xs : List Int) (h : Row w a n c xs) (hn : n ≤ 1048576) :
    Calls Try.prog 10 #[.slice a n c] w fun e w' => Fresh w w' e n xs := by
  have hlen : Hid (xs.length = n) := h.len
  go_enter Try.func10, Try.ntmps10
  go_wp2_with (at_make; go_must (refine make_int w rfl _ _ rfl .i64 .i64 _ _ n rfl rfl rfl rfl (by omega) ?_); intro w0 hown0 hb0 hsz0)
  have hst : tab (fun _ => 0) n = tab (fun i => if i < 0 then el xs i else 0) n := tab_congr fun i _ => by rw [if_neg (by omega)]
  rw [hst] at hown0
  clear hst
  go_loopw [4] (fun u wr => ∃ k : Nat, k ≤ n ∧ u = .int .i64 k ∧ Own wr w.heap.size (some ⟨w.heap.size, 0, none⟩) n n (tab (fun i => if i < k then el xs i else 0) n) ∧ Below w.heap.size w wr) (fun u _ => n - (intOf u).toNat)
  case atStart => exact ⟨0, Nat.zero_le _, rfl, hown0, hb0⟩
  case round =>
    obtain ⟨k, hk, rfl, hown, hbl⟩ := hrel
    clear hown0 hb0
    by_cases hlt : k < n
    · obtain ⟨b, off, rfl, hbb, hcell⟩ := (h.below hbl).cell k hlt
      have hc := hcell k hlt
      clear hcell
      obtain ⟨g, hg, hBg, hgl, hcell, hfr⟩ := hown.at k hlt
      injection hg with hg; injection hg with hg; subst hg
      have HST := hown.store k (el xs k)
      have he : (tab (fun i => if i < k then el xs i else 0) n).set k (el xs k) = tab (fun i => if i < k + 1 then el xs i else 0) n := by
        rw [set_tabX hlt]
        refine tab_congr fun i _ => ?_
        by_cases e : i = k
        · subst e; rw [if_pos rfl, if_pos (by omega)]
        · rw [if_neg e]
          by_cases e2 : i < k
          · rw [if_pos e2, if_pos (by omega)]
          · rw [if_neg e2, if_neg (by omega)]
      rw [he] at HST
      clear he
      go_wp2_with fail
      go_roundw
      case rel => exact ⟨k + 1, by omega, by go_num, HST, hbl.setCell hBg _⟩
      case measure => simp [intOf]; omega
    · obtain rfl : k = n := by omega
      have he : tab (fun i => if i < k then el xs i else 0) k = xs := by
        have : tab (fun i => if i < k then el xs i else 0) k = tab (el xs) k := tab_congr fun i hi => by rw [if_pos hi]
        rw [this, ← hlen.out]; exact tab_el xs
      rw [he] at hown
      clear he
      go_wp2_with fail
      go_ret
      exact Fresh.mk hown hbl

def marks (k : Int) (n : Nat) : List Int := tab (fun i => k + i) n
theorem marks_len (k : Int) (n : Nat) : (marks k n).length = n := tab_length _ _

set_option maxHeartbeats 800000 in
theorem markIntS_any (w : World) (B : Nat) (a : Option Addr) (n c : Nat) (xs : List Int) (k0 : Int) (h : Own w B a n c xs) (hn : n ≤ 1048576) (h0 : 0 ≤ k0) (h1 : k0 ≤ 10000000) :
    Calls Try.prog 12 #[.slice a n c, .int .i64 k0] w fun e w' => e = .returned (.int .i64 (k0 + n)) ∧ Own w' B a n c (marks k0 n) ∧ w.grownBy w' (Value.slice a n c).ownBlock := by
  have hlen : Hid (xs.length = n) := h.len
  have hX : tab (el xs) n = xs := by rw [← hlen.out]; exact tab_el xs
  have hst : tab (fun i => if i < 0 then k0 + i else el xs i) n = xs := by
    rw [← hX]; refine tab_congr fun i hi => ?_
    rw [if_neg (by omega), hX]
  have HST := Lib.hid hst
  clear hst hX
  go_enter Try.func12, Try.ntmps12
  go_wp2_with fail
  go_loopw [1, 5] (fun v u wr => ∃ k : Nat, k ≤ n ∧ u = .int .i64 k ∧ v = .int .i64 (k0 + k) ∧ Own wr B a n c (tab (fun i => if i < k then k0 + i else el xs i) n) ∧ w.grownBy wr (Value.slice a n c).ownBlock) (fun _ u _ => n - (intOf u).toNat)
  case atStart => exact ⟨0, Nat.zero_le _, rfl, by simp, by rw [HST.out]; exact h, World.grownBy.refl w _⟩
  case round =>
    obtain ⟨k, hk, rfl, rfl, hown, hgr⟩ := hrel
    by_cases hlt : k < n
    · obtain ⟨g, rfl, hBg, hgl, hcell, hfr⟩ := hown.at k hlt
      have HS2 := hown.store k (k0 + k)
      have he : (tab (fun i => if i < k then k0 + i else el xs i) n).set k (k0 + k) = tab (fun i => if i < k + 1 then k0 + i else el xs i) n := by
        rw [set_tabX hlt]
        refine tab_congr fun i _ => ?_
        by_cases e : i = k
        · subst e; rw [if_pos rfl, if_pos (by omega)]
        · rw [if_neg e]
          by_cases e2 : i < k
          · rw [if_pos e2, if_pos (by omega)]
          · rw [if_neg e2, if_neg (by omega)]
      rw [he] at HS2
      clear he
      have hgs := grown_trans hgr (grown_store wr g k (.int .i64 (k0 + k)))
      go_wp2_with fail
      go_roundw
      case rel => exact ⟨k + 1, by omega, by go_num, by go_num, HS2, hgs⟩
      case measure => simp [intOf]; omega
    · obtain rfl : k = n := by omega
      have he : tab (fun i => if i < k then k0 + i else el xs i) k = marks k0 k := tab_congr fun i hi => by rw [if_pos hi]
      rw [he] at hown
      clear he
      go_wp2_with fail
      go_ret
      exact ⟨rfl, hown, hgr⟩

set_option maxHeartbeats 800000 in
theorem heldIntS_any (w : World) (a : Option Addr) (n c : Nat) (k0 : Int) (h : Row w a n c (marks k0 n)) (hn : n ≤ 1048576) (h0 : 0 ≤ k0) (h1 : k0 ≤ 10000000) :
    Calls Try.prog 13 #[.slice a n c, .int .i64 k0] w fun e w' => e = .returned (.int .i64 (k0 + n)) ∧ w = w' := by
  go_enter Try.func13, Try.ntmps13
  go_wp2_with fail
  go_loop [1, 5] (fun v u => ∃ k : Nat, k ≤ n ∧ u = .int .i64 k ∧ v = .int .i64 (k0 + k)) (fun _ u => n - (intOf u).toNat)
  case atStart => exact ⟨0, Nat.zero_le _, rfl, by simp⟩
  case round =>
    obtain ⟨k, hk, rfl, rfl⟩ := hrel
    by_cases hlt : k < n
    · obtain ⟨b, off, rfl, hbb, hcell⟩ := h.cell k hlt
      have hc := hcell k hlt
      rw [marks, el_tab hlt] at hc
      clear hcell
      go_wp2_with fail
      go_round
      case rel => exact ⟨k + 1, by omega, by go_num, by go_num⟩
      case measure => simp [intOf]; omega
    · obtain rfl : k = n := by omega
      go_wp2_with fail
      go_ret
      exact ⟨rfl, rfl⟩
end Go.Proofs.Ytbnlfacggchoiaa
