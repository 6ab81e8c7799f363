/-
  Equality of lists of integers, sums, lists turned round.
-/
import Derived.Test.YtommnhpihophbaaVal
import Derived.Deep.QuietTactic
import Derived.BigQuiet
namespace Go.Proofs.Ytommnhpihophbaa
open Go.RowKit

theorem bdrewN {B : Nat} {a w : World} (h : Below B a w) (k : Nat) : Below B a (w.drewN k) := ⟨h.os, h.tape, h.output, h.size, h.block⟩

theorem quiet_tells {f : FuncId} {args : Array Value} {w : World} {n : Nat} {b : Bool} (h : Calls Try.prog f args (w.drewN n) fun e w' => Tells (w.drewN n) w' e b) :
    Calls Try.prog f args (w.drewN n) fun e w'' => e = .returned (.bool b) ∧ ∃ m, w'' = w.drewN m :=
  h.mono fun _ _ h => ⟨h.1, n, h.2.symm⟩
theorem quiet_same {f : FuncId} {args : Array Value} {w : World} {n : Nat} {v : Value} (h : Calls Try.prog f args (w.drewN n) fun e w' => e = .returned v ∧ w.drewN n = w') :
    Calls Try.prog f args (w.drewN n) fun e w'' => e = .returned v ∧ ∃ m, w'' = w.drewN m :=
  h.mono fun _ _ h => ⟨h.1, n, h.2.symm⟩

/-- Whether two lists are equal. -/
def same (xs ys : List Int) : Bool := decide (xs = ys)
theorem same_yes {xs ys : List Int} (h : xs = ys) : same xs ys = true := decide_eq_true h
theorem same_no {xs ys : List Int} (h : xs ≠ ys) : same xs ys = false := decide_eq_false h
theorem same_refl (xs : List Int) : same xs xs = true := same_yes rfl
theorem same_iff {xs ys : List Int} : same xs ys = true ↔ xs = ys := by simp [same]

set_option maxHeartbeats 400000 in
theorem equalInts_any (w : World) (a b : Option Addr) (n m c d : Nat) (xs ys : List Int) (h : Row w a n c xs) (h2 : Row w b m d ys) :
    Calls Try.prog 16 #[.slice a n c, .slice b m d] w fun e w' => Says w w' e (same xs ys) := by
  have hlen : Hid (xs.length = n) := h.len
  have hlen2 : Hid (ys.length = m) := h2.len
  have hsm := h.small
  have hsm2 := h2.small
  by_cases hnm : n = m
  · obtain rfl : n = m := hnm
    go_enter Try.func16, Try.ntmps16
    go_wp2
    go_loopw [5] (fun u wr => ∃ k : Nat, k ≤ n ∧ u = .int .i64 k ∧ Hid (∀ i, i < k → el xs i = el ys i) ∧ Below w.heap.size w wr) (fun u _ => n - (intOf u).toNat)
    case atStart => exact ⟨0, Nat.zero_le _, rfl, fun i hi => by omega, Below.refl _ _⟩
    case round =>
      obtain ⟨k, hk, rfl, hall, hbl⟩ := hrel
      by_cases hlt : k < n
      · obtain ⟨b1, off1, rfl, hbb1, hcell1⟩ := (h.below hbl).cell k hlt
        obtain ⟨b2, off2, rfl, hbb2, hcell2⟩ := (h2.below hbl).cell k hlt
        have hc1 := hcell1 k hlt
        have hc2 := hcell2 k hlt
        clear hcell1 hcell2
        by_cases he : el xs k = el ys k
        · have heb : (el xs k != el ys k) = false := by simp [he]
          have HE : Hid (el xs k = el ys k) := he
          clear he
          go_wp2
          go_quiet (fail)
          go_wp2
          go_roundw
          case rel =>
            refine ⟨k + 1, by omega, by go_num, fun i hi => ?_, bdrewN hbl _⟩
            by_cases e : i = k
            · subst e; exact HE.out
            · exact hall.out i (by omega)
          case measure => simp [intOf]; omega
        · have heb : (el xs k != el ys k) = true := by simp [he]
          have HE : Hid (el xs k ≠ el ys k) := he
          clear he
          go_wp2
          go_quiet (fail)
          go_wp2
          go_ret
          exact ⟨ret_bool (same_no (by intro e; exact HE.out (by rw [e]))).symm, bdrewN hbl _⟩
      · go_wp2
        go_ret
        refine ⟨ret_bool (same_yes (el_ext ?_ fun i hi => hall.out i ?_)).symm, hbl⟩
        · rw [hlen.out, hlen2.out]
        · rw [hlen.out] at hi; omega
  · have hb : ((n : Int) != (m : Int)) = true := by rw [bne_iff_ne]; omega
    have HN : Hid (n ≠ m) := hnm
    clear hnm
    go_enter Try.func16, Try.ntmps16
    go_wp2
    go_ret
    exact ⟨ret_bool (same_no (by intro e; exact HN.out (by rw [← hlen.out, ← hlen2.out, e]))).symm, Below.refl _ _⟩
/-- Two lists that are equal. -/
theorem equalInts_any_eq (w : World) (a b : Option Addr) (n m c d : Nat) (xs ys : List Int) (h : Row w a n c xs) (h2 : Row w b m d ys) (e : xs = ys) :
    Calls Try.prog 16 #[.slice a n c, .slice b m d] w fun e w' => Says w w' e true :=
  (same_yes e) ▸ equalInts_any w a b n m c d xs ys h h2

set_option maxHeartbeats 400000 in
theorem total_any (w : World) (a : Option Addr) (n c : Nat) (xs : List Int) (M : Int) (h : Row w a n c xs) (hn : n ≤ 1000) (hM : M ≤ 1000000000000) (hb : ∀ i, i < n → -M ≤ el xs i ∧ el xs i ≤ M) :
    Calls Try.prog 26 #[.slice a n c] w fun e w' => e = .returned (.int .i64 (sm (el xs) n)) ∧ w = w' := by
  go_enter Try.func26, Try.ntmps26
  go_wp2
  go_loop [3, 4] (fun s u => ∃ k : Nat, k ≤ n ∧ u = .int .i64 k ∧ s = .int .i64 (sm (el xs) k)) (fun _ u => n - (intOf u).toNat)
  case atStart => exact ⟨0, Nat.zero_le _, rfl, rfl⟩
  case round =>
    obtain ⟨k, hk, rfl, rfl⟩ := hrel
    by_cases hlt : k < n
    · obtain ⟨b, off, rfl, hbb, hcell⟩ := h.cell k hlt
      have hc := hcell k hlt
      have hs : -1000000000000000 ≤ sm (el xs) k ∧ sm (el xs) k ≤ 1000000000000000 := by
        have h1 := @sm_bd (el xs) 1000000000000 k (fun i hi => by have := hb i (by omega); omega)
        omega
      have he := hb k hlt
      clear hcell
      go_wp2
      go_round
      case rel => exact ⟨k + 1, by omega, by go_num, rfl⟩
      case measure => simp [intOf]; omega
    · go_wp2
      go_ret
      obtain rfl : k = n := by omega
      exact ⟨rfl, rfl⟩

set_option maxHeartbeats 400000 in
theorem turned_any (w : World) (a : Option Addr) (n c : Nat) (xs : List Int) (h : Row w a n c xs) (hn : n ≤ 1000) :
    Calls Try.prog 27 #[.slice a n c] w fun e w' => Fresh w w' e n (tab (fun i => el xs (n - 1 - i)) n) := by
  go_enter Try.func27, Try.ntmps27
  go_wp2
  go_loopw [3, 4] (fun v u wr => ∃ (k : Nat) (a1 : Option Addr) (c1 : Nat), k ≤ n ∧ u = .int .i64 ((n : Int) - k - 1) ∧ v = .slice a1 k c1 ∧ Own wr w.heap.size a1 k c1 (tab (fun i => el xs (n - 1 - i)) k) ∧ Below w.heap.size w wr ∧ w.heap.size + 1 ≤ wr.heap.size) (fun v _ _ => n - lenOf v)
  case atStart => exact ⟨0, _, 0, Nat.zero_le _, by go_num, rfl, own_empty w, (Below.refl _ _).alloc (Nat.le_refl _) _, by simp⟩
  case round =>
    obtain ⟨k, a1, c1, hk, rfl, rfl, hown, hbl, hsz⟩ := hrel
    by_cases hlt : k < n
    · obtain ⟨b, off, rfl, hbb, hcell⟩ := (h.below hbl).cell k hlt
      have hc := hcell (n - 1 - k) (by omega)
      have hi : ((n : Int) - k - 1).toNat = n - 1 - k := by omega
      clear hcell
      go_wp2_with (at_builtin; go_must (refine app_int wr rfl _ _ rfl w.heap.size _ _ _ _ _ rfl hown rfl (by omega) (by omega) ?_); intro a2 c2 w2 hown2 hgr2 hsz2)
      go_roundw
      case rel => exact ⟨k + 1, a2, c2, by omega, by go_num, rfl, hown2, below_app hbl hgr2 hown (Nat.le_refl _) (by omega), by omega⟩
      case measure => simp [lenOf]; omega
    · go_wp2
      go_ret
      obtain rfl : k = n := by omega
      exact Fresh.mk hown hbl
/-- 'append([]int{}, row...)': a copy of a row. -/
theorem copy_row {ops : Array Oper} {rest : List Oper} {o : Oper} {a : Act} {Q : Exit → Act → World → Prop} (W : World) (k : Nat) (hk : W.heap.size = k) (hg : o.guard = none) (s x : Operand)
    (ho : o.op = .call { callee := .builtin .append, args := #[s, x], argTypes := #[23, 23] })
    (ax : Option Addr) (m cx : Nat) (ys : List Int) (hs : a.eval s = .slice (some ⟨k, 0, none⟩) 0 0) (hx : a.eval x = .slice ax m cx) (hrow : Row W ax m cx ys) (hm : m ≤ 1125899906842)
    (h : ∀ a2 c2 w2, Own w2 k a2 m c2 ys → Below k W w2 → k + 1 ≤ w2.heap.size → wpList Try.prog ops Q rest (a.put o.dst (.slice a2 m c2)) w2) :
    wpList Try.prog ops Q (o :: rest) a (W.alloc (.cells #[] 3)) := by
  subst hk
  have hA := (Below.refl W.heap.size W).alloc (Nat.le_refl _) (.cells #[] 3)
  refine wpList_app_own _ hg s x ho W.heap.size _ 0 0 [] hs (own_empty W) ax m cx ys hx (hrow.below hA) (by omega) hA.size fun a2 c2 w2 h1 h2 => ?_
  rw [Nat.zero_add] at h1 ⊢
  have hz := h2.size
  simp at hz
  exact h a2 c2 w2 h1 (below_app hA h2 (own_empty W) (Nat.le_refl _) hA.size) hz
end Go.Proofs.Ytommnhpihophbaa
