/-
  Edges of differences: what EdgeOf, FromEdge and their like compute.
-/
import Derived.Test.YtommnhpihophbaaC1
import Derived.Test.YtommnhpihophbaaNum
namespace Go.Proofs.Ytommnhpihophbaa
open Go.RowKit

def edgeL (xs : List Int) (n : Nat) : List Int := tab (fun k => Dit k (el xs) 0) n
def fromAt (xs : List Int) (j m : Nat) : Int := sm (fun k => chI j k * el xs k) m
def fromL (xs : List Int) (n : Nat) : List Int := tab (fun j => fromAt xs j (j + 1)) n
/-- The k-th row of differences. -/
def difL (xs : List Int) (n k : Nat) : List Int := tab (Dit k (el xs)) (n - k)

theorem diffL_difL (xs : List Int) (n k : Nat) : diffL (difL xs n k) (n - k) = difL xs n (k + 1) := by
  have e : n - (k + 1) = n - k - 1 := by omega
  rw [difL, difL, e, diffL]
  apply tab_congr
  intro i hi
  rw [Dit_succ, el_tab (by omega), el_tab (by omega)]

theorem Row.grown {w w' : World} {a : Option Addr} {n c : Nat} {xs : List Int} {v : Value} (h : Row w a n c xs) (hg : w.grownBy w' v.ownBlock) (hne : 0 < n → ∀ b off, a = some ⟨b, off, none⟩ → some b ≠ v.ownBlock) : Row w' a n c xs :=
  ⟨h.len, h.small, h.cap, h.nil, fun i hi => by
    obtain ⟨b, off, ha, hlt, hc⟩ := h.cell i hi
    have := hg.size
    exact ⟨b, off, ha, by omega, fun j hj => (World.cell?_of_block (w := w) (hg.block b hlt (hne (by omega) b off ha))).trans (hc j hj)⟩⟩

/-- Two rows that share no block. -/
def ApartE (a b : Option Addr) : Prop := ∀ x y, a = some x → b = some y → x.block ≠ y.block
theorem ApartE.ne {a b : Option Addr} {n c : Nat} (h : ApartE a b) : ∀ x off, a = some ⟨x, off, none⟩ → some x ≠ (Value.slice b n c).ownBlock := by
  intro x off e
  cases b with
  | none => simp [Value.ownBlock]
  | some y => simp only [Value.ownBlock]; intro h2; injection h2 with h2; exact h _ _ e rfl h2

theorem Own.apart_old {w : World} {B : Nat} {a b : Option Addr} {n c : Nat} {xs : List Int} (h : Own w B b n c xs) (hb : ∀ x, a = some x → x.block < B) : ApartE a b := by
  intro x y e1 e2
  subst e2
  have := h.blk y.block rfl
  have := hb x e1
  omega

theorem EdgeOf_no (w : World) (a : Option Addr) (n c : Nat) (xs : List Int) (h : Row w a n c xs) (hv : valid xs = false) :
    Calls Try.prog 31 #[.slice a n c] w fun e w' => e = .returned (.slice none 0 0) ∧ w = w' := by
  go_enter Try.func31, Try.ntmps31
  go_wp2_with (go_at_call 22; refine (ValidRow_is w a n c xs false h hv).mono ?_; rintro e w' ⟨rfl, rfl⟩)
  go_ret
  exact ⟨rfl, rfl⟩

/-- The head of EdgeOf's loop. -/
def RelEdge (w : World) (xs : List Int) (n : Nat) (u0 u3 : Value) (wr : World) : Prop :=
  ∃ (k : Nat) (ar : Option Addr) (cr : Nat) (a1 : Option Addr) (c1 : Nat), k ≤ n ∧ u0 = .slice ar (n - k) cr ∧ u3 = .slice a1 k c1 ∧ Row wr ar (n - k) cr (difL xs n k) ∧ Own wr w.heap.size a1 k c1 (edgeL xs k) ∧
    Below w.heap.size w wr ∧ w.heap.size + 1 ≤ wr.heap.size ∧ (k < n → ApartE ar a1)

set_option maxHeartbeats 800000 in
theorem EdgeOf_yes (w : World) (a : Option Addr) (n c : Nat) (xs : List Int) (h : Row w a n c xs) (hv : valid xs = true) :
    Calls Try.prog 31 #[.slice a n c] w fun e w' => Fresh w w' e n (edgeL xs n) := by
  have hlen : Hid (xs.length = n) := h.len
  have hn : n ≤ 16 := by have := valid_len hv; rw [hlen.out] at this; exact this
  have hbd : Hid (∀ i, i < n → -1000 ≤ el xs i ∧ el xs i ≤ 1000) := fun i hi => valid_bd hv (by rw [hlen.out]; exact hi)
  have h0 : difL xs n 0 = xs := by rw [difL, Nat.sub_zero, ← hlen.out]; exact tab_el xs
  have H0 : Hid (difL xs n 0 = xs) := h0
  clear h0
  go_enter Try.func31, Try.ntmps31
  go_wp2_with (go_at_call 22; refine (ValidRow_is w a n c xs true h hv).mono ?_; rintro e w' ⟨rfl, rfl⟩)
  go_loopw [0, 3] (RelEdge w xs n) (fun _ v _ => n - lenOf v)
  case atStart =>
    refine ⟨0, a, c, _, 0, Nat.zero_le _, rfl, rfl, ?_, own_empty w, (Below.refl _ _).alloc (Nat.le_refl _) _, by simp, ?_⟩
    · rw [H0.out]; exact h.below ((Below.refl _ _).alloc (Nat.le_refl _) _)
    · intro hz x y e1 e2
      injection e2 with e2
      subst e2; subst e1
      obtain ⟨b, off, e, hb, _⟩ := h.cell 0 (by omega)
      injection e with e; subst e; show b ≠ w.heap.size; omega
  case round =>
    obtain ⟨k, ar, cr, a1, c1, hk, rfl, rfl, hrow, hown, hbl, hsz, hap⟩ := hrel
    by_cases hlt : k < n
    · have hd0 : el (difL xs n k) 0 = Dit k (el xs) 0 := by rw [difL, el_tab (by omega)]
      have HD0 : Hid (el (difL xs n k) 0 = Dit k (el xs) 0) := hd0
      have hbk : Hid (∀ i, i < n - k → -32768000 ≤ el (difL xs n k) i ∧ el (difL xs n k) i ≤ 32768000) := fun i hi => by rw [difL, el_tab hi]; exact Dit_bd16 hbd.out hn (by omega)
      have HDD : Hid (diffL (difL xs n k) (n - k) = difL xs n (k + 1)) := diffL_difL xs n k
      have hap' := hap hlt
      clear hd0 hap
      obtain ⟨b, off, rfl, hbb, hcell⟩ := hrow.at (by omega)
      have hc : wr.cell? ⟨b, off, none⟩ = some (.int .i64 (el (difL xs n k) 0)) := hcell wr (Below.refl _ _) 0 (by omega)
      clear hcell
      have hnk : (0 : Int) < ((n - k : Nat) : Int) := by omega
      have hnk2 : 0 < n - k := by omega
      go_wp2_with (at_builtin; go_must (refine app_int wr rfl _ _ rfl w.heap.size _ _ _ _ _ rfl hown rfl (by omega) (by omega) ?_); intro a2 c2 w2 hown2 hgr2 hsz2)
      have hrow2 := Row.grown hrow hgr2 fun _ => hap'.ne
      have hbl2 := below_app hbl hgr2 hown (Nat.le_refl _) (by omega)
      refine (differences_any w2 _ (n - k) cr (difL xs n k) 32768000 hrow2 (by omega) (by omega) hbk.out).mono ?_
      rintro e w3 ⟨a3, c3, rfl, hown3, hb3⟩
      have hown4 := hown2.below hb3
      have hbl3 := hbl2.trans (hb3.mono (by omega))
      have hsz3 := hb3.size
      rw [HDD.out] at hown3
      rw [HD0.out] at hown4
      go_wp2_with fail
      go_roundw
      case rel =>
        refine ⟨k + 1, a3, c3, a2, c2, by omega, rfl, rfl, hown3.row (by omega), hown4, hbl3, by omega, fun _ x y e1 e2 => ?_⟩
        subst e1; subst e2
        have h1 := hown3.blk x.block rfl
        have h2 := hown2.blk y.block rfl
        omega
      case measure => simp [lenOf]; omega
    · go_wp2_with fail
      go_ret
      obtain rfl : k = n := by omega
      exact Fresh.mk hown hbl
/-- The head of edge's outer loop. -/
def RelEdge2 (w : World) (xs : List Int) (n : Nat) (u3 u4 : Value) (wr : World) : Prop :=
  ∃ (k : Nat) (ar : Option Addr) (cr : Nat) (a1 : Option Addr) (c1 : Nat), k ≤ n ∧ u4 = .slice ar (n - k) cr ∧ u3 = .slice a1 k c1 ∧ Row wr ar (n - k) cr (difL xs n k) ∧ Own wr w.heap.size a1 k c1 (edgeL xs k) ∧
    Below w.heap.size w wr ∧ w.heap.size + 1 ≤ wr.heap.size ∧ (k < n → ApartE ar a1)

theorem difL_zero (xs : List Int) (n : Nat) (h : xs.length = n) : difL xs n 0 = xs := by rw [difL, Nat.sub_zero, ← h]; exact tab_el xs

set_option maxHeartbeats 1600000 in
theorem edge_any (w : World) (a : Option Addr) (n c : Nat) (xs : List Int) (h : Row w a n c xs) (hn : n ≤ 16) (hb0 : ∀ i, i < n → -1000 ≤ el xs i ∧ el xs i ≤ 1000) :
    Calls Try.prog 67 #[.slice a n c] w fun e w' => Fresh w w' e n (edgeL xs n) := by
  have hlen : Hid (xs.length = n) := h.len
  have hbd : Hid (∀ i, i < n → -1000 ≤ el xs i ∧ el xs i ≤ 1000) := hb0
  clear hb0
  have hA := (Below.refl w.heap.size w).alloc (Nat.le_refl _) (.cells #[] 3)
  go_enter Try.func67, Try.ntmps67
  go_wp2_with (at_builtin; go_must (refine copy_row (w.alloc (.cells #[] 3)) (w.heap.size + 1) (by simp) rfl _ _ rfl _ _ _ _ rfl rfl (h.below hA) (by omega) ?_); intro ar cr w0 hownr hb0 hsz0)
  have hbl0 := hA.trans (hb0.mono (by omega))
  have hown0 : Own w0 w.heap.size (some ⟨w.heap.size, 0, none⟩) 0 0 (edgeL xs 0) := ownsRow_below (own_empty w) hb0 (fun k hk => by have e : w.heap.size = k := (by injection hk); omega)
  go_loopw [3, 4] (RelEdge2 w xs n) (fun v _ _ => n - lenOf v)
  case atStart =>
    refine ⟨0, ar, cr, _, 0, Nat.zero_le _, rfl, rfl, ?_, hown0, hbl0, by omega, ?_⟩
    · rw [difL_zero xs n hlen.out]; exact hownr.row (by omega)
    · intro hz x y e1 e2
      injection e2 with e2
      subst e2; subst e1
      have := hownr.blk x.block rfl
      show x.block ≠ w.heap.size
      omega
  case round =>
    obtain ⟨k, ar, cr, a1, c1, hk, rfl, rfl, hrow, hown, hbl, hsz, hap⟩ := hrel
    clear hownr hb0 hown0 hbl0
    by_cases hlt : k < n
    · have hd0 : el (difL xs n k) 0 = Dit k (el xs) 0 := by rw [difL, el_tab (by omega)]
      have HD0 : Hid (el (difL xs n k) 0 = Dit k (el xs) 0) := hd0
      have hbk : Hid (∀ i, i < n - k → -32768000 ≤ el (difL xs n k) i ∧ el (difL xs n k) i ≤ 32768000) := fun i hi => by rw [difL, el_tab hi]; exact Dit_bd16 hbd.out hn (by omega)
      have HDD : Hid (diffL (difL xs n k) (n - k) = difL xs n (k + 1)) := diffL_difL xs n k
      have hap' := hap hlt
      clear hd0 hap
      obtain ⟨b, off, rfl, hbb, hcell⟩ := hrow.at (by omega)
      have hc : wr.cell? ⟨b, off, none⟩ = some (.int .i64 (el (difL xs n k) 0)) := hcell wr (Below.refl _ _) 0 (by omega)
      clear hcell
      have hnk : (0 : Int) < ((n - k : Nat) : Int) := by omega
      have hnk2 : 0 < n - k := by omega
      go_wp2_with (at_builtin; go_must (refine app_int wr rfl _ _ rfl w.heap.size _ _ _ _ _ rfl hown rfl (by omega) (by omega) ?_); intro a2 c2 w2 hown2 hgr2 hsz2)
      have hrow2 := Row.grown hrow hgr2 fun _ => hap'.ne
      have hbl2 := below_app hbl hgr2 hown (Nat.le_refl _) (by omega)
      obtain ⟨b', off', hbe, hbb2, hcell⟩ := hrow2.at (by omega)
      injection hbe with hbe; injection hbe with e1 e2; subst e1; subst e2
      have HC : Hid (∀ w', Below w2.heap.size w2 w' → ∀ j, j < n - k → w'.cell? ⟨b, off + j, none⟩ = some (.int .i64 (el (difL xs n k) j))) := hcell
      clear hcell hc hrow hown hbl hgr2 hap'
      obtain ⟨wo, rfl⟩ : ∃ wo : World, wo = wr := ⟨_, rfl⟩
      go_loopw [5, 6] (fun v u wr => ∃ (j : Nat) (a4 : Option Addr) (c4 : Nat), j ≤ n - k - 1 ∧ u = .int .i64 ((j : Int) + 1) ∧ v = .slice a4 j c4 ∧ Own wr w2.heap.size a4 j c4 (tab (fun i => el (difL xs n k) (i + 1) - el (difL xs n k) i) j) ∧ Below w2.heap.size w2 wr ∧ w2.heap.size + 1 ≤ wr.heap.size) (fun v _ _ => n - lenOf v)
      case atStart => exact ⟨0, _, 0, Nat.zero_le _, rfl, rfl, own_empty w2, (Below.refl _ _).alloc (Nat.le_refl _) _, by simp⟩
      case round =>
        obtain ⟨j, a4, c4, hj, rfl, rfl, hown4, hbl4, hsz4⟩ := hrel
        by_cases hjn : j + 1 < n - k
        · have hc := HC.out wr hbl4 j (by omega)
          have hc1 := HC.out wr hbl4 (j + 1) (by omega)
          have he := hbk.out j (by omega)
          have he1 := hbk.out (j + 1) (by omega)
          have i0 : (0 : Int) ≤ (j : Int) := by omega
          have i1 : (j : Int) < ((n - k : Nat) : Int) := by omega
          have i2 : (0 : Int) ≤ (j : Int) + 1 := by omega
          have i3 : (j : Int) + 1 < ((n - k : Nat) : Int) := by omega
          have i4 : ((j : Int) + 1).toNat = j + 1 := by omega
          have i5 : IntKind.i64.wrap (j : Int) = j := IntWalk.i64_in _ (by omega)
          have i6 : IntKind.i64.wrap (el (difL xs n k) (j + 1) - el (difL xs n k) j) = el (difL xs n k) (j + 1) - el (difL xs n k) j := IntWalk.i64_in _ (by omega)
          go_wp2_with fail
          go_region_held3 (fun w' => w'.cell? ⟨b, off + j, none⟩ = some (.int .i64 (el (difL xs n k) j)) ∧ w'.cell? ⟨b, off + (j + 1), none⟩ = some (.int .i64 (el (difL xs n k) (j + 1)))) (first | go_keep | exact ⟨HC.out _ hblX _ (by omega), HC.out _ hblX _ (by omega)⟩)
            ((refine step_app_own _ (by rfl) _ _ (by rfl) w2.heap.size _ _ _ _ (by rfl) (by exact (hown4.alloc _).drew) _ 1 1 [el (difL xs n k) (j + 1) - el (difL xs n k) j] (by rfl) (by exact (Own.row (own_lit wr wr.heap.size [el (difL xs n k) (j + 1) - el (difL xs n k) j] rfl (by omega) (by simp)) (by simp)).drew) (by omega) (by simp; omega) ?_; intro aX cX wX hownX hgrX; have hblX := below_app (hbl4.alloc (by omega) _).drew hgrX (hown4.alloc _).drew (Nat.le_refl _) (by simp; omega)))
          clear i5 i6
          go_wp2_with fail
          go_roundw
          case rel => exact ⟨j + 1, aX, cX, by omega, by go_num, rfl, hownX, hblX, by have := hgrX.size; simp at this; omega⟩
          case measure => simp [lenOf]; omega
        · go_wp2_with fail
          obtain rfl : j = n - k - 1 := by omega
          have hown5 := hown2.below hbl4
          have hrow5 := hown4.row (by omega)
          have hrow6 : Row wr a4 (n - (k + 1)) c4 (difL xs n (k + 1)) := by rw [← HDD.out]; exact hrow5
          rw [HD0.out] at hown5
          go_roundw
          case rel =>
            refine ⟨k + 1, a4, c4, a2, c2, by omega, rfl, rfl, hrow6, hown5, hbl2.trans (hbl4.mono (by omega)), by omega, fun _ x y e1 e2 => ?_⟩
            subst e1; subst e2
            have h1 := hown4.blk x.block rfl
            have h2 := hown2.blk y.block rfl
            omega
          case measure => simp [lenOf]; omega
    · go_wp2_with fail
      go_ret
      obtain rfl : k = n := by omega
      exact Fresh.mk hown hbl
theorem sEdgeOf_no (w : World) (a : Option Addr) (n c : Nat) (xs : List Int) (h : Row w a n c xs) (hv : valid xs = false) :
    Calls Try.prog 32 #[.slice a n c] w fun e w' => e = .returned (.slice none 0 0) ∧ w = w' := by
  go_enter Try.func32, Try.ntmps32
  go_wp2_with (go_at_call 61; refine (validRow_is w a n c xs false h hv).mono ?_; rintro e w' ⟨rfl, rfl⟩)
  go_ret
  exact ⟨rfl, rfl⟩
set_option maxHeartbeats 400000 in
theorem sEdgeOf_yes (w : World) (a : Option Addr) (n c : Nat) (xs : List Int) (h : Row w a n c xs) (hv : valid xs = true) :
    Calls Try.prog 32 #[.slice a n c] w fun e w' => Fresh w w' e n (edgeL xs n) := by
  have hlen : Hid (xs.length = n) := h.len
  have hn : n ≤ 16 := by have := valid_len hv; rw [hlen.out] at this; exact this
  have hbd : Hid (∀ i, i < n → -1000 ≤ el xs i ∧ el xs i ≤ 1000) := fun i hi => valid_bd hv (by rw [hlen.out]; exact hi)
  go_enter Try.func32, Try.ntmps32
  go_wp2_with (first | (go_at_call 61; refine (validRow_is w a n c xs true h hv).mono ?_; rintro e w' ⟨rfl, rfl⟩) | (go_at_call 67; refine (edge_any w a n c xs h hn hbd.out).mono ?_; rintro e w' ⟨a1, c1, rfl, hown, hbl⟩))
  go_ret
  exact Fresh.mk hown hbl

theorem FromEdge_no (w : World) (a : Option Addr) (n c : Nat) (xs : List Int) (h : Row w a n c xs) (hv : valid xs = false) :
    Calls Try.prog 33 #[.slice a n c] w fun e w' => e = .returned (.slice none 0 0) ∧ w = w' := by
  go_enter Try.func33, Try.ntmps33
  go_wp2_with (go_at_call 22; refine (ValidRow_is w a n c xs false h hv).mono ?_; rintro e w' ⟨rfl, rfl⟩)
  go_ret
  exact ⟨rfl, rfl⟩

theorem fromAt_bd {xs : List Int} {n : Nat} (h : ∀ i, i < n → -1000 ≤ el xs i ∧ el xs i ≤ 1000) (hn : n ≤ 16) {j m : Nat} (hj : j < n) (hm : m ≤ j + 1) : -(12870000 * (m : Int)) ≤ fromAt xs j m ∧ fromAt xs j m ≤ 12870000 * (m : Int) := by
  refine sm_bd fun i hi => ?_
  have h1 := @chI_bd j i (by omega) (by omega)
  have := @mul_bd (chI j i) (el xs i) 12870 1000 (by omega) (h i (by omega))
  omega

set_option maxHeartbeats 800000 in
theorem FromEdge_yes (w : World) (a : Option Addr) (n c : Nat) (xs : List Int) (h : Row w a n c xs) (hv : valid xs = true) :
    Calls Try.prog 33 #[.slice a n c] w fun e w' => Fresh w w' e n (fromL xs n) := by
  have hlen : Hid (xs.length = n) := h.len
  have hn : n ≤ 16 := by have := valid_len hv; rw [hlen.out] at this; exact this
  have hbd : Hid (∀ i, i < n → -1000 ≤ el xs i ∧ el xs i ≤ 1000) := fun i hi => valid_bd hv (by rw [hlen.out]; exact hi)
  go_enter Try.func33, Try.ntmps33
  go_wp2_with (go_at_call 22; refine (ValidRow_is w a n c xs true h hv).mono ?_; rintro e w' ⟨rfl, rfl⟩)
  go_loopw [3, 14] (fun v u wr => ∃ (k : Nat) (a1 : Option Addr) (c1 : Nat), k ≤ n ∧ u = .int .i64 k ∧ v = .slice a1 k c1 ∧ Own wr w.heap.size a1 k c1 (fromL xs k) ∧ Below w.heap.size w wr ∧ w.heap.size + 1 ≤ wr.heap.size) (fun v _ _ => n - lenOf v)
  case atStart => exact ⟨0, _, 0, Nat.zero_le _, rfl, rfl, own_empty w, (Below.refl _ _).alloc (Nat.le_refl _) _, by simp⟩
  case round =>
    obtain ⟨k, a1, c1, hk, rfl, rfl, hown, hbl, hsz⟩ := hrel
    by_cases hlt : k < n
    · obtain ⟨b, off, rfl, hbb, hcell⟩ := h.at (by omega)
      have HC : Hid (∀ w', Below w.heap.size w w' → ∀ j, j < n → w'.cell? ⟨b, off + j, none⟩ = some (.int .i64 (el xs j))) := hcell
      clear hcell
      go_wp2_with fail
      go_loop [5, 6, 7] (fun s y u => ∃ j : Nat, j ≤ k + 1 ∧ u = .int .i64 j ∧ s = .int .i64 (fromAt xs k j) ∧ y = .int .i64 (chI k j)) (fun _ _ u => k + 1 - (intOf u).toNat)
      case atStart => exact ⟨0, Nat.zero_le _, rfl, rfl, rfl⟩
      case round =>
        obtain ⟨j, hj, rfl, rfl, rfl⟩ := hrel
        by_cases hjk : j ≤ k
        · have hc := HC.out wr hbl j (by omega)
          have hs := @fromAt_bd xs n hbd.out hn k j hlt (by omega)
          have he := hbd.out j (by omega)
          have hch := @chI_bd k j (by omega) (by omega)
          have hp1 := @mul_bd (chI k j) (el xs j) 12870 1000 (by omega) he
          have hp2 := @mul_bd (chI k j) ((k : Int) - j) 12870 16 (by omega) (by omega)
          have hp3 : 0 ≤ chI k j * ((k : Int) - j) := Int.mul_nonneg hch.1 (by omega)
          have hp4 : 0 ≤ chI k j * ((k : Int) - j) / ((j : Int) + 1) := Int.ediv_nonneg hp3 (by omega)
          have hp5 : chI k j * ((k : Int) - j) / ((j : Int) + 1) ≤ 1000000 := Int.le_trans (Int.ediv_le_self _ hp3) (by omega)
          go_wp2_with fail
          go_round
          case rel => exact ⟨j + 1, by omega, by go_num, rfl, rfl⟩
          case measure => simp [intOf]; omega
        · obtain rfl : j = k + 1 := by omega
          go_wp2_with (at_builtin; go_must (refine app_int wr rfl _ _ rfl w.heap.size _ _ _ _ _ rfl hown rfl (by omega) (by omega) ?_); intro a2 c2 w2 hown2 hgr2 hsz2)
          go_roundw
          case rel => exact ⟨k + 1, a2, c2, by omega, by go_num, rfl, hown2, below_app hbl hgr2 hown (Nat.le_refl _) (by omega), by omega⟩
          case measure => simp [lenOf]; omega
    · go_wp2_with fail
      go_ret
      obtain rfl : k = n := by omega
      exact Fresh.mk hown hbl

set_option maxHeartbeats 400000 in
theorem choose_any (w : World) (n k : Nat) (hn : n ≤ 16) (hk : k ≤ n) :
    Calls Try.prog 68 #[.int .i64 n, .int .i64 k] w fun e w' => e = .returned (.int .i64 (chI n k)) ∧ w = w' := by
  go_enter Try.func68, Try.ntmps68
  go_wp2
  go_loop [5, 6] (fun y u => ∃ j : Nat, j ≤ k ∧ u = .int .i64 j ∧ y = .int .i64 (chI n j)) (fun _ u => k - (intOf u).toNat)
  case atStart => exact ⟨0, Nat.zero_le _, rfl, rfl⟩
  case round =>
    obtain ⟨j, hj, rfl, rfl⟩ := hrel
    by_cases hjk : j < k
    · have hch := @chI_bd n j (by omega) (by omega)
      have hp2 := @mul_bd (chI n j) ((n : Int) - j) 12870 16 (by omega) (by omega)
      have hp3 : 0 ≤ chI n j * ((n : Int) - j) := Int.mul_nonneg hch.1 (by omega)
      have hp4 : 0 ≤ chI n j * ((n : Int) - j) / ((j : Int) + 1) := Int.ediv_nonneg hp3 (by omega)
      have hp5 : chI n j * ((n : Int) - j) / ((j : Int) + 1) ≤ 1000000 := Int.le_trans (Int.ediv_le_self _ hp3) (by omega)
      go_wp2
      go_round
      case rel => exact ⟨j + 1, by omega, by go_num, rfl⟩
      case measure => simp [intOf]; omega
    · obtain rfl : j = k := by omega
      go_wp2
      go_ret
      exact ⟨rfl, rfl⟩

theorem sFromEdge_no (w : World) (a : Option Addr) (n c : Nat) (xs : List Int) (h : Row w a n c xs) (hv : valid xs = false) :
    Calls Try.prog 38 #[.slice a n c] w fun e w' => e = .returned (.slice none 0 0) ∧ w = w' := by
  go_enter Try.func38, Try.ntmps38
  go_wp2_with (go_at_call 61; refine (validRow_is w a n c xs false h hv).mono ?_; rintro e w' ⟨rfl, rfl⟩)
  go_ret
  exact ⟨rfl, rfl⟩
set_option maxHeartbeats 800000 in
theorem sFromEdge_yes (w : World) (a : Option Addr) (n c : Nat) (xs : List Int) (h : Row w a n c xs) (hv : valid xs = true) :
    Calls Try.prog 38 #[.slice a n c] w fun e w' => Fresh w w' e n (fromL xs n) := by
  have hlen : Hid (xs.length = n) := h.len
  have hn : n ≤ 16 := by have := valid_len hv; rw [hlen.out] at this; exact this
  have hbd : Hid (∀ i, i < n → -1000 ≤ el xs i ∧ el xs i ≤ 1000) := fun i hi => valid_bd hv (by rw [hlen.out]; exact hi)
  go_enter Try.func38, Try.ntmps38
  go_wp2_with (go_at_call 61; refine (validRow_is w a n c xs true h hv).mono ?_; rintro e w' ⟨rfl, rfl⟩)
  go_loopw [3, 4] (fun v u wr => ∃ (k : Nat) (a1 : Option Addr) (c1 : Nat), k ≤ n ∧ u = .int .i64 k ∧ v = .slice a1 k c1 ∧ Own wr w.heap.size a1 k c1 (fromL xs k) ∧ Below w.heap.size w wr ∧ w.heap.size + 1 ≤ wr.heap.size) (fun v _ _ => n - lenOf v)
  case atStart => exact ⟨0, _, 0, Nat.zero_le _, rfl, rfl, own_empty w, (Below.refl _ _).alloc (Nat.le_refl _) _, by simp⟩
  case round =>
    obtain ⟨k, a1, c1, hk, rfl, rfl, hown, hbl, hsz⟩ := hrel
    by_cases hlt : k < n
    · obtain ⟨b, off, rfl, hbb, hcell⟩ := h.at (by omega)
      have HC : Hid (∀ w', Below w.heap.size w w' → ∀ j, j < n → w'.cell? ⟨b, off + j, none⟩ = some (.int .i64 (el xs j))) := hcell
      clear hcell
      go_wp2_with fail
      obtain ⟨wo, rfl⟩ : ∃ wo : World, wo = wr := ⟨_, rfl⟩
      go_loopw [5, 6] (fun s u wr => ∃ j : Nat, j ≤ k + 1 ∧ u = .int .i64 j ∧ s = .int .i64 (fromAt xs k j) ∧ Below wo.heap.size wo wr) (fun _ u _ => k + 1 - (intOf u).toNat)
      case atStart => exact ⟨0, Nat.zero_le _, rfl, rfl, Below.refl _ _⟩
      case round =>
        obtain ⟨j, hj, rfl, rfl, hbl5⟩ := hrel
        have hbl6 := hbl.trans (hbl5.mono (by omega))
        by_cases hjk : j ≤ k
        · have hc := HC.out wr hbl6 j (by omega)
          have hs := @fromAt_bd xs n hbd.out hn k j hlt (by omega)
          have he := hbd.out j (by omega)
          have hch := @chI_bd k j (by omega) (by omega)
          have hp1 := @mul_bd (chI k j) (el xs j) 12870 1000 (by omega) he
          have i0 : (0 : Int) ≤ (j : Int) := by omega
          have i1 : (j : Int) < n := by omega
          have i5 : IntKind.i64.wrap (chI k j * el xs j) = chI k j * el xs j := IntWalk.i64_in _ (by omega)
          have i6 : IntKind.i64.wrap (fromAt xs k j + chI k j * el xs j) = fromAt xs k j + chI k j * el xs j := IntWalk.i64_in _ (by omega)
          go_wp2_with fail
          go_quiet ((go_at_call 68; exact quiet_same (choose_any _ k j (by omega) hjk)))
          clear i5 i6
          go_wp2_with fail
          go_roundw
          case rel => exact ⟨j + 1, by omega, by go_num, rfl, bdrewN hbl5 _⟩
          case measure => simp [intOf]; omega
        · obtain rfl : j = k + 1 := by omega
          have hown5 := hown.below hbl5
          have hsz5 := hbl5.size
          go_wp2_with (at_builtin; go_must (refine app_int wr rfl _ _ rfl w.heap.size _ _ _ _ _ rfl hown5 rfl (by omega) (by omega) ?_); intro a2 c2 w2 hown2 hgr2 hsz2)
          go_roundw
          case rel => exact ⟨k + 1, a2, c2, by omega, by go_num, rfl, hown2, below_app hbl6 hgr2 hown5 (Nat.le_refl _) (by omega), by omega⟩
          case measure => simp [lenOf]; omega
    · go_wp2_with fail
      go_ret
      obtain rfl : k = n := by omega
      exact Fresh.mk hown hbl
end Go.Proofs.Ytommnhpihophbaa
