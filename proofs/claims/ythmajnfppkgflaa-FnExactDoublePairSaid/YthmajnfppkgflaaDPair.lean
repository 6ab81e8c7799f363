/-
  DoublePair, the program's and the reference's.
-/
import Derived.Test.YthmajnfppkgflaaPair
import Derived.Test.YthmajnfppkgflaaTwo
import Derived.Lib.SliceRun
namespace Go.Proofs.Ythmajnfppkgflaa
open Go.RowKit

/-- A row of the call's own, its spare room cut off: its block may be longer. -/
def OwnC (w : World) (B g n : Nat) (xs : List Int) : Prop :=
  xs.length = n ∧ B ≤ g ∧ ∃ cur, w.heap[g]? = some (.cells cur 3 (0, 0)) ∧ n ≤ cur.size ∧ cur.toList.take n = xs.map (Value.int .i64)
theorem Own.clip {w : World} {B : Nat} {a : Option Addr} {n c : Nat} {xs : List Int} (h : Own w B a n c xs) (hn : 0 < n) : ∃ g, a = some ⟨g, 0, none⟩ ∧ OwnC w B g n xs := by
  have hl := h.len
  rcases h.2 with ⟨_, h2⟩ | ⟨g, cap, cur, hv, hg, hh, hnc, hc, hz, ht⟩
  · omega
  · have ha : a = some ⟨g, 0, none⟩ := by injection hv
    exact ⟨g, ha, hl, hg, cur, hh, by omega, by rw [Nat.mul_one] at ht; exact ht⟩
theorem Own.capmax {w : World} {B : Nat} {a : Option Addr} {n c : Nat} {xs : List Int} (h : Own w B a n c xs) : c ≤ 9223372036854775807 := by
  rcases h.2 with ⟨h1, _⟩ | ⟨g, cap, cur, hv, hg, hh, hnc, hc, hz, ht⟩
  · have : c = 0 := by injection h1
    omega
  · have : c = cap := by injection hv
    unfold maxLen at hc; omega
theorem OwnC.lt {w : World} {B g n : Nat} {xs : List Int} (h : OwnC w B g n xs) : g < w.heap.size := by
  obtain ⟨_, _, cur, hh, _⟩ := h
  exact (Array.getElem?_eq_some_iff.1 hh).1
theorem OwnC.at {w : World} {B g n : Nat} {xs : List Int} (h : OwnC w B g n xs) (i : Nat) (hi : i < n) :
    w.cell? ⟨g, i, none⟩ = some (.int .i64 (el xs i)) ∧ w.frozen? ⟨g, i, none⟩ = false := by
  obtain ⟨hl, hB, cur, hh, hn, ht⟩ := h
  have e1 : cur[i]? = some (.int .i64 (el xs i)) := by
    have h1 : (cur.toList.take n)[i]? = (xs.map (Value.int .i64))[i]? := by rw [ht]
    have h2 : (xs.map (Value.int .i64))[i]? = some (.int .i64 (el xs i)) := by
      rw [List.getElem?_map, List.getElem?_eq_getElem (show i < xs.length by omega), el_mk (show i < xs.length by omega)]; rfl
    rw [List.getElem?_take_of_lt hi, h2, Array.getElem?_toList] at h1
    exact h1
  constructor
  · simp [World.cell?, hh, e1]
  · simp [World.frozen?, hh]
theorem OwnC.row {w : World} {B g n : Nat} {xs : List Int} (h : OwnC w B g n xs) (hs : n ≤ 1125899906842624) : Row w (some ⟨g, 0, none⟩) n n xs :=
  ⟨h.1, hs, Nat.le_refl _, (fun e => by cases e), fun i hi => ⟨g, 0, rfl, h.lt, fun j hj => by rw [Nat.zero_add]; exact (h.at j hj).1⟩⟩
theorem OwnC.kept {w w' : World} {B g n : Nat} {xs : List Int} (h : OwnC w B g n xs) (hb : w'.heap[g]? = w.heap[g]?) : OwnC w' B g n xs := by
  obtain ⟨hl, hB, cur, hh, hn, ht⟩ := h
  exact ⟨hl, hB, cur, hb.trans hh, hn, ht⟩
theorem OwnC.below {w w' : World} {B g n : Nat} {xs : List Int} (h : OwnC w B g n xs) (hb : Below w.heap.size w w') : OwnC w' B g n xs := h.kept (hb.block g h.lt)
theorem OwnC.store {w : World} {B g n : Nat} {xs : List Int} (h : OwnC w B g n xs) (i : Nat) (hi : i < n) (y : Int) : OwnC (w.setCell ⟨g, i, none⟩ (.int .i64 y)) B g n (xs.set i y) := by
  obtain ⟨hl, hB, cur, hh, hn, ht⟩ := h
  refine ⟨by rw [List.length_set]; exact hl, hB, cur.setIfInBounds i (.int .i64 y), ?_, by simp; exact hn, ?_⟩
  · simp only [World.setCell, Array.getElem?_modify, if_pos, hh]
    rfl
  · rw [Array.toList_setIfInBounds, List.take_set, ht, List.map_set]

theorem el_setC {xs : List Int} {i k : Nat} {y : Int} (hi : i < xs.length) : el (xs.set i y) k = if k = i then y else el xs k := by
  unfold el
  by_cases e : k = i
  · subst e; simp [List.getD, hi]
  · rw [if_neg e]; simp [List.getD, List.getElem?_set, Ne.symm e]
set_option maxHeartbeats 800000 in
theorem markC_any (w : World) (B g n : Nat) (xs : List Int) (k0 : Int) (h : OwnC w B g n xs) (hn : n ≤ 1048576) (h0 : 0 ≤ k0) (h1 : k0 ≤ 10000000) :
    Calls Try.prog 23 #[.slice (some ⟨g, 0, none⟩) n n, .int .i64 k0] w fun e w' => e = .returned (.int .i64 (k0 + n)) ∧ OwnC w' B g n (marks k0 n) ∧ w.grownBy w' (some g) := by
  have hlen : Hid (xs.length = n) := h.1
  have hX : tab (el xs) n = xs := by rw [← hlen.out]; exact tab_el xs
  have hst : tab (fun i => if i < 0 then k0 + i else el xs i) n = xs := by
    rw [← hX]; refine tab_congr fun i hi => ?_
    rw [if_neg (by omega), hX]
  have HST := Lib.hid hst
  clear hst hX
  go_enter Try.func23, Try.ntmps23
  go_wp2_with fail
  go_loopw [1, 5] (fun v u wr => ∃ k : Nat, k ≤ n ∧ u = .int .i64 k ∧ v = .int .i64 (k0 + k) ∧ OwnC wr B g n (tab (fun i => if i < k then k0 + i else el xs i) n) ∧ w.grownBy wr (some g)) (fun _ u _ => n - (intOf u).toNat)
  case atStart => exact ⟨0, Nat.zero_le _, rfl, by simp, by rw [HST.out]; exact h, World.grownBy.refl w _⟩
  case round =>
    obtain ⟨k, hk, rfl, rfl, hown, hgr⟩ := hrel
    by_cases hlt : k < n
    · obtain ⟨hcell, hfr⟩ := hown.at k hlt
      have HS2 := hown.store k hlt (k0 + k)
      have he : (tab (fun i => if i < k then k0 + i else el xs i) n).set k (k0 + k) = tab (fun i => if i < k + 1 then k0 + i else el xs i) n := by
        rw [set_tabX hlt]
        refine tab_congr fun i _ => ?_
        by_cases e : i = k
        · subst e; rw [if_pos rfl, if_pos (by omega)]
        · rw [if_neg e]
          by_cases e2 : i < k
          · rw [if_pos e2, if_pos (by omega)]
          · rw [if_neg e2, if_neg (by omega)]
      rw [he] at HS2
      clear he
      have hgs := grown_trans hgr (grown_store wr g k (.int .i64 (k0 + k)))
      go_wp2_with fail
      go_roundw
      case rel => exact ⟨k + 1, by omega, by go_num, by go_num, HS2, hgs⟩
      case measure => simp [intOf]; omega
    · obtain rfl : k = n := by omega
      have he : tab (fun i => if i < k then k0 + i else el xs i) k = marks k0 k := tab_congr fun i hi => by rw [if_pos hi]
      rw [he] at hown
      clear he
      go_wp2_with fail
      go_ret
      exact ⟨rfl, hown, hgr⟩
set_option maxHeartbeats 800000 in
theorem Clone_any (w : World) (a : Option Addr) (n c : Nat) (xs : List Int) (h : Row w a n c xs) (hn : 0 < n) (hn2 : n ≤ 1000) :
    Calls Try.prog 41 #[.slice a n c] w fun e w' => Fresh w w' e n xs := by
  obtain ⟨b, off, rfl, _, _⟩ := h.cell 0 hn
  have q22 : ∀ (w : World) (a : Option Addr) (n c n' c' : Nat), (binOp .eql 23 (.slice a n c) (.slice none n' c')).run Try.prog w = .ok (.bool a.isNone) w := fun w a n c n' c' => Lib.run_eql_slice_nil w _ _ a n c n' c' Try.underlying23
  go_enter Try.func41, Try.ntmps41
  go_wp2_with (at_builtin; go_must (refine copy_row w w.heap.size rfl rfl _ _ rfl _ _ _ _ rfl rfl h (by omega) ?_); intro a0 c0 w0 hown0 hb0 hsz0)
  go_ret
  exact Fresh.mk hown0 hb0
set_option maxHeartbeats 800000 in
theorem Clip_any (w : World) (x : Addr) (n c : Nat) (h : n ≤ c) (hn : n ≤ 1000000) (hc : c ≤ 9223372036854775807) :
    Calls Try.prog 42 #[.slice (some x) n c] w fun e w' => e = .returned (.slice (some x) n n) ∧ w = w' := by
  go_enter Try.func42, Try.ntmps42
  go_wp2_with fail
  go_ret
  exact ⟨rfl, rfl⟩
theorem dbl_app (xs ys : List Int) {n : Nat} (hx : xs.length = n) (hy : ys.length = n) : xs ++ ys = tab (dbl 1 (el xs) (el ys) n) (n + n) := by
  apply el_ext
  · rw [List.length_append, tab_length]; omega
  · intro i hi
    rw [List.length_append] at hi
    rw [el_tab (by omega), dbl]
    by_cases e : i < n
    · rw [if_pos e, el_append_left (by omega)]
    · rw [if_neg e, Int.one_mul]
      unfold el
      simp [List.getD, List.getElem?_append_right (show xs.length ≤ i by omega), hx]
theorem dbl_start (xs ys : List Int) {n : Nat} (hx : xs.length = n) (s : Int) : xs = tab (dbl s (el xs) (el ys) n) n := by
  apply el_ext
  · rw [tab_length, hx]
  · intro i hi
    rw [el_tab (by omega), dbl, if_pos (by omega)]
theorem dbl_at (f g : Nat → Int) (n k : Nat) : dbl (-1) f g n (n + k) = -g k := by rw [dbl, if_neg (by omega), show n + k - n = k by omega, Int.neg_one_mul]
def dpOk (xs ys : List Int) : Bool := pairB xs ys && decide (2 * xs.length ≤ 16)
theorem dpOk_iff {xs ys : List Int} : dpOk xs ys = true ↔ pairB xs ys = true ∧ 2 * xs.length ≤ 16 := by simp [dpOk]
def dpL (s : Int) (xs ys : List Int) (n : Nat) : List Int := tab (dbl s (el xs) (el ys) n) (n + n)
def nil3 : Value := .tuple #[.slice none 0 0, .slice none 0 0, .bool false]
/-- What a call hands back that doubles a pair, spare room cut off. -/
def TwoC (w w' : World) (e : Ending) (n : Nat) (us vs : List Int) : Prop :=
  ∃ g1 g2, e = .returned (.tuple #[.slice (some ⟨g1, 0, none⟩) n n, .slice (some ⟨g2, 0, none⟩) n n, .bool true]) ∧ OwnC w' w.heap.size g1 n us ∧ OwnC w' w.heap.size g2 n vs ∧ g1 ≠ g2 ∧ Below w.heap.size w w'
/-- What a call hands back that doubles a pair. -/
def TwoO (w w' : World) (e : Ending) (n : Nat) (us vs : List Int) : Prop :=
  ∃ a b c d, e = .returned (.tuple #[.slice a n c, .slice b n d, .bool true]) ∧ Own w' w.heap.size a n c us ∧ Own w' w.heap.size b n d vs ∧ Apart a b ∧ Below w.heap.size w w'
theorem pair_facts {xs ys : List Int} {n m : Nat} (h : pairB xs ys = true) (hl : xs.length = n) (hl2 : ys.length = m) : n = m ∧ 0 < n ∧ (∀ i, i < n → -1 ≤ el ys i ∧ el ys i ≤ 1) := by
  obtain ⟨h1, _⟩ := pair_iff.1 h
  obtain ⟨_, _, h3, h4, _, h6⟩ := pairOk_iff.1 h1
  refine ⟨by omega, by omega, fun i hi => ?_⟩
  rcases onF_iff.1 h6 i (by omega) with e | e <;> omega
set_option maxHeartbeats 1600000 in
theorem DoublePair_no (w : World) (a b : Option Addr) (n c m d : Nat) (xs ys : List Int) (h : Row w a n c xs) (h2 : Row w b m d ys) (hok : dpOk xs ys = false) :
    Calls Try.prog 21 #[.slice a n c, .slice b m d] w fun e w' => e = .returned nil3 ∧ Below w.heap.size w w' := by
  have hl := h.len
  have hl2 := h2.len
  cases hp : pairB xs ys
  · clear hok
    go_enter Try.func21, Try.ntmps21
    go_wp2_with fail
    refine (ArePaired_all w a b n c m d xs ys h h2).mono ?_
    rw [hp]
    rintro e w1 ⟨rfl, b1⟩
    go_wp2_with fail
    go_ret3
    exact ⟨rfl, b1⟩
  · obtain ⟨hnm, hn0, _⟩ := pair_facts hp hl hl2
    have h16 : 16 < n + m := by
      have : ¬ 2 * xs.length ≤ 16 := fun hh => by rw [dpOk_iff.2 ⟨hp, hh⟩] at hok; cases hok
      omega
    have hsm := h.small
    have hsm2 := h2.small
    subst hnm
    clear hok
    go_enter Try.func21, Try.ntmps21
    go_wp2_with fail
    refine (ArePaired_all w a b n c n d xs ys h h2).mono ?_
    rw [hp]
    rintro e w1 ⟨rfl, b1⟩
    go_wp2_with fail
    go_ret3
    exact ⟨rfl, b1⟩
set_option maxHeartbeats 3200000 in
theorem DoublePair_yes (w : World) (a b : Option Addr) (n c d : Nat) (xs ys : List Int) (h : Row w a n c xs) (h2 : Row w b n d ys) (hok : dpOk xs ys = true) :
    Calls Try.prog 21 #[.slice a n c, .slice b n d] w fun e w' => TwoC w w' e (n + n) (dpL 1 xs ys n) (dpL (-1) xs ys n) := by
  have hl := h.len
  have hl2 := h2.len
  obtain ⟨hp, h16⟩ := dpOk_iff.1 hok
  obtain ⟨_, hn0, hyb⟩ := pair_facts hp hl hl2
  have HYB := Lib.hid hyb
  have hn8 : n ≤ 8 := by omega
  have HX1 : Hid (xs ++ ys = dpL 1 xs ys n) := dbl_app xs ys hl hl2
  have HY0 : Hid (xs = tab (dbl (-1) (el xs) (el ys) n) n) := dbl_start xs ys hl (-1)
  clear hok hyb h16 hl hl2
  go_enter Try.func21, Try.ntmps21
  go_wp2_with fail
  refine (ArePaired_all w a b n c n d xs ys h h2).mono ?_
  rw [hp]
  rintro e w1 ⟨rfl, b1⟩
  go_wp2_with fail
  refine (Clone_any w1 a n c xs (h.below b1) hn0 (by omega)).mono ?_
  rintro e w2 ⟨a2, c2, rfl, own2, b2⟩
  have l2 := bstep b1 b2
  go_wp2_with (at_builtin; go_must (refine wpList_app_own w2 rfl _ _ rfl w.heap.size _ _ _ xs rfl (own2.mono b1.size) _ _ _ ys rfl (h2.below l2) (by omega) l2.size ?_); intro a3 c3 w3 own3 gr3)
  have l3 := below_app l2 gr3 (own2.mono b1.size) (Nat.le_refl _) l2.size
  rw [HX1.out] at own3
  clear own2 b2 gr3 l2
  go_wp2_with fail
  refine (Clone_any w3 a n c xs (h.below l3) hn0 (by omega)).mono ?_
  rintro e w4 ⟨a4, c4, rfl, own4, b4⟩
  obtain ⟨by1, oy1, rfl, _, hcy⟩ := h2.at hn0
  have HC := Lib.hid hcy
  clear hcy
  rw [HY0.out] at own4
  go_wp2_with fail
  go_loopw [8, 31] (fun v u wr => ∃ (k : Nat) (a5 : Option Addr) (c5 : Nat), k ≤ n ∧ u = .int .i64 k ∧ v = .slice a5 (n + k) c5 ∧ Own wr w3.heap.size a5 (n + k) c5 (tab (dbl (-1) (el xs) (el ys) n) (n + k)) ∧ Below w3.heap.size w3 wr) (fun _ u _ => n - (intOf u).toNat)
  case atStart => exact ⟨0, _, _, Nat.zero_le _, rfl, rfl, own4, b4⟩
  case round =>
    obtain ⟨k, a5, c5, hk, rfl, rfl, own5, b5⟩ := hrel
    clear own4 b4
    have l5 := bstep l3 b5
    by_cases hlt : k < n
    · have hc := HC.out wr l5 k hlt
      have hyb := HYB.out k hlt
      have HD : Hid (tab (dbl (-1) (el xs) (el ys) n) (n + k) ++ [-el ys k] = tab (dbl (-1) (el xs) (el ys) n) (n + (k + 1))) := by rw [Hid, ← dbl_at (el xs) (el ys) n k]; rfl
      go_wp2_with (at_builtin; go_must (refine app_int wr rfl _ _ rfl w3.heap.size _ _ _ _ _ rfl own5 rfl (by omega) b5.size ?_); intro a6 c6 w6 own6 gr6 hsz6)
      rw [HD.out] at own6
      go_roundw
      case rel => exact ⟨k + 1, a6, c6, by omega, by go_num, rfl, own6, below_app b5 gr6 own5 (Nat.le_refl _) b5.size⟩
      case measure => simp [intOf]; omega
    · obtain rfl : k = n := by omega
      have own35 := own3.below b5
      obtain ⟨g1, rfl, C1⟩ := own35.clip (by omega)
      obtain ⟨g2, rfl, C2⟩ := own5.clip (by omega)
      have hg1 : g1 < w3.heap.size := by
        obtain ⟨g, e, C⟩ := own3.clip (by omega)
        injection e with e; injection e with e; subst e
        exact C.lt
      have hg2 : w3.heap.size ≤ g2 := C2.2.1
      have hs13 : w.heap.size ≤ w3.heap.size := l3.size
      have hcap1 := (own35.row (by omega)).cap
      have hcap2 := (own5.row (by omega)).cap
      have hmx1 := own35.capmax
      have hmx2 := own5.capmax
      clear own3 own35 own5 l3 HC
      go_wp2_with fail
      refine (Clip_any wr _ _ _ hcap1 (by omega) hmx1).mono ?_
      rintro e w' ⟨rfl, rfl⟩
      go_wp2_with fail
      refine (Clip_any wr _ _ _ hcap2 (by omega) hmx2).mono ?_
      rintro e w' ⟨rfl, rfl⟩
      go_wp2_with fail
      go_ret3
      have hsw := b1.size
      have hs3 := l5.size
      exact ⟨g1, g2, rfl, C1, ⟨C2.1, by have := b5.size; omega, C2.2.2⟩, by omega, l5⟩
set_option maxHeartbeats 1600000 in
theorem sDoublePair_no (w : World) (a b : Option Addr) (n c m d : Nat) (xs ys : List Int) (h : Row w a n c xs) (h2 : Row w b m d ys) (hok : dpOk xs ys = false) :
    Calls Try.prog 19 #[.slice a n c, .slice b m d] w fun e w' => e = .returned nil3 ∧ Below w.heap.size w w' := by
  have hl := h.len
  have hl2 := h2.len
  cases hp : pairB xs ys
  · clear hok
    go_enter Try.func19, Try.ntmps19
    go_wp2_with fail
    refine (pair_all w a b n c m d xs ys h h2).mono ?_
    rw [hp]
    rintro e w1 ⟨rfl, b1⟩
    go_wp2_with fail
    go_ret3
    exact ⟨rfl, b1⟩
  · have h16 : 16 < 2 * n := by
      have : ¬ 2 * xs.length ≤ 16 := fun hh => by rw [dpOk_iff.2 ⟨hp, hh⟩] at hok; cases hok
      omega
    have hsm := h.small
    clear hok
    go_enter Try.func19, Try.ntmps19
    go_wp2_with fail
    refine (pair_all w a b n c m d xs ys h h2).mono ?_
    rw [hp]
    rintro e w1 ⟨rfl, b1⟩
    go_wp2_with fail
    go_ret3
    exact ⟨rfl, b1⟩
set_option maxHeartbeats 3200000 in
theorem sDoublePair_yes (w : World) (a b : Option Addr) (n c d : Nat) (xs ys : List Int) (h : Row w a n c xs) (h2 : Row w b n d ys) (hok : dpOk xs ys = true) :
    Calls Try.prog 19 #[.slice a n c, .slice b n d] w fun e w' => TwoO w w' e (n + n) (dpL 1 xs ys n) (dpL (-1) xs ys n) := by
  have hl := h.len
  have hl2 := h2.len
  obtain ⟨hp, h16⟩ := dpOk_iff.1 hok
  obtain ⟨_, hn0, hyb⟩ := pair_facts hp hl hl2
  have HYB := Lib.hid hyb
  have hn8 : n ≤ 8 := by omega
  have HX1 : Hid (xs ++ ys = dpL 1 xs ys n) := dbl_app xs ys hl hl2
  have HY0 : Hid (xs = tab (dbl (-1) (el xs) (el ys) n) n) := dbl_start xs ys hl (-1)
  clear hok hyb h16 hl hl2
  go_enter Try.func19, Try.ntmps19
  go_wp2_with fail
  refine (pair_all w a b n c n d xs ys h h2).mono ?_
  rw [hp]
  rintro e w1 ⟨rfl, b1⟩
  have hxb := h.below b1
  have hyb1 := h2.below b1
  go_wp2_with (first
    | (at_builtin; (refine copy_row w1 w1.heap.size rfl rfl _ _ rfl _ _ _ _ rfl rfl hxb (by omega) ?_); intro a2 c2 w2 own2 b2 hsz2)
    | (at_builtin; (refine wpList_app_own w2 rfl _ _ rfl w1.heap.size _ _ _ xs rfl own2 _ _ _ ys rfl (hyb1.below b2) (by omega) b2.size ?_); intro a3 c3 w3 own3 gr3; have b3 := below_app b2 gr3 own2 (Nat.le_refl _) b2.size)
    | (at_builtin; (refine copy_row w3 w3.heap.size rfl rfl _ _ rfl _ _ _ _ rfl rfl (hxb.below b3) (by omega) ?_); intro a4 c4 w4 own4 b4 hsz4))
  have l3 := bstep b1 b3
  rw [HX1.out] at own3
  clear own2 b2 gr3 hsz2
  obtain ⟨by1, oy1, rfl, _, hcy⟩ := h2.at hn0
  have HC := Lib.hid hcy
  clear hcy
  rw [HY0.out] at own4
  go_loopw [8, 9] (fun v u wr => ∃ (k : Nat) (a5 : Option Addr) (c5 : Nat), k ≤ n ∧ u = .int .i64 k ∧ v = .slice a5 (n + k) c5 ∧ Own wr w3.heap.size a5 (n + k) c5 (tab (dbl (-1) (el xs) (el ys) n) (n + k)) ∧ Below w3.heap.size w3 wr) (fun _ u _ => n - (intOf u).toNat)
  case atStart => exact ⟨0, _, _, Nat.zero_le _, rfl, rfl, own4, b4⟩
  case round =>
    obtain ⟨k, a5, c5, hk, rfl, rfl, own5, b5⟩ := hrel
    clear own4 b4 hsz4
    have l5 := bstep l3 b5
    by_cases hlt : k < n
    · have hc := HC.out wr l5 k hlt
      have hyb := HYB.out k hlt
      have HD : Hid (tab (dbl (-1) (el xs) (el ys) n) (n + k) ++ [-el ys k] = tab (dbl (-1) (el xs) (el ys) n) (n + (k + 1))) := by rw [Hid, ← dbl_at (el xs) (el ys) n k]; rfl
      go_wp2_with (at_builtin; go_must (refine app_int wr rfl _ _ rfl w3.heap.size _ _ _ _ _ rfl own5 rfl (by omega) b5.size ?_); intro a6 c6 w6 own6 gr6 hsz6)
      rw [HD.out] at own6
      go_roundw
      case rel => exact ⟨k + 1, a6, c6, by omega, by go_num, rfl, own6, below_app b5 gr6 own5 (Nat.le_refl _) b5.size⟩
      case measure => simp [intOf]; omega
    · obtain rfl : k = n := by omega
      have own35 := own3.below b5
      have hs3 := l3.size
      have hap : Apart a3 a5 := fun p q hp hq => by
        have h1 := (own_block_lt own3 hp).2
        have h3 := (own_block_lt own5 hq).1
        omega
      go_wp2_with fail
      go_ret3
      have hsw := b1.size
      exact ⟨a3, a5, c3, c5, rfl, own35.mono hsw, own5.mono hs3, hap, l5⟩
end Go.Proofs.Ythmajnfppkgflaa
