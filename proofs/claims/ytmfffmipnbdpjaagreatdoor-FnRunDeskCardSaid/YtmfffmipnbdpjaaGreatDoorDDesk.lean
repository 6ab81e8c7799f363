/-
  The drawing of a desk's lines: rows of numbers within bounds, texts out of a list, texts turned at one place.
-/
import Derived.Test.YtmfffmipnbdpjaaGreatDoorStr2
import Derived.Test.YtmfffmipnbdpjaaGreatDoorDraw2
import Derived.Deep.RegionHeld3
namespace Go.Proofs.YtmfffmipnbdpjaaGreatDoor
open Go.RowKit

/-- A row's numbers are small. -/
def Bd (xs : List Int) : Prop := ∀ i, -4000 ≤ el xs i ∧ el xs i ≤ 4000
theorem bd_nil : Bd [] := fun i => by rw [el_nil]; omega
theorem Bd.app {xs ys : List Int} (h : Bd xs) (k : Bd ys) : Bd (xs ++ ys) := by
  intro i
  by_cases e : i < xs.length
  · rw [el_append_left e]; exact h i
  · have e2 : el (xs ++ ys) i = el ys (i - xs.length) := by
      unfold el
      rw [List.getD_eq_getElem?_getD, List.getD_eq_getElem?_getD, List.getElem?_append_right (by omega)]
    rw [e2]; exact k _
theorem bd_one {y : Int} (h : -4000 ≤ y ∧ y ≤ 4000) : Bd [y] := by
  intro i
  cases i with
  | zero => exact h
  | succ k => rw [el_out (by simp)]; omega
theorem bd_all {xs : List Int} (h : ∀ i, i < xs.length → -4000 ≤ el xs i ∧ el xs i ≤ 4000) : Bd xs := by
  intro i
  by_cases e : i < xs.length
  · exact h i e
  · rw [el_out (by omega)]; omega
theorem Bd.set {xs : List Int} {k : Nat} {y : Int} (h : Bd xs) (hy : -4000 ≤ y ∧ y ≤ 4000) : Bd (xs.set k y) := by
  intro i
  have hi := h i
  unfold el at hi ⊢
  simp only [List.getD_eq_getElem?_getD, List.getElem?_set] at hi ⊢
  split
  · split
    · exact hy
    · simp
  · exact hi
theorem rest_bd {x m : Int} (h0 : 0 ≤ m) (h1 : m ≤ 1000) : -4000 ≤ x % (2 * m + 1) - m ∧ x % (2 * m + 1) - m ≤ 4000 := by
  have g1 := Int.emod_nonneg x (show 2 * m + 1 ≠ 0 by omega)
  have g2 := Int.emod_lt_of_pos x (show 0 < 2 * m + 1 by omega)
  omega

/-- What a drawing of a row within bounds leaves. -/
def DrawnB (w w' : World) (rb p : Nat) (e : Ending) : Prop :=
  ∃ (a : Option Addr) (m c : Nat) (xs : List Int) (q : Nat), e = .returned (.slice a m c) ∧ m ≤ 33 ∧ q ≤ p + 100 ∧ Bd xs ∧ Own w' w.heap.size a m c xs ∧ Asked w w' rb q
/-- The head of rowOf's first loop: some numbers drawn. -/
def RelRowB (w : World) (rb p n : Nat) (u5 : Value) (wr : World) : Prop :=
  ∃ (k : Nat) (a : Option Addr) (c : Nat) (xs : List Int) (q : Nat), u5 = .slice a k c ∧ k ≤ n ∧ q ≤ p + 2 * k ∧ Bd xs ∧ Own wr w.heap.size a k c xs ∧ Asked w wr rb q ∧ w.heap.size + 1 ≤ wr.heap.size
/-- The head of rowOf's second loop. -/
def RelRow2B (w : World) (rb p n : Nat) (a : Option Addr) (c : Nat) (u7 : Value) (wr : World) : Prop :=
  ∃ (k : Nat) (xs : List Int) (q : Nat), u7 = .int .i64 k ∧ k ≤ n ∧ q ≤ p ∧ Bd xs ∧ Own wr w.heap.size a n c xs ∧ Asked w wr rb q ∧ w.heap.size + 1 ≤ wr.heap.size
set_option maxHeartbeats 800000 in
theorem rowOf_bd (w : World) (rb p n : Nat) (h : Rdr w rb p) (hp : p ≤ 900000) (hn : n ≤ 16) :
    Calls Tryz.prog 18 #[.pointer (some ⟨rb, 0, none⟩), .int .i64 n] w fun e w' => DrawnB w w' rb p e := by
  have hrb := h.lt
  go_enter Tryz.func18, Tryz.ntmps18
  go_wp2_with fail
  refine (one_any _ rb p (rb + 1) _ 5 5 [5, 20, 3, 200, 1000] 0 1000 ((h.alloc _).alloc _) (by omega) (by omega) (by omega) (own_lit _ (rb + 1) [5, 20, 3, 200, 1000] (by simp) (by omega) (by decide)) (by omega) (by decide)).mono ?_
  rintro e w1 ⟨most, hm0, hm1, rfl, hask⟩
  have hask' := hask.of_alloc.of_alloc
  have hown0 := ((own_empty w).alloc (.cells #[.int .i64 5, .int .i64 20, .int .i64 3, .int .i64 200, .int .i64 1000] 3)).grown hask.gr hrb
  have hsz0 : w.heap.size + 1 ≤ w1.heap.size := by have := hask.gr.size; simp at this; omega
  go_wp2_with fail
  go_loopw [5] (RelRowB w rb (p + 1) n) (fun v _ => n - lenOf v)
  case atStart => exact ⟨0, _, 0, [], p + 1, rfl, by omega, by omega, bd_nil, hown0, hask', hsz0⟩
  case round =>
    obtain ⟨k, a1, c1, xs, q, rfl, hk, hq, hbd, hown, hak, hsz⟩ := hrel
    clear hown0 hask' hask hsz0
    by_cases hlt : k < n
    · go_wp2_with fail
      refine (pick_any wr rb q 256 hak.rdr (by omega) (by omega) (by omega)).mono ?_
      rintro e w2 ⟨x, hx0, hx1, rfl, hask2⟩
      go_wp2_with fail
      refine (pick_any w2 rb (q + 1) 256 hask2.rdr (by omega) (by omega) (by omega)).mono ?_
      rintro e w3 ⟨y, hy0, hy1, rfl, hask3⟩
      have hown3 := (hown.grown hask2.gr hrb).grown hask3.gr hrb
      have hak3 := (hak.trans hask2).trans hask3
      have hsz3 := Nat.le_trans hask2.gr.size hask3.gr.size
      have g1 := Int.emod_nonneg (x * 256 + y) (show 2 * most + 1 ≠ 0 by omega)
      have g2 := Int.emod_lt_of_pos (x * 256 + y) (show 0 < 2 * most + 1 by omega)
      clear hask2 hask3 hown hak
      go_wp2_with (at_builtin; go_must (refine app_int w3 rfl _ _ rfl w.heap.size _ _ _ _ _ rfl hown3 rfl (by omega) (by omega) ?_); intro a2 c2 w4 hown4 hgr4 hsz4)
      go_roundw
      case rel => exact ⟨k + 1, a2, c2, _, q + 2, rfl, by omega, by omega, hbd.app (bd_one (rest_bd hm0 hm1)), hown4, hak3.app hown3 hgr4 (Nat.le_refl _) hrb, by omega⟩
      case measure => simp [lenOf]; omega
    · go_wp2_with fail
      refine (pick_any wr rb q 12 hak.rdr (by omega) (by omega) (by omega)).mono ?_
      rintro e w2 ⟨x, hx0, hx1, rfl, hask2⟩
      have hown2 := hown.grown hask2.gr hrb
      have hak2 := hak.trans hask2
      have hsz2 := hask2.gr.size
      clear hask2 hown hak
      by_cases x0 : x = 0
      · subst x0
        go_wp2_with fail
        obtain ⟨wo, rfl⟩ : ∃ wo : World, wo = wr := ⟨_, rfl⟩
        go_loopw [7] (RelRow2B w rb (q + 1) k a1 c1) (fun i _ => k - (intOf i).toNat)
        case atStart => exact ⟨0, xs, q + 1, rfl, by omega, by omega, hbd, hown2, hak2, by omega⟩
        case round =>
          obtain ⟨j, ys, q2, rfl, hj, hq2, hbd2, hown5, hak5, hsz5⟩ := hrel
          clear hown2 hak2
          by_cases hjk : j < k
          · obtain ⟨g, rfl, hBg, hgl, hcell, hfr⟩ := hown5.at j hjk
            go_wp2_with fail
            go_roundw
            case rel => exact ⟨j + 1, _, q2, rfl, by omega, by omega, hbd2.set (by omega), hown5.store j _, hak5.below (Below.setCell (Below.refl _ _) (by exact hBg) _) hrb, by simp; omega⟩
            case measure => simp [intOf]; omega
          · go_wp2_with fail
            refine (pick_any wr rb (q2) 40 hak5.rdr (by omega) (by omega) (by omega)).mono ?_
            rintro e w7 ⟨z, hz0, hz1, rfl, hask7⟩
            have hown7 := hown5.grown hask7.gr hrb
            have hak7 := hak5.trans hask7
            have hsz7 := hask7.gr.size
            clear hask7
            by_cases z0 : z = 0
            · subst z0
              go_wp2_with fail
              refine (one_any _ rb (q2 + 1) (rb + 1) _ 2 2 [1001, -1001] (-2000) 2000 (hak7.rdr.alloc _) (by omega) (by omega) (by omega) (own_lit _ (rb + 1) [1001, -1001] (by simp) (by omega) (by decide)) (by omega) (by decide)).mono ?_
              rintro e w8 ⟨t, ht0, ht1, rfl, hask8⟩
              have hown8 := (hown7.alloc (.cells #[.int .i64 1001, .int .i64 (-1001)] 3)).grown hask8.gr hrb
              have hak8 := hak7.trans hask8.of_alloc
              have hsz8 := hask8.of_alloc.gr.size
              go_wp2_with (at_builtin; go_must (refine app_int w8 rfl _ _ rfl w.heap.size _ _ _ _ _ rfl hown8 rfl (by omega) (by omega) ?_); intro a9 c9 w9 hown9 hgr9 hsz9)
              go_ret
              exact ⟨_, _, _, _, _, rfl, by omega, by omega, hbd2.app (bd_one (by omega)), hown9, hak8.app hown8 hgr9 (Nat.le_refl _) hrb⟩
            · have z0b : (z == 0) = false := by simp; exact z0
              by_cases z1 : z = 1
              · subst z1
                go_wp2_with (at_builtin; go_must (refine app_ints w7 rfl _ _ rfl w.heap.size _ _ _ 17 _ [1, 1, 1, 1, 1, 1, 1, 1, 1, 1, 1, 1, 1, 1, 1, 1, 1] rfl (by omega) (by omega) rfl hown7 rfl (by omega) (by omega) ?_); intro a9 c9 w9 hown9 hgr9 hsz9)
                go_ret
                exact ⟨_, _, _, _, _, rfl, by omega, by omega, hbd2.app (bd_all (by decide)), hown9, hak7.app hown7 hgr9 (Nat.le_refl _) hrb⟩
              · have z1b : (z == 1) = false := by simp; exact z1
                go_wp2_with fail
                go_ret
                exact ⟨_, _, _, _, _, rfl, by omega, by omega, hbd2, hown7, hak7⟩
      · have x0b : (x == 0) = false := by simp; exact x0
        go_wp2_with fail
        refine (pick_any w2 rb (q + 1) 40 hak2.rdr (by omega) (by omega) (by omega)).mono ?_
        rintro e w7 ⟨z, hz0, hz1, rfl, hask7⟩
        have hown7 := hown2.grown hask7.gr hrb
        have hak7 := hak2.trans hask7
        have hsz7 := hask7.gr.size
        clear hask7
        by_cases z0 : z = 0
        · subst z0
          go_wp2_with fail
          refine (one_any _ rb (q + 1 + 1) (rb + 1) _ 2 2 [1001, -1001] (-2000) 2000 (hak7.rdr.alloc _) (by omega) (by omega) (by omega) (own_lit _ (rb + 1) [1001, -1001] (by simp) (by omega) (by decide)) (by omega) (by decide)).mono ?_
          rintro e w8 ⟨t, ht0, ht1, rfl, hask8⟩
          have hown8 := (hown7.alloc (.cells #[.int .i64 1001, .int .i64 (-1001)] 3)).grown hask8.gr hrb
          have hak8 := hak7.trans hask8.of_alloc
          have hsz8 := hask8.of_alloc.gr.size
          go_wp2_with (at_builtin; go_must (refine app_int w8 rfl _ _ rfl w.heap.size _ _ _ _ _ rfl hown8 rfl (by omega) (by omega) ?_); intro a9 c9 w9 hown9 hgr9 hsz9)
          go_ret
          exact ⟨_, _, _, _, _, rfl, by omega, by omega, hbd.app (bd_one (by omega)), hown9, hak8.app hown8 hgr9 (Nat.le_refl _) hrb⟩
        · have z0b : (z == 0) = false := by simp; exact z0
          by_cases z1 : z = 1
          · subst z1
            go_wp2_with (at_builtin; go_must (refine app_ints w7 rfl _ _ rfl w.heap.size _ _ _ 17 _ [1, 1, 1, 1, 1, 1, 1, 1, 1, 1, 1, 1, 1, 1, 1, 1, 1] rfl (by omega) (by omega) rfl hown7 rfl (by omega) (by omega) ?_); intro a9 c9 w9 hown9 hgr9 hsz9)
            go_ret
            exact ⟨_, _, _, _, _, rfl, by omega, by omega, hbd.app (bd_all (by decide)), hown9, hak7.app hown7 hgr9 (Nat.le_refl _) hrb⟩
          · have z1b : (z == 1) = false := by simp; exact z1
            go_wp2_with fail
            go_ret
            exact ⟨_, _, _, _, _, rfl, by omega, by omega, hbd, hown7, hak7⟩
set_option maxHeartbeats 1600000 in
theorem someRests_bd (w : World) (rb p n : Nat) (h : Rdr w rb p) (hp : p ≤ 800000) (hn : n ≤ 16) :
    Calls Tryz.prog 20 #[.pointer (some ⟨rb, 0, none⟩), .int .i64 n] w fun e w' => DrawnB w w' rb p e := by
  have hrb := h.lt
  go_enter Tryz.func20, Tryz.ntmps20
  go_wp2_with fail
  refine (pick_any _ rb p 3 (h.alloc _) (by omega) (by omega) (by omega)).mono ?_
  rintro e w1 ⟨z, hz0, hz1, rfl, hask⟩
  have hask' := hask.of_alloc
  have hown0 := (own_empty w).grown hask.gr hrb
  have hsz0 : w.heap.size + 1 ≤ w1.heap.size := by have := hask.gr.size; simp at this; omega
  by_cases z0 : z = 0
  · subst z0
    go_wp2_with fail
    go_loopw [5] (RelRowB w rb (p + 1) n) (fun v _ => n - lenOf v)
    case atStart => exact ⟨0, _, 0, [], p + 1, rfl, by omega, by omega, bd_nil, hown0, hask', hsz0⟩
    case round =>
      obtain ⟨k, a1, c1, xs, q, rfl, hk, hq, hbd, hown, hak, hsz⟩ := hrel
      clear hown0 hask' hask hsz0
      by_cases hlt : k < n
      · go_wp2_with fail
        refine (pick_any wr rb q 97 hak.rdr (by omega) (by omega) (by omega)).mono ?_
        rintro e w2 ⟨x, hx0, hx1, rfl, hask2⟩
        go_wp2_with fail
        refine (pick_any w2 rb (q + 1) 3 hask2.rdr (by omega) (by omega) (by omega)).mono ?_
        rintro e w3 ⟨y, hy0, hy1, rfl, hask3⟩
        have hown3 := (hown.grown hask2.gr hrb).grown hask3.gr hrb
        have hak3 := (hak.trans hask2).trans hask3
        have hsz3 := Nat.le_trans hask2.gr.size hask3.gr.size
        have hbd1 := hbd.app (bd_one (y := x) (by omega))
        have hbd0 := hbd.app (bd_one (y := 0) (by omega))
        clear hask2 hask3 hown hak
        by_cases hy : 0 < y
        · go_wp2_with (at_builtin; go_must (refine app_int w3 rfl _ _ rfl w.heap.size _ _ _ _ _ rfl hown3 rfl (by omega) (by omega) ?_); intro a5 c5 w5 hown5 hgr5 hsz5)
          go_roundw
          case rel => exact ⟨k + 1, a5, c5, _, q + 2, rfl, by omega, by omega, hbd0, hown5, hak3.app hown3 hgr5 (Nat.le_refl _) hrb, by omega⟩
          case measure => simp [lenOf]; omega
        · go_wp2_with (at_builtin; go_must (refine app_int w3 rfl _ _ rfl w.heap.size _ _ _ _ _ rfl hown3 rfl (by omega) (by omega) ?_); intro a5 c5 w5 hown5 hgr5 hsz5)
          go_roundw
          case rel => exact ⟨k + 1, a5, c5, _, q + 2, rfl, by omega, by omega, hbd1, hown5, hak3.app hown3 hgr5 (Nat.le_refl _) hrb, by omega⟩
          case measure => simp [lenOf]; omega
      · by_cases hk0 : k = 0
        · subst hk0
          go_wp2_with fail
          go_ret
          exact ⟨_, _, _, _, _, rfl, by omega, by omega, hbd, hown, hak⟩
        · have hkp : (0 : Int) < k := by omega
          have hkq : 0 < k := by omega
          clear hk0
          go_wp2_with fail
          refine (pick_any wr rb (q) 30 hak.rdr (by omega) (by omega) (by omega)).mono ?_
          rintro e w7 ⟨z7, hz70, hz71, rfl, hask7⟩
          have hown7 := hown.grown hask7.gr hrb
          have hak7 := hak.trans hask7
          have hsz7 := hask7.gr.size
          clear hask7
          by_cases z70 : z7 = 0
          · subst z70
            go_wp2_with fail
            refine (one_any _ rb (q + 1) (rb + 1) _ 2 2 [97, -1] (-2000) 2000 (hak7.rdr.alloc _) (by omega) (by omega) (by omega) (own_lit _ (rb + 1) [97, -1] (by simp) (by omega) (by decide)) (by omega) (by decide)).mono ?_
            rintro e w8 ⟨t, ht0, ht1, rfl, hask8⟩
            have hown8 := (hown7.alloc (.cells #[.int .i64 97, .int .i64 (-1)] 3)).grown hask8.gr hrb
            have hak8 := hak7.trans hask8.of_alloc
            have hsz8 := hask8.of_alloc.gr.size
            obtain ⟨g, rfl, hBg, hgl, hcell, hfr⟩ := hown8.at 0 hkq
            go_wp2_with fail
            go_ret
            exact ⟨_, _, _, _, _, rfl, by omega, by omega, hbd.set (by omega), hown8.store 0 _, hak8.below (Below.setCell (Below.refl _ _) (by exact hBg) _) hrb⟩
          · have z0b : (z7 == 0) = false := by simp; exact z70
            go_wp2_with fail
            go_ret
            exact ⟨_, _, _, _, _, rfl, by omega, by omega, hbd, hown7, hak7⟩
  · have z0b : (z == 0) = false := by simp; exact z0
    go_wp2_with fail
    go_loopw [5] (RelRowB w rb (p + 1) n) (fun v _ => n - lenOf v)
    case atStart => exact ⟨0, _, 0, [], p + 1, rfl, by omega, by omega, bd_nil, hown0, hask', hsz0⟩
    case round =>
      obtain ⟨k, a1, c1, xs, q, rfl, hk, hq, hbd, hown, hak, hsz⟩ := hrel
      clear hown0 hask' hask hsz0
      by_cases hlt : k < n
      · go_wp2_with fail
        refine (pick_any wr rb q 97 hak.rdr (by omega) (by omega) (by omega)).mono ?_
        rintro e w2 ⟨x, hx0, hx1, rfl, hask2⟩
        have hown3 := hown.grown hask2.gr hrb
        have hak3 := hak.trans hask2
        have hsz3 := hask2.gr.size
        have hbd1 := hbd.app (bd_one (y := x) (by omega))
        clear hask2 hown hak
        go_wp2_with (at_builtin; go_must (refine app_int w2 rfl _ _ rfl w.heap.size _ _ _ _ _ rfl hown3 rfl (by omega) (by omega) ?_); intro a5 c5 w5 hown5 hgr5 hsz5)
        go_roundw
        case rel => exact ⟨k + 1, a5, c5, _, q + 1, rfl, by omega, by omega, hbd1, hown5, hak3.app hown3 hgr5 (Nat.le_refl _) hrb, by omega⟩
        case measure => simp [lenOf]; omega
      · by_cases hk0 : k = 0
        · subst hk0
          go_wp2_with fail
          go_ret
          exact ⟨_, _, _, _, _, rfl, by omega, by omega, hbd, hown, hak⟩
        · have hkp : (0 : Int) < k := by omega
          have hkq : 0 < k := by omega
          clear hk0
          go_wp2_with fail
          refine (pick_any wr rb (q) 30 hak.rdr (by omega) (by omega) (by omega)).mono ?_
          rintro e w7 ⟨z7, hz70, hz71, rfl, hask7⟩
          have hown7 := hown.grown hask7.gr hrb
          have hak7 := hak.trans hask7
          have hsz7 := hask7.gr.size
          clear hask7
          by_cases z70 : z7 = 0
          · subst z70
            go_wp2_with fail
            refine (one_any _ rb (q + 1) (rb + 1) _ 2 2 [97, -1] (-2000) 2000 (hak7.rdr.alloc _) (by omega) (by omega) (by omega) (own_lit _ (rb + 1) [97, -1] (by simp) (by omega) (by decide)) (by omega) (by decide)).mono ?_
            rintro e w8 ⟨t, ht0, ht1, rfl, hask8⟩
            have hown8 := (hown7.alloc (.cells #[.int .i64 97, .int .i64 (-1)] 3)).grown hask8.gr hrb
            have hak8 := hak7.trans hask8.of_alloc
            have hsz8 := hask8.of_alloc.gr.size
            obtain ⟨g, rfl, hBg, hgl, hcell, hfr⟩ := hown8.at 0 hkq
            go_wp2_with fail
            go_ret
            exact ⟨_, _, _, _, _, rfl, by omega, by omega, hbd.set (by omega), hown8.store 0 _, hak8.below (Below.setCell (Below.refl _ _) (by exact hBg) _) hrb⟩
          · have z0b : (z7 == 0) = false := by simp; exact z70
            go_wp2_with fail
            go_ret
            exact ⟨_, _, _, _, _, rfl, by omega, by omega, hbd, hown7, hak7⟩

/-- A step from a world that parts from w in its draws alone. -/
theorem Asked.of_heq {v w w3 : World} {rb q : Nat} (h : Asked v w3 rb q) (e1 : v.heap = w.heap) (e2 : v.os = w.os) (e3 : v.tape = w.tape) (e4 : v.output = w.output) : Asked w w3 rb q :=
  ⟨h.rdr, h.gr.os.trans e2, h.gr.tape.trans e3, h.gr.output.trans e4, by rw [← e1]; exact h.gr.size, fun j hj hne => by rw [← e1] at hj ⊢; exact h.gr.block j hj hne⟩
theorem OwnS.grown {w w' : World} {B : Nat} {a : Option Addr} {n c rb : Nat} {xs : List ByteArray} (h : OwnS w B a n c xs) (hg : w.grownBy w' (some rb)) (hB : rb < B) : OwnS w' B a n c xs := by
  refine World.ownsRow.kept h hg ?_
  cases hb : (Value.slice a n c).ownBlock with
  | none => exact .inl rfl
  | some k => exact .inr (by intro e; injection e with e; have := h.blk k hb; omega)
theorem OwnS.cap {w : World} {B : Nat} {a : Option Addr} {n c : Nat} {xs : List ByteArray} (h : OwnS w B a n c xs) : n ≤ c := by
  rcases h.2 with ⟨h1, h2⟩ | ⟨g, cap, cur, hv, hg, hh, hn, hc, hz, ht⟩
  · omega
  · have hcc : c = cap := by injection hv
    omega
theorem Asked.appS {w w1 w2 : World} {rb q n c B : Nat} {a : Option Addr} {xs : List ByteArray} (h : Asked w w1 rb q) (hown : OwnS w1 B a n c xs) (hg : w1.grownBy w2 (Value.slice a n c).ownBlock) (hB : w.heap.size ≤ B) (hrb : rb < w.heap.size) : Asked w w2 rb q :=
  h.below (below_appS (Below.refl _ _) hg hown hB h.gr.size) hrb
/-- The texts of a list are short. -/
def ShortL (m : Nat) (ss : List ByteArray) : Prop := ∀ s, s ∈ ss → s.size ≤ m
theorem shortL_nil (m : Nat) : ShortL m [] := fun s hs => by cases hs
theorem ShortL.app {m : Nat} {ss : List ByteArray} {y : ByteArray} (h : ShortL m ss) (hy : y.size ≤ m) : ShortL m (ss ++ [y]) := by
  intro s hs
  rcases List.mem_append.1 hs with hs | hs
  · exact h s hs
  · rw [List.mem_singleton.1 hs]; exact hy
theorem ShortL.st {m : Nat} {ss : List ByteArray} (h : ShortL m ss) {i : Nat} (hi : i < ss.length) : (st ss i).size ≤ m := by
  rw [st_mk hi]; exact h _ (List.getElem_mem hi)

/-- A list of texts written out. -/
def shortB (m : Nat) : Value → Bool
  | .string s => decide (s.size ≤ m)
  | _ => false
set_option maxHeartbeats 400000 in
theorem of_any (w : World) (rb p m n : Nat) (vs : Array Value) (h : Rdr w rb p) (hp : p ≤ 1000000) (hn : 1 ≤ n) (hn2 : n ≤ 1000) (hs : vs.size = n) (hv : vs.all (shortB m) = true) :
    Calls Tryz.prog 16 #[.pointer (some ⟨rb, 0, none⟩), .slice (some ⟨w.heap.size, 0, none⟩) n n] (w.alloc (.cells vs 9)) fun e w' => ∃ s : ByteArray, s.size ≤ m ∧ e = .returned (.string s) ∧ Asked w w' rb (p + 1) := by
  have hrb := h.lt
  go_enter Tryz.func16, Tryz.ntmps16
  go_wp2_with fail
  refine (pick_any _ rb p n (h.alloc _) hp (by omega) (by omega)).mono ?_
  rintro e w1 ⟨x, hx0, hx1, rfl, hask⟩
  obtain ⟨k, rfl⟩ := Int.eq_ofNat_of_zero_le hx0
  have hk : k < n := by omega
  obtain ⟨s, hs1, hsz⟩ : ∃ s, (w.alloc (.cells vs 9)).cell? ⟨w.heap.size, k, none⟩ = some (.string s) ∧ s.size ≤ m := by
    have hkv : k < vs.size := by omega
    have h1 := Array.all_eq_true.1 hv k hkv
    rw [World.cell?_alloc_at _ _ _ _ rfl, Array.getElem?_eq_getElem hkv]
    generalize vs[k] = v at h1
    cases v <;> simp [shortB] at h1
    exact ⟨_, rfl, h1⟩
  have hc1 : w1.cell? ⟨w.heap.size, k, none⟩ = some (.string s) := (World.cell?_of_block (w := w.alloc (.cells vs 9)) (hask.gr.block w.heap.size (by simp) (by intro e; injection e with e; omega))).trans hs1
  go_wp2_with fail
  go_ret
  exact ⟨s, hsz, rfl, hask.of_alloc⟩
/-- What a drawing of a text leaves. -/
def DrawnText (w w' : World) (rb p m : Nat) (e : Ending) : Prop :=
  ∃ (s : ByteArray) (q : Nat), e = .returned (.string s) ∧ s.size ≤ m ∧ q ≤ p + 3 ∧ Asked w w' rb q

theorem Rdr.drew {w : World} {rb p : Nat} (h : Rdr w rb p) : Rdr w.drew rb p := h.below fun _ _ => rfl
set_option maxHeartbeats 3200000 in
set_option maxRecDepth 100000 in
theorem mutate_any (w : World) (rb p : Nat) (s : ByteArray) (h : Rdr w rb p) (hp : p ≤ 800000) (hs : s.size ≤ 900) :
    Calls Tryz.prog 21 #[.pointer (some ⟨rb, 0, none⟩), .string s] w fun e w' => DrawnText w w' rb p (2 * s.size + 3) e := by
  have hrb := h.lt
  go_enter Tryz.func21, Tryz.ntmps21
  go_wp2_with fail
  refine (pick_any w rb p (s.size + 1) h (by omega) (by omega) (by omega)).mono ?_
  rintro e w1 ⟨x, hx0, hx1, rfl, hask⟩
  obtain ⟨k, rfl⟩ := Int.eq_ofNat_of_zero_le hx0
  have hk : k ≤ s.size := by omega
  go_wp2_with fail
  refine (pick_any w1 rb (p + 1) 5 hask.rdr (by omega) (by omega) (by omega)).mono ?_
  rintro e w2 ⟨z, hz0, hz1, rfl, hask2⟩
  have hak := hask.trans hask2
  clear hask hask2
  have hlen : ∀ a b : Nat, (s.extract a b).size ≤ s.size := fun a b => by rw [ByteArray.size_extract]; omega
  have hZ : z = 0 ∨ z = 1 ∨ z = 2 ∨ z = 3 ∨ z = 4 := by omega
  by_cases hlt : k < s.size
  · have i0 : (0 : Int) ≤ (k : Int) := by omega
    have i1 : (k : Int) ≤ (s.size : Int) := by omega
    have i2 : (0 : Int) ≤ (k : Int) + 1 := by omega
    have i3 : (k : Int) + 1 ≤ (s.size : Int) := by omega
    have i4 : ((k : Int) + 1).toNat = k + 1 := by omega
    have i5 : IntKind.i64.wrap ((k : Int) + 1) = (k : Int) + 1 := IntWalk.i64_in _ (by omega)
    have hv7 : (#[.string ⟨#[48]⟩, .string ⟨#[49]⟩, .string ⟨#[55]⟩, .string ⟨#[44]⟩, .string ⟨#[45]⟩, .string ⟨#[97]⟩, .string ⟨#[32]⟩] : Array Value).all (shortB 1) = true := by kernel_rfl
    have hq1 : p + 1 + 1 ≤ 1000000 := by omega
    have h17 : 1 ≤ 7 := by decide
    have h71 : 7 ≤ 1000 := by decide
    have hzz : ∀ t : ByteArray, t.size ≤ 1 → ¬ 9223372036854775807 < k + t.size ∧ ¬ 9223372036854775807 < k + t.size + (s.size - (k + 1)) ∧ (s.extract 0 k ++ t ++ s.extract (k + 1) s.size).size ≤ 2 * s.size + 3 := by
      intro t ht
      have := hlen 0 k
      have := hlen (k + 1) s.size
      simp only [ByteArray.size_append]
      omega
    rcases hZ with rfl | rfl | rfl | rfl | rfl
    · go_wp2_with fail
      go_region_held3 (fun _ => True) (trivial)
        ((refine (of_any _ rb (p + 1 + 1) 1 7 #[.string ⟨#[48]⟩, .string ⟨#[49]⟩, .string ⟨#[55]⟩, .string ⟨#[44]⟩, .string ⟨#[45]⟩, .string ⟨#[97]⟩, .string ⟨#[32]⟩] hak.rdr.drew hq1 h17 h71 rfl hv7).mono ?_; rintro e w3 ⟨t, ht, rfl, hask3⟩; have z1 := (hzz t ht).1; have z2 := (hzz t ht).2.1; have z3 := (hzz t ht).2.2))
      go_wp2_with fail
      go_ret
      exact ⟨_, _, rfl, z3, by omega, hak.trans (hask3.of_heq rfl rfl rfl rfl)⟩
    · go_wp2_with fail
      go_region_held3 (fun _ => True) (trivial)
        ((refine (of_any _ rb (p + 1 + 1) 1 7 #[.string ⟨#[48]⟩, .string ⟨#[49]⟩, .string ⟨#[55]⟩, .string ⟨#[44]⟩, .string ⟨#[45]⟩, .string ⟨#[97]⟩, .string ⟨#[32]⟩] hak.rdr.drew hq1 h17 h71 rfl hv7).mono ?_; rintro e w3 ⟨t, ht, rfl, hask3⟩; have z1 := (hzz t ht).1; have z2 := (hzz t ht).2.1; have z3 := (hzz t ht).2.2))
      go_wp2_with fail
      go_ret
      exact ⟨_, _, rfl, z3, by omega, hak.trans (hask3.of_heq rfl rfl rfl rfl)⟩
    · go_wp2_with fail
      go_ret
      exact ⟨_, _, rfl, Nat.le_trans (hlen _ _) (by omega), by omega, hak⟩
    · go_wp2_with fail
      refine (of_any w2 rb (p + 1 + 1) 3 4 _ hak.rdr (by omega) (by omega) (by omega) rfl (by kernel_rfl)).mono ?_
      rintro e w3 ⟨t, ht, rfl, hask3⟩
      go_wp2_with fail
      go_ret
      exact ⟨_, _, rfl, by rw [ByteArray.size_append]; omega, by omega, hak.trans hask3⟩
    · go_wp2_with fail
      go_ret
      exact ⟨s, _, rfl, by omega, by omega, hak⟩
  · rcases hZ with rfl | rfl | rfl | rfl | rfl
    · go_wp2_with fail
      go_ret
      exact ⟨s, _, rfl, by omega, by omega, hak⟩
    · go_wp2_with fail
      go_ret
      exact ⟨s, _, rfl, by omega, by omega, hak⟩
    · go_wp2_with fail
      go_ret
      exact ⟨_, _, rfl, Nat.le_trans (hlen _ _) (by omega), by omega, hak⟩
    · go_wp2_with fail
      refine (of_any w2 rb (p + 1 + 1) 3 4 _ hak.rdr (by omega) (by omega) (by omega) rfl (by kernel_rfl)).mono ?_
      rintro e w3 ⟨t, ht, rfl, hask3⟩
      go_wp2_with fail
      go_ret
      exact ⟨_, _, rfl, by rw [ByteArray.size_append]; omega, by omega, hak.trans hask3⟩
    · go_wp2_with fail
      go_ret
      exact ⟨s, _, rfl, by omega, by omega, hak⟩

/-- What a call hands back that draws lines. -/
def DrawnLines (w w' : World) (e : Ending) : Prop :=
  ∃ (a : Option Addr) (n c : Nat) (ss : List ByteArray), e = .returned (.slice a n c) ∧ n ≤ 5 ∧ ShortL 2000 ss ∧ OwnS w' w.heap.size a n c ss ∧ Below w.heap.size w w'
/-- The head of the lines' loop. -/
def RelLines (w : World) (rb : Nat) (v u : Value) (wr : World) : Prop :=
  ∃ (j k : Nat) (a : Option Addr) (c : Nat) (ss : List ByteArray) (q : Nat), v = .slice a k c ∧ u = .int .i64 j ∧ j + k ≤ 5 ∧ q ≤ 1 + 500 * k ∧ ShortL 2000 ss ∧ OwnS wr w.heap.size a k c ss ∧ Asked w wr rb q
set_option maxHeartbeats 3200000 in
set_option maxRecDepth 100000 in
theorem DrawRunDesk_any (w : World) (a : Option Addr) (n c : Nat) (h : Bts w a n w.heap.size) (hnc : n ≤ c) (hn : n ≤ 140737488355328) :
    Calls Tryz.prog 10 #[.slice a n c] w fun e w' => DrawnLines w w' e := by
  go_enter Tryz.func10, Tryz.ntmps10
  go_wp2_with fail
  refine (newReader_any w a n c h hnc hn).mono ?_
  rintro e w1 ⟨rfl, hrd, hbl⟩
  obtain ⟨rb, hrbe⟩ : ∃ rb, rb = w.heap.size := ⟨_, rfl⟩
  rw [← hrbe] at hrd ⊢
  have HRB := Lib.hid hrbe
  have hrb := hrd.lt
  have hrb1 : rb < w1.heap.size := hrb
  clear hrbe
  go_wp2_with fail
  refine (one_any _ rb 0 (rb + 1) _ _ _ [4, 5, 2, 0] 0 5 ((hrd.alloc _).alloc _) (by omega) (by decide) (by decide) (own_lit _ (rb + 1) [4, 5, 2, 0] (by simp) (by simp; omega) (by decide)) (by omega) (by decide)).mono ?_
  rintro e w2 ⟨x, hx0, hx1, rfl, hask⟩
  obtain ⟨N, rfl⟩ := Int.eq_ofNat_of_zero_le hx0
  have hask' := hask.of_alloc.of_alloc
  have hown0 := ((ownS_empty w1).alloc (.cells #[.int .i64 4, .int .i64 5, .int .i64 2, .int .i64 0] 3)).grown hask.gr hrb1
  clear hask
  go_wp2_with fail
  go_loopw [4, 5] (RelLines w1 rb) (fun _ u _ => (intOf u).toNat)
  case atStart => exact ⟨N, 0, _, 0, [], 1, rfl, rfl, by omega, by omega, shortL_nil _, hown0, hask'⟩
  case round =>
    obtain ⟨j', k, a3, c3, ss, q, rfl, rfl, hjk, hq, hsh, hown, hak⟩ := hrel
    clear hown0 hask'
    by_cases hj : 0 < j'
    · obtain ⟨j, rfl⟩ : ∃ j, j' = j + 1 := ⟨j' - 1, by omega⟩
      go_wp2_with fail
      refine (of_any wr rb q 5 5 _ hak.rdr (by omega) (by omega) (by omega) rfl (by kernel_rfl)).mono ?_
      rintro e w2 ⟨s1, hs1, rfl, hask2⟩
      go_wp2_with fail
      refine (one_any _ rb (q + 1) (rb + 1) _ _ _ [4, 2, 8, 3, 1] 0 16 (hask2.rdr.alloc _) (by omega) (by decide) (by decide) (own_lit _ (rb + 1) [4, 2, 8, 3, 1] (by simp) (by have := hask2.rdr.lt; simp; omega) (by decide)) (by omega) (by decide)).mono ?_
      rintro e w3 ⟨x, hx0, hx1, rfl, hask3⟩
      obtain ⟨r, rfl⟩ := Int.eq_ofNat_of_zero_le hx0
      go_wp2_with fail
      refine (rowOf_bd w3 rb (q + 1 + 1) r hask3.rdr (by omega) (by omega)).mono ?_
      rintro e w4 ⟨a4, m4, c4, xs, q4, rfl, hm4, hq4, hbd4, own4, hask4⟩
      have hz4 := @ltx_size xs m4 fun i _ => by have := hbd4 i; omega
      have hak4 := ((hak.trans hask2).trans hask3.of_alloc).trans hask4
      have hown4 := ((hown.grown hask2.gr hrb1).grown hask3.of_alloc.gr hrb1).grown hask4.gr hrb1
      have hsz4 : (s1 ++ (⟨#[32]⟩ : ByteArray)).size ≤ 6 := by
        rw [ByteArray.size_append]
        have e : ((⟨#[32]⟩ : ByteArray)).size = 1 := rfl
        omega
      have hS4 : (s1 ++ (⟨#[32]⟩ : ByteArray) ++ ltx xs m4).size ≤ 500 := by rw [ByteArray.size_append]; omega
      clear hak hown hask2 hask3 hask4
      go_wp2_with fail
      refine (listText_any w4 a4 m4 c4 xs (own4.row (by omega)) (by omega) fun i _ => by have := hbd4 i; omega).mono ?_
      rintro e w' ⟨rfl, rfl⟩
      clear own4 hbd4
      go_wp2_with fail
      refine (pick_any w4 rb q4 4 hak4.rdr (by omega) (by omega) (by omega)).mono ?_
      rintro e w5 ⟨z, hz0, hz1, rfl, hask5⟩
      have hak5 := hak4.trans hask5
      have hown5 := hown4.grown hask5.gr hrb1
      clear hask5 hak4 hown4
      by_cases z0 : z = 0
      · subst z0
        clear hS4 hz4 hsz4
        go_wp2_with fail
        refine (one_any _ rb (q4 + 1) (rb + 1) _ _ _ [4, 2, 3, 8, 5] 0 16 (hak5.rdr.alloc _) (by omega) (by decide) (by decide) (own_lit _ (rb + 1) [4, 2, 3, 8, 5] (by simp) (by have := hak5.rdr.lt; simp; omega) (by decide)) (by omega) (by decide)).mono ?_
        rintro e w6 ⟨x6, hx60, hx61, rfl, hask6⟩
        obtain ⟨r6, rfl⟩ := Int.eq_ofNat_of_zero_le hx60
        go_wp2_with fail
        refine (someRests_bd w6 rb (q4 + 1 + 1) r6 hask6.rdr (by omega) (by omega)).mono ?_
        rintro e w4b ⟨a6, m6, c6, ys, q6, rfl, hm6, hq6, hbd6, own6, hask6b⟩
        have hz6 := @ltx_size ys m6 fun i _ => by have := hbd6 i; omega
        have hak6 := (hak5.trans hask6.of_alloc).trans hask6b
        have hown6 := (hown5.grown hask6.of_alloc.gr hrb1).grown hask6b.gr hrb1
        have hS6 : ((⟨#[119, 97, 118, 101, 32]⟩ : ByteArray) ++ ltx ys m6).size ≤ 500 := by
          rw [ByteArray.size_append]
          have e : ((⟨#[119, 97, 118, 101, 32]⟩ : ByteArray)).size = 5 := rfl
          omega
        clear hak5 hown5 hask6 hask6b
        go_wp2_with fail
        refine (listText_any w4b a6 m6 c6 ys (own6.row (by omega)) (by omega) fun i _ => by have := hbd6 i; omega).mono ?_
        rintro e w' ⟨rfl, rfl⟩
        clear own6 hbd6
        go_wp2_with fail
        refine (pick_any w4b rb (q6) 8 hak6.rdr (by omega) (by omega) (by omega)).mono ?_
        rintro e w7 ⟨y, hy0, hy1, rfl, hask7⟩
        have hown7 := hown6.grown hask7.gr hrb1
        have hak7 := hak6.trans hask7
        clear hask7
        by_cases y0 : y = 0
        · subst y0
          go_wp2_with fail
          refine (of_any w7 rb (q6 + 1) 12 12 _ hak7.rdr (by omega) (by omega) (by omega) rfl (by kernel_rfl)).mono ?_
          rintro e w8 ⟨s8, hs8, rfl, hask8⟩
          have hown8 := hown7.grown hask8.gr hrb1
          have hak8 := hak7.trans hask8
          have hsz8 := hak8.gr.size
          go_wp2_with (at_builtin; go_must (refine app_str w8 rfl _ _ rfl w1.heap.size _ _ _ _ _ rfl hown8 rfl (by omega) (by omega) ?_); intro a9 c9 w9 hown9 hgr9 hsz9)
          go_roundw
          case rel => exact ⟨j, k + 1, a9, c9, _, q6 + 1 + 1, rfl, by go_num, by omega, by omega, hsh.app (by omega), hown9, hak8.appS hown8 hgr9 (Nat.le_refl _) hrb⟩
          case measure => first | (simp [intOf]; done) | (simp [intOf]; omega)
        · have y0b : (y == 0) = false := by simp; exact y0
          by_cases y1 : y = 1
          · subst y1
            go_wp2_with fail
            refine (mutate_any w7 rb (q6 + 1) _ hak7.rdr (by omega) (by omega)).mono ?_
            rintro e w8 ⟨s8, q8, rfl, hs8, hq8, hask8⟩
            have hown8 := hown7.grown hask8.gr hrb1
            have hak8 := hak7.trans hask8
            have hsz8 := hak8.gr.size
            go_wp2_with (at_builtin; go_must (refine app_str w8 rfl _ _ rfl w1.heap.size _ _ _ _ _ rfl hown8 rfl (by omega) (by omega) ?_); intro a9 c9 w9 hown9 hgr9 hsz9)
            go_roundw
            case rel => exact ⟨j, k + 1, a9, c9, _, q8, rfl, by go_num, by omega, by omega, hsh.app (by omega), hown9, hak8.appS hown8 hgr9 (Nat.le_refl _) hrb⟩
            case measure => first | (simp [intOf]; done) | (simp [intOf]; omega)
          · have y1b : (y == 1) = false := by simp; exact y1
            have hsz7 := hak7.gr.size
            go_wp2_with (at_builtin; go_must (refine app_str w7 rfl _ _ rfl w1.heap.size _ _ _ _ _ rfl hown7 rfl (by omega) (by omega) ?_); intro a9 c9 w9 hown9 hgr9 hsz9)
            go_roundw
            case rel => exact ⟨j, k + 1, a9, c9, _, q6 + 1, rfl, by go_num, by omega, by omega, hsh.app (by omega), hown9, hak7.appS hown7 hgr9 (Nat.le_refl _) hrb⟩
            case measure => first | (simp [intOf]; done) | (simp [intOf]; omega)
      · have z0b : (z == 0) = false := by simp; exact z0
        go_wp2_with fail
        refine (pick_any w5 rb (q4 + 1) 8 hak5.rdr (by omega) (by omega) (by omega)).mono ?_
        rintro e w7 ⟨y, hy0, hy1, rfl, hask7⟩
        have hown7 := hown5.grown hask7.gr hrb1
        have hak7 := hak5.trans hask7
        clear hask7
        by_cases y0 : y = 0
        · subst y0
          go_wp2_with fail
          refine (of_any w7 rb (q4 + 1 + 1) 12 12 _ hak7.rdr (by omega) (by omega) (by omega) rfl (by kernel_rfl)).mono ?_
          rintro e w8 ⟨s8, hs8, rfl, hask8⟩
          have hown8 := hown7.grown hask8.gr hrb1
          have hak8 := hak7.trans hask8
          have hsz8 := hak8.gr.size
          go_wp2_with (at_builtin; go_must (refine app_str w8 rfl _ _ rfl w1.heap.size _ _ _ _ _ rfl hown8 rfl (by omega) (by omega) ?_); intro a9 c9 w9 hown9 hgr9 hsz9)
          go_roundw
          case rel => exact ⟨j, k + 1, a9, c9, _, q4 + 1 + 1 + 1, rfl, by go_num, by omega, by omega, hsh.app (by omega), hown9, hak8.appS hown8 hgr9 (Nat.le_refl _) hrb⟩
          case measure => first | (simp [intOf]; done) | (simp [intOf]; omega)
        · have y0b : (y == 0) = false := by simp; exact y0
          by_cases y1 : y = 1
          · subst y1
            go_wp2_with fail
            refine (mutate_any w7 rb (q4 + 1 + 1) _ hak7.rdr (by omega) (by omega)).mono ?_
            rintro e w8 ⟨s8, q8, rfl, hs8, hq8, hask8⟩
            have hown8 := hown7.grown hask8.gr hrb1
            have hak8 := hak7.trans hask8
            have hsz8 := hak8.gr.size
            go_wp2_with (at_builtin; go_must (refine app_str w8 rfl _ _ rfl w1.heap.size _ _ _ _ _ rfl hown8 rfl (by omega) (by omega) ?_); intro a9 c9 w9 hown9 hgr9 hsz9)
            go_roundw
            case rel => exact ⟨j, k + 1, a9, c9, _, q8, rfl, by go_num, by omega, by omega, hsh.app (by omega), hown9, hak8.appS hown8 hgr9 (Nat.le_refl _) hrb⟩
            case measure => first | (simp [intOf]; done) | (simp [intOf]; omega)
          · have y1b : (y == 1) = false := by simp; exact y1
            have hsz7 := hak7.gr.size
            go_wp2_with (at_builtin; go_must (refine app_str w7 rfl _ _ rfl w1.heap.size _ _ _ _ _ rfl hown7 rfl (by omega) (by omega) ?_); intro a9 c9 w9 hown9 hgr9 hsz9)
            go_roundw
            case rel => exact ⟨j, k + 1, a9, c9, _, q4 + 1 + 1, rfl, by go_num, by omega, by omega, hsh.app (by omega), hown9, hak7.appS hown7 hgr9 (Nat.le_refl _) hrb⟩
            case measure => first | (simp [intOf]; done) | (simp [intOf]; omega)
    · obtain rfl : j' = 0 := by omega
      go_wp2_with fail
      go_ret
      exact ⟨_, k, _, ss, rfl, by omega, hsh, hown.mono hbl.size, below_asked hbl hak (Nat.le_of_eq HRB.out.symm) hrb⟩
end Go.Proofs.YtmfffmipnbdpjaaGreatDoor
