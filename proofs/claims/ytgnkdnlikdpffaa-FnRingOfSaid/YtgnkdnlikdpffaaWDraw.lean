/-
  The drawing of rests.
-/
import Derived.Test.YtgnkdnlikdpffaaDraw2
namespace Go.Proofs.Ytgnkdnlikdpffaa
open Go.RowKit

set_option maxHeartbeats 1600000 in
theorem someRests_any (w : World) (rb p n : Nat) (h : Rdr w rb p) (hp : p ≤ 800000) (hn : n ≤ 16) :
    Calls Try.prog 43 #[.pointer (some ⟨rb, 0, none⟩), .int .i64 n] w fun e w' => Drawn w w' rb p e := by
  have hrb := h.lt
  go_enter Try.func43, Try.ntmps43
  go_wp2_with fail
  refine (pick_any _ rb p 3 (h.alloc _) (by omega) (by omega) (by omega)).mono ?_
  rintro e w1 ⟨z, hz0, hz1, rfl, hask⟩
  have hask' := hask.of_alloc
  have hown0 := (own_empty w).grown hask.gr hrb
  have hsz0 : w.heap.size + 1 ≤ w1.heap.size := by have := hask.gr.size; simp at this; omega
  by_cases z0 : z = 0
  · subst z0
    go_wp2_with fail
    go_loopw [5] (RelRow w rb (p + 1) n) (fun v _ => n - lenOf v)
    case atStart => exact ⟨0, _, 0, [], p + 1, rfl, by omega, by omega, hown0, hask', hsz0⟩
    case round =>
      obtain ⟨k, a1, c1, xs, q, rfl, hk, hq, hown, hak, hsz⟩ := hrel
      clear hown0 hask' hask hsz0
      by_cases hlt : k < n
      · go_wp2_with fail
        refine (pick_any wr rb q 97 hak.rdr (by omega) (by omega) (by omega)).mono ?_
        rintro e w2 ⟨x, hx0, hx1, rfl, hask2⟩
        go_wp2_with fail
        refine (pick_any w2 rb (q + 1) 3 hask2.rdr (by omega) (by omega) (by omega)).mono ?_
        rintro e w3 ⟨y, hy0, hy1, rfl, hask3⟩
        have hown3 := (hown.grown hask2.gr hrb).grown hask3.gr hrb
        have hak3 := (hak.trans hask2).trans hask3
        have hsz3 := Nat.le_trans hask2.gr.size hask3.gr.size
        clear hask2 hask3 hown hak
        by_cases hy : 0 < y
        · go_wp2_with (at_builtin; go_must (refine app_int w3 rfl _ _ rfl w.heap.size _ _ _ _ _ rfl hown3 rfl (by omega) (by omega) ?_); intro a5 c5 w5 hown5 hgr5 hsz5)
          go_roundw
          case rel => exact ⟨k + 1, a5, c5, _, q + 2, rfl, by omega, by omega, hown5, hak3.app hown3 hgr5 (Nat.le_refl _) hrb, by omega⟩
          case measure => simp [lenOf]; omega
        · go_wp2_with (at_builtin; go_must (refine app_int w3 rfl _ _ rfl w.heap.size _ _ _ _ _ rfl hown3 rfl (by omega) (by omega) ?_); intro a5 c5 w5 hown5 hgr5 hsz5)
          go_roundw
          case rel => exact ⟨k + 1, a5, c5, _, q + 2, rfl, by omega, by omega, hown5, hak3.app hown3 hgr5 (Nat.le_refl _) hrb, by omega⟩
          case measure => simp [lenOf]; omega
      · by_cases hk0 : k = 0
        · subst hk0
          go_wp2_with fail
          go_ret
          exact ⟨_, _, _, _, _, rfl, by omega, by omega, hown, hak⟩
        · have hkp : (0 : Int) < k := by omega
          have hkq : 0 < k := by omega
          clear hk0
          go_wp2_with fail
          refine (pick_any wr rb (q) 30 hak.rdr (by omega) (by omega) (by omega)).mono ?_
          rintro e w7 ⟨z7, hz70, hz71, rfl, hask7⟩
          have hown7 := hown.grown hask7.gr hrb
          have hak7 := hak.trans hask7
          have hsz7 := hask7.gr.size
          clear hask7
          by_cases z70 : z7 = 0
          · subst z70
            go_wp2_with fail
            refine (one_any _ rb (q + 1) (rb + 1) _ 2 2 [97, -1] (-2000) 2000 (hak7.rdr.alloc _) (by omega) (by omega) (by omega) (own_lit _ (rb + 1) [97, -1] (by simp) (by omega) (by decide)) (by omega) (by decide)).mono ?_
            rintro e w8 ⟨t, ht0, ht1, rfl, hask8⟩
            have hown8 := (hown7.alloc (.cells #[.int .i64 97, .int .i64 (-1)] 3)).grown hask8.gr hrb
            have hak8 := hak7.trans hask8.of_alloc
            have hsz8 := hask8.of_alloc.gr.size
            obtain ⟨g, rfl, hBg, hgl, hcell, hfr⟩ := hown8.at 0 hkq
            go_wp2_with fail
            go_ret
            exact ⟨_, _, _, _, _, rfl, by omega, by omega, hown8.store 0 _, hak8.below (Below.setCell (Below.refl _ _) (by exact hBg) _) hrb⟩
          · have z0b : (z7 == 0) = false := by simp; exact z70
            go_wp2_with fail
            go_ret
            exact ⟨_, _, _, _, _, rfl, by omega, by omega, hown7, hak7⟩
  · have z0b : (z == 0) = false := by simp; exact z0
    go_wp2_with fail
    go_loopw [5] (RelRow w rb (p + 1) n) (fun v _ => n - lenOf v)
    case atStart => exact ⟨0, _, 0, [], p + 1, rfl, by omega, by omega, hown0, hask', hsz0⟩
    case round =>
      obtain ⟨k, a1, c1, xs, q, rfl, hk, hq, hown, hak, hsz⟩ := hrel
      clear hown0 hask' hask hsz0
      by_cases hlt : k < n
      · go_wp2_with fail
        refine (pick_any wr rb q 97 hak.rdr (by omega) (by omega) (by omega)).mono ?_
        rintro e w2 ⟨x, hx0, hx1, rfl, hask2⟩
        have hown3 := hown.grown hask2.gr hrb
        have hak3 := hak.trans hask2
        have hsz3 := hask2.gr.size
        clear hask2 hown hak
        go_wp2_with (at_builtin; go_must (refine app_int w2 rfl _ _ rfl w.heap.size _ _ _ _ _ rfl hown3 rfl (by omega) (by omega) ?_); intro a5 c5 w5 hown5 hgr5 hsz5)
        go_roundw
        case rel => exact ⟨k + 1, a5, c5, _, q + 1, rfl, by omega, by omega, hown5, hak3.app hown3 hgr5 (Nat.le_refl _) hrb, by omega⟩
        case measure => simp [lenOf]; omega
      · by_cases hk0 : k = 0
        · subst hk0
          go_wp2_with fail
          go_ret
          exact ⟨_, _, _, _, _, rfl, by omega, by omega, hown, hak⟩
        · have hkp : (0 : Int) < k := by omega
          have hkq : 0 < k := by omega
          clear hk0
          go_wp2_with fail
          refine (pick_any wr rb (q) 30 hak.rdr (by omega) (by omega) (by omega)).mono ?_
          rintro e w7 ⟨z7, hz70, hz71, rfl, hask7⟩
          have hown7 := hown.grown hask7.gr hrb
          have hak7 := hak.trans hask7
          have hsz7 := hask7.gr.size
          clear hask7
          by_cases z70 : z7 = 0
          · subst z70
            go_wp2_with fail
            refine (one_any _ rb (q + 1) (rb + 1) _ 2 2 [97, -1] (-2000) 2000 (hak7.rdr.alloc _) (by omega) (by omega) (by omega) (own_lit _ (rb + 1) [97, -1] (by simp) (by omega) (by decide)) (by omega) (by decide)).mono ?_
            rintro e w8 ⟨t, ht0, ht1, rfl, hask8⟩
            have hown8 := (hown7.alloc (.cells #[.int .i64 97, .int .i64 (-1)] 3)).grown hask8.gr hrb
            have hak8 := hak7.trans hask8.of_alloc
            have hsz8 := hask8.of_alloc.gr.size
            obtain ⟨g, rfl, hBg, hgl, hcell, hfr⟩ := hown8.at 0 hkq
            go_wp2_with fail
            go_ret
            exact ⟨_, _, _, _, _, rfl, by omega, by omega, hown8.store 0 _, hak8.below (Below.setCell (Below.refl _ _) (by exact hBg) _) hrb⟩
          · have z0b : (z7 == 0) = false := by simp; exact z70
            go_wp2_with fail
            go_ret
            exact ⟨_, _, _, _, _, rfl, by omega, by omega, hown7, hak7⟩
set_option maxHeartbeats 400000 in
theorem restCount_any (w : World) (rb p : Nat) (h : Rdr w rb p) (hp : p ≤ 800000) :
    Calls Try.prog 44 #[.pointer (some ⟨rb, 0, none⟩)] w fun e w' => ∃ x : Int, 0 ≤ x ∧ x ≤ 16 ∧ e = .returned (.int .i64 x) ∧ Asked w w' rb (p + 1) := by
  have hrb := h.lt
  go_enter Try.func44, Try.ntmps44
  go_wp2_with fail
  refine (one_any _ rb p (rb + 1) _ _ _ [4, 8, 6, 3, 2, 12, 16, 1, 5, 0] 0 16 (h.alloc _) (by omega) (by decide) (by decide) (own_lit _ (rb + 1) [4, 8, 6, 3, 2, 12, 16, 1, 5, 0] rfl (by omega) (by decide)) (by omega) (by decide)).mono ?_
  rintro e w1 ⟨x, hx0, hx1, rfl, hask⟩
  have hask' := hask.of_alloc
  go_wp2_with fail
  go_ret
  exact ⟨x, hx0, hx1, rfl, hask'⟩
set_option maxHeartbeats 400000 in
theorem DrawWaveOf_any (w : World) (a : Option Addr) (n c : Nat) (h : Bts w a n w.heap.size) (hnc : n ≤ c) (hn : n ≤ 140737488355328) :
    Calls Try.prog 32 #[.slice a n c] w fun e w' => DrawnRow w w' e := by
  go_enter Try.func32, Try.ntmps32
  go_wp2_with fail
  refine (newReader_any w a n c h hnc hn).mono ?_
  rintro e w1 ⟨rfl, hrd, hbl⟩
  have hsz := hrd.lt
  go_wp2_with fail
  refine (restCount_any w1 w.heap.size 0 hrd (by omega)).mono ?_
  rintro e w2 ⟨x, hx0, hx1, rfl, hask⟩
  obtain ⟨k, rfl⟩ := Int.eq_ofNat_of_zero_le hx0
  have hbl2 := below_asked hbl hask (Nat.le_refl _) hsz
  have hsz2 := hask.rdr.lt
  go_wp2_with fail
  refine (someRests_any w2 w.heap.size 1 k hask.rdr (by omega) (by omega)).mono ?_
  rintro e w3 ⟨a2, m, c2, xs, q, rfl, hm, hq, hown, hask3⟩
  go_wp2_with fail
  go_ret
  exact ⟨a2, m, c2, xs, rfl, hm, hown.mono (by omega), below_asked hbl2 hask3 (Nat.le_refl _) hsz2⟩
set_option maxHeartbeats 400000 in
theorem DrawUnwaveOf_any (w : World) (a : Option Addr) (n c : Nat) (h : Bts w a n w.heap.size) (hnc : n ≤ c) (hn : n ≤ 140737488355328) :
    Calls Try.prog 30 #[.slice a n c] w fun e w' => DrawnRow w w' e := by
  go_enter Try.func30, Try.ntmps30
  go_wp2_with fail
  refine (newReader_any w a n c h hnc hn).mono ?_
  rintro e w1 ⟨rfl, hrd, hbl⟩
  have hsz := hrd.lt
  go_wp2_with fail
  refine (restCount_any w1 w.heap.size 0 hrd (by omega)).mono ?_
  rintro e w2 ⟨x, hx0, hx1, rfl, hask⟩
  obtain ⟨k, rfl⟩ := Int.eq_ofNat_of_zero_le hx0
  have hbl2 := below_asked hbl hask (Nat.le_refl _) hsz
  have hsz2 := hask.rdr.lt
  go_wp2_with fail
  refine (someRests_any w2 w.heap.size 1 k hask.rdr (by omega) (by omega)).mono ?_
  rintro e w3 ⟨a2, m, c2, xs, q, rfl, hm, hq, hown, hask3⟩
  go_wp2_with fail
  go_ret
  exact ⟨a2, m, c2, xs, rfl, hm, hown.mono (by omega), below_asked hbl2 hask3 (Nat.le_refl _) hsz2⟩
set_option maxHeartbeats 400000 in
theorem DrawSpreadOf_any (w : World) (a : Option Addr) (n c : Nat) (h : Bts w a n w.heap.size) (hnc : n ≤ c) (hn : n ≤ 140737488355328) :
    Calls Try.prog 29 #[.slice a n c] w fun e w' => DrawnRow w w' e := by
  go_enter Try.func29, Try.ntmps29
  go_wp2_with fail
  refine (newReader_any w a n c h hnc hn).mono ?_
  rintro e w1 ⟨rfl, hrd, hbl⟩
  have hsz := hrd.lt
  go_wp2_with fail
  refine (restCount_any w1 w.heap.size 0 hrd (by omega)).mono ?_
  rintro e w2 ⟨x, hx0, hx1, rfl, hask⟩
  obtain ⟨k, rfl⟩ := Int.eq_ofNat_of_zero_le hx0
  have hbl2 := below_asked hbl hask (Nat.le_refl _) hsz
  have hsz2 := hask.rdr.lt
  go_wp2_with fail
  refine (someRests_any w2 w.heap.size 1 k hask.rdr (by omega) (by omega)).mono ?_
  rintro e w3 ⟨a2, m, c2, xs, q, rfl, hm, hq, hown, hask3⟩
  go_wp2_with fail
  go_ret
  exact ⟨a2, m, c2, xs, rfl, hm, hown.mono (by omega), below_asked hbl2 hask3 (Nat.le_refl _) hsz2⟩
/-- What a call hands back that draws two rows. -/
def DrawnTwo (w w' : World) (e : Ending) : Prop :=
  ∃ (a b : Option Addr) (m c m2 d : Nat) (xs ys : List Int), e = .returned (.tuple #[.slice a m c, .slice b m2 d]) ∧ m ≤ 33 ∧ m2 ≤ 33 ∧ Own w' w.heap.size a m c xs ∧ Own w' w.heap.size b m2 d ys ∧ Below w.heap.size w w'
set_option maxHeartbeats 400000 in
theorem DrawRingOf_any (w : World) (a : Option Addr) (n c : Nat) (h : Bts w a n w.heap.size) (hnc : n ≤ c) (hn : n ≤ 140737488355328) :
    Calls Try.prog 25 #[.slice a n c] w fun e w' => DrawnTwo w w' e := by
  go_enter Try.func25, Try.ntmps25
  go_wp2_with fail
  refine (newReader_any w a n c h hnc hn).mono ?_
  rintro e w1 ⟨rfl, hrd, hbl⟩
  have hsz := hrd.lt
  go_wp2_with fail
  refine (restCount_any w1 w.heap.size 0 hrd (by omega)).mono ?_
  rintro e w2 ⟨x, hx0, hx1, rfl, hask⟩
  obtain ⟨k, rfl⟩ := Int.eq_ofNat_of_zero_le hx0
  have hbl2 := below_asked hbl hask (Nat.le_refl _) hsz
  have hsz2 := hask.rdr.lt
  go_wp2_with fail
  refine (someRests_any w2 w.heap.size 1 k hask.rdr (by omega) (by omega)).mono ?_
  rintro e w3 ⟨a2, m, c2, xs, q, rfl, hm, hq, hown, hask3⟩
  have hbl3 := below_asked hbl2 hask3 (Nat.le_refl _) hsz2
  have hsz3 := hask3.rdr.lt
  go_wp2_with fail
  refine (someRests_any w3 w.heap.size q k hask3.rdr (by omega) (by omega)).mono ?_
  rintro e w4 ⟨a4, m4, c4, ys, q4, rfl, hm4, hq4, hown4, hask4⟩
  have hown' := hown.grown hask4.gr hsz2
  have hs3 := hask3.gr.size
  go_wp2_with fail
  go_ret2
  exact ⟨a2, a4, m, c2, m4, c4, xs, ys, rfl, hm, hm4, hown'.mono (by omega), hown4.mono (by omega), below_asked hbl3 hask4 (Nat.le_refl _) hsz3⟩
/-- What a call hands back that draws a row and a number. -/
def DrawnInt (w w' : World) (e : Ending) : Prop :=
  ∃ (a : Option Addr) (m c : Nat) (xs : List Int) (k : Int), e = .returned (.tuple #[.slice a m c, .int .i64 k]) ∧ m ≤ 33 ∧ -1 ≤ k ∧ k ≤ 17 ∧ Own w' w.heap.size a m c xs ∧ Below w.heap.size w w'
set_option maxHeartbeats 400000 in
theorem DrawTurnOf_any (w : World) (a : Option Addr) (n c : Nat) (h : Bts w a n w.heap.size) (hnc : n ≤ c) (hn : n ≤ 140737488355328) :
    Calls Try.prog 19 #[.slice a n c] w fun e w' => DrawnInt w w' e := by
  go_enter Try.func19, Try.ntmps19
  go_wp2_with fail
  refine (newReader_any w a n c h hnc hn).mono ?_
  rintro e w1 ⟨rfl, hrd, hbl⟩
  have hsz := hrd.lt
  go_wp2_with fail
  refine (restCount_any w1 w.heap.size 0 hrd (by omega)).mono ?_
  rintro e w2 ⟨x, hx0, hx1, rfl, hask⟩
  obtain ⟨k, rfl⟩ := Int.eq_ofNat_of_zero_le hx0
  have hbl2 := below_asked hbl hask (Nat.le_refl _) hsz
  have hsz2 := hask.rdr.lt
  go_wp2_with fail
  refine (someRests_any w2 w.heap.size 1 k hask.rdr (by omega) (by omega)).mono ?_
  rintro e w3 ⟨a2, m, c2, xs, q, rfl, hm, hq, hown, hask3⟩
  have hbl3 := below_asked hbl2 hask3 (Nat.le_refl _) hsz2
  have hsz3 := hask3.rdr.lt
  go_wp2_with fail
  refine (one_any _ w.heap.size q (w.heap.size + 1) _ _ _ [1, 2, 3, 5, 0, 16, 17, -1] (-1) 17 (hask3.rdr.alloc _) (by omega) (by decide) (by decide) (own_lit _ (w.heap.size + 1) [1, 2, 3, 5, 0, 16, 17, -1] rfl (by omega) (by decide)) (by omega) (by decide)).mono ?_
  rintro e w4 ⟨t, ht0, ht1, rfl, hask4⟩
  have hask4' := hask4.of_alloc
  have hown' := hown.grown hask4'.gr hsz2
  go_wp2_with fail
  go_ret2
  exact ⟨a2, m, c2, xs, t, rfl, hm, ht0, ht1, hown'.mono (by omega), below_asked hbl3 hask4' (Nat.le_refl _) hsz3⟩
end Go.Proofs.Ytgnkdnlikdpffaa
