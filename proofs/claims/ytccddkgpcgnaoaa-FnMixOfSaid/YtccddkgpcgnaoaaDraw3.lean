/-
  The drawing of rows of 1 and -1, of rows of signs, of rows to be mixed.
-/
import Derived.Test.YtccddkgpcgnaoaaDraw2
import Derived.Test.YtccddkgpcgnaoaaSigns
import Derived.Test.YtccddkgpcgnaoaaTwo
namespace Go.Proofs.Ytccddkgpcgnaoaa
open Go.RowKit

set_option maxHeartbeats 1600000 in
theorem signRow_any (w : World) (rb p n : Nat) (h : Rdr w rb p) (hp : p ≤ 800000) (hn : n ≤ 16) :
    Calls Try.prog 55 #[.pointer (some ⟨rb, 0, none⟩), .int .i64 n] w fun e w' => Drawn w w' rb p e := by
  have hrb := h.lt
  go_enter Try.func55, Try.ntmps55
  go_wp2_with fail
  go_loopw [5] (RelRow w rb p n) (fun v _ => n - lenOf v)
  case atStart => exact ⟨0, _, 0, [], p, rfl, by omega, by omega, own_empty w, Asked.below (Asked.refl h) ((Below.refl _ _).alloc (Nat.le_refl _) _) hrb, by simp⟩
  case round =>
    obtain ⟨k, a1, c1, xs, q, rfl, hk, hq, hown, hak, hsz⟩ := hrel
    by_cases hlt : k < n
    · go_wp2_with fail
      refine (pick_any wr rb q 2 hak.rdr (by omega) (by omega) (by omega)).mono ?_
      rintro e w2 ⟨x, hx0, hx1, rfl, hask2⟩
      have hown2 := hown.grown hask2.gr hrb
      have hak2 := hak.trans hask2
      have hsz2 := hask2.gr.size
      clear hask2 hown hak
      go_wp2_with (at_builtin; go_must (refine app_int w2 rfl _ _ rfl w.heap.size _ _ _ _ _ rfl hown2 rfl (by omega) (by omega) ?_); intro a5 c5 w5 hown5 hgr5 hsz5)
      go_roundw
      case rel => exact ⟨k + 1, a5, c5, _, q + 1, rfl, by omega, by omega, hown5, hak2.app hown2 hgr5 (Nat.le_refl _) hrb, by omega⟩
      case measure => simp [lenOf]; omega
    · by_cases hk0 : k = 0
      · subst hk0
        go_wp2_with fail
        go_ret
        exact ⟨_, _, _, _, _, rfl, by omega, by omega, hown, hak⟩
      · have hkp : (0 : Int) < k := by omega
        have hkq : 0 < k := by omega
        clear hk0
        go_wp2_with fail
        refine (pick_any wr rb q 24 hak.rdr (by omega) (by omega) (by omega)).mono ?_
        rintro e w7 ⟨z7, hz70, hz71, rfl, hask7⟩
        have hown7 := hown.grown hask7.gr hrb
        have hak7 := hak.trans hask7
        have hsz7 := hask7.gr.size
        clear hask7
        by_cases z70 : z7 = 0
        · subst z70
          go_wp2_with fail
          refine (one_any _ rb (q + 1) (rb + 1) _ 2 2 [0, 2] (-2000) 2000 (hak7.rdr.alloc _) (by omega) (by omega) (by omega) (own_lit _ (rb + 1) [0, 2] (by simp) (by omega) (by decide)) (by omega) (by decide)).mono ?_
          rintro e w8 ⟨t, ht0, ht1, rfl, hask8⟩
          have hown8 := (hown7.alloc (.cells #[.int .i64 0, .int .i64 2] 3)).grown hask8.gr hrb
          have hak8 := hak7.trans hask8.of_alloc
          have hsz8 := hask8.of_alloc.gr.size
          obtain ⟨g, rfl, hBg, hgl, hcell, hfr⟩ := hown8.at 0 hkq
          go_wp2_with fail
          go_ret
          exact ⟨_, _, _, _, _, rfl, by omega, by omega, hown8.store 0 _, hak8.below (Below.setCell (Below.refl _ _) (by exact hBg) _) hrb⟩
        · have z0b : (z7 == 0) = false := by simp; exact z70
          go_wp2_with fail
          go_ret
          exact ⟨_, _, _, _, _, rfl, by omega, by omega, hown7, hak7⟩
set_option maxHeartbeats 800000 in
theorem DrawIsBent_any (w : World) (a : Option Addr) (n c : Nat) (h : Bts w a n w.heap.size) (hnc : n ≤ c) (hn : n ≤ 140737488355328) :
    Calls Try.prog 30 #[.slice a n c] w fun e w' => DrawnRow w w' e := by
  go_enter Try.func30, Try.ntmps30
  go_wp2_with fail
  refine (newReader_any w a n c h hnc hn).mono ?_
  rintro e w1 ⟨rfl, hrd, hbl⟩
  have hsz := hrd.lt
  go_wp2_with fail
  refine (pick_any w1 w.heap.size 0 4 hrd (by omega) (by omega) (by omega)).mono ?_
  rintro e w2 ⟨z, hz0, hz1, rfl, hask⟩
  have hbl2 := below_asked hbl hask (Nat.le_refl _) hsz
  have hsz2 := hask.rdr.lt
  by_cases z0 : z = 0
  · subst z0
    go_wp2_with fail
    go_ret
    exact ⟨_, 4, 4, [1, 1, 1, -1], rfl, by omega, (own_lit w2 w.heap.size [1, 1, 1, -1] rfl (by omega) (by decide)), hbl2.alloc (by omega) _⟩
  · have z0b : (z == 0) = false := by simp; exact z0
    go_wp2_with fail
    refine (one_any _ w.heap.size 1 (w.heap.size + 1) _ _ _ [4, 4, 16, 2, 1, 8, 3, 0] 0 16 (hask.rdr.alloc _) (by omega) (by decide) (by decide) (own_lit _ (w.heap.size + 1) [4, 4, 16, 2, 1, 8, 3, 0] rfl (by omega) (by decide)) (by omega) (by decide)).mono ?_
    rintro e w3 ⟨x, hx0, hx1, rfl, hask3⟩
    obtain ⟨k, rfl⟩ := Int.eq_ofNat_of_zero_le hx0
    have hask3' := hask3.of_alloc
    have hbl3 := below_asked hbl2 hask3' (Nat.le_refl _) hsz2
    have hsz3 := hask3'.rdr.lt
    go_wp2_with fail
    refine (signRow_any w3 w.heap.size 2 k hask3'.rdr (by omega) (by omega)).mono ?_
    rintro e w4 ⟨a2, m, c2, xs, q, rfl, hm, hq, hown, hask4⟩
    go_wp2_with fail
    go_ret
    exact ⟨a2, m, c2, xs, rfl, hm, hown.mono (by omega), below_asked hbl3 hask4 (Nat.le_refl _) hsz3⟩
theorem tmod_bd {x c : Int} (hc : 0 < c) (hc2 : c ≤ 1000) : -1000 ≤ x.tmod c ∧ x.tmod c ≤ 1000 := by
  have h1 := Int.tmod_lt_of_pos x hc
  have h2 := Int.lt_tmod_of_pos x hc
  omega
theorem el_setD {xs : List Int} {i k : Nat} {y : Int} (hi : i < xs.length) : el (xs.set i y) k = if k = i then y else el xs k := by
  unfold el
  by_cases e : k = i
  · subst e; simp [List.getD, hi]
  · rw [if_neg e]; simp [List.getD, List.getElem?_set, Ne.symm e]
set_option maxHeartbeats 1600000 in
theorem DrawUnsignsOf_any (w : World) (a : Option Addr) (n c : Nat) (h : Bts w a n w.heap.size) (hnc : n ≤ c) (hn : n ≤ 140737488355328) :
    Calls Try.prog 37 #[.slice a n c] w fun e w' => DrawnRow w w' e := by
  go_enter Try.func37, Try.ntmps37
  go_wp2_with fail
  refine (newReader_any w a n c h hnc hn).mono ?_
  rintro e w1 ⟨rfl, hrd, hbl⟩
  have hsz := hrd.lt
  go_wp2_with fail
  refine (cubeRow_any w1 w.heap.size 0 hrd (by omega)).mono ?_
  rintro e w2 ⟨a2, m, c2, xs, q, rfl, hm, hq, hown, hask⟩
  have hbl2 := below_asked hbl hask (Nat.le_refl _) hsz
  have hsz2 := hask.rdr.lt
  have hown1 := hown.mono (show w.heap.size ≤ w1.heap.size by omega)
  go_wp2_with fail
  refine (pick_any w2 w.heap.size q 3 hask.rdr (by omega) (by omega) (by omega)).mono ?_
  rintro e w3 ⟨z, hz0, hz1, rfl, hask3⟩
  have hbl3 := below_asked hbl2 hask3 (Nat.le_refl _) hsz2
  have hown3 := hown.grown hask3.gr hsz
  have hown3' := hown3.mono (show w.heap.size ≤ w1.heap.size by omega)
  clear hown hown1 hask hask3 hbl2 hbl hown3
  by_cases hz : 0 < z
  · cases hv : cube xs
    · go_wp2_with fail
      refine (validCube_is w3 a2 m c2 xs false (hown3'.row (by omega)) hv).mono ?_
      rintro e w' ⟨rfl, rfl⟩
      go_wp2_with fail
      go_ret
      exact ⟨a2, m, c2, xs, rfl, hm, hown3', hbl3⟩
    · have hlen := hown3'.len
      have hx := (cube_iff.1 hv).1
      have hm16 : m ≤ 16 := by have := valid_len hx; rw [hlen] at this; exact this
      have hbx : Hid (∀ i, i < m → -1000 ≤ el xs i ∧ el xs i ≤ 1000) := fun i hi => valid_bd hx (by rw [hlen]; exact hi)
      clear hx hlen
      go_wp2_with fail
      refine (validCube_is w3 a2 m c2 xs true (hown3'.row (by omega)) hv).mono ?_
      rintro e w' ⟨rfl, rfl⟩
      clear hv
      go_wp2_with fail
      go_loopw [5] (fun u wr => ∃ (k : Nat) (ys : List Int), k ≤ m ∧ u = .int .i64 k ∧ Own wr w.heap.size a2 m c2 ys ∧ Below w.heap.size w wr ∧ Hid (∀ i, i < m → -1000 ≤ el ys i ∧ el ys i ≤ 1000)) (fun u _ => m - (intOf u).toNat)
      case atStart => exact ⟨0, xs, Nat.zero_le _, rfl, hown3', hbl3, hbx⟩
      case round =>
        obtain ⟨k, ys, hk, rfl, hown, hblr, hby⟩ := hrel
        clear hown3' hbl3
        by_cases hlt : k < m
        · obtain ⟨g, rfl, hBg, hgl, hcell, hfr⟩ := hown.at k hlt
          have hq0 := hby.out k hlt
          have hst := hown.store k ((el ys k).tmod 20)
          have hlen := hown.len
          have hb2 : Hid (∀ i, i < m → -1000 ≤ el (ys.set k ((el ys k).tmod 20)) i ∧ el (ys.set k ((el ys k).tmod 20)) i ≤ 1000) := fun i hi => by
            rw [el_setD (by omega)]
            split
            · exact tmod_bd (by omega) (by omega)
            · exact hby.out i hi
          have hbs := hblr.setCell (p := ⟨g, k, none⟩) hBg (.int .i64 ((el ys k).tmod 20))
          go_wp2_with fail
          go_roundw
          case rel => exact ⟨k + 1, _, by omega, by go_num, hst, hbs, hb2⟩
          case measure => simp [intOf]; omega
        · obtain rfl : k = m := by omega
          go_wp2_with fail
          refine (ssigns_any wr a2 k c2 ys (hown.row (by omega)) hm16 hby.out).mono ?_
          rintro e w5 ⟨a5, c5, rfl, own5, b5⟩
          go_wp2_with fail
          go_ret
          have hs5 := hblr.size
          exact ⟨a5, k, c5, _, rfl, hm, own5.mono hs5, bstep hblr b5⟩
  · go_wp2_with fail
    go_ret
    exact ⟨a2, m, c2, xs, rfl, hm, hown3', hbl3⟩
end Go.Proofs.Ytccddkgpcgnaoaa
