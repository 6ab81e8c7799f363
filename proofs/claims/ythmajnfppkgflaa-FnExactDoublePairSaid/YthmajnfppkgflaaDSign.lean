/-
  The drawing of rows of 1 and -1 and of paired rows.
-/
import Derived.Test.YthmajnfppkgflaaDPair
import Derived.Test.YthmajnfppkgflaaDraw2
namespace Go.Proofs.Ythmajnfppkgflaa
open Go.RowKit

set_option maxHeartbeats 1600000 in
theorem signRow_any (w : World) (rb p n : Nat) (h : Rdr w rb p) (hp : p ≤ 800000) (hn : n ≤ 16) :
    Calls Try.prog 35 #[.pointer (some ⟨rb, 0, none⟩), .int .i64 n] w fun e w' => Drawn w w' rb p e := by
  have hrb := h.lt
  go_enter Try.func35, Try.ntmps35
  go_wp2_with fail
  go_loopw [5] (RelRow w rb p n) (fun v _ => n - lenOf v)
  case atStart => exact ⟨0, _, 0, [], p, rfl, by omega, by omega, own_empty w, Asked.below (Asked.refl h) ((Below.refl _ _).alloc (Nat.le_refl _) _) hrb, by simp⟩
  case round =>
    obtain ⟨k, a1, c1, xs, q, rfl, hk, hq, hown, hak, hsz⟩ := hrel
    by_cases hlt : k < n
    · go_wp2_with fail
      refine (pick_any wr rb q 2 hak.rdr (by omega) (by omega) (by omega)).mono ?_
      rintro e w2 ⟨x, hx0, hx1, rfl, hask2⟩
      have hown2 := hown.grown hask2.gr hrb
      have hak2 := hak.trans hask2
      have hsz2 := hask2.gr.size
      clear hask2 hown hak
      go_wp2_with (at_builtin; go_must (refine app_int w2 rfl _ _ rfl w.heap.size _ _ _ _ _ rfl hown2 rfl (by omega) (by omega) ?_); intro a5 c5 w5 hown5 hgr5 hsz5)
      go_roundw
      case rel => exact ⟨k + 1, a5, c5, _, q + 1, rfl, by omega, by omega, hown5, hak2.app hown2 hgr5 (Nat.le_refl _) hrb, by omega⟩
      case measure => simp [lenOf]; omega
    · by_cases hk0 : k = 0
      · subst hk0
        go_wp2_with fail
        go_ret
        exact ⟨_, _, _, _, _, rfl, by omega, by omega, hown, hak⟩
      · have hkp : (0 : Int) < k := by omega
        have hkq : 0 < k := by omega
        clear hk0
        go_wp2_with fail
        refine (pick_any wr rb q 24 hak.rdr (by omega) (by omega) (by omega)).mono ?_
        rintro e w7 ⟨z7, hz70, hz71, rfl, hask7⟩
        have hown7 := hown.grown hask7.gr hrb
        have hak7 := hak.trans hask7
        have hsz7 := hask7.gr.size
        clear hask7
        by_cases z70 : z7 = 0
        · subst z70
          go_wp2_with fail
          refine (one_any _ rb (q + 1) (rb + 1) _ 2 2 [0, 2] (-2000) 2000 (hak7.rdr.alloc _) (by omega) (by omega) (by omega) (own_lit _ (rb + 1) [0, 2] (by simp) (by omega) (by decide)) (by omega) (by decide)).mono ?_
          rintro e w8 ⟨t, ht0, ht1, rfl, hask8⟩
          have hown8 := (hown7.alloc (.cells #[.int .i64 0, .int .i64 2] 3)).grown hask8.gr hrb
          have hak8 := hak7.trans hask8.of_alloc
          have hsz8 := hask8.of_alloc.gr.size
          obtain ⟨g, rfl, hBg, hgl, hcell, hfr⟩ := hown8.at 0 hkq
          go_wp2_with fail
          go_ret
          exact ⟨_, _, _, _, _, rfl, by omega, by omega, hown8.store 0 _, hak8.below (Below.setCell (Below.refl _ _) (by exact hBg) _) hrb⟩
        · have z0b : (z7 == 0) = false := by simp; exact z70
          go_wp2_with fail
          go_ret
          exact ⟨_, _, _, _, _, rfl, by omega, by omega, hown7, hak7⟩
set_option maxHeartbeats 800000 in
theorem DrawIsQuiet_any (w : World) (a : Option Addr) (n c : Nat) (h : Bts w a n w.heap.size) (hnc : n ≤ c) (hn : n ≤ 140737488355328) :
    Calls Try.prog 15 #[.slice a n c] w fun e w' => DrawnRow w w' e := by
  go_enter Try.func15, Try.ntmps15
  go_wp2_with fail
  refine (newReader_any w a n c h hnc hn).mono ?_
  rintro e w1 ⟨rfl, hrd, hbl⟩
  have hsz := hrd.lt
  go_wp2_with fail
  refine (pick_any w1 w.heap.size 0 6 hrd (by omega) (by omega) (by omega)).mono ?_
  rintro e w2 ⟨z, hz0, hz1, rfl, hask⟩
  have hbl2 := below_asked hbl hask (Nat.le_refl _) hsz
  have hsz2 := hask.rdr.lt
  by_cases z0 : z = 0
  · subst z0
    go_wp2_with fail
    go_ret
    exact ⟨_, 5, 5, [1, 1, 1, -1, 1], rfl, by omega, (own_lit w2 w.heap.size [1, 1, 1, -1, 1] rfl (by omega) (by decide)), hbl2.alloc (by omega) _⟩
  · have z0b : (z == 0) = false := by simp; exact z0
    by_cases z1 : z = 1
    · subst z1
      go_wp2_with fail
      go_ret
      exact ⟨_, 7, 7, [1, 1, 1, -1, -1, 1, -1], rfl, by omega, (own_lit w2 w.heap.size [1, 1, 1, -1, -1, 1, -1] rfl (by omega) (by decide)), hbl2.alloc (by omega) _⟩
    · have z1b : (z == 1) = false := by simp; exact z1
      go_wp2_with fail
      refine (one_any _ w.heap.size 1 (w.heap.size + 1) _ _ _ [3, 4, 5, 2, 1, 7, 0, 13] 0 16 (hask.rdr.alloc _) (by omega) (by decide) (by decide) (own_lit _ (w.heap.size + 1) [3, 4, 5, 2, 1, 7, 0, 13] rfl (by omega) (by decide)) (by omega) (by decide)).mono ?_
      rintro e w3 ⟨x, hx0, hx1, rfl, hask3⟩
      obtain ⟨k, rfl⟩ := Int.eq_ofNat_of_zero_le hx0
      have hask3' := hask3.of_alloc
      have hbl3 := below_asked hbl2 hask3' (Nat.le_refl _) hsz2
      have hsz3 := hask3'.rdr.lt
      go_wp2_with fail
      refine (signRow_any w3 w.heap.size 2 k hask3'.rdr (by omega) (by omega)).mono ?_
      rintro e w4 ⟨a2, m, c2, xs, q, rfl, hm, hq, hown, hask4⟩
      go_wp2_with fail
      go_ret
      exact ⟨a2, m, c2, xs, rfl, hm, hown.mono (by omega), below_asked hbl3 hask4 (Nat.le_refl _) hsz3⟩
/-- What a drawing of two rows leaves. -/
def DrawnP (w w' : World) (rb p : Nat) (e : Ending) : Prop :=
  ∃ (a b : Option Addr) (m c m2 d : Nat) (xs ys : List Int) (q : Nat), e = .returned (.tuple #[.slice a m c, .slice b m2 d]) ∧ m ≤ 33 ∧ m2 ≤ 33 ∧ q ≤ p + 300 ∧ Own w' w.heap.size a m c xs ∧ Own w' w.heap.size b m2 d ys ∧ Asked w w' rb q
/-- Two rows in the middle of the drawing. -/
def MidP (w : World) (rb : Nat) (wr : World) (a b : Option Addr) (k c k2 d q : Nat) : Prop :=
  ∃ xs ys, Own wr w.heap.size a k c xs ∧ Own wr w.heap.size b k2 d ys ∧ Apart a b ∧ Asked w wr rb q ∧ k ≤ 16 ∧ k2 ≤ 16
theorem MidP.rdr {w : World} {rb : Nat} {wr : World} {a b : Option Addr} {k c k2 d q : Nat} (h : MidP w rb wr a b k c k2 d q) : Rdr wr rb q := by
  obtain ⟨_, _, _, _, _, h, _⟩ := h; exact h.rdr
theorem MidP.asked {w : World} {rb : Nat} {wr w' : World} {a b : Option Addr} {k c k2 d q q' : Nat} (h : MidP w rb wr a b k c k2 d q) (hk : Asked wr w' rb q') (hrb : rb < w.heap.size) : MidP w rb w' a b k c k2 d q' := by
  obtain ⟨xs, ys, h1, h2, h3, h4, h5⟩ := h
  exact ⟨xs, ys, h1.grown hk.gr hrb, h2.grown hk.gr hrb, h3, h4.trans hk, h5⟩
theorem MidP.below {w : World} {rb : Nat} {wr w' : World} {a b : Option Addr} {k c k2 d q : Nat} (h : MidP w rb wr a b k c k2 d q) (hk : Below wr.heap.size wr w') (hrb : rb < w.heap.size) : MidP w rb w' a b k c k2 d q := by
  obtain ⟨xs, ys, h1, h2, h3, h4, h5⟩ := h
  exact ⟨xs, ys, h1.below hk, h2.below hk, h3, h4.below (hk.mono h4.gr.size) hrb, h5⟩
set_option maxHeartbeats 1600000 in
theorem somePair_any (w : World) (rb p : Nat) (h : Rdr w rb p) (hp : p ≤ 100000) :
    Calls Try.prog 43 #[.pointer (some ⟨rb, 0, none⟩)] w fun e w' => DrawnP w w' rb p e := by
  have hrb := h.lt
  go_enter Try.func43, Try.ntmps43
  go_wp2_with fail
  refine (pick_any _ rb p 2 (h.alloc _) (by omega) (by omega) (by omega)).mono ?_
  rintro e w1 ⟨z, hz0, hz1, rfl, hask⟩
  have hask' := hask.of_alloc
  have o1 := (own_lit w w.heap.size [1] rfl (Nat.le_refl _) (by decide)).grown hask.gr hrb
  have hs1 : w.heap.size + 1 ≤ w1.heap.size := by have := hask.gr.size; simp at this; omega
  clear hask
  go_wp2_with fail
  refine (one_any _ rb (p + 1) (rb + 1) _ 5 5 [1, 2, 3, 0, 4] 0 4 ((hask'.rdr.alloc _).alloc _) (by omega) (by omega) (by omega) (own_lit _ (rb + 1) [1, 2, 3, 0, 4] (by simp) (by omega) (by decide)) (by omega) (by decide)).mono ?_
  rintro e w2 ⟨t0, ht0, ht1, rfl, hask2⟩
  obtain ⟨t1, rfl⟩ := Int.eq_ofNat_of_zero_le ht0
  have mid0 : MidP w rb w2 (some ⟨w.heap.size, 0, none⟩) (some ⟨w1.heap.size, 0, none⟩) 1 1 1 1 (p + 2) :=
    ⟨[1], [1 - 2 * z], ((o1.alloc _).alloc _).grown hask2.gr hrb, (((own_lit w1 w.heap.size [1 - 2 * z] rfl (by omega) (by simp))).alloc _).grown hask2.gr hrb, (fun p q hp hq => by
      injection hp with hp; injection hq with hq; subst hp; subst hq; show w.heap.size ≠ w1.heap.size; omega), hask'.trans hask2.of_alloc.of_alloc, by omega, by omega⟩
  clear o1 hask' hask2
  go_wp2_with fail
  go_loopw [4, 5, 6] (fun u v n wr => ∃ (t k k2 : Nat) (a b : Option Addr) (c d q : Nat), u = .slice a k c ∧ v = .slice b k2 d ∧ n = .int .i64 t ∧ t ≤ 4 ∧ q + t ≤ p + 10 ∧ MidP w rb wr a b k c k2 d q) (fun _ _ n _ => (intOf n).toNat)
  case atStart => exact ⟨t1, 1, 1, _, _, 1, 1, p + 2, rfl, rfl, rfl, by omega, by omega, mid0⟩
  case round =>
    obtain ⟨t9, K, K2, A, B, C, D, q, rfl, rfl, rfl, ht9, hq, mid⟩ := hrel
    clear mid0
    by_cases ht : 0 < t9
    · obtain ⟨t, rfl⟩ : ∃ t, t9 = t + 1 := ⟨t9 - 1, by omega⟩
      obtain ⟨xs, ys, o1, o2, hap, hak, hk1, hk2⟩ := id mid
      cases hok : dpOk xs ys
      · have hno := sDoublePair_no wr A B K C K2 D xs ys (o1.row (by omega)) (o2.row (by omega)) hok
        unfold nil3 at hno
        clear o1 o2 hap hak hok
        go_wp2_with fail
        refine hno.mono ?_
        rintro e w3 ⟨rfl, b3⟩
        clear hno
        have mid3 := mid.below b3 hrb
        clear mid
        go_wp2_with fail
        refine (pick_any w3 rb (q) 3 mid3.rdr (by omega) (by omega) (by omega)).mono ?_
        rintro e w7 ⟨z, hz0, hz1, rfl, hask7⟩
        have mid7 := mid3.asked hask7 hrb
        clear hask7
        by_cases z0 : z = 0
        · subst z0
          go_wp2_with fail
          obtain ⟨wo, rfl⟩ : ∃ wo : World, wo = w7 := ⟨_, rfl⟩
          go_loopw [10] (fun u wr => ∃ j : Nat, j ≤ (K) ∧ u = .int .i64 j ∧ MidP w rb wr (A) (B) (K) (C) (K2) (D) (q + 1)) (fun u _ => (K) - (intOf u).toNat)
          case atStart => exact ⟨0, Nat.zero_le _, rfl, mid7⟩
          case round =>
            obtain ⟨j, hj, rfl, midr⟩ := hrel
            clear mid7
            by_cases hjk : j < (K)
            · obtain ⟨xs, ys, o1, o2, hap, hak, hk1, hk2⟩ := midr
              obtain ⟨g, rfl, hBg, hgl, hcell, hfr⟩ := o1.at j hjk
              have o1s := o1.store j (wrap64 (-el xs j))
              have o2s : Own (wr.setCell ⟨g, j, none⟩ (.int .i64 (wrap64 (-el xs j)))) w.heap.size (B) (K2) (D) ys := own_kept_apart o2 o1 (grown_store wr g j _) hap
              have haks := hak.below ((Below.refl w.heap.size wr).setCell (p := ⟨g, j, none⟩) hBg (.int .i64 (wrap64 (-el xs j)))) hrb
              go_wp2_with fail
              go_roundw
              case rel => exact ⟨j + 1, by omega, by go_num, _, _, o1s, o2s, hap, haks, hk1, hk2⟩
              case measure => simp [intOf]; omega
            · go_wp2_with fail
              go_roundw
              case rel => exact ⟨t, K, K2, A, B, C, D, q + 1, rfl, rfl, by go_num, by omega, by omega, midr⟩
              case measure => simp [intOf]
        · have z0b : (z == 0) = false := by simp; exact z0
          go_wp2_with fail
          go_roundw
          case rel => exact ⟨t, K, K2, A, B, C, D, q + 1, rfl, rfl, by go_num, by omega, by omega, mid7⟩
          case measure => simp [intOf]
      · obtain ⟨hpp, h16⟩ := dpOk_iff.1 hok
        obtain ⟨hKK, _, _⟩ := pair_facts hpp o1.len o2.len
        have hK8 : 2 * K ≤ 16 := by have := o1.len; omega
        subst hKK
        have hyes := sDoublePair_yes wr A B K C D xs ys (o1.row (by omega)) (o2.row (by omega)) hok
        have hsw := hak.gr.size
        clear o1 o2 hap hok mid hpp h16
        go_wp2_with fail
        refine hyes.mono ?_
        rintro e w3 ⟨A2, B2, C2, D2, rfl, p1, p2, hap2, b3⟩
        clear hyes
        have mid3 : MidP w rb w3 A2 B2 (K + K) C2 (K + K) D2 q := ⟨_, _, p1.mono hsw, p2.mono hsw, hap2, hak.below (b3.mono hsw) hrb, by omega, by omega⟩
        clear p1 p2 hap2 b3 hak
        go_wp2_with fail
        refine (pick_any w3 rb (q) 3 mid3.rdr (by omega) (by omega) (by omega)).mono ?_
        rintro e w7 ⟨z, hz0, hz1, rfl, hask7⟩
        have mid7 := mid3.asked hask7 hrb
        clear hask7
        by_cases z0 : z = 0
        · subst z0
          go_wp2_with fail
          obtain ⟨wo, rfl⟩ : ∃ wo : World, wo = w7 := ⟨_, rfl⟩
          go_loopw [10] (fun u wr => ∃ j : Nat, j ≤ (K + K) ∧ u = .int .i64 j ∧ MidP w rb wr (A2) (B2) (K + K) (C2) (K + K) (D2) (q + 1)) (fun u _ => (K + K) - (intOf u).toNat)
          case atStart => exact ⟨0, Nat.zero_le _, rfl, mid7⟩
          case round =>
            obtain ⟨j, hj, rfl, midr⟩ := hrel
            clear mid7
            by_cases hjk : j < (K + K)
            · obtain ⟨xs, ys, o1, o2, hap, hak, hk1, hk2⟩ := midr
              obtain ⟨g, rfl, hBg, hgl, hcell, hfr⟩ := o1.at j hjk
              have o1s := o1.store j (wrap64 (-el xs j))
              have o2s : Own (wr.setCell ⟨g, j, none⟩ (.int .i64 (wrap64 (-el xs j)))) w.heap.size (B2) (K + K) (D2) ys := own_kept_apart o2 o1 (grown_store wr g j _) hap
              have haks := hak.below ((Below.refl w.heap.size wr).setCell (p := ⟨g, j, none⟩) hBg (.int .i64 (wrap64 (-el xs j)))) hrb
              go_wp2_with fail
              go_roundw
              case rel => exact ⟨j + 1, by omega, by go_num, _, _, o1s, o2s, hap, haks, hk1, hk2⟩
              case measure => simp [intOf]; omega
            · go_wp2_with fail
              go_roundw
              case rel => exact ⟨t, K + K, K + K, A2, B2, C2, D2, q + 1, rfl, rfl, by go_num, by omega, by omega, midr⟩
              case measure => simp [intOf]
        · have z0b : (z == 0) = false := by simp; exact z0
          go_wp2_with fail
          go_roundw
          case rel => exact ⟨t, K + K, K + K, A2, B2, C2, D2, q + 1, rfl, rfl, by go_num, by omega, by omega, mid7⟩
          case measure => simp [intOf]
    · go_wp2_with fail
      refine (pick_any wr rb q 4 mid.rdr (by omega) (by omega) (by omega)).mono ?_
      rintro e w7 ⟨z7, hz70, hz71, rfl, hask7⟩
      have mid7 := mid.asked hask7 hrb
      clear hask7 mid
      obtain ⟨xs, ys, o1, o2, hap, hak, hk1, hk2⟩ := mid7
      by_cases z0 : z7 = 0
      · subst z0
        go_wp2_with fail
        refine (signRow_any w7 rb (q + 1) 4 hak.rdr (by omega) (by omega)).mono ?_
        rintro e w8 ⟨a8, m8, c8, xs8, q8, rfl, hm8, hq8, own8, ask8⟩
        have hs7 := hak.gr.size
        go_wp2_with fail
        refine (signRow_any w8 rb q8 4 ask8.rdr (by omega) (by omega)).mono ?_
        rintro e w9 ⟨a9, m9, c9, xs9, q9, rfl, hm9, hq9, own9, ask9⟩
        have hs8 := ask8.gr.size
        have own89 := own8.grown ask9.gr (by omega)
        go_wp2_with fail
        go_ret2
        exact ⟨_, _, _, _, _, _, _, _, q9, rfl, hm8, hm9, by omega, own89.mono hs7, own9.mono (by omega), (hak.trans ask8).trans ask9⟩
      · have z0b : (z7 == 0) = false := by simp; exact z0
        go_wp2_with fail
        go_ret2
        exact ⟨_, _, _, _, _, _, _, _, q + 1, rfl, by omega, by omega, by omega, o1, o2, hak⟩
/-- What a call hands back that draws two rows. -/
def DrawnTwo (w w' : World) (e : Ending) : Prop :=
  ∃ (a b : Option Addr) (m c m2 d : Nat) (xs ys : List Int), e = .returned (.tuple #[.slice a m c, .slice b m2 d]) ∧ m ≤ 33 ∧ m2 ≤ 33 ∧ Own w' w.heap.size a m c xs ∧ Own w' w.heap.size b m2 d ys ∧ Below w.heap.size w w'
set_option maxHeartbeats 400000 in
theorem DrawArePaired_any (w : World) (a : Option Addr) (n c : Nat) (h : Bts w a n w.heap.size) (hnc : n ≤ c) (hn : n ≤ 140737488355328) :
    Calls Try.prog 25 #[.slice a n c] w fun e w' => DrawnTwo w w' e := by
  go_enter Try.func25, Try.ntmps25
  go_wp2_with fail
  refine (newReader_any w a n c h hnc hn).mono ?_
  rintro e w1 ⟨rfl, hrd, hbl⟩
  have hsz := hrd.lt
  go_wp2_with fail
  refine (somePair_any w1 w.heap.size 0 hrd (by omega)).mono ?_
  rintro e w4 ⟨a2, a4, m, c2, m4, c4, xs, ys, q, rfl, hm, hm4, hq, o1, o2, hask⟩
  go_wp2_with fail
  go_ret2
  exact ⟨a2, a4, m, c2, m4, c4, xs, ys, rfl, hm, hm4, o1.mono (by omega), o2.mono (by omega), below_asked hbl hask (Nat.le_refl _) hsz⟩
set_option maxHeartbeats 400000 in
theorem DrawDoublePair_any (w : World) (a : Option Addr) (n c : Nat) (h : Bts w a n w.heap.size) (hnc : n ≤ c) (hn : n ≤ 140737488355328) :
    Calls Try.prog 28 #[.slice a n c] w fun e w' => DrawnTwo w w' e := by
  go_enter Try.func28, Try.ntmps28
  go_wp2_with fail
  refine (newReader_any w a n c h hnc hn).mono ?_
  rintro e w1 ⟨rfl, hrd, hbl⟩
  have hsz := hrd.lt
  go_wp2_with fail
  refine (somePair_any w1 w.heap.size 0 hrd (by omega)).mono ?_
  rintro e w4 ⟨a2, a4, m, c2, m4, c4, xs, ys, q, rfl, hm, hm4, hq, o1, o2, hask⟩
  go_wp2_with fail
  go_ret2
  exact ⟨a2, a4, m, c2, m4, c4, xs, ys, rfl, hm, hm4, o1.mono (by omega), o2.mono (by omega), below_asked hbl hask (Nat.le_refl _) hsz⟩
end Go.Proofs.Ythmajnfppkgflaa
