/-
  What the drawing of arguments leaves: rows of whatever numbers, at most 33 of them, in new memory; the reader asked some times more.
-/
import Derived.Test.YtmfffmipnbdpjaaGreatDoorRd
namespace Go.Proofs.YtmfffmipnbdpjaaGreatDoor
open Go.RowKit

theorem Own.grown {w w' : World} {B : Nat} {a : Option Addr} {n c rb : Nat} {xs : List Int} (h : Own w B a n c xs) (hg : w.grownBy w' (some rb)) (hB : rb < B) : Own w' B a n c xs := by
  refine World.ownsRow.kept h hg ?_
  cases hb : (Value.slice a n c).ownBlock with
  | none => exact .inl rfl
  | some k => exact .inr (by intro e; injection e with e; have := h.blk k hb; omega)

theorem grown_trans {w w1 w2 : World} {row : Option Nat} (h : w.grownBy w1 row) (k : w1.grownBy w2 row) : w.grownBy w2 row :=
  ⟨k.os.trans h.os, k.tape.trans h.tape, k.output.trans h.output, Nat.le_trans h.size k.size, fun j hj hne => (k.block j (Nat.lt_of_lt_of_le hj h.size) hne).trans (h.block j hj hne)⟩

/-- A step that writes nothing that was there when w was, but the one row. -/
theorem grown_below {w w1 w2 : World} {row : Option Nat} (h : w.grownBy w1 row) (k : Below w.heap.size w1 w2) : w.grownBy w2 row :=
  ⟨k.os.trans h.os, k.tape.trans h.tape, k.output.trans h.output, Nat.le_trans h.size k.size, fun j hj hne => (k.block j hj).trans (h.block j hj hne)⟩

theorem Asked.trans {w w1 w2 : World} {rb p q : Nat} (h : Asked w w1 rb p) (k : Asked w1 w2 rb q) : Asked w w2 rb q := ⟨k.rdr, grown_trans h.gr k.gr⟩

theorem Asked.below {w w1 w2 : World} {rb p : Nat} (h : Asked w w1 rb p) (k : Below w.heap.size w1 w2) (hrb : rb < w.heap.size) : Asked w w2 rb p :=
  ⟨h.rdr.below fun j hj => k.block j (by omega), grown_below h.gr k⟩

theorem Asked.refl {w : World} {rb p : Nat} (h : Rdr w rb p) : Asked w w rb p := ⟨h, World.grownBy.refl w _⟩

theorem Rdr.alloc {w : World} {rb p : Nat} (h : Rdr w rb p) (o : Obj) : Rdr (w.alloc o) rb p :=
  h.below fun k hk => Below.heap_alloc w o k (by have := h.lt; omega)

set_option maxHeartbeats 400000 in
theorem one_any (w : World) (rb p B : Nat) (a : Option Addr) (n c : Nat) (xs : List Int) (lo hi : Int) (h : Rdr w rb p) (hp : p ≤ 1000000) (hn : 1 ≤ n) (hn2 : n ≤ 1000)
    (hown : Own w B a n c xs) (hB : rb < B) (hx : ∀ i, i < n → lo ≤ el xs i ∧ el xs i ≤ hi) :
    Calls Tryz.prog 15 #[.pointer (some ⟨rb, 0, none⟩), .slice a n c] w fun e w' => ∃ x : Int, lo ≤ x ∧ x ≤ hi ∧ e = .returned (.int .i64 x) ∧ Asked w w' rb (p + 1) := by
  go_enter Tryz.func15, Tryz.ntmps15
  go_wp2_with fail
  refine (pick_any w rb p n h hp (by omega) (by omega)).mono ?_
  rintro e w1 ⟨x, hx0, hx1, rfl, hask⟩
  obtain ⟨k, rfl⟩ := Int.eq_ofNat_of_zero_le hx0
  have hk : k < n := by omega
  obtain ⟨b, off, rfl, hbb, hcell⟩ := (hown.grown hask.gr hB).row (by omega) |>.cell k hk
  have hc := hcell k hk
  clear hcell
  go_wp2
  go_ret
  exact ⟨_, (hx k hk).1, (hx k hk).2, rfl, hask⟩

/-- The head of rowOf's first loop: some numbers drawn. -/
def RelRow (w : World) (rb p n : Nat) (u5 : Value) (wr : World) : Prop :=
  ∃ (k : Nat) (a : Option Addr) (c : Nat) (xs : List Int) (q : Nat), u5 = .slice a k c ∧ k ≤ n ∧ q ≤ p + 2 * k ∧ Own wr w.heap.size a k c xs ∧ Asked w wr rb q ∧ w.heap.size + 1 ≤ wr.heap.size

/-- The head of rowOf's second loop. -/
def RelRow2 (w : World) (rb p n : Nat) (a : Option Addr) (c : Nat) (u7 : Value) (wr : World) : Prop :=
  ∃ (k : Nat) (xs : List Int) (q : Nat), u7 = .int .i64 k ∧ k ≤ n ∧ q ≤ p ∧ Own wr w.heap.size a n c xs ∧ Asked w wr rb q ∧ w.heap.size + 1 ≤ wr.heap.size

/-- What a drawing of a row leaves. -/
def Drawn (w w' : World) (rb p : Nat) (e : Ending) : Prop :=
  ∃ (a : Option Addr) (m c : Nat) (xs : List Int) (q : Nat), e = .returned (.slice a m c) ∧ m ≤ 33 ∧ q ≤ p + 100 ∧ Own w' w.heap.size a m c xs ∧ Asked w w' rb q

theorem Asked.of_alloc {w w1 : World} {o : Obj} {rb q : Nat} (h : Asked (w.alloc o) w1 rb q) : Asked w w1 rb q := ⟨h.rdr, grown_trans (World.grownBy_alloc w o _) h.gr⟩

theorem Asked.app {w w1 w2 : World} {rb q n c B : Nat} {a : Option Addr} {xs : List Int} (h : Asked w w1 rb q) (hown : Own w1 B a n c xs) (hg : w1.grownBy w2 (Value.slice a n c).ownBlock) (hB : w.heap.size ≤ B) (hrb : rb < w.heap.size) : Asked w w2 rb q :=
  h.below (below_app (Below.refl _ _) hg hown hB h.gr.size) hrb

set_option maxHeartbeats 800000 in
theorem rowOf_any (w : World) (rb p n : Nat) (h : Rdr w rb p) (hp : p ≤ 900000) (hn : n ≤ 16) :
    Calls Tryz.prog 18 #[.pointer (some ⟨rb, 0, none⟩), .int .i64 n] w fun e w' => Drawn w w' rb p e := by
  have hrb := h.lt
  go_enter Tryz.func18, Tryz.ntmps18
  go_wp2_with fail
  refine (one_any _ rb p (rb + 1) _ 5 5 [5, 20, 3, 200, 1000] 0 1000 ((h.alloc _).alloc _) (by omega) (by omega) (by omega) (own_lit _ (rb + 1) [5, 20, 3, 200, 1000] (by simp) (by omega) (by decide)) (by omega) (by decide)).mono ?_
  rintro e w1 ⟨most, hm0, hm1, rfl, hask⟩
  have hask' := hask.of_alloc.of_alloc
  have hown0 := ((own_empty w).alloc (.cells #[.int .i64 5, .int .i64 20, .int .i64 3, .int .i64 200, .int .i64 1000] 3)).grown hask.gr hrb
  have hsz0 : w.heap.size + 1 ≤ w1.heap.size := by have := hask.gr.size; simp at this; omega
  go_wp2_with fail
  go_loopw [5] (RelRow w rb (p + 1) n) (fun v _ => n - lenOf v)
  case atStart => exact ⟨0, _, 0, [], p + 1, rfl, by omega, by omega, hown0, hask', hsz0⟩
  case round =>
    obtain ⟨k, a1, c1, xs, q, rfl, hk, hq, hown, hak, hsz⟩ := hrel
    clear hown0 hask' hask hsz0
    by_cases hlt : k < n
    · go_wp2_with fail
      refine (pick_any wr rb q 256 hak.rdr (by omega) (by omega) (by omega)).mono ?_
      rintro e w2 ⟨x, hx0, hx1, rfl, hask2⟩
      go_wp2_with fail
      refine (pick_any w2 rb (q + 1) 256 hask2.rdr (by omega) (by omega) (by omega)).mono ?_
      rintro e w3 ⟨y, hy0, hy1, rfl, hask3⟩
      have hown3 := (hown.grown hask2.gr hrb).grown hask3.gr hrb
      have hak3 := (hak.trans hask2).trans hask3
      have hsz3 := Nat.le_trans hask2.gr.size hask3.gr.size
      clear hask2 hask3 hown hak
      go_wp2_with (at_builtin; go_must (refine app_int w3 rfl _ _ rfl w.heap.size _ _ _ _ _ rfl hown3 rfl (by omega) (by omega) ?_); intro a2 c2 w4 hown4 hgr4 hsz4)
      go_roundw
      case rel => exact ⟨k + 1, a2, c2, _, q + 2, rfl, by omega, by omega, hown4, hak3.app hown3 hgr4 (Nat.le_refl _) hrb, by omega⟩
      case measure => simp [lenOf]; omega
    · go_wp2_with fail
      refine (pick_any wr rb q 12 hak.rdr (by omega) (by omega) (by omega)).mono ?_
      rintro e w2 ⟨x, hx0, hx1, rfl, hask2⟩
      have hown2 := hown.grown hask2.gr hrb
      have hak2 := hak.trans hask2
      have hsz2 := hask2.gr.size
      clear hask2 hown hak
      by_cases x0 : x = 0
      · subst x0
        go_wp2_with fail
        obtain ⟨wo, rfl⟩ : ∃ wo : World, wo = wr := ⟨_, rfl⟩
        go_loopw [7] (RelRow2 w rb (q + 1) k a1 c1) (fun i _ => k - (intOf i).toNat)
        case atStart => exact ⟨0, xs, q + 1, rfl, by omega, by omega, hown2, hak2, by omega⟩
        case round =>
          obtain ⟨j, ys, q2, rfl, hj, hq2, hown5, hak5, hsz5⟩ := hrel
          clear hown2 hak2
          by_cases hjk : j < k
          · obtain ⟨g, rfl, hBg, hgl, hcell, hfr⟩ := hown5.at j hjk
            go_wp2_with fail
            go_roundw
            case rel => exact ⟨j + 1, _, q2, rfl, by omega, by omega, hown5.store j _, hak5.below (Below.setCell (Below.refl _ _) (by exact hBg) _) hrb, by simp; omega⟩
            case measure => simp [intOf]; omega
          · go_wp2_with fail
            refine (pick_any wr rb (q2) 40 hak5.rdr (by omega) (by omega) (by omega)).mono ?_
            rintro e w7 ⟨z, hz0, hz1, rfl, hask7⟩
            have hown7 := hown5.grown hask7.gr hrb
            have hak7 := hak5.trans hask7
            have hsz7 := hask7.gr.size
            clear hask7
            by_cases z0 : z = 0
            · subst z0
              go_wp2_with fail
              refine (one_any _ rb (q2 + 1) (rb + 1) _ 2 2 [1001, -1001] (-2000) 2000 (hak7.rdr.alloc _) (by omega) (by omega) (by omega) (own_lit _ (rb + 1) [1001, -1001] (by simp) (by omega) (by decide)) (by omega) (by decide)).mono ?_
              rintro e w8 ⟨t, ht0, ht1, rfl, hask8⟩
              have hown8 := (hown7.alloc (.cells #[.int .i64 1001, .int .i64 (-1001)] 3)).grown hask8.gr hrb
              have hak8 := hak7.trans hask8.of_alloc
              have hsz8 := hask8.of_alloc.gr.size
              go_wp2_with (at_builtin; go_must (refine app_int w8 rfl _ _ rfl w.heap.size _ _ _ _ _ rfl hown8 rfl (by omega) (by omega) ?_); intro a9 c9 w9 hown9 hgr9 hsz9)
              go_ret
              exact ⟨_, _, _, _, _, rfl, by omega, by omega, hown9, hak8.app hown8 hgr9 (Nat.le_refl _) hrb⟩
            · have z0b : (z == 0) = false := by simp; exact z0
              by_cases z1 : z = 1
              · subst z1
                go_wp2_with (at_builtin; go_must (refine app_ints w7 rfl _ _ rfl w.heap.size _ _ _ 17 _ [1, 1, 1, 1, 1, 1, 1, 1, 1, 1, 1, 1, 1, 1, 1, 1, 1] rfl (by omega) (by omega) rfl hown7 rfl (by omega) (by omega) ?_); intro a9 c9 w9 hown9 hgr9 hsz9)
                go_ret
                exact ⟨_, _, _, _, _, rfl, by omega, by omega, hown9, hak7.app hown7 hgr9 (Nat.le_refl _) hrb⟩
              · have z1b : (z == 1) = false := by simp; exact z1
                go_wp2_with fail
                go_ret
                exact ⟨_, _, _, _, _, rfl, by omega, by omega, hown7, hak7⟩
      · have x0b : (x == 0) = false := by simp; exact x0
        go_wp2_with fail
        refine (pick_any w2 rb (q + 1) 40 hak2.rdr (by omega) (by omega) (by omega)).mono ?_
        rintro e w7 ⟨z, hz0, hz1, rfl, hask7⟩
        have hown7 := hown2.grown hask7.gr hrb
        have hak7 := hak2.trans hask7
        have hsz7 := hask7.gr.size
        clear hask7
        by_cases z0 : z = 0
        · subst z0
          go_wp2_with fail
          refine (one_any _ rb (q + 1 + 1) (rb + 1) _ 2 2 [1001, -1001] (-2000) 2000 (hak7.rdr.alloc _) (by omega) (by omega) (by omega) (own_lit _ (rb + 1) [1001, -1001] (by simp) (by omega) (by decide)) (by omega) (by decide)).mono ?_
          rintro e w8 ⟨t, ht0, ht1, rfl, hask8⟩
          have hown8 := (hown7.alloc (.cells #[.int .i64 1001, .int .i64 (-1001)] 3)).grown hask8.gr hrb
          have hak8 := hak7.trans hask8.of_alloc
          have hsz8 := hask8.of_alloc.gr.size
          go_wp2_with (at_builtin; go_must (refine app_int w8 rfl _ _ rfl w.heap.size _ _ _ _ _ rfl hown8 rfl (by omega) (by omega) ?_); intro a9 c9 w9 hown9 hgr9 hsz9)
          go_ret
          exact ⟨_, _, _, _, _, rfl, by omega, by omega, hown9, hak8.app hown8 hgr9 (Nat.le_refl _) hrb⟩
        · have z0b : (z == 0) = false := by simp; exact z0
          by_cases z1 : z = 1
          · subst z1
            go_wp2_with (at_builtin; go_must (refine app_ints w7 rfl _ _ rfl w.heap.size _ _ _ 17 _ [1, 1, 1, 1, 1, 1, 1, 1, 1, 1, 1, 1, 1, 1, 1, 1, 1] rfl (by omega) (by omega) rfl hown7 rfl (by omega) (by omega) ?_); intro a9 c9 w9 hown9 hgr9 hsz9)
            go_ret
            exact ⟨_, _, _, _, _, rfl, by omega, by omega, hown9, hak7.app hown7 hgr9 (Nat.le_refl _) hrb⟩
          · have z1b : (z == 1) = false := by simp; exact z1
            go_wp2_with fail
            go_ret
            exact ⟨_, _, _, _, _, rfl, by omega, by omega, hown7, hak7⟩

end Go.Proofs.YtmfffmipnbdpjaaGreatDoor
