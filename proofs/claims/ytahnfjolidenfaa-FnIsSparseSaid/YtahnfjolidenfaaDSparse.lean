/-
  The drawing of sets.
-/
import Derived.Test.YtahnfjolidenfaaDraw2
import Derived.Test.YtahnfjolidenfaaSparse
namespace Go.Proofs.Ytahnfjolidenfaa
open Go.RowKit

theorem or13 (p q : Nat) (hp : p < 8192) (hq : q < 8192) : ∃ r : Nat, r < 8192 ∧ bits .or .i64 (p : Int) (q : Int) = (r : Int) :=
  ⟨p ||| q, Nat.or_lt_two_pow (n := 13) hp hq, i64_or p q (by omega) (by omega)⟩
theorem and13 (p q : Nat) (hp : p < 8192) (hq : q < 8192) : ∃ r : Nat, r < 8192 ∧ bits .and .i64 (p : Int) (q : Int) = (r : Int) :=
  ⟨p &&& q, Nat.lt_of_le_of_lt Nat.and_le_left hp, i64_and p q (by omega) (by omega)⟩
/-- What a drawing of a set leaves. -/
def DrawnInt (w w' : World) (rb p : Nat) (e : Ending) : Prop :=
  ∃ (x : Int) (q : Nat), -1 ≤ x ∧ x ≤ 8192 ∧ q ≤ p + 10 ∧ e = .returned (.int .i64 x) ∧ Asked w w' rb q
set_option maxHeartbeats 800000 in
theorem someSet_any (w : World) (rb p : Nat) (h : Rdr w rb p) (hp : p ≤ 800000) :
    Calls Try.prog 25 #[.pointer (some ⟨rb, 0, none⟩)] w fun e w' => DrawnInt w w' rb p e := by
  have hrb := h.lt
  go_enter Try.func25, Try.ntmps25
  go_wp2_with fail
  refine (pick_any w rb p 24 h (by omega) (by omega) (by omega)).mono ?_
  rintro e w1 ⟨z, hz0, hz1, rfl, hask⟩
  by_cases z0 : z = 0
  · subst z0
    go_wp2_with fail
    refine (one_any _ rb (p + 1) (rb + 1) _ 4 4 [-1, 8192, 0, 8191] (-1) 8192 (hask.rdr.alloc _) (by omega) (by omega) (by omega) (own_lit _ (rb + 1) [-1, 8192, 0, 8191] (by simp) (by have := hask.gr.size; omega) (by decide)) (by omega) (by decide)).mono ?_
    rintro e w2 ⟨t, ht0, ht1, rfl, hask2⟩
    have hak2 := hask.trans hask2.of_alloc
    go_wp2_with fail
    go_ret
    exact ⟨t, _, ht0, ht1, by omega, rfl, hak2⟩
  · have z0b : (z == 0) = false := by simp; exact z0
    go_wp2_with fail
    refine (pick_any w1 rb (p + 1) 256 hask.rdr (by omega) (by omega) (by omega)).mono ?_
    rintro e w2 ⟨x, hx0, hx1, rfl, hask2⟩
    go_wp2_with fail
    refine (pick_any w2 rb (p + 1 + 1) 32 hask2.rdr (by omega) (by omega) (by omega)).mono ?_
    rintro e w3 ⟨y, hy0, hy1, rfl, hask3⟩
    go_wp2_with fail
    refine (pick_any w3 rb (p + 1 + 1 + 1) 2 hask3.rdr (by omega) (by omega) (by omega)).mono ?_
    rintro e w4 ⟨u, hu0, hu1, rfl, hask4⟩
    have hak4 := ((hask.trans hask2).trans hask3).trans hask4
    clear hask hask2 hask3
    by_cases u0 : u = 0
    · subst u0
      go_wp2_with fail
      refine (pick_any w4 rb (p + 1 + 1 + 1 + 1) 256 hask4.rdr (by omega) (by omega) (by omega)).mono ?_
      rintro e w5 ⟨x2, hx20, hx21, rfl, hask5⟩
      go_wp2_with fail
      refine (pick_any w5 rb (p + 1 + 1 + 1 + 1 + 1) 32 hask5.rdr (by omega) (by omega) (by omega)).mono ?_
      rintro e w6 ⟨y2, hy20, hy21, rfl, hask6⟩
      have hak6 := (hak4.trans hask5).trans hask6
      clear hask4 hask5 hask6
      obtain ⟨r, hr, hre⟩ := and13 (x + 256 * y).toNat (x2 + 256 * y2).toNat (by omega) (by omega)
      rw [Int.toNat_of_nonneg (by omega), Int.toNat_of_nonneg (by omega)] at hre
      go_wp2_with fail
      go_ret
      exact ⟨(r : Int), _, by omega, by omega, by omega, by rw [← hre]; rfl, hak6⟩
    · have u0b : (u == 0) = false := by simp; exact u0
      go_wp2_with fail
      go_ret
      exact ⟨_, _, by omega, by omega, by omega, rfl, hak4⟩
/-- What a call hands back that draws a number. -/
def DrawnSet (w w' : World) (e : Ending) : Prop :=
  ∃ x : Int, -1 ≤ x ∧ x ≤ 8192 ∧ e = .returned (.int .i64 x) ∧ Below w.heap.size w w'
set_option maxHeartbeats 800000 in
theorem DrawIsSparse_any (w : World) (a : Option Addr) (n c : Nat) (h : Bts w a n w.heap.size) (hnc : n ≤ c) (hn : n ≤ 140737488355328) :
    Calls Try.prog 12 #[.slice a n c] w fun e w' => DrawnSet w w' e := by
  go_enter Try.func12, Try.ntmps12
  go_wp2_with fail
  refine (newReader_any w a n c h hnc hn).mono ?_
  rintro e w1 ⟨rfl, hr, hb⟩
  have hrl := hr.lt
  go_wp2_with fail
  refine (pick_any w1 w.heap.size 0 2 hr (by omega) (by omega) (by omega)).mono ?_
  rintro e w2 ⟨z, hz0, hz1, rfl, hask⟩
  by_cases z0 : z = 0
  · subst z0
    go_wp2_with fail
    refine (pick_any w2 w.heap.size 1 13 hask.rdr (by omega) (by omega) (by omega)).mono ?_
    rintro e w3 ⟨x, hx0, hx1, rfl, hask3⟩
    obtain ⟨x, rfl⟩ := Int.eq_ofNat_of_zero_le hx0
    have hpx := p2_13 x (by omega)
    go_wp2_with fail
    refine (power_any w3 x (by omega)).mono ?_
    rintro e w' ⟨rfl, rfl⟩
    go_wp2_with fail
    refine (pick_any w3 w.heap.size 2 13 hask3.rdr (by omega) (by omega) (by omega)).mono ?_
    rintro e w4 ⟨y, hy0, hy1, rfl, hask4⟩
    obtain ⟨y, rfl⟩ := Int.eq_ofNat_of_zero_le hy0
    have hpy := p2_13 y (by omega)
    go_wp2_with fail
    refine (power_any w4 y (by omega)).mono ?_
    rintro e w' ⟨rfl, rfl⟩
    obtain ⟨r, hr1, hr2⟩ := or13 (p2 x) (p2 y) (by omega) (by omega)
    go_wp2_with fail
    refine (pick_any w4 w.heap.size 3 13 hask4.rdr (by omega) (by omega) (by omega)).mono ?_
    rintro e w5 ⟨v, hv0, hv1, rfl, hask5⟩
    obtain ⟨v, rfl⟩ := Int.eq_ofNat_of_zero_le hv0
    have hpv := p2_13 v (by omega)
    go_wp2_with fail
    refine (power_any w5 v (by omega)).mono ?_
    rintro e w' ⟨rfl, rfl⟩
    obtain ⟨r2, hr3, hr4⟩ := or13 r (p2 v) (by omega) (by omega)
    have hak := ((hask.trans hask3).trans hask4).trans hask5
    clear hask hask3 hask4 hask5
    go_wp2_with fail
    go_ret
    exact ⟨(r2 : Int), by omega, by omega, by rw [← hr4, ← hr2]; rfl, below_asked hb hak (Nat.le_refl _) hrl⟩
  · have z0b : (z == 0) = false := by simp; exact z0
    go_wp2_with fail
    refine (someSet_any w2 w.heap.size 1 hask.rdr (by omega)).mono ?_
    rintro e w3 ⟨x, q, hx0, hx1, hq, rfl, hask3⟩
    go_wp2_with fail
    go_ret
    exact ⟨x, hx0, hx1, rfl, below_asked hb (hask.trans hask3) (Nat.le_refl _) hrl⟩
end Go.Proofs.Ytahnfjolidenfaa
