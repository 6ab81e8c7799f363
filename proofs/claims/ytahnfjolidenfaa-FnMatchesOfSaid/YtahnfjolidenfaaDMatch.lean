/-
  The drawing of texts and patterns.
-/
import Derived.Test.YtahnfjolidenfaaDraw2
import Derived.Test.YtahnfjolidenfaaMatch
namespace Go.Proofs.Ytahnfjolidenfaa
open Go.RowKit

set_option maxHeartbeats 400000 in
theorem of_one (w : World) (rb p g n : Nat) (h : Rdr w rb p) (hp : p ≤ 1000000) (hn : 1 ≤ n) (hn2 : n ≤ 1000) (hg : rb < g) (hgl : g < w.heap.size)
    (hc : ∀ i, i < n → ∃ s : ByteArray, w.cell? ⟨g, i, none⟩ = some (.string s) ∧ s.size = 1) :
    Calls Try.prog 31 #[.pointer (some ⟨rb, 0, none⟩), .slice (some ⟨g, 0, none⟩) n n] w fun e w' => ∃ s : ByteArray, s.size = 1 ∧ e = .returned (.string s) ∧ Asked w w' rb (p + 1) := by
  go_enter Try.func31, Try.ntmps31
  go_wp2_with fail
  refine (pick_any w rb p n h hp (by omega) (by omega)).mono ?_
  rintro e w1 ⟨x, hx0, hx1, rfl, hask⟩
  obtain ⟨k, rfl⟩ := Int.eq_ofNat_of_zero_le hx0
  have hk : k < n := by omega
  obtain ⟨s, hs, hsz⟩ := hc k hk
  have hc1 : w1.cell? ⟨g, k, none⟩ = some (.string s) := (World.cell?_of_block (w := w) (hask.gr.block g hgl (by intro e; injection e with e; omega))).trans hs
  clear hc
  go_wp2_with fail
  go_ret
  exact ⟨s, hsz, rfl, hask⟩
/-- What a call hands back that draws a text and a pattern. -/
def DrawnTexts (w w' : World) (rb p : Nat) (e : Ending) : Prop :=
  ∃ (s t : ByteArray) (q : Nat), e = .returned (.tuple #[.string s, .string t]) ∧ s.size ≤ 100 ∧ t.size ≤ 100 ∧ q ≤ p + 100 ∧ Asked w w' rb q
set_option maxHeartbeats 1600000 in
theorem someMatch_any (w : World) (rb p : Nat) (h : Rdr w rb p) (hp : p ≤ 800000) :
    Calls Try.prog 18 #[.pointer (some ⟨rb, 0, none⟩)] w fun e w' => DrawnTexts w w' rb p e := by
  have hrb := h.lt
  go_enter Try.func18, Try.ntmps18
  go_wp2_with fail
  refine (one_any _ rb p (rb + 1) _ _ _ [8, 12, 5, 20, 3, 1, 0] 0 20 (h.alloc _) (by omega) (by decide) (by decide) (own_lit _ (rb + 1) [8, 12, 5, 20, 3, 1, 0] (by simp) (by omega) (by decide)) (by omega) (by decide)).mono ?_
  rintro e w1 ⟨x, hx0, hx1, rfl, hask⟩
  obtain ⟨n, rfl⟩ := Int.eq_ofNat_of_zero_le hx0
  have hask' := hask.of_alloc
  clear hask
  go_wp2_with fail
  go_loopw [4] (fun v wr => ∃ (s : ByteArray) (q : Nat), v = .string s ∧ s.size ≤ n ∧ q ≤ p + 1 + s.size ∧ Asked w wr rb q) (fun v _ => n - (match v with | .string s => s.size | _ => 0))
  case atStart => exact ⟨_, p + 1, rfl, Nat.zero_le _, Nat.le_refl _, hask'⟩
  case round =>
    obtain ⟨s, q, rfl, hs, hq, hak⟩ := hrel
    clear hask'
    by_cases hlt : s.size < n
    · go_wp2_with fail
      refine (of_one _ rb (q) _ 6 (hak.rdr.alloc _) (by omega) (by omega) (by omega) ?_ ?_ ?_).mono ?_
      · have := hak.rdr.lt; first | omega | (simp; omega)
      · first | omega | (simp; done) | (simp; omega)
      · intro i hi
        rw [World.cell?_alloc_at _ _ _ _ rfl]
        have : i = 0 ∨ i = 1 ∨ i = 2 ∨ i = 3 ∨ i = 4 ∨ i = 5 := by omega
        rcases this with rfl | rfl | rfl | rfl | rfl | rfl <;> first | (exfalso; omega) | exact ⟨_, rfl, by decide⟩
      rintro e w9 ⟨s9, hss, rfl, hask9⟩
      have hak9 := hak.trans hask9.of_alloc
      clear hask9
      go_wp2_with fail
      go_roundw
      case rel => exact ⟨_, q + 1, rfl, by rw [ByteArray.size_append]; omega, by rw [ByteArray.size_append]; omega, hak9⟩
      case measure => simp [ByteArray.size_append]; omega
    · go_wp2_with fail
      refine (one_any _ rb q (rb + 1) _ _ _ [2, 3, 1, 4, 0, 5] 0 5 (hak.rdr.alloc _) (by omega) (by decide) (by decide) (own_lit _ (rb + 1) [2, 3, 1, 4, 0, 5] (by simp) (by have := hak.rdr.lt; omega) (by decide)) (by omega) (by decide)).mono ?_
      rintro e w2 ⟨y, hy0, hy1, rfl, hask2⟩
      obtain ⟨m, rfl⟩ := Int.eq_ofNat_of_zero_le hy0
      have hak2 := hak.trans hask2.of_alloc
      clear hask2 hak
      go_wp2_with fail
      obtain ⟨wo, rfl⟩ : ∃ wo : World, wo = wr := ⟨_, rfl⟩
      go_loopw [6] (fun v wr => ∃ (t : ByteArray) (q2 : Nat), v = .string t ∧ t.size ≤ m ∧ q2 ≤ q + 1 + t.size ∧ Asked w wr rb q2) (fun v _ => m - (match v with | .string s => s.size | _ => 0))
      case atStart => exact ⟨_, q + 1, rfl, Nat.zero_le _, Nat.le_refl _, hak2⟩
      case round =>
        obtain ⟨t, q2, rfl, ht, hq2, hak3⟩ := hrel
        clear hak2
        by_cases hlt2 : t.size < m
        · go_wp2_with fail
          refine (of_one _ rb (q2) _ 6 (hak3.rdr.alloc _) (by omega) (by omega) (by omega) ?_ ?_ ?_).mono ?_
          · have := hak3.rdr.lt; first | omega | (simp; omega)
          · first | omega | (simp; done) | (simp; omega)
          · intro i hi
            rw [World.cell?_alloc_at _ _ _ _ rfl]
            have : i = 0 ∨ i = 1 ∨ i = 2 ∨ i = 3 ∨ i = 4 ∨ i = 5 := by omega
            rcases this with rfl | rfl | rfl | rfl | rfl | rfl <;> first | (exfalso; omega) | exact ⟨_, rfl, by decide⟩
          rintro e w9 ⟨s9, hss, rfl, hask9⟩
          have hak9 := hak3.trans hask9.of_alloc
          clear hask9
          go_wp2_with fail
          go_roundw
          case rel => exact ⟨_, q2 + 1, rfl, by rw [ByteArray.size_append]; omega, by rw [ByteArray.size_append]; omega, hak9⟩
          case measure => simp [ByteArray.size_append]; omega
        · go_wp2_with fail
          refine (pick_any wr rb q2 24 hak3.rdr (by omega) (by omega) (by omega)).mono ?_
          rintro e w5 ⟨z, hz0, hz1, rfl, hask5⟩
          have hak5 := hak3.trans hask5
          clear hask5 hak3
          by_cases z0 : z = 0
          · subst z0
            go_wp2_with fail
            refine (of_one _ rb (q2 + 1) _ 2 (hak5.rdr.alloc _) (by omega) (by omega) (by omega) ?_ ?_ ?_).mono ?_
            · have := hak5.rdr.lt; first | omega | (simp; omega)
            · first | omega | (simp; done) | (simp; omega)
            · intro i hi
              rw [World.cell?_alloc_at _ _ _ _ rfl]
              have : i = 0 ∨ i = 1 ∨ i = 2 ∨ i = 3 ∨ i = 4 ∨ i = 5 := by omega
              rcases this with rfl | rfl | rfl | rfl | rfl | rfl <;> first | (exfalso; omega) | exact ⟨_, rfl, by decide⟩
            rintro e w9 ⟨s9, hss, rfl, hask9⟩
            have hak9 := hak5.trans hask9.of_alloc
            clear hask9
            go_wp2_with fail
            go_ret2
            exact ⟨_, t, q2 + 1 + 1, rfl, by rw [ByteArray.size_append]; omega, by omega, by omega, hak9⟩
          · have z0b : (z == 0) = false := by simp; exact z0
            go_wp2_with fail
            go_ret2
            exact ⟨s, t, q2 + 1, rfl, by omega, by omega, by omega, hak5⟩
/-- What a call hands back that draws a text and a pattern, from the codes. -/
def DrawnMatch (w w' : World) (e : Ending) : Prop :=
  ∃ (s t : ByteArray), e = .returned (.tuple #[.string s, .string t]) ∧ s.size ≤ 100 ∧ t.size ≤ 100 ∧ Below w.heap.size w w'
set_option maxHeartbeats 400000 in
theorem DrawMatchesOf_any (w : World) (a : Option Addr) (n c : Nat) (h : Bts w a n w.heap.size) (hnc : n ≤ c) (hn : n ≤ 140737488355328) :
    Calls Try.prog 5 #[.slice a n c] w fun e w' => DrawnMatch w w' e := by
  go_enter Try.func5, Try.ntmps5
  go_wp2_with fail
  refine (newReader_any w a n c h hnc hn).mono ?_
  rintro e w1 ⟨rfl, hr, hb⟩
  have hrl := hr.lt
  go_wp2_with fail
  refine (someMatch_any w1 w.heap.size 0 hr (by omega)).mono ?_
  rintro e w2 ⟨s, t, q, rfl, hs, ht, hq, hask⟩
  go_wp2_with fail
  go_ret2
  exact ⟨s, t, rfl, hs, ht, below_asked hb hask (Nat.le_refl _) hrl⟩
end Go.Proofs.Ytahnfjolidenfaa
