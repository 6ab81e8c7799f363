/-
  The drawing of rows to be mixed, and the law of MixOf.
-/
import Derived.Test.YtccddkgpcgnaoaaPMix
import Derived.Test.YtccddkgpcgnaoaaMix2
import Derived.Test.YtccddkgpcgnaoaaDraw3
import Derived.Test.YtccddkgpcgnaoaaFold
namespace Go.Proofs.Ytccddkgpcgnaoaa
open Go.RowKit

set_option maxHeartbeats 400000 in
theorem of_any (w : World) (rb p g n : Nat) (h : Rdr w rb p) (hp : p ≤ 1000000) (hn : 1 ≤ n) (hn2 : n ≤ 1000) (hg : rb < g) (hgl : g < w.heap.size)
    (hc : ∀ i, i < n → ∃ s : ByteArray, w.cell? ⟨g, i, none⟩ = some (.string s) ∧ s.size ≤ 100) :
    Calls Try.prog 58 #[.pointer (some ⟨rb, 0, none⟩), .slice (some ⟨g, 0, none⟩) n n] w fun e w' => ∃ s : ByteArray, s.size ≤ 100 ∧ e = .returned (.string s) ∧ Asked w w' rb (p + 1) := by
  go_enter Try.func58, Try.ntmps58
  go_wp2_with fail
  refine (pick_any w rb p n h hp (by omega) (by omega)).mono ?_
  rintro e w1 ⟨x, hx0, hx1, rfl, hask⟩
  obtain ⟨k, rfl⟩ := Int.eq_ofNat_of_zero_le hx0
  have hk : k < n := by omega
  obtain ⟨s, hs, hsz⟩ := hc k hk
  have hc1 : w1.cell? ⟨g, k, none⟩ = some (.string s) := (World.cell?_of_block (w := w) (hask.gr.block g hgl (by intro e; injection e with e; omega))).trans hs
  clear hc
  go_wp2_with fail
  go_ret
  exact ⟨s, hsz, rfl, hask⟩
/-- What a call hands back that draws two rows and a word. -/
def DrawnMix (w w' : World) (e : Ending) : Prop :=
  ∃ (a b : Option Addr) (m c m2 d : Nat) (xs ys : List Int) (s : ByteArray), e = .returned (.tuple #[.slice a m c, .slice b m2 d, .string s]) ∧ m ≤ 33 ∧ m2 ≤ 33 ∧ s.size ≤ 100 ∧ Own w' w.heap.size a m c xs ∧ Own w' w.heap.size b m2 d ys ∧ Below w.heap.size w w'
set_option maxHeartbeats 3200000 in
theorem DrawMixOf_any (w : World) (a : Option Addr) (n c : Nat) (h : Bts w a n w.heap.size) (hnc : n ≤ c) (hn : n ≤ 140737488355328) :
    Calls Try.prog 38 #[.slice a n c] w fun e w' => DrawnMix w w' e := by
  go_enter Try.func38, Try.ntmps38
  go_wp2_with fail
  refine (newReader_any w a n c h hnc hn).mono ?_
  rintro e w1 ⟨rfl, hrd, hbl⟩
  have hsz := hrd.lt
  go_wp2_with fail
  refine (one_any _ w.heap.size 0 (w.heap.size + 1) _ _ _ [4, 8, 2, 16, 1, 3] 0 16 (hrd.alloc _) (by omega) (by decide) (by decide) (own_lit _ (w.heap.size + 1) [4, 8, 2, 16, 1, 3] rfl (by omega) (by decide)) (by omega) (by decide)).mono ?_
  rintro e w2 ⟨x, hx0, hx1, rfl, hask2⟩
  obtain ⟨k, rfl⟩ := Int.eq_ofNat_of_zero_le hx0
  have hask2' := hask2.of_alloc
  have hbl2 := below_asked hbl hask2' (Nat.le_refl _) hsz
  have hsz2 := hask2'.rdr.lt
  go_wp2_with fail
  refine (rowOf_any w2 w.heap.size 1 k hask2'.rdr (by omega) (by omega)).mono ?_
  rintro e w3 ⟨a3, m3, c3, xs3, q3, rfl, hm3, hq3, hown3, hask3⟩
  have hbl3 := below_asked hbl2 hask3 (Nat.le_refl _) hsz2
  have hsz3 := hask3.rdr.lt
  have hs23 := hask3.gr.size
  go_wp2_with fail
  refine (rowOf_any w3 w.heap.size q3 k hask3.rdr (by omega) (by omega)).mono ?_
  rintro e w4 ⟨a4, m4, c4, xs4, q4, rfl, hm4, hq4, hown4, hask4⟩
  have hown34 := hown3.grown hask4.gr hsz2
  have hbl4 := below_asked hbl3 hask4 (Nat.le_refl _) hsz3
  have hsz4 := hask4.rdr.lt
  have hs34 := hask4.gr.size
  go_wp2_with fail
  refine (pick_any w4 w.heap.size q4 2 hask4.rdr (by omega) (by omega) (by omega)).mono ?_
  rintro e w5 ⟨z, hz0, hz1, rfl, hask5⟩
  have hown35 := hown34.grown hask5.gr hsz2
  have hown45 := hown4.grown hask5.gr hsz3
  have hbl5 := below_asked hbl4 hask5 (Nat.le_refl _) hsz4
  have hrd5 := hask5.rdr
  have hs45 := hask5.gr.size
  have hB3 := hown3
  clear hask2 hask2' hask3 hask4 hask5 hbl hbl2 hbl3 hbl4 hown34 hown4
  by_cases hz : z = 0
  · subst hz
    by_cases hk3 : m3 = k
    · by_cases hk4 : m4 = k
      · have e3 : ((m3 : Int) == (k : Int)) = true := by simp; omega
        have e4 : ((m4 : Int) == (k : Int)) = true := by simp; omega
        subst hk3
        subst hk4
        go_wp2_with fail
        go_loopw [9] (fun u wr => ∃ (j : Nat) (xs ys : List Int), j ≤ m4 ∧ u = .int .i64 j ∧ Own wr w2.heap.size a3 m4 c3 xs ∧ Own wr w3.heap.size a4 m4 c4 ys ∧ Below w.heap.size w wr ∧ Rdr wr w.heap.size (q4 + 1) ∧ w5.heap.size ≤ wr.heap.size) (fun u _ => m4 - (intOf u).toNat)
        case atStart => exact ⟨0, _, _, Nat.zero_le _, rfl, hown35, hown45, hbl5, hrd5, Nat.le_refl _⟩
        case round =>
          obtain ⟨j, xs, ys, hj, rfl, ho3, ho4, hblr, hrdr, hszr⟩ := hrel
          clear hown35 hown45 hbl5 hrd5
          by_cases hlt : j < m4
          · obtain ⟨g3, rfl, hBg3, hgl3, hcell3, hfr3⟩ := ho3.at j hlt
            have hst3 := ho3.store j ((el xs j).tmod 5)
            have hlt3 : g3 < w3.heap.size := (own_block_lt hB3 rfl).2
            have hst43 : Own (wr.setCell ⟨g3, j, none⟩ (.int .i64 ((el xs j).tmod 5))) w3.heap.size a4 m4 c4 ys := ho4.below (Below.refl _ _) |> fun hh => by
              refine World.ownsRow.kept hh (grown_store wr g3 j _) ?_
              cases hb : (Value.slice a4 m4 c4).ownBlock with
              | none => exact .inl rfl
              | some t => exact .inr (by intro e; injection e with e; have := ho4.blk t hb; omega)
            have hbs3 := hblr.setCell (p := ⟨g3, j, none⟩) (by show w.heap.size ≤ g3; omega) (.int .i64 ((el xs j).tmod 5))
            have hrd3 : Rdr (wr.setCell ⟨g3, j, none⟩ (.int .i64 ((el xs j).tmod 5))) w.heap.size (q4 + 1) := hrdr.below fun t ht => Below.heap_setCell _ _ _ _ (by show t ≠ g3; omega)
            obtain ⟨W3, hW3⟩ : ∃ W3, W3 = wr.setCell ⟨g3, j, none⟩ (.int .i64 ((el xs j).tmod 5)) := ⟨_, rfl⟩
            have hszW : w5.heap.size ≤ W3.heap.size := by rw [hW3]; simp [World.setCell]; exact hszr
            rw [← hW3] at hst3 hst43 hbs3 hrd3
            obtain ⟨g4, rfl, hBg4, hgl4, hcell4, hfr4⟩ := hst43.at j hlt
            have hst4 := hst43.store j ((el ys j).tmod 5)
            have hst34 : Own (W3.setCell ⟨g4, j, none⟩ (.int .i64 ((el ys j).tmod 5))) w2.heap.size (some ⟨g3, 0, none⟩) m4 c3 (xs.set j ((el xs j).tmod 5)) := by
              refine World.ownsRow.kept hst3 (grown_store W3 g4 j _) (.inr ?_)
              show (some g3 : Option Nat) ≠ some g4
              intro e; injection e with e; omega
            have hbs4 := hbs3.setCell (p := ⟨g4, j, none⟩) (by show w.heap.size ≤ g4; omega) (.int .i64 ((el ys j).tmod 5))
            have hrd4 : Rdr (W3.setCell ⟨g4, j, none⟩ (.int .i64 ((el ys j).tmod 5))) w.heap.size (q4 + 1) := hrd3.below fun t ht => Below.heap_setCell _ _ _ _ (by show t ≠ g4; omega)
            have hszW4 : w5.heap.size ≤ (W3.setCell ⟨g4, j, none⟩ (.int .i64 ((el ys j).tmod 5))).heap.size := by simp [World.setCell]; exact hszW
            rw [hW3] at hcell4 hfr4 hst4 hst34 hbs4 hrd4 hszW4
            clear hW3 hst3 hst43 hbs3 hrd3
            go_wp2_with fail
            go_roundw
            case rel => exact ⟨j + 1, _, _, by omega, by go_num, hst34, hst4, hbs4, hrd4, hszW4⟩
            case measure => simp [intOf]; omega
          · go_wp2_with fail
            refine (of_any _ w.heap.size (q4 + 1) _ 5 (hrdr.alloc _) (by omega) (by omega) (by omega) ?_ ?_ ?_).mono ?_
            · first | omega | (simp; omega)
            · first | omega | (simp; done) | (simp; omega)
            · intro i hi
              rw [World.cell?_alloc_at _ _ _ _ rfl]
              have : i = 0 ∨ i = 1 ∨ i = 2 ∨ i = 3 ∨ i = 4 := by omega
              rcases this with rfl | rfl | rfl | rfl | rfl <;> exact ⟨_, rfl, by decide⟩
            · rintro e w9 ⟨s, hss, rfl, hask9⟩
              have hask9' := hask9.of_alloc
              have ho1 := ho3.grown hask9'.gr (by omega)
              have ho2 := ho4.grown hask9'.gr (by omega)
              go_wp2_with fail
              go_ret3
              exact ⟨_, _, _, _, _, _, _, _, s, rfl, hm3, hm4, hss, ho1.mono (by omega), ho2.mono (by omega), below_asked hblr hask9' (Nat.le_refl _) (by omega)⟩
      · have e3 : ((m3 : Int) == (k : Int)) = true := by simp; omega
        have e4 : ((m4 : Int) == (k : Int)) = false := by simp; omega
        clear hk3 hk4
        go_wp2_with fail
        refine (of_any _ w.heap.size (q4 + 1) _ 5 (hrd5.alloc _) (by omega) (by omega) (by omega) ?_ ?_ ?_).mono ?_
        · first | omega | (simp; omega)
        · first | omega | (simp; done) | (simp; omega)
        · intro i hi
          rw [World.cell?_alloc_at _ _ _ _ rfl]
          have : i = 0 ∨ i = 1 ∨ i = 2 ∨ i = 3 ∨ i = 4 := by omega
          rcases this with rfl | rfl | rfl | rfl | rfl <;> exact ⟨_, rfl, by decide⟩
        · rintro e w9 ⟨s, hss, rfl, hask9⟩
          have hask9' := hask9.of_alloc
          have ho1 := hown35.grown hask9'.gr (by omega)
          have ho2 := hown45.grown hask9'.gr (by omega)
          go_wp2_with fail
          go_ret3
          exact ⟨_, _, _, _, _, _, _, _, s, rfl, hm3, hm4, hss, ho1.mono (by omega), ho2.mono (by omega), below_asked hbl5 hask9' (Nat.le_refl _) (by omega)⟩
    · have e3 : ((m3 : Int) == (k : Int)) = false := by simp; omega
      clear hk3
      go_wp2_with fail
      refine (of_any _ w.heap.size (q4 + 1) _ 5 (hrd5.alloc _) (by omega) (by omega) (by omega) ?_ ?_ ?_).mono ?_
      · first | omega | (simp; omega)
      · first | omega | (simp; done) | (simp; omega)
      · intro i hi
        rw [World.cell?_alloc_at _ _ _ _ rfl]
        have : i = 0 ∨ i = 1 ∨ i = 2 ∨ i = 3 ∨ i = 4 := by omega
        rcases this with rfl | rfl | rfl | rfl | rfl <;> exact ⟨_, rfl, by decide⟩
      · rintro e w9 ⟨s, hss, rfl, hask9⟩
        have hask9' := hask9.of_alloc
        have ho1 := hown35.grown hask9'.gr (by omega)
        have ho2 := hown45.grown hask9'.gr (by omega)
        go_wp2_with fail
        go_ret3
        exact ⟨_, _, _, _, _, _, _, _, s, rfl, hm3, hm4, hss, ho1.mono (by omega), ho2.mono (by omega), below_asked hbl5 hask9' (Nat.le_refl _) (by omega)⟩
  · have z0b : (z == 0) = false := by simp; exact hz
    go_wp2_with fail
    refine (of_any _ w.heap.size (q4 + 1) _ 5 (hrd5.alloc _) (by omega) (by omega) (by omega) ?_ ?_ ?_).mono ?_
    · first | omega | (simp; omega)
    · first | omega | (simp; done) | (simp; omega)
    · intro i hi
      rw [World.cell?_alloc_at _ _ _ _ rfl]
      have : i = 0 ∨ i = 1 ∨ i = 2 ∨ i = 3 ∨ i = 4 := by omega
      rcases this with rfl | rfl | rfl | rfl | rfl <;> exact ⟨_, rfl, by decide⟩
    · rintro e w9 ⟨s, hss, rfl, hask9⟩
      have hask9' := hask9.of_alloc
      have ho1 := hown35.grown hask9'.gr (by omega)
      have ho2 := hown45.grown hask9'.gr (by omega)
      go_wp2_with fail
      go_ret3
      exact ⟨_, _, _, _, _, _, _, _, s, rfl, hm3, hm4, hss, ho1.mono (by omega), ho2.mono (by omega), below_asked hbl5 hask9' (Nat.le_refl _) (by omega)⟩
end Go.Proofs.Ytccddkgpcgnaoaa
