/-
  The reader of the drawn codes: what it holds in memory, and the contracts of newReader, pick, one.
-/
import Derived.Test.YtmfffmipnbdpjaaGreatDoorBase2
import Derived.Test.YtmfffmipnbdpjaaGreatDoorBit
import Derived.Deep.QuietTactic
import Derived.BigQuiet
namespace Go.Proofs.YtmfffmipnbdpjaaGreatDoor
open Go.RowKit

/-- The block rb is a reader that has been asked p times. -/
structure Rdr (w : World) (rb : Nat) (p : Nat) : Prop where
  ex : ∃ a n c, w.heap[rb]? = some (.cells #[.slice a n c, .int .i64 p] 53 (0, 0)) ∧ n ≤ 2000 ∧ Bts w a n rb

theorem Rdr.lt {w : World} {rb p : Nat} (h : Rdr w rb p) : rb < w.heap.size := by
  obtain ⟨a, n, c, hh, _⟩ := h.ex
  exact (Array.getElem?_eq_some_iff.1 hh).1

theorem Bts.grown {w w' : World} {a : Option Addr} {n H : Nat} (h : Bts w a n H) (hb : ∀ k, k < H → w'.heap[k]? = w.heap[k]?) : Bts w' a n H := by
  intro i hi
  obtain ⟨b, off, ha, hlt, hc⟩ := h i hi
  refine ⟨b, off, ha, hlt, fun j hj => ?_⟩
  obtain ⟨x, h0, h1, hx⟩ := hc j hj
  exact ⟨x, h0, h1, (World.cell?_of_block (w := w) (hb b hlt)).trans hx⟩

theorem Rdr.below {w w' : World} {rb p : Nat} (h : Rdr w rb p) (hb : ∀ k, k ≤ rb → w'.heap[k]? = w.heap[k]?) : Rdr w' rb p := by
  obtain ⟨a, n, c, hh, hn, hbt⟩ := h.ex
  exact ⟨⟨a, n, c, (hb rb (Nat.le_refl _)).trans hh, hn, hbt.grown fun k hk => hb k (by omega)⟩⟩

/-- What a call leaves that asked the reader rb some times: q of them in all now; everything else that was there is as it was. -/
structure Asked (w w' : World) (rb q : Nat) : Prop where
  rdr : Rdr w' rb q
  gr : w.grownBy w' (some rb)

theorem Rdr.cell0 {w : World} {rb p : Nat} (h : Rdr w rb p) : ∃ a n c, w.cell? ⟨rb, 0, none⟩ = some (.slice a n c) ∧ n ≤ 2000 ∧ Bts w a n rb ∧ w.cell? ⟨rb, 1, none⟩ = some (.int .i64 p) ∧ w.frozen? ⟨rb, 1, none⟩ = false := by
  obtain ⟨a, n, c, hh, hn, hb⟩ := h.ex
  refine ⟨a, n, c, ?_, hn, hb, ?_, ?_⟩
  · simp [World.cell?, hh]
  · simp [World.cell?, hh]
  · simp [World.frozen?, hh]

theorem asked_store {w : World} {rb p : Nat} (h : Rdr w rb p) : Asked w (w.setCell ⟨rb, 1, none⟩ (.int .i64 ((p : Int) + 1))) rb (p + 1) := by
  obtain ⟨a, n, c, hh, hn, hb⟩ := h.ex
  refine ⟨⟨a, n, c, ?_, hn, hb.grown fun k hk => Below.heap_setCell _ _ _ _ (by show k ≠ rb; omega)⟩, rfl, rfl, rfl, by simp [World.setCell], fun k hk hne => Below.heap_setCell _ _ _ _ (by intro e; exact hne (by rw [e]))⟩
  simp only [World.setCell, Array.getElem?_modify, if_pos, hh]
  rfl

theorem Asked.drewN {w w' : World} {rb q : Nat} {k : Nat} (h : Asked w w' rb q) : Asked w (w'.drewN k) rb q :=
  ⟨h.rdr.below fun _ _ => rfl, h.gr.os, h.gr.tape, h.gr.output, h.gr.size, h.gr.block⟩

set_option maxHeartbeats 400000 in
theorem pick_any (w : World) (rb p : Nat) (n : Int) (h : Rdr w rb p) (hp : p ≤ 1000000) (hn : 1 ≤ n) (hn2 : n ≤ 1000000) :
    Calls Tryz.prog 19 #[.pointer (some ⟨rb, 0, none⟩), .int .i64 n] w fun e w' => ∃ x : Int, 0 ≤ x ∧ x < n ∧ e = .returned (.int .i64 x) ∧ Asked w w' rb (p + 1) := by
  obtain ⟨a, m, c, hc0, hm, hbt, hc1, hf1⟩ := h.cell0
  have hst := asked_store h
  by_cases hm0 : m = 0
  · subst hm0
    go_enter Tryz.func19, Tryz.ntmps19
    go_wp2
    go_ret
    exact ⟨0, by omega, by omega, rfl, hst⟩
  · have hmb : ((m : Int) == 0) = false := by simp; omega
    by_cases hlt : p < m
    · obtain ⟨b, off, rfl, hbl, hcell⟩ := hbt p hlt
      obtain ⟨x, hx0, hx1, hx⟩ := hcell p hlt
      clear hcell
      have hne : (⟨b, off + p, none⟩ : Addr) ≠ ⟨rb, 1, none⟩ := by intro e; injection e; omega
      go_enter Tryz.func19, Tryz.ntmps19
      go_wp2
      go_ret
      exact ⟨x % n, Int.emod_nonneg _ (by omega), Int.emod_lt_of_pos _ (by omega), rfl, hst⟩
    · obtain ⟨b, off, rfl, hbl, hcell⟩ := hbt 0 (by omega)
      obtain ⟨x1, hx0, hx1, hx⟩ := hcell (p % m) (Nat.mod_lt _ (by omega))
      obtain ⟨y1, hy0, hy1, hy⟩ := hcell ((p * 7 + 3) % m) (Nat.mod_lt _ (by omega))
      clear hcell
      have hne : (⟨b, off + p % m, none⟩ : Addr) ≠ ⟨rb, 1, none⟩ := by intro e; injection e; omega
      have hne2 : (⟨b, off + (p * 7 + 3) % m, none⟩ : Addr) ≠ ⟨rb, 1, none⟩ := by intro e; injection e; omega
      have hxx : (w.setCell ⟨rb, 1, none⟩ (.int .i64 ((p : Int) + 1))).cell? ⟨b, off + p % m, none⟩ = some (.int .u8 x1) := (World.cell?_setCell_other _ _ _ _ hne.symm).trans hx
      have hyy : (w.setCell ⟨rb, 1, none⟩ (.int .i64 ((p : Int) + 1))).cell? ⟨b, off + (p * 7 + 3) % m, none⟩ = some (.int .u8 y1) := (World.cell?_setCell_other _ _ _ _ hne2.symm).trans hy
      have l1 : 0 ≤ (p : Int) / m := Int.ediv_nonneg (by omega) (by omega)
      have l2 : (p : Int) / m ≤ 1000000 := by have e : (p : Int) / m = ((p / m : Nat) : Int) := by simp
                                              have := Nat.div_le_self p m
                                              rw [e]; omega
      have i1 : 0 ≤ (p : Int) % m := Int.emod_nonneg _ (by omega)
      have i2 : (p : Int) % m < m := Int.emod_lt_of_pos _ (by omega)
      have xs := xor_shift (x1 * 131 + y1 * 1117 + (p : Int) * 29 + (p : Int) / m * 53) (by omega) (by omega)
      have i3 : ((p : Int) % m).toNat = p % m := by omega
      have j1 : 0 ≤ ((p : Int) * 7 + 3) % m := Int.emod_nonneg _ (by omega)
      have j2 : ((p : Int) * 7 + 3) % m < m := Int.emod_lt_of_pos _ (by omega)
      have j3 : (((p : Int) * 7 + 3) % m).toNat = (p * 7 + 3) % m := by
        have e : ((p : Int) * 7 + 3) % m = (((p * 7 + 3) % m : Nat) : Int) := by simp
        rw [e]; rfl
      have hcc : (w.setCell ⟨rb, 1, none⟩ (.int .i64 ((p : Int) + 1))).cell? ⟨rb, 0, none⟩ = some (.slice (some ⟨b, off, none⟩) m c) := (World.cell?_setCell_other _ _ _ _ (by intro e; injection e; omega)).trans hc0
      go_enter Tryz.func19, Tryz.ntmps19
      go_wp2
      go_quiet (fail)
      go_wp2
      go_ret
      refine ⟨_, ?_, ?_, rfl, ?_⟩
      · exact Int.emod_nonneg _ (by omega)
      · exact Int.emod_lt_of_pos _ (by omega)
      · exact hst.drewN
end Go.Proofs.YtmfffmipnbdpjaaGreatDoor
