/-
  MiddlesOf of the program, by the library's sort.
-/
import Derived.Test.YtbnlfacggchoiaaMid
import Derived.Test.YtbnlfacggchoiaaMidS
namespace Go.Proofs.Ytbnlfacggchoiaa
open Go.RowKit

set_option maxHeartbeats 1600000 in
theorem MiddlesOf_yes (w : World) (a : Option Addr) (n c wd : Nat) (xs : List Int) (h : Row w a n c xs) (hok : mdOk xs (wd : Int) = true) :
    Calls Try.prog 6 #[.slice a n c, .int .i64 wd] w fun e w' => Fresh w w' e (n - wd + 1) (mdL xs wd (n - wd + 1)) := by
  have hl := h.len
  have hcap := h.cap
  obtain ⟨hv, h1, h2, h3⟩ := mdOk_iff.1 hok
  rw [hl] at h2
  have hn : n ≤ 16 := by have := valid_len hv; omega
  have hb : (valid xs && (decide (1 ≤ (wd : Int)) && decide ((wd : Int) ≤ (n : Int)))) = true := by simp [hv] <;> omega
  have ht : (wd : Int).tmod 2 = (wd : Int) % 2 := tmod_pos2 (by omega)
  have hz : ((wd : Int) % 2 == 0) = false := by simp; omega
  have hwn : wd ≤ n := by omega
  have hw0 : 0 < wd := by omega
  have hw2 : ((wd : Int) / 2).toNat = wd / 2 := by omega
  have hw4 : 0 ≤ (wd : Int) / 2 := by omega
  have hw5 : (wd : Int) / 2 < wd := by omega
  have hw3 : wd / 2 < wd := by omega
  obtain ⟨b, off, rfl, _, _⟩ := h.at (by omega)
  clear hok h1 h2 h3 hl hv
  go_enter Try.func6, Try.ntmps6
  go_wp2_with fail
  refine (boxed_is w _ n c xs wd true h hb).mono ?_
  rintro e w' ⟨rfl, rfl⟩
  clear hb
  go_wp2_with fail
  go_loopw [5, 6] (fun v u wr => ∃ (k : Nat) (a1 : Option Addr) (c1 : Nat), k ≤ n - wd + 1 ∧ u = .int .i64 k ∧ v = .slice a1 k c1 ∧ Own wr w.heap.size a1 k c1 (mdL xs wd k) ∧ Below w.heap.size w wr ∧ w.heap.size + 1 ≤ wr.heap.size) (fun v _ _ => n + 1 - lenOf v)
  case atStart => exact ⟨0, _, 0, Nat.zero_le _, rfl, rfl, own_empty w, (Below.refl _ _).alloc (Nat.le_refl _) _, by simp⟩
  case round =>
    obtain ⟨k, a1, c1, hk, rfl, rfl, hown, hbl, hsz⟩ := hrel
    by_cases hlt : k + wd ≤ n
    · have hck : ¬ c = k := by omega
      have hrp := (h.below hbl).part hlt hw0
      go_wp2_with fail
      refine (Clone_any wr _ wd _ _ hrp hw0 (by omega)).mono ?_
      rintro e w2 ⟨a2, c2, rfl, own2, b2⟩
      obtain ⟨g, rfl, hBg, hgl, _, _⟩ := own2.at 0 hw0
      have hown2 := hown.below b2
      go_wp2_with fail
      refine (Sort_own w2 wr.heap.size g wd c2 _ own2 (by omega)).mono ?_
      rintro e w3 ⟨rfl, own3, gr3⟩
      have b3 : Below wr.heap.size wr w3 := below_app b2 (show w2.grownBy w3 (Value.slice (some ⟨g, 0, none⟩) wd c2).ownBlock from gr3) own2 (Nat.le_refl _) b2.size
      have hown3 := hown.below b3
      have hbl3 := bstep hbl b3
      have hs3 := b3.size
      obtain ⟨g2, e2, hBg2, hgl2, hcell, hfr⟩ := own3.at (wd / 2) hw3
      injection e2 with e2; injection e2 with e2; subst e2
      have hmv : el ((sub xs k wd).mergeSort fun x y => decide (x ≤ y)) (wd / 2) = midV (sub xs k wd) wd := rfl
      rw [hmv] at hcell
      clear own2 own3 gr3 hown2 hmv
      go_wp2_with (at_builtin; go_must (refine app_int w3 rfl _ _ rfl w.heap.size _ _ _ _ _ rfl hown3 rfl (by omega) (by omega) ?_); intro a4 c4 w4 hown4 hgr4 hsz4)
      go_roundw
      case rel => exact ⟨k + 1, a4, c4, by omega, by go_num, rfl, hown4, below_app hbl3 hgr4 hown3 (Nat.le_refl _) (by omega), by omega⟩
      case measure => simp [lenOf]; omega
    · go_wp2_with fail
      go_ret
      obtain rfl : k = n - wd + 1 := by omega
      exact Fresh.mk hown hbl
theorem MiddlesOf_all (w : World) (a : Option Addr) (n c : Nat) (xs : List Int) (wd : Int) (h : Row w a n c xs) :
    Calls Try.prog 6 #[.slice a n c, .int .i64 wd] w fun e w' => Fresh w w' e (mdR xs wd).length (mdR xs wd) := by
  cases hok : mdOk xs wd
  · rw [show mdR xs wd = [] by simp [mdR, hok]]
    refine (MiddlesOf_no w a n c xs wd h hok).mono ?_
    rintro e w' ⟨rfl, rfl⟩
    exact Fresh.mk (own_nil _ _) (Below.refl _ _)
  · obtain ⟨t, rfl⟩ := Int.eq_ofNat_of_zero_le (show 0 ≤ wd by have := (mdOk_iff.1 hok).2.1; omega)
    refine (MiddlesOf_yes w a n c t xs h hok).mono ?_
    rintro e w' ⟨a1, c1, rfl, hown, hbl⟩
    have hl := h.len
    have e1 : mdR xs (t : Int) = mdL xs t (n - t + 1) := by rw [mdR, if_pos hok, hl]; rfl
    exact Fresh.mk' hown hbl (by rw [e1, mdL, tab_length]) e1.symm
end Go.Proofs.Ytbnlfacggchoiaa
