/-
  Halves: the tests, the single step and the whole, of the program and of the reference.
-/
import Derived.Test.YtbaamhniffpnpaaHAll
namespace Go.Proofs.Ytbaamhniffpnpaa
open Go.RowKit

def evenB (xs : List Int) : Bool := valid xs && decide (xs.length % 2 = 0)
theorem evenB_yes {xs : List Int} (h : evenB xs = true) : valid xs = true ∧ xs.length % 2 = 0 := by simpa [evenB] using h
theorem evenB_half {xs : List Int} {n : Nat} (h : evenB xs = true) (hl : xs.length = n) : n = 2 * (n / 2) ∧ n ≤ 16 ∧ ∀ i, i < n → -1000000000 ≤ el xs i ∧ el xs i ≤ 1000000000 := by
  obtain ⟨h1, h2⟩ := evenB_yes h
  have h3 := valid_len h1
  exact ⟨by omega, by omega, fun i hi => by have := valid_bd h1 (i := i) (by omega); omega⟩

set_option maxHeartbeats 400000 in
theorem even_any (w : World) (a : Option Addr) (n c : Nat) (xs : List Int) (h : Row w a n c xs) :
    Calls Try.prog 39 #[.slice a n c] w fun e w' => Tells w w' e (evenB xs) := by
  have hlen : Hid (xs.length = n) := h.len
  have hsm := h.small
  cases hv : valid xs
  · go_enter Try.func39, Try.ntmps39
    go_wp2_with fail
    refine (ValidRow_is w a n c xs false h hv).mono ?_
    rintro e w' ⟨rfl, rfl⟩
    go_wp2_with fail
    go_ret
    exact ⟨ret_bool (by simp [evenB, hv]), rfl⟩
  · by_cases he : n % 2 = 0
    · have hb : ((n : Int) % 2 == 0) = true := by simp; omega
      have HE : Hid (n % 2 = 0) := he
      clear he
      go_enter Try.func39, Try.ntmps39
      go_wp2_with fail
      refine (ValidRow_is w a n c xs true h hv).mono ?_
      rintro e w' ⟨rfl, rfl⟩
      go_wp2_with fail
      go_ret
      exact ⟨ret_bool (by simp [evenB, hv, hlen.out, HE.out]), rfl⟩
    · have hb : ((n : Int) % 2 == 0) = false := by simp; omega
      have HE : Hid (¬ n % 2 = 0) := he
      clear he
      go_enter Try.func39, Try.ntmps39
      go_wp2_with fail
      refine (ValidRow_is w a n c xs true h hv).mono ?_
      rintro e w' ⟨rfl, rfl⟩
      go_wp2_with fail
      go_ret
      exact ⟨ret_bool (by have := HE.out; simp [evenB, hv, hlen.out]; omega), rfl⟩
theorem even_is (w : World) (a : Option Addr) (n c : Nat) (xs : List Int) (v : Bool) (h : Row w a n c xs) (hv : evenB xs = v) :
    Calls Try.prog 39 #[.slice a n c] w fun e w' => Tells w w' e v := by subst hv; exact even_any w a n c xs h
set_option maxHeartbeats 400000 in
theorem validEven_any (w : World) (a : Option Addr) (n c : Nat) (xs : List Int) (h : Row w a n c xs) :
    Calls Try.prog 37 #[.slice a n c] w fun e w' => Tells w w' e (evenB xs) := by
  have hlen : Hid (xs.length = n) := h.len
  have hsm := h.small
  cases hv : valid xs
  · go_enter Try.func37, Try.ntmps37
    go_wp2_with fail
    refine (validRow_is w a n c xs false h hv).mono ?_
    rintro e w' ⟨rfl, rfl⟩
    go_wp2_with fail
    go_ret
    exact ⟨ret_bool (by simp [evenB, hv]), rfl⟩
  · by_cases he : n % 2 = 0
    · have hb : ((n : Int) % 2 == 0) = true := by simp; omega
      have HE : Hid (n % 2 = 0) := he
      clear he
      go_enter Try.func37, Try.ntmps37
      go_wp2_with fail
      refine (validRow_is w a n c xs true h hv).mono ?_
      rintro e w' ⟨rfl, rfl⟩
      go_wp2_with fail
      go_ret
      exact ⟨ret_bool (by simp [evenB, hv, hlen.out, HE.out]), rfl⟩
    · have hb : ((n : Int) % 2 == 0) = false := by simp; omega
      have HE : Hid (¬ n % 2 = 0) := he
      clear he
      go_enter Try.func37, Try.ntmps37
      go_wp2_with fail
      refine (validRow_is w a n c xs true h hv).mono ?_
      rintro e w' ⟨rfl, rfl⟩
      go_wp2_with fail
      go_ret
      exact ⟨ret_bool (by have := HE.out; simp [evenB, hv, hlen.out]; omega), rfl⟩
theorem validEven_is (w : World) (a : Option Addr) (n c : Nat) (xs : List Int) (v : Bool) (h : Row w a n c xs) (hv : evenB xs = v) :
    Calls Try.prog 37 #[.slice a n c] w fun e w' => Tells w w' e v := by subst hv; exact validEven_any w a n c xs h

def halfR (xs : List Int) : List Int := if evenB xs then halveL xs (xs.length / 2) else []
def unhalfR (xs : List Int) : List Int := if evenB xs then unhalveL xs (xs.length / 2) else []

set_option maxHeartbeats 400000 in
theorem HalveOf_no (w : World) (a : Option Addr) (n c : Nat) (xs : List Int) (h : Row w a n c xs) (hv : evenB xs = false) :
    Calls Try.prog 30 #[.slice a n c] w fun e w' => e = .returned (.slice none 0 0) ∧ w = w' := by
  go_enter Try.func30, Try.ntmps30
  go_wp2_with fail
  refine (even_is w a n c xs false h hv).mono ?_
  rintro e w' ⟨rfl, rfl⟩
  go_wp2_with fail
  go_ret
  exact ⟨rfl, rfl⟩
set_option maxHeartbeats 400000 in
theorem HalveOf_yes (w : World) (a : Option Addr) (n c : Nat) (xs : List Int) (h : Row w a n c xs) (hv : evenB xs = true) :
    Calls Try.prog 30 #[.slice a n c] w fun e w' => Fresh w w' e n (halveL xs (xs.length / 2)) := by
  obtain ⟨hn2, hn16, hbd⟩ := evenB_half hv h.len
  have HN := Lib.hid hn2
  have HB := Lib.hid hbd
  have HL : Hid (xs.length = n) := h.len
  clear hn2 hbd
  go_enter Try.func30, Try.ntmps30
  go_wp2_with fail
  refine (even_is w a n c xs true h hv).mono ?_
  rintro e w' ⟨rfl, rfl⟩
  go_wp2_with fail
  refine (halve_any w a n c (n / 2) xs h HN.out (by omega) HB.out).mono ?_
  rintro e w1 ⟨a1, c1, rfl, hown, hbl⟩
  go_wp2_with fail
  go_ret
  rw [HL.out]
  exact Fresh.mk hown hbl
theorem HalveOf_all (w : World) (a : Option Addr) (n c : Nat) (xs : List Int) (h : Row w a n c xs) :
    Calls Try.prog 30 #[.slice a n c] w fun e w' => Fresh w w' e (halfR xs).length (halfR xs) := by
  cases hv : evenB xs
  · rw [show halfR xs = [] by simp [halfR, hv]]
    refine (HalveOf_no w a n c xs h hv).mono ?_
    rintro e w' ⟨rfl, rfl⟩
    exact Fresh.mk (own_nil _ _) (Below.refl _ _)
  · refine (HalveOf_yes w a n c xs h hv).mono ?_
    rintro e w' ⟨a1, c1, rfl, hown, hbl⟩
    have hl := hown.len
    exact Fresh.mk' hown hbl (by rw [← hl]; simp [halfR, hv]) (by simp [halfR, hv])
set_option maxHeartbeats 400000 in
theorem sHalveOf_no (w : World) (a : Option Addr) (n c : Nat) (xs : List Int) (h : Row w a n c xs) (hv : evenB xs = false) :
    Calls Try.prog 32 #[.slice a n c] w fun e w' => e = .returned (.slice none 0 0) ∧ w = w' := by
  go_enter Try.func32, Try.ntmps32
  go_wp2_with fail
  refine (validEven_is w a n c xs false h hv).mono ?_
  rintro e w' ⟨rfl, rfl⟩
  go_wp2_with fail
  go_ret
  exact ⟨rfl, rfl⟩
set_option maxHeartbeats 400000 in
theorem sHalveOf_yes (w : World) (a : Option Addr) (n c : Nat) (xs : List Int) (h : Row w a n c xs) (hv : evenB xs = true) :
    Calls Try.prog 32 #[.slice a n c] w fun e w' => Fresh w w' e n (halveL xs (xs.length / 2)) := by
  obtain ⟨hn2, hn16, hbd⟩ := evenB_half hv h.len
  have HN := Lib.hid hn2
  have HB := Lib.hid hbd
  have HL : Hid (xs.length = n) := h.len
  clear hn2 hbd
  go_enter Try.func32, Try.ntmps32
  go_wp2_with fail
  refine (validEven_is w a n c xs true h hv).mono ?_
  rintro e w' ⟨rfl, rfl⟩
  go_wp2_with fail
  refine (shalve_any w a n c (n / 2) xs h HN.out (by omega) HB.out).mono ?_
  rintro e w1 ⟨a1, c1, rfl, hown, hbl⟩
  go_wp2_with fail
  go_ret
  rw [HL.out]
  exact Fresh.mk hown hbl
theorem sHalveOf_all (w : World) (a : Option Addr) (n c : Nat) (xs : List Int) (h : Row w a n c xs) :
    Calls Try.prog 32 #[.slice a n c] w fun e w' => Fresh w w' e (halfR xs).length (halfR xs) := by
  cases hv : evenB xs
  · rw [show halfR xs = [] by simp [halfR, hv]]
    refine (sHalveOf_no w a n c xs h hv).mono ?_
    rintro e w' ⟨rfl, rfl⟩
    exact Fresh.mk (own_nil _ _) (Below.refl _ _)
  · refine (sHalveOf_yes w a n c xs h hv).mono ?_
    rintro e w' ⟨a1, c1, rfl, hown, hbl⟩
    have hl := hown.len
    exact Fresh.mk' hown hbl (by rw [← hl]; simp [halfR, hv]) (by simp [halfR, hv])
set_option maxHeartbeats 400000 in
theorem UnhalveOf_no (w : World) (a : Option Addr) (n c : Nat) (xs : List Int) (h : Row w a n c xs) (hv : evenB xs = false) :
    Calls Try.prog 26 #[.slice a n c] w fun e w' => e = .returned (.slice none 0 0) ∧ w = w' := by
  go_enter Try.func26, Try.ntmps26
  go_wp2_with fail
  refine (even_is w a n c xs false h hv).mono ?_
  rintro e w' ⟨rfl, rfl⟩
  go_wp2_with fail
  go_ret
  exact ⟨rfl, rfl⟩
set_option maxHeartbeats 400000 in
theorem UnhalveOf_yes (w : World) (a : Option Addr) (n c : Nat) (xs : List Int) (h : Row w a n c xs) (hv : evenB xs = true) :
    Calls Try.prog 26 #[.slice a n c] w fun e w' => Fresh w w' e n (unhalveL xs (xs.length / 2)) := by
  obtain ⟨hn2, hn16, hbd⟩ := evenB_half hv h.len
  have HN := Lib.hid hn2
  have HB := Lib.hid hbd
  have HL : Hid (xs.length = n) := h.len
  clear hn2 hbd
  go_enter Try.func26, Try.ntmps26
  go_wp2_with fail
  refine (even_is w a n c xs true h hv).mono ?_
  rintro e w' ⟨rfl, rfl⟩
  go_wp2_with fail
  refine (unhalve_any w a n c (n / 2) xs h HN.out (by omega) HB.out).mono ?_
  rintro e w1 ⟨a1, c1, rfl, hown, hbl⟩
  go_wp2_with fail
  go_ret
  rw [HL.out]
  exact Fresh.mk hown hbl
theorem UnhalveOf_all (w : World) (a : Option Addr) (n c : Nat) (xs : List Int) (h : Row w a n c xs) :
    Calls Try.prog 26 #[.slice a n c] w fun e w' => Fresh w w' e (unhalfR xs).length (unhalfR xs) := by
  cases hv : evenB xs
  · rw [show unhalfR xs = [] by simp [unhalfR, hv]]
    refine (UnhalveOf_no w a n c xs h hv).mono ?_
    rintro e w' ⟨rfl, rfl⟩
    exact Fresh.mk (own_nil _ _) (Below.refl _ _)
  · refine (UnhalveOf_yes w a n c xs h hv).mono ?_
    rintro e w' ⟨a1, c1, rfl, hown, hbl⟩
    have hl := hown.len
    exact Fresh.mk' hown hbl (by rw [← hl]; simp [unhalfR, hv]) (by simp [unhalfR, hv])
set_option maxHeartbeats 400000 in
theorem sUnhalveOf_no (w : World) (a : Option Addr) (n c : Nat) (xs : List Int) (h : Row w a n c xs) (hv : evenB xs = false) :
    Calls Try.prog 28 #[.slice a n c] w fun e w' => e = .returned (.slice none 0 0) ∧ w = w' := by
  go_enter Try.func28, Try.ntmps28
  go_wp2_with fail
  refine (validEven_is w a n c xs false h hv).mono ?_
  rintro e w' ⟨rfl, rfl⟩
  go_wp2_with fail
  go_ret
  exact ⟨rfl, rfl⟩
set_option maxHeartbeats 400000 in
theorem sUnhalveOf_yes (w : World) (a : Option Addr) (n c : Nat) (xs : List Int) (h : Row w a n c xs) (hv : evenB xs = true) :
    Calls Try.prog 28 #[.slice a n c] w fun e w' => Fresh w w' e n (unhalveL xs (xs.length / 2)) := by
  obtain ⟨hn2, hn16, hbd⟩ := evenB_half hv h.len
  have HN := Lib.hid hn2
  have HB := Lib.hid hbd
  have HL : Hid (xs.length = n) := h.len
  clear hn2 hbd
  go_enter Try.func28, Try.ntmps28
  go_wp2_with fail
  refine (validEven_is w a n c xs true h hv).mono ?_
  rintro e w' ⟨rfl, rfl⟩
  go_wp2_with fail
  refine (sunhalve_any w a n c (n / 2) xs h HN.out (by omega) HB.out).mono ?_
  rintro e w1 ⟨a1, c1, rfl, hown, hbl⟩
  go_wp2_with fail
  go_ret
  rw [HL.out]
  exact Fresh.mk hown hbl
theorem sUnhalveOf_all (w : World) (a : Option Addr) (n c : Nat) (xs : List Int) (h : Row w a n c xs) :
    Calls Try.prog 28 #[.slice a n c] w fun e w' => Fresh w w' e (unhalfR xs).length (unhalfR xs) := by
  cases hv : evenB xs
  · rw [show unhalfR xs = [] by simp [unhalfR, hv]]
    refine (sUnhalveOf_no w a n c xs h hv).mono ?_
    rintro e w' ⟨rfl, rfl⟩
    exact Fresh.mk (own_nil _ _) (Below.refl _ _)
  · refine (sUnhalveOf_yes w a n c xs h hv).mono ?_
    rintro e w' ⟨a1, c1, rfl, hown, hbl⟩
    have hl := hown.len
    exact Fresh.mk' hown hbl (by rw [← hl]; simp [unhalfR, hv]) (by simp [unhalfR, hv])

def lgN (n : Nat) : Nat := (lg n).toNat
theorem lgN_spec {n : Nat} (h : isP2 n = true) : p2 (lgN n) = n ∧ lgN n ≤ 4 := by
  rcases isP2_iff.1 h with rfl | rfl | rfl | rfl | rfl <;> decide
theorem cube_kk {xs : List Int} {n : Nat} (h : cube xs = true) (hl : xs.length = n) : ∃ kk, kk = lgN n ∧ n = p2 kk ∧ kk ≤ 4 ∧ (∀ i, i < n → -1000 ≤ el xs i ∧ el xs i ≤ 1000) := by
  obtain ⟨h1, h2⟩ := cube_iff.1 h
  rw [hl] at h2
  obtain ⟨h3, h4⟩ := lgN_spec h2
  exact ⟨lgN n, rfl, h3.symm, h4, fun i hi => valid_bd h1 (by omega)⟩
def hallR (xs : List Int) : List Int := if cube xs then hallL xs (lgN xs.length) else []
def uallR (xs : List Int) : List Int := if cube xs then uallL xs (lgN xs.length) else []

set_option maxHeartbeats 400000 in
theorem HalveAll_no (w : World) (a : Option Addr) (n c : Nat) (xs : List Int) (h : Row w a n c xs) (hv : cube xs = false) :
    Calls Try.prog 22 #[.slice a n c] w fun e w' => e = .returned (.slice none 0 0) ∧ w = w' := by
  go_enter Try.func22, Try.ntmps22
  go_wp2_with fail
  refine (whole_is w a n c xs false h hv).mono ?_
  rintro e w' ⟨rfl, rfl⟩
  go_wp2_with fail
  go_ret
  exact ⟨rfl, rfl⟩
set_option maxHeartbeats 1600000 in
theorem HalveAll_yes (w : World) (a : Option Addr) (n c : Nat) (xs : List Int) (h : Row w a n c xs) (hv : cube xs = true) :
    Calls Try.prog 22 #[.slice a n c] w fun e w' => Fresh w w' e n (hallL xs (lgN xs.length)) := by
  have hlen : Hid (xs.length = n) := h.len
  obtain ⟨kk, hkk, hnk, hk4, hbd0⟩ := cube_kk hv h.len
  rw [h.len, ← hkk]
  have hn16 : n ≤ 16 := by rw [hnk]; exact p2_16 hk4
  have hn1 : 1 ≤ n := by have := p2_pos kk; omega
  have hbd := Lib.hid hbd0
  have HN := Lib.hid hnk
  clear hbd0 hnk hkk
  go_enter Try.func22, Try.ntmps22
  go_wp2_with fail
  refine (whole_is w a n c xs true h hv).mono ?_
  rintro e w' ⟨rfl, rfl⟩
  go_wp2_with (at_builtin; go_must (refine copy_row w w.heap.size rfl rfl _ _ rfl _ _ _ _ rfl rfl h (by omega) ?_); intro a0 c0 w0 hown0 hb0 hsz0)
  have hx0 : tab (Hd (kk - kk) kk (el xs)) n = xs := by rw [Nat.sub_self]; show tab (el xs) n = xs; rw [← hlen.out]; exact tab_el xs
  have HX0 := Lib.hid hx0
  clear hx0
  go_loopw [4] (fun u wr => ∃ j : Nat, j ≤ kk ∧ u = .int .i64 (p2 j) ∧ Own wr w.heap.size a0 n c0 (tab (Hd (kk - j) j (el xs)) n) ∧ Below w.heap.size w wr) (fun u _ => (intOf u).toNat)
  case atStart => exact ⟨kk, Nat.le_refl _, by rw [HN.out], by rw [HX0.out]; exact hown0, hb0⟩
  case round =>
    obtain ⟨j, hj, rfl, hown, hbl⟩ := hrel
    clear hown0 hb0
    cases j with
    | zero =>
      have h1 : p2 0 = 1 := rfl
      rw [h1]
      go_wp2_with fail
      go_ret
      rw [Nat.sub_zero] at hown
      refine Fresh.mk' hown hbl rfl ?_
      rw [hallL, ← HN.out]
    | succ j =>
      have hp := p2_pos j
      have hps := p2_succ j
      rw [hps]
      have hpn : 2 * p2 j ≤ n := by rw [HN.out, ← p2_succ]; exact p2_le hj
      have hHd : Hd (kk - j) j (el xs) = hst (Hd (kk - (j + 1)) (j + 1) (el xs)) (p2 j) := by rw [show kk - j = kk - (j + 1) + 1 by omega, Hd]
      have hjoin := hst_join (f := Hd (kk - (j + 1)) (j + 1) (el xs)) hpn
      rw [← hHd] at hjoin
      have HJ := Lib.hid hjoin
      have hpb := @Hd_bd (el xs) n hbd.out (kk - (j + 1)) (j + 1) (by rw [show j + 1 + (kk - (j + 1)) = kk by omega, HN.out]; exact Nat.le_refl _)
      have hp16 : p2 (kk - (j + 1)) ≤ 16 := p2_16 (by omega)
      have hb9 : ∀ i, i < 2 * p2 j → -1000000000 ≤ el ((tab (Hd (kk - (j + 1)) (j + 1) (el xs)) n).take (2 * p2 j)) i ∧ el ((tab (Hd (kk - (j + 1)) (j + 1) (el xs)) n).take (2 * p2 j)) i ≤ 1000000000 := fun i hi => by
        rw [tab_take hpn, el_tab hi]; have := hpb i (by omega); omega
      have HB9 := Lib.hid hb9
      have hrow := (hown.row (by omega)).pre (2 * p2 j) hpn
      have hdiv : ((2 * p2 j : Nat) : Int) / 2 = p2 j := by omega
      have h1 : (1 : Int) < ((2 * p2 j : Nat) : Int) := by omega
      have hcc := (hown.row (by omega)).cap
      clear hjoin hHd hb9 hpb hps
      go_wp2_with fail
      refine (halve_any wr a0 (2 * p2 j) c0 (p2 j) _ hrow rfl (by omega) HB9.out).mono ?_
      rintro e w1 ⟨a1, c1, rfl, hown1, hb1⟩
      have hsrc := hown1.row (by omega)
      have hownk := hown.below hb1
      have hblk := hbl.trans (hb1.mono (by have := hbl.size; omega))
      go_wp2_with (with_reducible refine copy_own w1 rfl _ _ rfl w.heap.size _ _ _ _ rfl hownk (by omega) _ _ _ _ rfl hsrc hpn w.heap.size (Nat.le_refl _) w hblk ?_; intro w2 hown2 hbl2 hbl3)
      rw [HJ.out] at hown2
      go_roundw
      case rel => exact ⟨j, by omega, by go_num, hown2, hbl2⟩
      case measure => simp [intOf]; omega
theorem HalveAll_all (w : World) (a : Option Addr) (n c : Nat) (xs : List Int) (h : Row w a n c xs) :
    Calls Try.prog 22 #[.slice a n c] w fun e w' => Fresh w w' e (hallR xs).length (hallR xs) := by
  cases hv : cube xs
  · rw [show hallR xs = [] by simp [hallR, hv]]
    refine (HalveAll_no w a n c xs h hv).mono ?_
    rintro e w' ⟨rfl, rfl⟩
    exact Fresh.mk (own_nil _ _) (Below.refl _ _)
  · refine (HalveAll_yes w a n c xs h hv).mono ?_
    rintro e w' ⟨a1, c1, rfl, hown, hbl⟩
    have hl := hown.len
    exact Fresh.mk' hown hbl (by rw [← hl]; simp [hallR, hv]) (by simp [hallR, hv])
end Go.Proofs.Ytbaamhniffpnpaa
