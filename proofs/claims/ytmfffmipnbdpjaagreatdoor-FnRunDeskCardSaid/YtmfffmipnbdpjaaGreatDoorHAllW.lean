/-
  Halves: the tests, the single step and the whole, of the program and of the reference.
-/
import Derived.Test.YtmfffmipnbdpjaaGreatDoorHAll
namespace Go.Proofs.YtmfffmipnbdpjaaGreatDoor
open Go.RowKit

def evenB (xs : List Int) : Bool := valid xs && decide (xs.length % 2 = 0)
theorem evenB_yes {xs : List Int} (h : evenB xs = true) : valid xs = true ∧ xs.length % 2 = 0 := by simpa [evenB] using h
theorem evenB_half {xs : List Int} {n : Nat} (h : evenB xs = true) (hl : xs.length = n) : n = 2 * (n / 2) ∧ n ≤ 16 ∧ ∀ i, i < n → -1000000000 ≤ el xs i ∧ el xs i ≤ 1000000000 := by
  obtain ⟨h1, h2⟩ := evenB_yes h
  have h3 := valid_len h1
  exact ⟨by omega, by omega, fun i hi => by have := valid_bd h1 (i := i) (by omega); omega⟩

set_option maxRecDepth 100000 in
set_option maxHeartbeats 400000 in
theorem even_any (w : World) (a : Option Addr) (n c : Nat) (xs : List Int) (h : Row w a n c xs) :
    Calls Tryz.prog 61 #[.slice a n c] w fun e w' => Tells w w' e (evenB xs) := by
  have hlen : Hid (xs.length = n) := h.len
  have hsm := h.small
  cases hv : valid xs
  · go_enter Tryz.func61, Tryz.ntmps61
    go_wp2_with fail
    refine (ValidRow_is w a n c xs false h hv).mono ?_
    rintro e w' ⟨rfl, rfl⟩
    go_wp2_with fail
    go_ret
    exact ⟨ret_bool (by simp [evenB, hv]), rfl⟩
  · by_cases he : n % 2 = 0
    · have hb : ((n : Int) % 2 == 0) = true := by simp; omega
      have HE : Hid (n % 2 = 0) := he
      clear he
      go_enter Tryz.func61, Tryz.ntmps61
      go_wp2_with fail
      refine (ValidRow_is w a n c xs true h hv).mono ?_
      rintro e w' ⟨rfl, rfl⟩
      go_wp2_with fail
      go_ret
      exact ⟨ret_bool (by simp [evenB, hv, hlen.out, HE.out]), rfl⟩
    · have hb : ((n : Int) % 2 == 0) = false := by simp; omega
      have HE : Hid (¬ n % 2 = 0) := he
      clear he
      go_enter Tryz.func61, Tryz.ntmps61
      go_wp2_with fail
      refine (ValidRow_is w a n c xs true h hv).mono ?_
      rintro e w' ⟨rfl, rfl⟩
      go_wp2_with fail
      go_ret
      exact ⟨ret_bool (by have := HE.out; simp [evenB, hv, hlen.out]; omega), rfl⟩
theorem even_is (w : World) (a : Option Addr) (n c : Nat) (xs : List Int) (v : Bool) (h : Row w a n c xs) (hv : evenB xs = v) :
    Calls Tryz.prog 61 #[.slice a n c] w fun e w' => Tells w w' e v := by subst hv; exact even_any w a n c xs h
set_option maxRecDepth 100000 in
set_option maxHeartbeats 400000 in
theorem validEven_any (w : World) (a : Option Addr) (n c : Nat) (xs : List Int) (h : Row w a n c xs) :
    Calls Tryz.prog 29 #[.slice a n c] w fun e w' => Tells w w' e (evenB xs) := by
  have hlen : Hid (xs.length = n) := h.len
  have hsm := h.small
  cases hv : valid xs
  · go_enter Tryz.func29, Tryz.ntmps29
    go_wp2_with fail
    refine (validRow_is w a n c xs false h hv).mono ?_
    rintro e w' ⟨rfl, rfl⟩
    go_wp2_with fail
    go_ret
    exact ⟨ret_bool (by simp [evenB, hv]), rfl⟩
  · by_cases he : n % 2 = 0
    · have hb : ((n : Int) % 2 == 0) = true := by simp; omega
      have HE : Hid (n % 2 = 0) := he
      clear he
      go_enter Tryz.func29, Tryz.ntmps29
      go_wp2_with fail
      refine (validRow_is w a n c xs true h hv).mono ?_
      rintro e w' ⟨rfl, rfl⟩
      go_wp2_with fail
      go_ret
      exact ⟨ret_bool (by simp [evenB, hv, hlen.out, HE.out]), rfl⟩
    · have hb : ((n : Int) % 2 == 0) = false := by simp; omega
      have HE : Hid (¬ n % 2 = 0) := he
      clear he
      go_enter Tryz.func29, Tryz.ntmps29
      go_wp2_with fail
      refine (validRow_is w a n c xs true h hv).mono ?_
      rintro e w' ⟨rfl, rfl⟩
      go_wp2_with fail
      go_ret
      exact ⟨ret_bool (by have := HE.out; simp [evenB, hv, hlen.out]; omega), rfl⟩
theorem validEven_is (w : World) (a : Option Addr) (n c : Nat) (xs : List Int) (v : Bool) (h : Row w a n c xs) (hv : evenB xs = v) :
    Calls Tryz.prog 29 #[.slice a n c] w fun e w' => Tells w w' e v := by subst hv; exact validEven_any w a n c xs h

def halfR (xs : List Int) : List Int := if evenB xs then halveL xs (xs.length / 2) else []
def unhalfR (xs : List Int) : List Int := if evenB xs then unhalveL xs (xs.length / 2) else []

set_option maxHeartbeats 400000 in
theorem HalveOf_no (w : World) (a : Option Addr) (n c : Nat) (xs : List Int) (h : Row w a n c xs) (hv : evenB xs = false) :
    Calls Tryz.prog 37 #[.slice a n c] w fun e w' => e = .returned (.slice none 0 0) ∧ w = w' := by
  go_enter Tryz.func37, Tryz.ntmps37
  go_wp2_with fail
  refine (even_is w a n c xs false h hv).mono ?_
  rintro e w' ⟨rfl, rfl⟩
  go_wp2_with fail
  go_ret
  exact ⟨rfl, rfl⟩
set_option maxRecDepth 100000 in
set_option maxHeartbeats 400000 in
theorem HalveOf_yes (w : World) (a : Option Addr) (n c : Nat) (xs : List Int) (h : Row w a n c xs) (hv : evenB xs = true) :
    Calls Tryz.prog 37 #[.slice a n c] w fun e w' => Fresh w w' e n (halveL xs (xs.length / 2)) := by
  obtain ⟨hn2, hn16, hbd⟩ := evenB_half hv h.len
  have HN := Lib.hid hn2
  have HB := Lib.hid hbd
  have HL : Hid (xs.length = n) := h.len
  clear hn2 hbd
  go_enter Tryz.func37, Tryz.ntmps37
  go_wp2_with fail
  refine (even_is w a n c xs true h hv).mono ?_
  rintro e w' ⟨rfl, rfl⟩
  go_wp2_with fail
  refine (halve_any w a n c (n / 2) xs h HN.out (by omega) HB.out).mono ?_
  rintro e w1 ⟨a1, c1, rfl, hown, hbl⟩
  go_wp2_with fail
  go_ret
  rw [HL.out]
  exact Fresh.mk hown hbl
theorem HalveOf_all (w : World) (a : Option Addr) (n c : Nat) (xs : List Int) (h : Row w a n c xs) :
    Calls Tryz.prog 37 #[.slice a n c] w fun e w' => Fresh w w' e (halfR xs).length (halfR xs) := by
  cases hv : evenB xs
  · rw [show halfR xs = [] by simp [halfR, hv]]
    refine (HalveOf_no w a n c xs h hv).mono ?_
    rintro e w' ⟨rfl, rfl⟩
    exact Fresh.mk (own_nil _ _) (Below.refl _ _)
  · refine (HalveOf_yes w a n c xs h hv).mono ?_
    rintro e w' ⟨a1, c1, rfl, hown, hbl⟩
    have hl := hown.len
    exact Fresh.mk' hown hbl (by rw [← hl]; simp [halfR, hv]) (by simp [halfR, hv])

def lgN (n : Nat) : Nat := (lg n).toNat
theorem lgN_spec {n : Nat} (h : isP2 n = true) : p2 (lgN n) = n ∧ lgN n ≤ 4 := by
  rcases isP2_iff.1 h with rfl | rfl | rfl | rfl | rfl <;> decide
theorem cube_kk {xs : List Int} {n : Nat} (h : cube xs = true) (hl : xs.length = n) : ∃ kk, kk = lgN n ∧ n = p2 kk ∧ kk ≤ 4 ∧ (∀ i, i < n → -1000 ≤ el xs i ∧ el xs i ≤ 1000) := by
  obtain ⟨h1, h2⟩ := cube_iff.1 h
  rw [hl] at h2
  obtain ⟨h3, h4⟩ := lgN_spec h2
  exact ⟨lgN n, rfl, h3.symm, h4, fun i hi => valid_bd h1 (by omega)⟩
def hallR (xs : List Int) : List Int := if cube xs then hallL xs (lgN xs.length) else []
def uallR (xs : List Int) : List Int := if cube xs then uallL xs (lgN xs.length) else []

end Go.Proofs.YtmfffmipnbdpjaaGreatDoor
