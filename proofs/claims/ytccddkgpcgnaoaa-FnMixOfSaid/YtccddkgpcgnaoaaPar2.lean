/-
  BelowOf and UnbelowOf, the program's and the reference's.
-/
import Derived.Test.YtccddkgpcgnaoaaParLaw
namespace Go.Proofs.Ytccddkgpcgnaoaa
open Go.RowKit

/-- How many digits: the k with n = 2 to the k. -/
theorem isP2_k {n : Nat} (h : isP2 n = true) : ∃ k, k ≤ 4 ∧ n = p2 k := by
  rcases isP2_iff.1 h with rfl | rfl | rfl | rfl | rfl
  · exact ⟨0, by omega, rfl⟩
  · exact ⟨1, by omega, rfl⟩
  · exact ⟨2, by omega, rfl⟩
  · exact ⟨3, by omega, rfl⟩
  · exact ⟨4, by omega, rfl⟩

theorem and_bit : ∀ x : Nat, x < 16 → ∀ j, j < 4 → (bits .and .i64 (x : Int) (p2 j : Int) != 0) = x.testBit j := by decide +kernel
theorem andNot_sub : ∀ k : Nat, k < 16 → ∀ i : Nat, i < 16 → (bits .andNot .i64 (k : Int) (i : Int) == 0) = subB k i := by decide +kernel

def parL (s : Int) (xs : List Int) (kk n : Nat) : List Int := tab (Gs s (el xs) kk) n

theorem BelowOf_no (w : World) (a : Option Addr) (n c : Nat) (xs : List Int) (h : Row w a n c xs) (hv : cube xs = false) :
    Calls Try.prog 40 #[.slice a n c] w fun e w' => e = .returned (.slice none 0 0) ∧ w = w' := by
  go_enter Try.func40, Try.ntmps40
  go_wp2_with (go_at_call 43; refine (whole_is w a n c xs false h hv).mono ?_; rintro e w' ⟨rfl, rfl⟩)
  go_ret
  exact ⟨rfl, rfl⟩

theorem part_bd {f : Nat → Int} {n m i : Nat} (h : ∀ k, k < n → -1000 ≤ f k ∧ f k ≤ 1000) (hm : m ≤ n) : -(1000 * (m : Int)) ≤ partI f i m ∧ partI f i m ≤ 1000 * (m : Int) :=
  sm_bd fun k hk => by have := h k (by omega); split <;> omega

set_option maxHeartbeats 800000 in
theorem BelowOf_yes0 (w : World) (a : Option Addr) (n c : Nat) (xs : List Int) (h : Row w a n c xs) (hv : cube xs = true) :
    Calls Try.prog 40 #[.slice a n c] w fun e w' => Fresh w w' e n (tab (fun i => partI (el xs) i n) n) := by
  have hlen : Hid (xs.length = n) := h.len
  obtain ⟨hv0, _⟩ := cube_iff.1 hv
  have hn : n ≤ 16 := by have := valid_len hv0; rw [hlen.out] at this; exact this
  have hbd : Hid (∀ i, i < n → -1000 ≤ el xs i ∧ el xs i ≤ 1000) := fun i hi => valid_bd hv0 (by rw [hlen.out]; exact hi)
  clear hv0
  go_enter Try.func40, Try.ntmps40
  go_wp2_with (go_at_call 43; refine (whole_is w a n c xs true h hv).mono ?_; rintro e w' ⟨rfl, rfl⟩)
  go_loopw [3, 14] (fun v u wr => ∃ (k : Nat) (a1 : Option Addr) (c1 : Nat), k ≤ n ∧ u = .int .i64 k ∧ v = .slice a1 k c1 ∧ Own wr w.heap.size a1 k c1 (tab (fun i => partI (el xs) i n) k) ∧ Below w.heap.size w wr ∧ w.heap.size + 1 ≤ wr.heap.size) (fun v _ _ => n - lenOf v)
  case atStart => exact ⟨0, _, 0, Nat.zero_le _, rfl, rfl, own_empty w, (Below.refl _ _).alloc (Nat.le_refl _) _, by simp⟩
  case round =>
    obtain ⟨k, a1, c1, hk, rfl, rfl, hown, hbl, hsz⟩ := hrel
    by_cases hlt : k < n
    · obtain ⟨b, off, rfl, hbb, hcell⟩ := h.at (by omega)
      have HC : Hid (∀ w', Below w.heap.size w w' → ∀ j, j < n → w'.cell? ⟨b, off + j, none⟩ = some (.int .i64 (el xs j))) := hcell
      clear hcell
      go_wp2_with fail
      go_loop [5, 19] (fun s u => ∃ j : Nat, j ≤ n ∧ u = .int .i64 j ∧ s = .int .i64 (partI (el xs) k j)) (fun _ u => n - (intOf u).toNat)
      case atStart => exact ⟨0, Nat.zero_le _, rfl, rfl⟩
      case round =>
        obtain ⟨j, hj, rfl, rfl⟩ := hrel
        by_cases hjn : j < n
        · have hc := HC.out wr hbl j hjn
          have hs := @part_bd (el xs) n j k hbd.out (by omega)
          have he := hbd.out j hjn
          have hsub := andNot_sub j (by omega) k (by omega)
          cases hb : subB j k
          · rw [hb] at hsub
            have HS : Hid (partI (el xs) k (j + 1) = partI (el xs) k j) := by simp [Hid, partI, sm, hb]
            clear hb
            go_wp2_with fail
            go_round
            case rel => exact ⟨j + 1, by omega, by go_num, by rw [HS.out]⟩
            case measure => simp [intOf]; omega
          · rw [hb] at hsub
            have HS : Hid (partI (el xs) k (j + 1) = partI (el xs) k j + el xs j) := by simp [Hid, partI, sm, hb]
            clear hb
            go_wp2_with fail
            go_round
            case rel => exact ⟨j + 1, by omega, by go_num, by rw [HS.out]⟩
            case measure => simp [intOf]; omega
        · obtain rfl : j = n := by omega
          go_wp2_with (at_builtin; go_must (refine app_int wr rfl _ _ rfl w.heap.size _ _ _ _ _ rfl hown rfl (by omega) (by omega) ?_); intro a2 c2 w2 hown2 hgr2 hsz2)
          go_roundw
          case rel => exact ⟨k + 1, a2, c2, by omega, by go_num, rfl, hown2, below_app hbl hgr2 hown (Nat.le_refl _) (by omega), by omega⟩
          case measure => simp [lenOf]; omega
    · go_wp2_with fail
      go_ret
      obtain rfl : k = n := by omega
      exact Fresh.mk hown hbl

theorem BelowOf_yes (w : World) (a : Option Addr) (n c : Nat) (xs : List Int) (kk : Nat) (hkk : kk ≤ 4) (hnk : n = p2 kk) (h : Row w a n c xs) (hv : cube xs = true) :
    Calls Try.prog 40 #[.slice a n c] w fun e w' => Fresh w w' e n (parL 1 xs kk n) := by
  have e : tab (fun i => partI (el xs) i n) n = parL 1 xs kk n := tab_congr fun i hi => by rw [hnk]; exact part_G (el xs) kk hkk i (by rw [← hnk]; exact hi)
  rw [← e]; exact BelowOf_yes0 w a n c xs h hv
end Go.Proofs.Ytccddkgpcgnaoaa
