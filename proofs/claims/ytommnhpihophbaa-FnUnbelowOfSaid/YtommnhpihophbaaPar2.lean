/-
  BelowOf and UnbelowOf, the program's and the reference's.
-/
import Derived.Test.YtommnhpihophbaaParLaw
namespace Go.Proofs.Ytommnhpihophbaa
open Go.RowKit

/-- How many digits: the k with n = 2 to the k. -/
theorem isP2_k {n : Nat} (h : isP2 n = true) : ∃ k, k ≤ 4 ∧ n = p2 k := by
  rcases isP2_iff.1 h with rfl | rfl | rfl | rfl | rfl
  · exact ⟨0, by omega, rfl⟩
  · exact ⟨1, by omega, rfl⟩
  · exact ⟨2, by omega, rfl⟩
  · exact ⟨3, by omega, rfl⟩
  · exact ⟨4, by omega, rfl⟩

theorem and_bit : ∀ x : Nat, x < 16 → ∀ j, j < 4 → (bits .and .i64 (x : Int) (p2 j : Int) != 0) = x.testBit j := by decide +kernel
theorem andNot_sub : ∀ k : Nat, k < 16 → ∀ i : Nat, i < 16 → (bits .andNot .i64 (k : Int) (i : Int) == 0) = subB k i := by decide +kernel

def parL (s : Int) (xs : List Int) (kk n : Nat) : List Int := tab (Gs s (el xs) kk) n

theorem BelowOf_no (w : World) (a : Option Addr) (n c : Nat) (xs : List Int) (h : Row w a n c xs) (hv : cube xs = false) :
    Calls Try.prog 46 #[.slice a n c] w fun e w' => e = .returned (.slice none 0 0) ∧ w = w' := by
  go_enter Try.func46, Try.ntmps46
  go_wp2_with (go_at_call 74; refine (whole_is w a n c xs false h hv).mono ?_; rintro e w' ⟨rfl, rfl⟩)
  go_ret
  exact ⟨rfl, rfl⟩

theorem part_bd {f : Nat → Int} {n m i : Nat} (h : ∀ k, k < n → -1000 ≤ f k ∧ f k ≤ 1000) (hm : m ≤ n) : -(1000 * (m : Int)) ≤ partI f i m ∧ partI f i m ≤ 1000 * (m : Int) :=
  sm_bd fun k hk => by have := h k (by omega); split <;> omega

set_option maxHeartbeats 800000 in
theorem BelowOf_yes0 (w : World) (a : Option Addr) (n c : Nat) (xs : List Int) (h : Row w a n c xs) (hv : cube xs = true) :
    Calls Try.prog 46 #[.slice a n c] w fun e w' => Fresh w w' e n (tab (fun i => partI (el xs) i n) n) := by
  have hlen : Hid (xs.length = n) := h.len
  obtain ⟨hv0, _⟩ := cube_iff.1 hv
  have hn : n ≤ 16 := by have := valid_len hv0; rw [hlen.out] at this; exact this
  have hbd : Hid (∀ i, i < n → -1000 ≤ el xs i ∧ el xs i ≤ 1000) := fun i hi => valid_bd hv0 (by rw [hlen.out]; exact hi)
  clear hv0
  go_enter Try.func46, Try.ntmps46
  go_wp2_with (go_at_call 74; refine (whole_is w a n c xs true h hv).mono ?_; rintro e w' ⟨rfl, rfl⟩)
  go_loopw [3, 14] (fun v u wr => ∃ (k : Nat) (a1 : Option Addr) (c1 : Nat), k ≤ n ∧ u = .int .i64 k ∧ v = .slice a1 k c1 ∧ Own wr w.heap.size a1 k c1 (tab (fun i => partI (el xs) i n) k) ∧ Below w.heap.size w wr ∧ w.heap.size + 1 ≤ wr.heap.size) (fun v _ _ => n - lenOf v)
  case atStart => exact ⟨0, _, 0, Nat.zero_le _, rfl, rfl, own_empty w, (Below.refl _ _).alloc (Nat.le_refl _) _, by simp⟩
  case round =>
    obtain ⟨k, a1, c1, hk, rfl, rfl, hown, hbl, hsz⟩ := hrel
    by_cases hlt : k < n
    · obtain ⟨b, off, rfl, hbb, hcell⟩ := h.at (by omega)
      have HC : Hid (∀ w', Below w.heap.size w w' → ∀ j, j < n → w'.cell? ⟨b, off + j, none⟩ = some (.int .i64 (el xs j))) := hcell
      clear hcell
      go_wp2_with fail
      go_loop [5, 19] (fun s u => ∃ j : Nat, j ≤ n ∧ u = .int .i64 j ∧ s = .int .i64 (partI (el xs) k j)) (fun _ u => n - (intOf u).toNat)
      case atStart => exact ⟨0, Nat.zero_le _, rfl, rfl⟩
      case round =>
        obtain ⟨j, hj, rfl, rfl⟩ := hrel
        by_cases hjn : j < n
        · have hc := HC.out wr hbl j hjn
          have hs := @part_bd (el xs) n j k hbd.out (by omega)
          have he := hbd.out j hjn
          have hsub := andNot_sub j (by omega) k (by omega)
          cases hb : subB j k
          · rw [hb] at hsub
            have HS : Hid (partI (el xs) k (j + 1) = partI (el xs) k j) := by simp [Hid, partI, sm, hb]
            clear hb
            go_wp2_with fail
            go_round
            case rel => exact ⟨j + 1, by omega, by go_num, by rw [HS.out]⟩
            case measure => simp [intOf]; omega
          · rw [hb] at hsub
            have HS : Hid (partI (el xs) k (j + 1) = partI (el xs) k j + el xs j) := by simp [Hid, partI, sm, hb]
            clear hb
            go_wp2_with fail
            go_round
            case rel => exact ⟨j + 1, by omega, by go_num, by rw [HS.out]⟩
            case measure => simp [intOf]; omega
        · obtain rfl : j = n := by omega
          go_wp2_with (at_builtin; go_must (refine app_int wr rfl _ _ rfl w.heap.size _ _ _ _ _ rfl hown rfl (by omega) (by omega) ?_); intro a2 c2 w2 hown2 hgr2 hsz2)
          go_roundw
          case rel => exact ⟨k + 1, a2, c2, by omega, by go_num, rfl, hown2, below_app hbl hgr2 hown (Nat.le_refl _) (by omega), by omega⟩
          case measure => simp [lenOf]; omega
    · go_wp2_with fail
      go_ret
      obtain rfl : k = n := by omega
      exact Fresh.mk hown hbl

theorem BelowOf_yes (w : World) (a : Option Addr) (n c : Nat) (xs : List Int) (kk : Nat) (hkk : kk ≤ 4) (hnk : n = p2 kk) (h : Row w a n c xs) (hv : cube xs = true) :
    Calls Try.prog 46 #[.slice a n c] w fun e w' => Fresh w w' e n (parL 1 xs kk n) := by
  have e : tab (fun i => partI (el xs) i n) n = parL 1 xs kk n := tab_congr fun i hi => by rw [hnk]; exact part_G (el xs) kk hkk i (by rw [← hnk]; exact hi)
  rw [← e]; exact BelowOf_yes0 w a n c xs h hv
theorem UnbelowOf_no (w : World) (a : Option Addr) (n c : Nat) (xs : List Int) (h : Row w a n c xs) (hv : cube xs = false) :
    Calls Try.prog 48 #[.slice a n c] w fun e w' => e = .returned (.slice none 0 0) ∧ w = w' := by
  go_enter Try.func48, Try.ntmps48
  go_wp2_with (go_at_call 74; refine (whole_is w a n c xs false h hv).mono ?_; rintro e w' ⟨rfl, rfl⟩)
  go_ret
  exact ⟨rfl, rfl⟩

set_option maxHeartbeats 1600000 in
theorem UnbelowOf_yes (w : World) (a : Option Addr) (n c : Nat) (xs : List Int) (kk : Nat) (hkk : kk ≤ 4) (hnk : n = p2 kk) (h : Row w a n c xs) (hv : cube xs = true) :
    Calls Try.prog 48 #[.slice a n c] w fun e w' => Fresh w w' e n (parL (-1) xs kk n) := by
  have hlen : Hid (xs.length = n) := h.len
  obtain ⟨hv0, _⟩ := cube_iff.1 hv
  have hn : n ≤ 16 := by rw [hnk]; exact p2_le hkk
  have hN : Hid (n = p2 kk) := hnk
  have hbd : Hid (∀ i, i < 16 → -1000 ≤ el xs i ∧ el xs i ≤ 1000) := fun i hi => by
    by_cases e : i < n
    · exact valid_bd hv0 (by rw [hlen.out]; exact e)
    · rw [el_out (by rw [hlen.out]; omega)]; omega
  clear hnk hv0
  go_enter Try.func48, Try.ntmps48
  go_wp2_with (first | (go_at_call 74; refine (whole_is w a n c xs true h hv).mono ?_; rintro e w' ⟨rfl, rfl⟩) | (at_builtin; go_must (refine copy_row w w.heap.size rfl rfl _ _ rfl _ _ _ _ rfl rfl h (by omega) ?_); intro a0 c0 w0 hown0 hb0 hsz0))
  have HX0 : Hid (tab (Gs (-1) (el xs) 0) n = xs) := by rw [Hid, ← hlen.out]; exact tab_el xs
  go_loopw [4] (fun u wr => ∃ j : Nat, j ≤ kk ∧ u = .int .i64 (p2 j) ∧ Own wr w.heap.size a0 n c0 (tab (Gs (-1) (el xs) j) n) ∧ Below w.heap.size w wr) (fun u _ => 32 - (intOf u).toNat)
  case atStart => exact ⟨0, Nat.zero_le _, rfl, by rw [HX0.out]; exact hown0, hb0⟩
  case round =>
    obtain ⟨j, hj, rfl, hown, hbl⟩ := hrel
    clear hown0 hb0
    have hpp := p2_pos j
    by_cases hlt : j < kk
    · have hpl : p2 j < n := by
        have := p2_le (show j + 1 ≤ kk by omega)
        rw [p2_succ] at this
        have := hN.out
        omega
      have hj4 : j < 4 := by omega
      go_wp2_with fail
      obtain ⟨wo, rfl⟩ : ∃ wo : World, wo = wr := ⟨_, rfl⟩
      go_loopw [20] (fun u wr => ∃ x : Nat, x ≤ n ∧ u = .int .i64 x ∧ Own wr w.heap.size a0 n c0 (mixL (-1) xs n j x) ∧ Below w.heap.size w wr) (fun u _ => n - (intOf u).toNat)
      case atStart => exact ⟨0, Nat.zero_le _, rfl, by rw [mix_start]; exact hown, hbl⟩
      case round =>
        obtain ⟨x, hx, rfl, hown2, hbl2⟩ := hrel
        clear hown hbl
        by_cases hxn : x < n
        · have hab := and_bit x (by omega) j hj4
          cases hbit : x.testBit j
          · rw [hbit] at hab
            have HSK : Hid (mixL (-1) xs n j x = mixL (-1) xs n j (x + 1)) := mix_skip hbit
            go_wp2_with fail
            go_roundw
            case rel => exact ⟨x + 1, by omega, by go_num, by rw [← HSK.out]; exact hown2, hbl2⟩
            case measure => simp [intOf]; omega
          · rw [hbit] at hab
            obtain ⟨hpx, _⟩ := bit_sub x (by omega) j hj4 hbit
            have hg1 := Gs_bd (.inr rfl) hbd.out j x (by omega)
            have hg2 := Gs_bd (.inr rfl) hbd.out j (x - p2 j) (by omega)
            have hp16 : p2 j ≤ 16 := by omega
            obtain ⟨g, rfl, hBg, hgl, hcell, hfr⟩ := hown2.at x hxn
            obtain ⟨g', hg', _, _, hcell2, _⟩ := hown2.at (x - p2 j) (by omega)
            injection hg' with hg'; injection hg' with hg'; subst hg'
            rw [mix_at hxn] at hcell
            rw [mix_el hn hj4 hxn hbit] at hcell2
            have HST := (hown2.store x (Gs (-1) (el xs) j x + (-1) * Gs (-1) (el xs) j (x - p2 j)))
            rw [mix_set hxn hbit, show Gs (-1) (el xs) j x + (-1) * Gs (-1) (el xs) j (x - p2 j) = Gs (-1) (el xs) j x - Gs (-1) (el xs) j (x - p2 j) by omega] at HST
            have i1 : (0 : Int) ≤ (x : Int) := by omega
            have i2 : (x : Int) < n := by omega
            have i3 : (0 : Int) ≤ (x : Int) - p2 j := by omega
            have i4 : (x : Int) - p2 j < n := by omega
            have i5 : ((x : Int) - p2 j).toNat = x - p2 j := by omega
            have i6 : IntKind.i64.wrap ((x : Int) - p2 j) = (x : Int) - p2 j := IntWalk.i64_in _ (by omega)
            have i8 : IntKind.i64.wrap (Gs (-1) (el xs) j x - Gs (-1) (el xs) j (x - p2 j)) = Gs (-1) (el xs) j x - Gs (-1) (el xs) j (x - p2 j) := IntWalk.i64_in _ (by omega)
            go_wp2_with fail
            go_still_tail 12, (by kernel_rfl)
            change wpList _ _ _ _ _ wr.drew
            clear i6 i8
            go_wp2_with fail
            go_roundw
            case rel => exact ⟨x + 1, by omega, by go_num, HST.drew, (hbl2.setCell hBg _).drew⟩
            case measure => simp [intOf]; omega
        · obtain rfl : x = n := by omega
          go_wp2_with fail
          go_roundw
          case rel => exact ⟨j + 1, by omega, by rw [p2_succ]; go_num, by rw [← mix_end]; exact hown2, hbl2⟩
          case measure => simp [intOf]; omega
    · obtain rfl : j = kk := by omega
      have hge : (n : Int) ≤ (p2 j : Int) := by have := hN.out; omega
      go_wp2_with fail
      go_ret
      exact Fresh.mk hown hbl
theorem sBelowOf_no (w : World) (a : Option Addr) (n c : Nat) (xs : List Int) (h : Row w a n c xs) (hv : cube xs = false) :
    Calls Try.prog 47 #[.slice a n c] w fun e w' => e = .returned (.slice none 0 0) ∧ w = w' := by
  go_enter Try.func47, Try.ntmps47
  go_wp2_with (go_at_call 75; refine (validCube_is w a n c xs false h hv).mono ?_; rintro e w' ⟨rfl, rfl⟩)
  go_ret
  exact ⟨rfl, rfl⟩
theorem sBelowOf_yes (w : World) (a : Option Addr) (n c : Nat) (xs : List Int) (kk : Nat) (hkk : kk ≤ 4) (hnk : n = p2 kk) (h : Row w a n c xs) (hv : cube xs = true) :
    Calls Try.prog 47 #[.slice a n c] w fun e w' => Fresh w w' e n (parL 1 xs kk n) := by
  have hlen : Hid (xs.length = n) := h.len
  have hN : Hid (n = p2 kk) := hnk
  have hbd : Hid (∀ i, i < n → -1000 ≤ el xs i ∧ el xs i ≤ 1000) := fun i hi => valid_bd (cube_iff.1 hv).1 (by rw [hlen.out]; exact hi)
  clear hnk
  go_enter Try.func47, Try.ntmps47
  go_wp2_with (first | (go_at_call 75; refine (validCube_is w a n c xs true h hv).mono ?_; rintro e w' ⟨rfl, rfl⟩) | (go_at_call 76; refine (below_any w a n c xs 1 kk h hkk hN.out (.inl rfl) hbd.out).mono ?_; rintro e w' ⟨a1, c1, rfl, hown, hbl⟩))
  go_ret
  exact Fresh.mk hown hbl
theorem sUnbelowOf_no (w : World) (a : Option Addr) (n c : Nat) (xs : List Int) (h : Row w a n c xs) (hv : cube xs = false) :
    Calls Try.prog 50 #[.slice a n c] w fun e w' => e = .returned (.slice none 0 0) ∧ w = w' := by
  go_enter Try.func50, Try.ntmps50
  go_wp2_with (go_at_call 75; refine (validCube_is w a n c xs false h hv).mono ?_; rintro e w' ⟨rfl, rfl⟩)
  go_ret
  exact ⟨rfl, rfl⟩
theorem sUnbelowOf_yes (w : World) (a : Option Addr) (n c : Nat) (xs : List Int) (kk : Nat) (hkk : kk ≤ 4) (hnk : n = p2 kk) (h : Row w a n c xs) (hv : cube xs = true) :
    Calls Try.prog 50 #[.slice a n c] w fun e w' => Fresh w w' e n (parL (-1) xs kk n) := by
  have hlen : Hid (xs.length = n) := h.len
  have hN : Hid (n = p2 kk) := hnk
  have hbd : Hid (∀ i, i < n → -1000 ≤ el xs i ∧ el xs i ≤ 1000) := fun i hi => valid_bd (cube_iff.1 hv).1 (by rw [hlen.out]; exact hi)
  clear hnk
  go_enter Try.func50, Try.ntmps50
  go_wp2_with (first | (go_at_call 75; refine (validCube_is w a n c xs true h hv).mono ?_; rintro e w' ⟨rfl, rfl⟩) | (go_at_call 76; refine (below_any w a n c xs (-1) kk h hkk hN.out (.inr rfl) hbd.out).mono ?_; rintro e w' ⟨a1, c1, rfl, hown, hbl⟩))
  go_ret
  exact Fresh.mk hown hbl
end Go.Proofs.Ytommnhpihophbaa
