/-
  UnhalveAll, and the reference's HalveAll and UnhalveAll.
-/
import Derived.Test.YtbaamhniffpnpaaHAllW
namespace Go.Proofs.Ytbaamhniffpnpaa
open Go.RowKit

set_option maxHeartbeats 400000 in
theorem UnhalveAll_no (w : World) (a : Option Addr) (n c : Nat) (xs : List Int) (h : Row w a n c xs) (hv : cube xs = false) :
    Calls Try.prog 20 #[.slice a n c] w fun e w' => e = .returned (.slice none 0 0) ∧ w = w' := by
  go_enter Try.func20, Try.ntmps20
  go_wp2_with fail
  refine (whole_is w a n c xs false h hv).mono ?_
  rintro e w' ⟨rfl, rfl⟩
  go_wp2_with fail
  go_ret
  exact ⟨rfl, rfl⟩
set_option maxHeartbeats 1600000 in
theorem UnhalveAll_yes (w : World) (a : Option Addr) (n c : Nat) (xs : List Int) (h : Row w a n c xs) (hv : cube xs = true) :
    Calls Try.prog 20 #[.slice a n c] w fun e w' => Fresh w w' e n (uallL xs (lgN xs.length)) := by
  have hlen : Hid (xs.length = n) := h.len
  obtain ⟨kk, hkk, hnk, hk4, hbd0⟩ := cube_kk hv h.len
  rw [h.len, ← hkk]
  have hn16 : n ≤ 16 := by rw [hnk]; exact p2_16 hk4
  have hn1 : 1 ≤ n := by have := p2_pos kk; omega
  have hbd := Lib.hid hbd0
  have HN := Lib.hid hnk
  clear hbd0 hnk hkk
  go_enter Try.func20, Try.ntmps20
  go_wp2_with fail
  refine (whole_is w a n c xs true h hv).mono ?_
  rintro e w' ⟨rfl, rfl⟩
  go_wp2_with (at_builtin; go_must (refine copy_row w w.heap.size rfl rfl _ _ rfl _ _ _ _ rfl rfl h (by omega) ?_); intro a0 c0 w0 hown0 hb0 hsz0)
  have hx0 : tab (Ud 0 (el xs)) n = xs := by show tab (el xs) n = xs; rw [← hlen.out]; exact tab_el xs
  have HX0 := Lib.hid hx0
  clear hx0
  go_loopw [4] (fun u wr => ∃ j : Nat, j ≤ kk ∧ u = .int .i64 ((2 * p2 j : Nat) : Int) ∧ Own wr w.heap.size a0 n c0 (tab (Ud j (el xs)) n) ∧ Below w.heap.size w wr) (fun u _ => 33 - (intOf u).toNat)
  case atStart => exact ⟨0, Nat.zero_le _, rfl, by rw [HX0.out]; exact hown0, hb0⟩
  case round =>
    obtain ⟨j, hj, rfl, hown, hbl⟩ := hrel
    clear hown0 hb0
    by_cases hlt : j < kk
    · have hp := p2_pos j
      have hps := p2_succ j
      have hpn : 2 * p2 j ≤ n := by rw [HN.out, ← p2_succ]; exact p2_le hlt
      have hUd : Ud (j + 1) (el xs) = ust (Ud j (el xs)) (p2 j) := rfl
      have hjoin := ust_join (f := Ud j (el xs)) hpn
      rw [← hUd] at hjoin
      have HJ := Lib.hid hjoin
      have hpb := @Ud_bd (el xs) n hbd.out j (by omega)
      have h81 := pow3_81 (show j ≤ 4 by omega)
      have hb9 : ∀ i, i < 2 * p2 j → -1000000000 ≤ el ((tab (Ud j (el xs)) n).take (2 * p2 j)) i ∧ el ((tab (Ud j (el xs)) n).take (2 * p2 j)) i ≤ 1000000000 := fun i hi => by
        rw [tab_take hpn, el_tab hi]; have := hpb i (by omega); omega
      have HB9 := Lib.hid hb9
      have hrow := (hown.row (by omega)).pre (2 * p2 j) hpn
      have h1 : ((2 * p2 j : Nat) : Int) ≤ (n : Int) := by omega
      have hcc := (hown.row (by omega)).cap
      have HPS := Lib.hid hps
      clear hjoin hUd hb9 hpb hps h81
      go_wp2_with fail
      refine (unhalve_any wr a0 (2 * p2 j) c0 (p2 j) _ hrow rfl (by omega) HB9.out).mono ?_
      rintro e w1 ⟨a1, c1, rfl, hown1, hb1⟩
      have hsrc := hown1.row (by omega)
      have hownk := hown.below hb1
      have hblk := hbl.trans (hb1.mono (by have := hbl.size; omega))
      go_wp2_with (with_reducible refine copy_own w1 rfl _ _ rfl w.heap.size _ _ _ _ rfl hownk (by omega) _ _ _ _ rfl hsrc hpn w.heap.size (Nat.le_refl _) w hblk ?_; intro w2 hown2 hbl2 hbl3)
      rw [HJ.out] at hown2
      go_roundw
      case rel => exact ⟨j + 1, by omega, by rw [HPS.out]; go_num, hown2, hbl2⟩
      case measure => simp [intOf]; omega
    · obtain rfl : j = kk := by omega
      have h1 : (n : Int) < ((2 * p2 j : Nat) : Int) := by have := HN.out; have := p2_pos j; omega
      have hp16 := p2_16 hk4
      go_wp2_with fail
      go_ret
      refine Fresh.mk' hown hbl rfl ?_
      rw [uallL, ← HN.out]
theorem UnhalveAll_all (w : World) (a : Option Addr) (n c : Nat) (xs : List Int) (h : Row w a n c xs) :
    Calls Try.prog 20 #[.slice a n c] w fun e w' => Fresh w w' e (uallR xs).length (uallR xs) := by
  cases hv : cube xs
  · rw [show uallR xs = [] by simp [uallR, hv]]
    refine (UnhalveAll_no w a n c xs h hv).mono ?_
    rintro e w' ⟨rfl, rfl⟩
    exact Fresh.mk (own_nil _ _) (Below.refl _ _)
  · refine (UnhalveAll_yes w a n c xs h hv).mono ?_
    rintro e w' ⟨a1, c1, rfl, hown, hbl⟩
    have hl := hown.len
    exact Fresh.mk' hown hbl (by rw [← hl]; simp [uallR, hv]) (by simp [uallR, hv])

/-- A row's rest. -/
theorem Row.suf {w : World} {a : Option Addr} {n c : Nat} {xs : List Int} (h : Row w a n c xs) (m : Nat) (hm : m ≤ n) (g : Nat) (ha : a = some ⟨g, 0, none⟩) : Row w (some ⟨g, m, none⟩) (n - m) (c - m) (xs.drop m) :=
  ⟨by simp [h.len], by have := h.small; omega, by have := h.cap; omega, (fun e => by cases e), fun i hi => by
    obtain ⟨b, off, hb, hlt, hc⟩ := h.cell (m + i) (by omega)
    subst ha
    injection hb with hb; injection hb with hb1 hb2; subst hb1; subst hb2
    refine ⟨g, m, rfl, hlt, fun j hj => ?_⟩
    have := hc (m + j) (by omega)
    rw [Nat.zero_add] at this
    rw [this, el_drop]⟩
theorem row_none {w : World} {g c o : Nat} : Row w (some ⟨g, o, none⟩) 0 c [] := ⟨rfl, by omega, by omega, (fun e => by cases e), fun i hi => by omega⟩

set_option maxHeartbeats 400000 in
theorem sHalveAll_no (w : World) (a : Option Addr) (n c : Nat) (xs : List Int) (h : Row w a n c xs) (hv : cube xs = false) :
    Calls Try.prog 21 #[.slice a n c] w fun e w' => e = .returned (.slice none 0 0) ∧ w = w' := by
  go_enter Try.func21, Try.ntmps21
  go_wp2_with fail
  refine (validCube_is w a n c xs false h hv).mono ?_
  rintro e w' ⟨rfl, rfl⟩
  go_wp2_with fail
  go_ret
  exact ⟨rfl, rfl⟩
set_option maxHeartbeats 1600000 in
theorem sHalveAll_yes (w : World) (a : Option Addr) (n c : Nat) (xs : List Int) (h : Row w a n c xs) (hv : cube xs = true) :
    Calls Try.prog 21 #[.slice a n c] w fun e w' => Fresh w w' e n (hallL xs (lgN xs.length)) := by
  have hlen : Hid (xs.length = n) := h.len
  obtain ⟨kk, hkk, hnk, hk4, hbd0⟩ := cube_kk hv h.len
  rw [h.len, ← hkk]
  have hn16 : n ≤ 16 := by rw [hnk]; exact p2_16 hk4
  have hn1 : 1 ≤ n := by have := p2_pos kk; omega
  have hbd := Lib.hid hbd0
  have HN := Lib.hid hnk
  clear hbd0 hnk hkk
  go_enter Try.func21, Try.ntmps21
  go_wp2_with fail
  refine (validCube_is w a n c xs true h hv).mono ?_
  rintro e w' ⟨rfl, rfl⟩
  go_wp2_with (at_builtin; go_must (refine copy_row w w.heap.size rfl rfl _ _ rfl _ _ _ _ rfl rfl h (by omega) ?_); intro a0 c0 w0 hown0 hb0 hsz0)
  have hx0 : tab (Hd (kk - kk) kk (el xs)) n = xs := by rw [Nat.sub_self]; show tab (el xs) n = xs; rw [← hlen.out]; exact tab_el xs
  have HX0 := Lib.hid hx0
  clear hx0
  go_loopw [3, 4] (fun v u wr => ∃ (j : Nat) (a1 : Option Addr) (c1 : Nat), j ≤ kk ∧ v = .slice a1 n c1 ∧ u = .int .i64 (p2 j) ∧ Own wr w.heap.size a1 n c1 (tab (Hd (kk - j) j (el xs)) n) ∧ Below w.heap.size w wr) (fun _ u _ => (intOf u).toNat)
  case atStart => exact ⟨kk, _, _, Nat.le_refl _, rfl, by rw [HN.out], by rw [HX0.out]; exact hown0, hb0⟩
  case round =>
    obtain ⟨j, a0, c0, hj, rfl, rfl, hown, hbl⟩ := hrel
    clear hown0 hb0
    cases j with
    | zero =>
      have h1 : p2 0 = 1 := rfl
      rw [h1]
      go_wp2_with fail
      go_ret
      rw [Nat.sub_zero] at hown
      refine Fresh.mk' hown hbl rfl ?_
      rw [hallL, ← HN.out]
    | succ j =>
      have hp := p2_pos j
      have hps := p2_succ j
      rw [hps]
      have hpn0 : 2 * p2 j ≤ n := by rw [HN.out, ← p2_succ]; exact p2_le hj
      have hHd : Hd (kk - j) j (el xs) = hst (Hd (kk - (j + 1)) (j + 1) (el xs)) (p2 j) := by rw [show kk - j = kk - (j + 1) + 1 by omega, Hd]
      have hjoin := hst_join (f := Hd (kk - (j + 1)) (j + 1) (el xs)) hpn0
      rw [← hHd] at hjoin
      have hpb := @Hd_bd (el xs) n hbd.out (kk - (j + 1)) (j + 1) (by rw [show j + 1 + (kk - (j + 1)) = kk by omega, HN.out]; exact Nat.le_refl _)
      have hp16 : p2 (kk - (j + 1)) ≤ 16 := p2_16 (by omega)
      have hb9 : ∀ i, i < 2 * p2 j → -1000000000 ≤ el ((tab (Hd (kk - (j + 1)) (j + 1) (el xs)) n).take (2 * p2 j)) i ∧ el ((tab (Hd (kk - (j + 1)) (j + 1) (el xs)) n).take (2 * p2 j)) i ≤ 1000000000 := fun i hi => by
        rw [tab_take hpn0, el_tab hi]; have := hpb i (by omega); omega
      have hlenL : (halveL ((tab (Hd (kk - (j + 1)) (j + 1) (el xs)) n).take (2 * p2 j)) (p2 j)).length = 2 * p2 j := by rw [halveL, tab_length]
      have hdiv : ((2 * p2 j : Nat) : Int) / 2 = p2 j := by omega
      have h1 : (1 : Int) < ((2 * p2 j : Nat) : Int) := by omega
      have hmea : p2 j < 2 * p2 j := by omega
      clear hHd hpb hps hp hp16
      generalize hq : 2 * p2 j = q at hpn0 hjoin hb9 hlenL hdiv h1 hmea ⊢
      generalize hL : halveL ((tab (Hd (kk - (j + 1)) (j + 1) (el xs)) n).take q) (p2 j) = L at hjoin hlenL
      generalize hX : tab (Hd (kk - (j + 1)) (j + 1) (el xs)) n = X at hjoin hb9 hL hown
      have HQ := Lib.hid hq
      have HJ := Lib.hid hjoin
      have HB9 := Lib.hid hb9
      have HLL := Lib.hid hlenL
      have HL := Lib.hid hL
      have HX : Hid (X.length = n) := hown.len
      clear hq hjoin hb9 hlenL hL hX
      have hrow := (hown.row (by omega)).pre q hpn0
      have hcc := (hown.row (by omega)).cap
      have i1 : (0 : Int) ≤ (q : Int) := by omega
      have i2 : (q : Int) ≤ (n : Int) := by omega
      have i3 : (q : Int) ≤ (c0 : Int) := by omega
      have i4 : (n : Int) ≤ (c0 : Int) := by omega
      obtain ⟨g, rfl, hBg, hgl, _, _⟩ := hown.at 0 (by omega)
      have hblD := hbl.drew
      have hbW : w.heap.size ≤ wr.drew.heap.size := hblD.size
      by_cases hcm : c0 = q
      · subst hcm
        obtain rfl : n = c0 := by omega
        have hdr : X.drop n = [] := List.drop_of_length_le (by rw [HX.out]; exact Nat.le_refl _)
        rw [hdr] at HJ
        clear hdr
        go_wp2_with fail
        go_region_held3 (fun _ => True) (trivial)
          (first
            | (go_at_call 47; refine (shalve_any wr.drew _ n _ (p2 j) _ hrow.drew HQ.out.symm (by omega) HB9.out).mono ?_; rintro e w1 ⟨a1, c1, rfl, hown1, hb1⟩; have hblk := hblD.trans (hb1.mono hbW))
            | (refine step_app_own _ (by rfl) _ _ (by rfl) w.heap.size _ _ _ _ (by rfl) (by exact hown1.mono hbW) _ _ _ _ (by rfl) (by exact row_none) (by omega) (by exact hblk.size) ?_; intro aX cX wX hownX hgrX; have hblX := below_app hblk hgrX (hown1.mono hbW) (Nat.le_refl _) hblk.size))
        rw [HL.out, HJ.out] at hownX
        go_wp2_with fail
        go_roundw
        case rel => exact ⟨j, aX, cX, by omega, rfl, by go_num, hownX, hblX⟩
        case measure => simp [intOf]; omega
      · have hsuf := ((hown.row (by omega)).suf q hpn0 g rfl).drew
        have hnq : q + (n - q) = n := by omega
        have HNQ := Lib.hid hnq
        clear hnq
        have hz : ¬ (c0 - q = 0) := by omega
        go_wp2_with fail
        go_region_held3 (fun _ => True) (trivial)
          (first
            | (go_at_call 47; refine (shalve_any wr.drew _ q _ (p2 j) _ hrow.drew HQ.out.symm (by omega) HB9.out).mono ?_; rintro e w1 ⟨a1, c1, rfl, hown1, hb1⟩; have hblk := hblD.trans (hb1.mono hbW); have hsuf1 := hsuf.below hb1)
            | (refine step_app_own _ (by rfl) _ _ (by rfl) w.heap.size _ _ _ _ (by rfl) (by exact hown1.mono hbW) _ _ _ _ (by rfl) (by exact hsuf1) (by omega) (by exact hblk.size) ?_; intro aX cX wX hownX hgrX; have hblX := below_app hblk hgrX (hown1.mono hbW) (Nat.le_refl _) hblk.size))
        rw [HL.out, HJ.out, HNQ.out] at hownX
        rw [HNQ.out]
        go_wp2_with fail
        go_roundw
        case rel => exact ⟨j, aX, cX, by omega, rfl, by go_num, hownX, hblX⟩
        case measure => simp [intOf]; omega
theorem sHalveAll_all (w : World) (a : Option Addr) (n c : Nat) (xs : List Int) (h : Row w a n c xs) :
    Calls Try.prog 21 #[.slice a n c] w fun e w' => Fresh w w' e (hallR xs).length (hallR xs) := by
  cases hv : cube xs
  · rw [show hallR xs = [] by simp [hallR, hv]]
    refine (sHalveAll_no w a n c xs h hv).mono ?_
    rintro e w' ⟨rfl, rfl⟩
    exact Fresh.mk (own_nil _ _) (Below.refl _ _)
  · refine (sHalveAll_yes w a n c xs h hv).mono ?_
    rintro e w' ⟨a1, c1, rfl, hown, hbl⟩
    have hl := hown.len
    exact Fresh.mk' hown hbl (by rw [← hl]; simp [hallR, hv]) (by simp [hallR, hv])
set_option maxHeartbeats 400000 in
theorem sUnhalveAll_no (w : World) (a : Option Addr) (n c : Nat) (xs : List Int) (h : Row w a n c xs) (hv : cube xs = false) :
    Calls Try.prog 19 #[.slice a n c] w fun e w' => e = .returned (.slice none 0 0) ∧ w = w' := by
  go_enter Try.func19, Try.ntmps19
  go_wp2_with fail
  refine (validCube_is w a n c xs false h hv).mono ?_
  rintro e w' ⟨rfl, rfl⟩
  go_wp2_with fail
  go_ret
  exact ⟨rfl, rfl⟩
set_option maxHeartbeats 1600000 in
theorem sUnhalveAll_yes (w : World) (a : Option Addr) (n c : Nat) (xs : List Int) (h : Row w a n c xs) (hv : cube xs = true) :
    Calls Try.prog 19 #[.slice a n c] w fun e w' => Fresh w w' e n (uallL xs (lgN xs.length)) := by
  have hlen : Hid (xs.length = n) := h.len
  obtain ⟨kk, hkk, hnk, hk4, hbd0⟩ := cube_kk hv h.len
  rw [h.len, ← hkk]
  have hn16 : n ≤ 16 := by rw [hnk]; exact p2_16 hk4
  have hn1 : 1 ≤ n := by have := p2_pos kk; omega
  have hbd := Lib.hid hbd0
  have HN := Lib.hid hnk
  clear hbd0 hnk hkk
  go_enter Try.func19, Try.ntmps19
  go_wp2_with fail
  refine (validCube_is w a n c xs true h hv).mono ?_
  rintro e w' ⟨rfl, rfl⟩
  go_wp2_with (at_builtin; go_must (refine copy_row w w.heap.size rfl rfl _ _ rfl _ _ _ _ rfl rfl h (by omega) ?_); intro a0 c0 w0 hown0 hb0 hsz0)
  have hx0 : tab (Ud 0 (el xs)) n = xs := by show tab (el xs) n = xs; rw [← hlen.out]; exact tab_el xs
  have HX0 := Lib.hid hx0
  clear hx0
  go_loopw [3, 4] (fun v u wr => ∃ (j : Nat) (a1 : Option Addr) (c1 : Nat), j ≤ kk ∧ v = .slice a1 n c1 ∧ u = .int .i64 ((2 * p2 j : Nat) : Int) ∧ Own wr w.heap.size a1 n c1 (tab (Ud j (el xs)) n) ∧ Below w.heap.size w wr) (fun _ u _ => 33 - (intOf u).toNat)
  case atStart => exact ⟨0, _, _, Nat.zero_le _, rfl, rfl, by rw [HX0.out]; exact hown0, hb0⟩
  case round =>
    obtain ⟨j, a0, c0, hj, rfl, rfl, hown, hbl⟩ := hrel
    clear hown0 hb0
    by_cases hlt : j < kk
    · have hp := p2_pos j
      have hps := p2_succ j
      have hpn0 : 2 * p2 j ≤ n := by rw [HN.out, ← p2_succ]; exact p2_le hlt
      have hUd : Ud (j + 1) (el xs) = ust (Ud j (el xs)) (p2 j) := rfl
      have hjoin := ust_join (f := Ud j (el xs)) hpn0
      rw [← hUd] at hjoin
      have hpb := @Ud_bd (el xs) n hbd.out j (by omega)
      have h81 := pow3_81 (show j ≤ 4 by omega)
      have hb9 : ∀ i, i < 2 * p2 j → -1000000000 ≤ el ((tab (Ud j (el xs)) n).take (2 * p2 j)) i ∧ el ((tab (Ud j (el xs)) n).take (2 * p2 j)) i ≤ 1000000000 := fun i hi => by
        rw [tab_take hpn0, el_tab hi]; have := hpb i (by omega); omega
      have hlenL : (unhalveL ((tab (Ud j (el xs)) n).take (2 * p2 j)) (p2 j)).length = 2 * p2 j := by rw [unhalveL, tab_length]
      have hnx : ((2 * p2 (j + 1) : Nat) : Int) = 2 * ((2 * p2 j : Nat) : Int) := by omega
      have h1 : ((2 * p2 j : Nat) : Int) ≤ (n : Int) := by omega
      clear hUd hpb h81
      have hq0 : 0 < 2 * p2 j := by omega
      generalize hq : 2 * p2 j = q at hpn0 hjoin hb9 hlenL hnx h1 hq0 ⊢
      generalize hL : unhalveL ((tab (Ud j (el xs)) n).take q) (p2 j) = L at hjoin hlenL
      generalize hX : tab (Ud j (el xs)) n = X at hjoin hb9 hL hown
      have HQ := Lib.hid hq
      have HJ := Lib.hid hjoin
      have HB9 := Lib.hid hb9
      have HLL := Lib.hid hlenL
      have HL := Lib.hid hL
      have HNX := Lib.hid hnx
      have HX : Hid (X.length = n) := hown.len
      clear hq hjoin hb9 hlenL hL hX hnx hps hp
      have hrow := (hown.row (by omega)).pre q hpn0
      have hcc := (hown.row (by omega)).cap
      have i1 : (0 : Int) ≤ (q : Int) := by omega
      have i2 : (q : Int) ≤ (n : Int) := by omega
      have i3 : (q : Int) ≤ (c0 : Int) := by omega
      have i4 : (n : Int) ≤ (c0 : Int) := by omega
      obtain ⟨g, rfl, hBg, hgl, _, _⟩ := hown.at 0 (by omega)
      have hblD := hbl.drew
      have hbW : w.heap.size ≤ wr.drew.heap.size := hblD.size
      by_cases hcm : c0 = q
      · subst hcm
        obtain rfl : n = c0 := by omega
        have hdr : X.drop n = [] := List.drop_of_length_le (by rw [HX.out]; exact Nat.le_refl _)
        rw [hdr] at HJ
        clear hdr
        go_wp2_with fail
        go_region_held3 (fun _ => True) (trivial)
          (first
            | (go_at_call 44; refine (sunhalve_any wr.drew _ n _ (p2 j) _ hrow.drew HQ.out.symm (by omega) HB9.out).mono ?_; rintro e w1 ⟨a1, c1, rfl, hown1, hb1⟩; have hblk := hblD.trans (hb1.mono hbW))
            | (refine step_app_own _ (by rfl) _ _ (by rfl) w.heap.size _ _ _ _ (by rfl) (by exact hown1.mono hbW) _ _ _ _ (by rfl) (by exact row_none) (by omega) (by exact hblk.size) ?_; intro aX cX wX hownX hgrX; have hblX := below_app hblk hgrX (hown1.mono hbW) (Nat.le_refl _) hblk.size))
        rw [HL.out, HJ.out] at hownX
        go_wp2_with fail
        go_roundw
        case rel => exact ⟨j + 1, aX, cX, by omega, rfl, by rw [HNX.out], hownX, hblX⟩
        case measure => simp [intOf]; omega
      · have hsuf := ((hown.row (by omega)).suf q hpn0 g rfl).drew
        have hnq : q + (n - q) = n := by omega
        have HNQ := Lib.hid hnq
        clear hnq
        have hz : ¬ (c0 - q = 0) := by omega
        go_wp2_with fail
        go_region_held3 (fun _ => True) (trivial)
          (first
            | (go_at_call 44; refine (sunhalve_any wr.drew _ q _ (p2 j) _ hrow.drew HQ.out.symm (by omega) HB9.out).mono ?_; rintro e w1 ⟨a1, c1, rfl, hown1, hb1⟩; have hblk := hblD.trans (hb1.mono hbW); have hsuf1 := hsuf.below hb1)
            | (refine step_app_own _ (by rfl) _ _ (by rfl) w.heap.size _ _ _ _ (by rfl) (by exact hown1.mono hbW) _ _ _ _ (by rfl) (by exact hsuf1) (by omega) (by exact hblk.size) ?_; intro aX cX wX hownX hgrX; have hblX := below_app hblk hgrX (hown1.mono hbW) (Nat.le_refl _) hblk.size))
        rw [HL.out, HJ.out, HNQ.out] at hownX
        rw [HNQ.out]
        go_wp2_with fail
        go_roundw
        case rel => exact ⟨j + 1, aX, cX, by omega, rfl, by rw [HNX.out], hownX, hblX⟩
        case measure => simp [intOf]; omega
    · obtain rfl : j = kk := by omega
      have h1 : (n : Int) < ((2 * p2 j : Nat) : Int) := by have := HN.out; have := p2_pos j; omega
      have hp16 := p2_16 hk4
      go_wp2_with fail
      go_ret
      refine Fresh.mk' hown hbl rfl ?_
      rw [uallL, ← HN.out]
theorem sUnhalveAll_all (w : World) (a : Option Addr) (n c : Nat) (xs : List Int) (h : Row w a n c xs) :
    Calls Try.prog 19 #[.slice a n c] w fun e w' => Fresh w w' e (uallR xs).length (uallR xs) := by
  cases hv : cube xs
  · rw [show uallR xs = [] by simp [uallR, hv]]
    refine (sUnhalveAll_no w a n c xs h hv).mono ?_
    rintro e w' ⟨rfl, rfl⟩
    exact Fresh.mk (own_nil _ _) (Below.refl _ _)
  · refine (sUnhalveAll_yes w a n c xs h hv).mono ?_
    rintro e w' ⟨a1, c1, rfl, hown, hbl⟩
    have hl := hown.len
    exact Fresh.mk' hown hbl (by rw [← hl]; simp [uallR, hv]) (by simp [uallR, hv])
end Go.Proofs.Ytbaamhniffpnpaa
