/-
  The reference's UnleapOf.
-/
import Derived.Test.YtbaamhniffpnpaaLeapS
namespace Go.Proofs.Ytbaamhniffpnpaa
open Go.RowKit

set_option maxHeartbeats 400000 in
theorem sUnleapOf_no (w : World) (a : Option Addr) (n c : Nat) (xs : List Int) (h : Row w a n c xs) (hv : evenB xs = false) :
    Calls Try.prog 13 #[.slice a n c] w fun e w' => e = .returned (.slice none 0 0) ∧ w = w' := by
  go_enter Try.func13, Try.ntmps13
  go_wp2_with fail
  refine (validEven_is w a n c xs false h hv).mono ?_
  rintro e w' ⟨rfl, rfl⟩
  go_wp2_with fail
  go_ret
  exact ⟨rfl, rfl⟩
set_option maxHeartbeats 800000 in
theorem sUnleapOf_zero (w : World) (a : Option Addr) (c : Nat) (xs : List Int) (hr : Row w a 0 c xs) (hv : evenB xs = true) :
    Calls Try.prog 13 #[.slice a 0 c] w fun e w' => Fresh w w' e 0 [] := by
  obtain ⟨a5, c5, h5⟩ : ∃ (a5 : Option Addr) (c5 : Nat), ∀ w : World, (Instr.slice 22 (.slice a 0 c) (some (.int .i64 0)) none none).run Try.prog w = .ok (.slice a5 0 c5) w := by
    cases a with
    | none => obtain rfl : c = 0 := hr.nil rfl; exact ⟨none, 0, fun w => by kernel_rfl⟩
    | some ad => exact ⟨some ad, c, fun w => by simp [go_sem]⟩
  go_enter Try.func13, Try.ntmps13
  go_wp2_with fail
  refine (validEven_is w a 0 c xs true hr hv).mono ?_
  rintro e w' ⟨rfl, rfl⟩
  go_wp2_with fail
  go_loop [6] (fun u => u = .int .i64 0) (fun _ => 0)
  case atStart => rfl
  case round =>
    obtain rfl := hrel
    go_wp2_with fail
    go_loop [8, 9] (fun v u => v = .slice (some ⟨w.heap.size + 1, 0, none⟩) 0 0 ∧ u = .int .i64 0) (fun _ _ => 0)
    case atStart => exact ⟨rfl, rfl⟩
    case round =>
      obtain ⟨rfl, rfl⟩ := hrel
      go_wp2_with fail
      go_ret
      have ho := own_empty (w.alloc (.cells #[] 3))
      rw [show (w.alloc (.cells #[] 3)).heap.size = w.heap.size + 1 by simp] at ho
      exact Fresh.mk (Own.mono (B' := w.heap.size) ho (by omega)) (((Below.refl _ _).alloc (Nat.le_refl _) _).alloc (by simp) _)
set_option maxHeartbeats 3200000 in
theorem sUnleapOf_pos (w : World) (a : Option Addr) (n c : Nat) (xs : List Int) (hr : Row w a n c xs) (hv : evenB xs = true) (hn0 : 0 < n) :
    Calls Try.prog 13 #[.slice a n c] w fun e w' => Fresh w w' e n (unleapL xs (xs.length / 2)) := by
  have hlen : Hid (xs.length = n) := hr.len
  obtain ⟨hn2, hn16, hbd0⟩ := evenB_half hv hr.len
  rw [hr.len]
  obtain ⟨h, hh⟩ : ∃ h, h = n / 2 := ⟨_, rfl⟩
  rw [← hh] at hn2 ⊢
  have hnle : n ≤ 2 * h := by omega
  have hnge : 2 * h ≤ n := by omega
  have hh0 : 0 < h := by omega
  have hbd1 : ∀ i, i < n → -1000 ≤ el xs i ∧ el xs i ≤ 1000 := fun i hi => valid_bd (evenB_yes hv).1 (by rw [hlen.out]; exact hi)
  have hbd := Lib.hid hbd1
  have HN := Lib.hid hn2
  have hhalf : (n : Int) / 2 = h := by omega
  clear hh hbd0 hbd1 hn2
  have hcc := hr.cap
  obtain ⟨b, off, rfl, hbb, hcell⟩ := hr.at hn0
  have HC : Hid (∀ w', Below w.heap.size w w' → ∀ j, j < n → w'.cell? ⟨b, off + j, none⟩ = some (.int .i64 (el xs j))) := hcell
  have HE : Hid (∀ w', Below w.heap.size w w' → ∀ j, j < h → w'.cell? ⟨b, off + h + j, none⟩ = some (.int .i64 (el xs (h + j)))) := fun w' hb j hj => by rw [Nat.add_assoc]; exact hcell w' hb (h + j) (by omega)
  clear hcell
  have i1 : (0 : Int) ≤ (h : Int) := by omega
  have i2 : (h : Int) ≤ (n : Int) := by omega
  have i3 : (n : Int) ≤ (c : Int) := by omega
  have hz : ¬ (c - h = 0) := by omega
  have hnh : n - h = h := by omega
  have hsl : ∀ w : World, (Instr.slice 22 (.slice (some ⟨b, off, none⟩) n c) (some (.int .i64 h)) none none).run Try.prog w = .ok (.slice (some ⟨b, off + h, none⟩) h (c - h)) w := by
    intro w
    have hch : ¬ c = h := by omega
    simp [go_sem, i1, i2, i3, hz, hnh, hch]
  clear hnh hz i2 i3
  go_enter Try.func13, Try.ntmps13
  go_wp2_with fail
  refine (validEven_is w (some ⟨b, off, none⟩) n c xs true hr hv).mono ?_
  rintro e w' ⟨rfl, rfl⟩
  go_wp2_with fail
  clear hsl
  go_loopw [5, 6] (fun v u wr => ∃ (k : Nat) (a1 : Option Addr) (c1 : Nat), k ≤ h ∧ u = .int .i64 k ∧ v = .slice a1 k c1 ∧ Own wr w.heap.size a1 k c1 (tab (eAt (el xs) h) k) ∧ Below w.heap.size w wr ∧ w.heap.size + 1 ≤ wr.heap.size) (fun v _ _ => h - lenOf v)
  case atStart => exact ⟨0, _, 0, Nat.zero_le _, rfl, rfl, own_empty w, (Below.refl _ _).alloc (Nat.le_refl _) _, by simp⟩
  case round =>
    obtain ⟨k, a1, c1, hk, rfl, rfl, hown, hbl, hsz⟩ := hrel
    by_cases hlt : k < h
    · have hc0 := HC.out wr hbl k (by omega)
      have hd0 := HE.out wr hbl k (by omega)
      have he0 := hbd.out k (by omega)
      have he1 := hbd.out (h + k) (by omega)
      by_cases hk0 : 0 < k
      · have hd1 := HE.out wr hbl (k - 1) (by omega)
        have he2 := hbd.out (h + (k - 1)) (by omega)
        have hq : ((k : Int) - 1).toNat = k - 1 := by omega
        have hB : bef (fun j => el xs (h + j)) k = el xs (h + (k - 1)) + el xs (h + k) := by rw [bef]; first | (rw [if_pos (by omega)]; omega) | (rw [if_neg (by omega)]; omega)
        have hD : eAt (el xs) h k = el xs k - (el xs (h + (k - 1)) + el xs (h + k) + 2) / 4 := by rw [eAt, hB]
        have HD := Lib.hid hD
        clear hB hD
        have i4 : (0 : Int) ≤ (k : Int) := by omega
        have i5 : (k : Int) < h := by omega
        have i6 : (k : Int) < n := by omega
        have j2 : IntKind.i64.wrap (el xs (h + (k - 1)) + el xs (h + k)) = el xs (h + (k - 1)) + el xs (h + k) := IntWalk.i64_in _ (by omega)
        have j4 : IntKind.i64.wrap (el xs (h + (k - 1)) + el xs (h + k) + 2) = el xs (h + (k - 1)) + el xs (h + k) + 2 := IntWalk.i64_in _ (by omega)
        have j3 : IntKind.i64.wrap (el xs k - (el xs (h + (k - 1)) + el xs (h + k) + 2) / 4) = el xs k - (el xs (h + (k - 1)) + el xs (h + k) + 2) / 4 := IntWalk.i64_in _ (by omega)
        go_wp2_with fail
        go_region_held3 (fun w' => w'.cell? ⟨b, off + k, none⟩ = some (.int .i64 (el xs k)) ∧ w'.cell? ⟨b, off + h + k, none⟩ = some (.int .i64 (el xs (h + k)))) (first | go_keep | exact ⟨HC.out _ hblX _ (by omega), HE.out _ hblX _ (by omega)⟩)
          (first
            | (go_at_call 38; refine (floor4_any _ _ (by omega) (by omega)).mono ?_; rintro e w' ⟨rfl, rfl⟩)
            | (refine step_app_own _ (by rfl) _ _ (by rfl) w.heap.size _ _ _ _ (by rfl) (by exact (hown.alloc _).drew) _ 1 1 [el xs k - (el xs (h + (k - 1)) + el xs (h + k) + 2) / 4] (by rfl) (by exact (Own.row (own_lit wr wr.heap.size [el xs k - (el xs (h + (k - 1)) + el xs (h + k) + 2) / 4] rfl (by omega) (by simp)) (by simp)).drew) (by omega) (by simp; omega) ?_; intro aX cX wX hownX hgrX; have hblX := below_app (hbl.alloc (by omega) _).drew hgrX (hown.alloc _).drew (Nat.le_refl _) (by simp; omega)))
        clear j2 j3 j4
        go_wp2_with fail
        rw [← HD.out] at hownX
        go_roundw
        case rel => exact ⟨k + 1, aX, cX, by omega, by go_num, rfl, hownX, hblX, by have := hgrX.size; simp at this; omega⟩
        case measure => simp [lenOf]; omega
      · have hB : bef (fun j => el xs (h + j)) k = el xs (h + k) + el xs (h + k) := by rw [bef]; first | (rw [if_pos (by omega)]; omega) | (rw [if_neg (by omega)]; omega)
        have hD : eAt (el xs) h k = el xs k - (el xs (h + k) + el xs (h + k) + 2) / 4 := by rw [eAt, hB]
        have HD := Lib.hid hD
        clear hB hD
        have i4 : (0 : Int) ≤ (k : Int) := by omega
        have i5 : (k : Int) < h := by omega
        have i6 : (k : Int) < n := by omega
        have j2 : IntKind.i64.wrap (el xs (h + k) + el xs (h + k)) = el xs (h + k) + el xs (h + k) := IntWalk.i64_in _ (by omega)
        have j4 : IntKind.i64.wrap (el xs (h + k) + el xs (h + k) + 2) = el xs (h + k) + el xs (h + k) + 2 := IntWalk.i64_in _ (by omega)
        have j3 : IntKind.i64.wrap (el xs k - (el xs (h + k) + el xs (h + k) + 2) / 4) = el xs k - (el xs (h + k) + el xs (h + k) + 2) / 4 := IntWalk.i64_in _ (by omega)
        go_wp2_with fail
        go_region_held3 (fun w' => w'.cell? ⟨b, off + k, none⟩ = some (.int .i64 (el xs k)) ∧ w'.cell? ⟨b, off + h + k, none⟩ = some (.int .i64 (el xs (h + k)))) (first | go_keep | exact ⟨HC.out _ hblX _ (by omega), HE.out _ hblX _ (by omega)⟩)
          (first
            | (go_at_call 38; refine (floor4_any _ _ (by omega) (by omega)).mono ?_; rintro e w' ⟨rfl, rfl⟩)
            | (refine step_app_own _ (by rfl) _ _ (by rfl) w.heap.size _ _ _ _ (by rfl) (by exact (hown.alloc _).drew) _ 1 1 [el xs k - (el xs (h + k) + el xs (h + k) + 2) / 4] (by rfl) (by exact (Own.row (own_lit wr wr.heap.size [el xs k - (el xs (h + k) + el xs (h + k) + 2) / 4] rfl (by omega) (by simp)) (by simp)).drew) (by omega) (by simp; omega) ?_; intro aX cX wX hownX hgrX; have hblX := below_app (hbl.alloc (by omega) _).drew hgrX (hown.alloc _).drew (Nat.le_refl _) (by simp; omega)))
        clear j2 j3 j4
        go_wp2_with fail
        rw [← HD.out] at hownX
        go_roundw
        case rel => exact ⟨k + 1, aX, cX, by omega, by go_num, rfl, hownX, hblX, by have := hgrX.size; simp at this; omega⟩
        case measure => simp [lenOf]; omega
    · obtain rfl : k = h := by omega
      go_wp2_with fail
      have hre := hown.row (by omega)
      have hbe := hbl
      obtain ⟨we, hwe⟩ : ∃ we : World, we = wr := ⟨_, rfl⟩
      subst hwe
      obtain ⟨be, oe, rfl, hbbe, hcelle⟩ := hre.at hh0
      have HCE : Hid (∀ w', Below we.heap.size we w' → ∀ j, j < k → w'.cell? ⟨be, oe + j, none⟩ = some (.int .i64 (eAt (el xs) k j))) := fun w' hb j hj => by rw [hcelle w' hb j hj, el_tab hj]
      clear hcelle hown hbl hre
      go_loopw [8, 9] (fun v u wr => ∃ (j : Nat) (a1 : Option Addr) (c1 : Nat), j ≤ k ∧ u = .int .i64 j ∧ v = .slice a1 (2 * j) c1 ∧ Own wr we.heap.size a1 (2 * j) c1 (tab (ulAt (el xs) k) (2 * j)) ∧ Below we.heap.size we wr ∧ we.heap.size + 1 ≤ wr.heap.size) (fun _ u _ => k - (intOf u).toNat)
      case atStart => exact ⟨0, _, 0, Nat.zero_le _, rfl, rfl, own_empty we, (Below.refl _ _).alloc (Nat.le_refl _) _, by simp⟩
      case round =>
        obtain ⟨h, rfl⟩ : ∃ h, h = k := ⟨_, rfl⟩
        obtain ⟨k, a2, c2, hk2, rfl, rfl, hown, hbl, hsz2⟩ := hrel
        by_cases hlt2 : k < h
        · have hc0 := HCE.out wr hbl k (by omega)
          have hd0 := HE.out wr (hbe.trans (hbl.mono hbe.size)) k (by omega)
          have he0 := hbd.out (h + k) (by omega)
          have he1 := eAt_bd (f := el xs) (h := h) (i := k) (fun t ht => hbd.out t (by omega)) hlt2
          by_cases hk1 : k + 1 < h
          · have hd1 := HCE.out wr hbl (k + 1) (by omega)
            have he2 := eAt_bd (f := el xs) (h := h) (i := k + 1) (fun t ht => hbd.out t (by omega)) hk1
            have hq : ((k : Int) + 1).toNat = k + 1 := by omega
            have hv0 : ulAt (el xs) h (2 * k) = eAt (el xs) h k := by rw [ulAt, if_pos (by omega), show 2 * k / 2 = k by omega]
            have hA : arr (eAt (el xs) h) h k = eAt (el xs) h k + eAt (el xs) h (k + 1) := by rw [arr]; first | rw [if_pos (by omega)] | (rw [if_neg (by omega)]; omega)
            have hv1 : ulAt (el xs) h (2 * k + 1) = el xs (h + k) + (eAt (el xs) h k + eAt (el xs) h (k + 1)) / 2 := by rw [ulAt, if_neg (by omega), show (2 * k + 1) / 2 = k by omega, hA]
            have hcat : tab (ulAt (el xs) h) (2 * k) ++ [eAt (el xs) h k, el xs (h + k) + (eAt (el xs) h k + eAt (el xs) h (k + 1)) / 2] = tab (ulAt (el xs) h) (2 * (k + 1)) := by
              rw [show 2 * (k + 1) = 2 * k + 1 + 1 by omega, tab, tab, hv0, hv1]; simp
            have HCAT := Lib.hid hcat
            clear hv0 hA hv1 hcat
            have i4 : (0 : Int) ≤ (k : Int) := by omega
            have i5 : (k : Int) < h := by omega
            have j2 : IntKind.i64.wrap (eAt (el xs) h k + eAt (el xs) h (k + 1)) = eAt (el xs) h k + eAt (el xs) h (k + 1) := IntWalk.i64_in _ (by omega)
            have j3 : IntKind.i64.wrap (el xs (h + k) + (eAt (el xs) h k + eAt (el xs) h (k + 1)) / 2) = el xs (h + k) + (eAt (el xs) h k + eAt (el xs) h (k + 1)) / 2 := IntWalk.i64_in _ (by omega)
            go_wp2_with fail
            go_region_held3 (fun w' => w'.cell? ⟨be, oe + k, none⟩ = some (.int .i64 (eAt (el xs) h k)) ∧ w'.cell? ⟨b, off + h + k, none⟩ = some (.int .i64 (el xs (h + k)))) (first | go_keep | exact ⟨HCE.out _ hblX _ (by omega), HE.out _ (hbe.trans (hblX.mono hbe.size)) _ (by omega)⟩)
              (first
                | (go_at_call 38; refine (floor2_any _ _ (by omega) (by omega)).mono ?_; rintro e w' ⟨rfl, rfl⟩)
                | (refine step_app_own _ (by rfl) _ _ (by rfl) we.heap.size _ _ _ _ (by rfl) (by exact (hown.alloc _).drew) _ 2 2 [eAt (el xs) h k, el xs (h + k) + (eAt (el xs) h k + eAt (el xs) h (k + 1)) / 2] (by rfl) (by exact (Own.row (own_lit wr wr.heap.size [eAt (el xs) h k, el xs (h + k) + (eAt (el xs) h k + eAt (el xs) h (k + 1)) / 2] rfl (by omega) (by simp)) (by simp)).drew) (by omega) (by simp; omega) ?_; intro aX cX wX hownX hgrX; have hblX := below_app (hbl.alloc (by omega) _).drew hgrX (hown.alloc _).drew (Nat.le_refl _) (by simp; omega)))
            clear j2 j3
            go_wp2_with fail
            rw [HCAT.out] at hownX
            go_roundw
            case rel => exact ⟨k + 1, aX, cX, by omega, by go_num, rfl, hownX, hblX, by have := hgrX.size; simp at this; omega⟩
            case measure => simp [intOf]; omega
          · have hv0 : ulAt (el xs) h (2 * k) = eAt (el xs) h k := by rw [ulAt, if_pos (by omega), show 2 * k / 2 = k by omega]
            have hA : arr (eAt (el xs) h) h k = eAt (el xs) h k + eAt (el xs) h k := by rw [arr]; first | rw [if_pos (by omega)] | (rw [if_neg (by omega)]; omega)
            have hv1 : ulAt (el xs) h (2 * k + 1) = el xs (h + k) + (eAt (el xs) h k + eAt (el xs) h k) / 2 := by rw [ulAt, if_neg (by omega), show (2 * k + 1) / 2 = k by omega, hA]
            have hcat : tab (ulAt (el xs) h) (2 * k) ++ [eAt (el xs) h k, el xs (h + k) + (eAt (el xs) h k + eAt (el xs) h k) / 2] = tab (ulAt (el xs) h) (2 * (k + 1)) := by
              rw [show 2 * (k + 1) = 2 * k + 1 + 1 by omega, tab, tab, hv0, hv1]; simp
            have HCAT := Lib.hid hcat
            clear hv0 hA hv1 hcat
            have i4 : (0 : Int) ≤ (k : Int) := by omega
            have i5 : (k : Int) < h := by omega
            have j2 : IntKind.i64.wrap (eAt (el xs) h k + eAt (el xs) h k) = eAt (el xs) h k + eAt (el xs) h k := IntWalk.i64_in _ (by omega)
            have j3 : IntKind.i64.wrap (el xs (h + k) + (eAt (el xs) h k + eAt (el xs) h k) / 2) = el xs (h + k) + (eAt (el xs) h k + eAt (el xs) h k) / 2 := IntWalk.i64_in _ (by omega)
            go_wp2_with fail
            go_region_held3 (fun w' => w'.cell? ⟨be, oe + k, none⟩ = some (.int .i64 (eAt (el xs) h k)) ∧ w'.cell? ⟨b, off + h + k, none⟩ = some (.int .i64 (el xs (h + k)))) (first | go_keep | exact ⟨HCE.out _ hblX _ (by omega), HE.out _ (hbe.trans (hblX.mono hbe.size)) _ (by omega)⟩)
              (first
                | (go_at_call 38; refine (floor2_any _ _ (by omega) (by omega)).mono ?_; rintro e w' ⟨rfl, rfl⟩)
                | (refine step_app_own _ (by rfl) _ _ (by rfl) we.heap.size _ _ _ _ (by rfl) (by exact (hown.alloc _).drew) _ 2 2 [eAt (el xs) h k, el xs (h + k) + (eAt (el xs) h k + eAt (el xs) h k) / 2] (by rfl) (by exact (Own.row (own_lit wr wr.heap.size [eAt (el xs) h k, el xs (h + k) + (eAt (el xs) h k + eAt (el xs) h k) / 2] rfl (by omega) (by simp)) (by simp)).drew) (by omega) (by simp; omega) ?_; intro aX cX wX hownX hgrX; have hblX := below_app (hbl.alloc (by omega) _).drew hgrX (hown.alloc _).drew (Nat.le_refl _) (by simp; omega)))
            clear j2 j3
            go_wp2_with fail
            rw [HCAT.out] at hownX
            go_roundw
            case rel => exact ⟨k + 1, aX, cX, by omega, by go_num, rfl, hownX, hblX, by have := hgrX.size; simp at this; omega⟩
            case measure => simp [intOf]; omega
        · obtain rfl : k = h := by omega
          go_wp2_with fail
          go_ret
          exact Fresh.mk' (hown.mono hbe.size) (hbe.trans (hbl.mono hbe.size)) (by omega) (by rw [unleapL])
theorem sUnleapOf_yes (w : World) (a : Option Addr) (n c : Nat) (xs : List Int) (hr : Row w a n c xs) (hv : evenB xs = true) :
    Calls Try.prog 13 #[.slice a n c] w fun e w' => Fresh w w' e n (unleapL xs (xs.length / 2)) := by
  by_cases h0 : 0 < n
  · exact sUnleapOf_pos w a n c xs hr hv h0
  · obtain rfl : n = 0 := by omega
    have hl := hr.len
    rw [hl]
    exact sUnleapOf_zero w a c xs hr hv
theorem sUnleapOf_all (w : World) (a : Option Addr) (n c : Nat) (xs : List Int) (h : Row w a n c xs) :
    Calls Try.prog 13 #[.slice a n c] w fun e w' => Fresh w w' e (unleapR xs).length (unleapR xs) := by
  cases hv : evenB xs
  · rw [show unleapR xs = [] by simp [unleapR, hv]]
    refine (sUnleapOf_no w a n c xs h hv).mono ?_
    rintro e w' ⟨rfl, rfl⟩
    exact Fresh.mk (own_nil _ _) (Below.refl _ _)
  · refine (sUnleapOf_yes w a n c xs h hv).mono ?_
    rintro e w' ⟨a1, c1, rfl, hown, hbl⟩
    have hl := hown.len
    exact Fresh.mk' hown hbl (by rw [← hl]; simp [unleapR, hv]) (by simp [unleapR, hv])
theorem leapR_len (xs : List Int) : (leapR xs).length ≤ 1000 := by
  unfold leapR
  split
  · rename_i h
    have := (evenB_yes h).1
    have := valid_len this
    simp [leapL, tab_length]; omega
  · simp
theorem unleapR_len (xs : List Int) : (unleapR xs).length ≤ 1000 := by
  unfold unleapR
  split
  · rename_i h
    have := (evenB_yes h).1
    have := valid_len this
    simp [unleapL, tab_length]; omega
  · simp
end Go.Proofs.Ytbaamhniffpnpaa
