/-
  Leaps: sums beside a number, the plain notions, the program's LeapOf and UnleapOf.
-/
import Derived.Test.YtmfffmipnbdpjaaGreatDoorHAllX
import Derived.Deep.DeepCutAuto
namespace Go.Proofs.YtmfffmipnbdpjaaGreatDoor
open Go.RowKit

/-- A number and the next one, or it twice. -/
def arr (f : Nat → Int) (h i : Nat) : Int := if i + 1 < h then f i + f (i + 1) else 2 * f i
/-- A number and the one ahead, or it twice. -/
def bef (f : Nat → Int) (i : Nat) : Int := if 0 < i then f i + f (i - 1) else 2 * f i
def dAt (f : Nat → Int) (h i : Nat) : Int := f (2 * i + 1) - arr (fun j => f (2 * j)) h i / 2
def sAt (f : Nat → Int) (h i : Nat) : Int := f (2 * i) + (bef (dAt f h) i + 2) / 4
def leapL (xs : List Int) (h : Nat) : List Int := tab (sAt (el xs) h) h ++ tab (dAt (el xs) h) h
def eAt (f : Nat → Int) (h i : Nat) : Int := f i - (bef (fun j => f (h + j)) i + 2) / 4
def ulAt (f : Nat → Int) (h i : Nat) : Int := if i % 2 = 0 then eAt f h (i / 2) else f (h + i / 2) + arr (eAt f h) h (i / 2) / 2
def unleapL (xs : List Int) (h : Nat) : List Int := tab (ulAt (el xs) h) (2 * h)

theorem arr_bd {f : Nat → Int} {M : Int} {h i : Nat} (hb : ∀ i, i < h → -M ≤ f i ∧ f i ≤ M) (hi : i < h) : -(2 * M) ≤ arr f h i ∧ arr f h i ≤ 2 * M := by
  rw [arr]; have h1 := hb i hi
  split
  · have h2 := hb (i + 1) (by omega); omega
  · omega
theorem bef_bd {f : Nat → Int} {M : Int} {i : Nat} (hb : ∀ j, j ≤ i → -M ≤ f j ∧ f j ≤ M) : -(2 * M) ≤ bef f i ∧ bef f i ≤ 2 * M := by
  rw [bef]; have h1 := hb i (Nat.le_refl _)
  split
  · have h2 := hb (i - 1) (by omega); omega
  · omega
theorem arr_congr {f g : Nat → Int} {h i : Nat} (hi : i < h) (e : ∀ j, j < h → f j = g j) : arr f h i = arr g h i := by
  rw [arr, arr, e i hi]
  split
  · rw [e (i + 1) (by omega)]
  · rfl
theorem bef_congr {f g : Nat → Int} {i : Nat} (e : ∀ j, j ≤ i → f j = g j) : bef f i = bef g i := by
  rw [bef, bef, e i (Nat.le_refl _), e (i - 1) (by omega)]

set_option maxRecDepth 100000 in
set_option maxHeartbeats 800000 in
theorem around_any (w : World) (a : Option Addr) (h c i : Nat) (xs : List Int) (hr : Row w a h c xs) (hi : i < h) (hh : h ≤ 1000) (hb : ∀ i, i < h → -1000000000 ≤ el xs i ∧ el xs i ≤ 1000000000) :
    Calls Tryz.prog 64 #[.slice a h c, .int .i64 i] w fun e w' => Counts w w' e (arr (el xs) h i) := by
  obtain ⟨b, off, rfl, hbb, hcell⟩ := hr.at (by omega)
  have HC : Hid (∀ w', Below w.heap.size w w' → ∀ j, j < h → w'.cell? ⟨b, off + j, none⟩ = some (.int .i64 (el xs j))) := hcell
  have hc := hcell w (Below.refl _ _) i hi
  have he := hb i hi
  have i1 : (0 : Int) ≤ (i : Int) := by omega
  have i2 : (i : Int) < h := by omega
  clear hcell
  by_cases hlt : i + 1 < h
  · have hc1 := HC.out w (Below.refl _ _) (i + 1) hlt
    have he1 := hb (i + 1) hlt
    have HA : Hid (arr (el xs) h i = el xs i + el xs (i + 1)) := by rw [Hid, arr, if_pos hlt]
    clear hb
    have i3 : (0 : Int) ≤ (i : Int) + 1 := by omega
    have i4 : (i : Int) + 1 < h := by omega
    have i5 : ((i : Int) + 1).toNat = i + 1 := by omega
    have j1 : IntKind.i64.wrap ((i : Int) + 1) = (i : Int) + 1 := IntWalk.i64_in _ (by omega)
    have j2 : IntKind.i64.wrap (el xs i + el xs (i + 1)) = el xs i + el xs (i + 1) := IntWalk.i64_in _ (by omega)
    go_enter Tryz.func64, Tryz.ntmps64
    go_wp2
    go_quiet (fail)
    go_wp2
    go_ret
    exact ⟨ret_int HA.out.symm, bdrewN (Below.refl _ _) _⟩
  · have HA : Hid (arr (el xs) h i = 2 * el xs i) := by rw [Hid, arr, if_neg hlt]
    clear hb
    go_enter Tryz.func64, Tryz.ntmps64
    go_wp2
    go_ret
    exact ⟨ret_int HA.out.symm, Below.refl _ _⟩
set_option maxRecDepth 100000 in
set_option maxHeartbeats 800000 in
theorem before_any (w : World) (a : Option Addr) (h c i : Nat) (xs : List Int) (hr : Row w a h c xs) (hi : i < h) (hh : h ≤ 1000) (hb : ∀ i, i < h → -1000000000 ≤ el xs i ∧ el xs i ≤ 1000000000) :
    Calls Tryz.prog 65 #[.slice a h c, .int .i64 i] w fun e w' => Counts w w' e (bef (el xs) i) := by
  obtain ⟨b, off, rfl, hbb, hcell⟩ := hr.at (by omega)
  have HC : Hid (∀ w', Below w.heap.size w w' → ∀ j, j < h → w'.cell? ⟨b, off + j, none⟩ = some (.int .i64 (el xs j))) := hcell
  have hc := hcell w (Below.refl _ _) i hi
  have he := hb i hi
  have i1 : (0 : Int) ≤ (i : Int) := by omega
  have i2 : (i : Int) < h := by omega
  clear hcell
  by_cases hlt : 0 < i
  · have hc1 := HC.out w (Below.refl _ _) (i - 1) (by omega)
    have he1 := hb (i - 1) (by omega)
    have HA : Hid (bef (el xs) i = el xs i + el xs (i - 1)) := by rw [Hid, bef, if_pos hlt]
    clear hb
    have i3 : (0 : Int) ≤ (i : Int) - 1 := by omega
    have i33 : (1 : Int) ≤ (i : Int) := by omega
    have i4 : (i : Int) - 1 < h := by omega
    have i5 : ((i : Int) - 1).toNat = i - 1 := by omega
    have j1 : IntKind.i64.wrap ((i : Int) - 1) = (i : Int) - 1 := IntWalk.i64_in _ (by omega)
    have j2 : IntKind.i64.wrap (el xs i + el xs (i - 1)) = el xs i + el xs (i - 1) := IntWalk.i64_in _ (by omega)
    go_enter Tryz.func65, Tryz.ntmps65
    go_wp2
    go_quiet (fail)
    go_wp2
    go_ret
    exact ⟨ret_int HA.out.symm, bdrewN (Below.refl _ _) _⟩
  · have HA : Hid (bef (el xs) i = 2 * el xs i) := by rw [Hid, bef, if_neg hlt]
    clear hb
    go_enter Tryz.func65, Tryz.ntmps65
    go_wp2
    go_ret
    exact ⟨ret_int HA.out.symm, Below.refl _ _⟩

theorem dAt_bd {f : Nat → Int} {h i : Nat} (hb : ∀ i, i < 2 * h → -1000 ≤ f i ∧ f i ≤ 1000) (hi : i < h) : -2001 ≤ dAt f h i ∧ dAt f h i ≤ 2001 := by
  have h1 := hb (2 * i + 1) (by omega)
  have h2 := @arr_bd (fun j => f (2 * j)) 1000 h i (fun j hj => hb (2 * j) (by omega)) hi
  rw [dAt]; omega
theorem sAt_bd {f : Nat → Int} {h i : Nat} (hb : ∀ i, i < 2 * h → -1000 ≤ f i ∧ f i ≤ 1000) (hi : i < h) : -3000 ≤ sAt f h i ∧ sAt f h i ≤ 3000 := by
  have h1 := hb (2 * i) (by omega)
  have h2 := @bef_bd (dAt f h) 2001 i (fun j hj => dAt_bd hb (by omega))
  rw [sAt]; omega
theorem around_is (w : World) (a : Option Addr) (h c i : Nat) (xs : List Int) (v : Int) (hr : Row w a h c xs) (hi : i < h) (hh : h ≤ 1000) (hb : ∀ i, i < h → -1000000000 ≤ el xs i ∧ el xs i ≤ 1000000000) (hv : arr (el xs) h i = v) :
    Calls Tryz.prog 64 #[.slice a h c, .int .i64 i] w fun e w' => Counts w w' e v := by subst hv; exact around_any w a h c i xs hr hi hh hb
theorem before_is (w : World) (a : Option Addr) (h c i : Nat) (xs : List Int) (v : Int) (hr : Row w a h c xs) (hi : i < h) (hh : h ≤ 1000) (hb : ∀ i, i < h → -1000000000 ≤ el xs i ∧ el xs i ≤ 1000000000) (hv : bef (el xs) i = v) :
    Calls Tryz.prog 65 #[.slice a h c, .int .i64 i] w fun e w' => Counts w w' e v := by subst hv; exact before_any w a h c i xs hr hi hh hb
def leapR (xs : List Int) : List Int := if evenB xs then leapL xs (xs.length / 2) else []
def unleapR (xs : List Int) : List Int := if evenB xs then unleapL xs (xs.length / 2) else []
set_option maxHeartbeats 400000 in
theorem LeapOf_no (w : World) (a : Option Addr) (n c : Nat) (xs : List Int) (h : Row w a n c xs) (hv : evenB xs = false) :
    Calls Tryz.prog 38 #[.slice a n c] w fun e w' => e = .returned (.slice none 0 0) ∧ w = w' := by
  go_enter Tryz.func38, Tryz.ntmps38
  go_wp2_with fail
  refine (even_is w a n c xs false h hv).mono ?_
  rintro e w' ⟨rfl, rfl⟩
  go_wp2_with fail
  go_ret
  exact ⟨rfl, rfl⟩
set_option maxRecDepth 100000 in
set_option maxHeartbeats 3200000 in
theorem LeapOf_yes (w : World) (a : Option Addr) (n c : Nat) (xs : List Int) (hr : Row w a n c xs) (hv : evenB xs = true) :
    Calls Tryz.prog 38 #[.slice a n c] w fun e w' => Fresh w w' e n (leapL xs (xs.length / 2)) := by
  have hlen : Hid (xs.length = n) := hr.len
  obtain ⟨hn2, hn16, hbd0⟩ := evenB_half hv hr.len
  rw [hr.len]
  obtain ⟨h, hh⟩ : ∃ h, h = n / 2 := ⟨_, rfl⟩
  rw [← hh] at hn2 ⊢
  have hnle : n ≤ 2 * h := by omega
  have hnge : 2 * h ≤ n := by omega
  have hbd1 : ∀ i, i < n → -1000 ≤ el xs i ∧ el xs i ≤ 1000 := fun i hi => valid_bd (evenB_yes hv).1 (by rw [hlen.out]; exact hi)
  have hbd := Lib.hid hbd1
  have HN := Lib.hid hn2
  have hhalf : (n : Int) / 2 = h := by omega
  clear hh hbd0 hbd1 hn2
  go_enter Tryz.func38, Tryz.ntmps38
  go_wp2_with fail
  refine (even_is w a n c xs true hr hv).mono ?_
  rintro e w' ⟨rfl, rfl⟩
  go_upto_region 4 with fail
  go_cut [4, 5] (fun s4 s5 wx => ∃ g1 g2 : Nat, s4 = .slice (some ⟨g1, 0, none⟩) h h ∧ s5 = .slice (some ⟨g2, 0, none⟩) h h ∧ Own wx w.heap.size (some ⟨g1, 0, none⟩) h h (tab (fun _ => 0) h) ∧ Own wx w.heap.size (some ⟨g2, 0, none⟩) h h (tab (fun _ => 0) h) ∧ g1 ≠ g2 ∧ Below w.heap.size w wx)
  case first =>
    have hmk := run_make_int h (by omega)
    go_region_held3 (fun _ => True) (trivial) (fail)
    all_goals
      go_wp2_with fail
      go_meet
      first
        | exact ⟨_, _, rfl, rfl, ((own_zeros w w.heap.size h _ rfl (Nat.le_refl _) (by omega)).alloc _).drew, (own_zeros (w.alloc (zeros h)) w.heap.size h (w.heap.size + 1) (by simp) (by omega) (by omega)).drew, by omega, (((Below.refl _ _).alloc (Nat.le_refl _) _).alloc (by simp) _).drew⟩
        | exact ⟨_, _, rfl, rfl, (own_zeros (w.alloc (zeros h)) w.heap.size h (w.heap.size + 1) (by simp) (by omega) (by omega)).drew, ((own_zeros w w.heap.size h _ rfl (Nat.le_refl _) (by omega)).alloc _).drew, by omega, (((Below.refl _ _).alloc (Nat.le_refl _) _).alloc (by simp) _).drew⟩
  case rest =>
    obtain ⟨g1, g2, rfl, rfl, hown1, hown2, hap, hbl⟩ := hcut
    have hm0 := mid_zero (fun i => el xs (2 * i)) (fun _ => 0) h
    rw [← hm0] at hown1
    clear hm0
    go_wp2_with fail
    go_loopw [20] (fun u wr => ∃ k : Nat, k ≤ h ∧ u = .int .i64 k ∧ Own wr w.heap.size (some ⟨g1, 0, none⟩) h h (tab (mid k (fun i => el xs (2 * i)) (fun _ => 0)) h) ∧ Own wr w.heap.size (some ⟨g2, 0, none⟩) h h (tab (fun _ => 0) h) ∧ Below w.heap.size w wr) (fun u _ => h - (intOf u).toNat)
    case atStart => exact ⟨0, Nat.zero_le _, rfl, hown1, hown2, hbl⟩
    case round =>
      obtain ⟨k, hk, rfl, ho1, ho2, hb1⟩ := hrel
      clear hown1 hown2 hbl
      by_cases hlt : k < h
      · obtain ⟨b, off, rfl, hbb, hcell⟩ := (hr.below hb1).cell (2 * k) (by omega)
        have hc := hcell (2 * k) (by omega)
        clear hcell
        obtain ⟨hcell, hfr, hBg, hgl⟩ := ho1.cellK k hlt
        have HST := ho1.store k (el xs (2 * k))
        rw [mid_set (fun i => el xs (2 * i)) (fun _ => 0) hlt] at HST
        have HS2 := ho2.storeOther (i := k) (u := .int .i64 (el xs (2 * k))) hap
        go_wp2_with fail
        go_roundw
        case rel => exact ⟨k + 1, by omega, by go_num, HST, HS2, hb1.setCell (p := ⟨g1, k, none⟩) hBg _⟩
        case measure => simp [intOf]; omega
      · obtain rfl : k = h := by omega
        rw [mid_end] at ho1
        have hm0 := mid_zero (dAt (el xs) k) (fun _ => 0) k
        rw [← hm0] at ho2
        clear hm0
        go_wp2_with fail
        obtain ⟨wo, rfl⟩ : ∃ wo : World, wo = wr := ⟨_, rfl⟩
        go_loopw [33] (fun u wr => ∃ j : Nat, j ≤ k ∧ u = .int .i64 j ∧ Own wr w.heap.size (some ⟨g1, 0, none⟩) k k (tab (fun i => el xs (2 * i)) k) ∧ Own wr w.heap.size (some ⟨g2, 0, none⟩) k k (tab (mid j (dAt (el xs) k) (fun _ => 0)) k) ∧ Below w.heap.size w wr) (fun u _ => k - (intOf u).toNat)
        case atStart => exact ⟨0, Nat.zero_le _, rfl, ho1, ho2, hb1⟩
        case round =>
          obtain ⟨j, hj, rfl, hp1, hp2, hb2⟩ := hrel
          clear ho1 ho2 hb1
          by_cases hjk : j < k
          · obtain ⟨b, off, rfl, hbb, hcell⟩ := hr.at (by omega)
            have HC : Hid (∀ w', Below w.heap.size w w' → ∀ j, j < n → w'.cell? ⟨b, off + j, none⟩ = some (.int .i64 (el xs j))) := hcell
            have hc1 := hcell wr hb2 (2 * j + 1) (by omega)
            clear hcell
            have hbx : ∀ i, i < k → -1000 ≤ el (tab (fun i => el xs (2 * i)) k) i ∧ el (tab (fun i => el xs (2 * i)) k) i ≤ 1000 := fun i hi => by rw [el_tab hi]; exact hbd.out (2 * i) (by omega)
            have HBX : Hid (∀ i, i < k → -1000000000 ≤ el (tab (fun i => el xs (2 * i)) k) i ∧ el (tab (fun i => el xs (2 * i)) k) i ≤ 1000000000) := fun i hi => by have := hbx i hi; omega
            have HA : Hid (arr (el (tab (fun i => el xs (2 * i)) k)) k j = arr (fun i => el xs (2 * i)) k j) := arr_congr hjk fun i hi => el_tab hi
            have hav := @arr_bd (fun i => el xs (2 * i)) 1000 k j (fun i hi => hbd.out (2 * i) (by omega)) hjk
            have he1 := hbd.out (2 * j + 1) (by omega)
            have HD : Hid (dAt (el xs) k j = el xs (2 * j + 1) - arr (fun i => el xs (2 * i)) k j / 2) := rfl
            clear hbx
            generalize arr (fun i => el xs (2 * i)) k j = A at HA hav HD
            obtain ⟨hcell, hfr, hBg, hgl⟩ := hp2.cellK j hjk
            rw [mid_at _ _ hjk] at hcell
            have i1 : (0 : Int) ≤ 2 * (j : Int) + 1 := by omega
            have i2 : 2 * (j : Int) + 1 < n := by omega
            have i3 : (2 * (j : Int) + 1).toNat = 2 * j + 1 := by omega
            have i4 : (0 : Int) ≤ (j : Int) := by omega
            have i5 : (j : Int) < k := by omega
            have j0 : IntKind.i64.wrap (2 * (j : Int)) = 2 * (j : Int) := IntWalk.i64_in _ (by omega)
            have j1 : IntKind.i64.wrap (2 * (j : Int) + 1) = 2 * (j : Int) + 1 := IntWalk.i64_in _ (by omega)
            have j2 : IntKind.i64.wrap (el xs (2 * j + 1) - A / 2) = el xs (2 * j + 1) - A / 2 := IntWalk.i64_in _ (by omega)
            have hcK := fun (w1 : World) (hb : Below wr.heap.size wr.drew w1) => (hp2.drew.below hb).cellK j hjk
            have HCK := Lib.hid hcK
            clear hcK
            have hbD : Below w.heap.size w wr.drew := hb2.drew
            go_wp2_with fail
            go_region_held3 (fun w' => w'.cell? ⟨b, off + (2 * j + 1), none⟩ = some (.int .i64 (el xs (2 * j + 1))))
              (first | go_keep | exact HC.out _ (hbD.trans (hbQ.mono hbD.size)) _ (by omega) | exact HC.out _ ((hbD.trans (hbQ.mono hbD.size)).setCell (p := ⟨g2, j, none⟩) hBg _) _ (by omega))
              (first
                | (go_at_call 64; refine (around_is wr.drew _ k _ j _ A (hp1.drew.row (by omega)) hjk (by omega) HBX.out HA.out).mono ?_; rintro e w1 ⟨rfl, hbQ⟩; have hcQ := (HCK.out _ hbQ).1; have hfQ := (HCK.out _ hbQ).2.1)
                | (go_at_call 63; refine (down2_any _ _ (by omega) (by omega)).mono ?_; rintro e w' ⟨rfl, rfl⟩))
            clear j0 j1 j2
            have hq2 := (hp2.drew.below hbQ).store j (el xs (2 * j + 1) - A / 2)
            rw [← HD.out, mid_set _ _ hjk, HD.out] at hq2
            have hq1 := (hp1.drew.below hbQ).storeOther (i := j) (u := .int .i64 (el xs (2 * j + 1) - A / 2)) (Ne.symm hap)
            have hq3 := (hbD.trans (hbQ.mono hbD.size)).setCell (p := ⟨g2, j, none⟩) hBg (.int .i64 (el xs (2 * j + 1) - A / 2))
            go_wp2_with fail
            go_roundw
            case rel => exact ⟨j + 1, by omega, by go_num, hq1, hq2, hq3⟩
            case measure => simp [intOf]; omega
          · obtain rfl : j = k := by omega
            rw [mid_end] at hp2
            have hm0 := mid_zero (sAt (el xs) j) (fun i => el xs (2 * i)) j
            rw [← hm0] at hp1
            clear hm0
            go_wp2_with fail
            obtain ⟨wo2, rfl⟩ : ∃ wo2 : World, wo2 = wr := ⟨_, rfl⟩
            go_loopw [52] (fun u wr => ∃ k : Nat, k ≤ j ∧ u = .int .i64 k ∧ Own wr w.heap.size (some ⟨g1, 0, none⟩) j j (tab (mid k (sAt (el xs) j) (fun i => el xs (2 * i))) j) ∧ Own wr w.heap.size (some ⟨g2, 0, none⟩) j j (tab (dAt (el xs) j) j) ∧ Below w.heap.size w wr) (fun u _ => j - (intOf u).toNat)
            case atStart => exact ⟨0, Nat.zero_le _, rfl, hp1, hp2, hb2⟩
            case round =>
              obtain ⟨k, hk, rfl, ho1, ho2, hb1⟩ := hrel
              clear hp1 hp2 hb2
              by_cases hkj : k < j
              · have hdb : ∀ i, i < j → -2001 ≤ el (tab (dAt (el xs) j) j) i ∧ el (tab (dAt (el xs) j) j) i ≤ 2001 := fun i hi => by rw [el_tab hi]; exact dAt_bd (fun t ht => hbd.out t (by omega)) hi
                have HDB : Hid (∀ i, i < j → -1000000000 ≤ el (tab (dAt (el xs) j) j) i ∧ el (tab (dAt (el xs) j) j) i ≤ 1000000000) := fun i hi => by have := hdb i hi; omega
                have HA : Hid (bef (el (tab (dAt (el xs) j) j)) k = bef (dAt (el xs) j) k) := bef_congr fun i hi => el_tab (by omega)
                have hav := @bef_bd (dAt (el xs) j) 2001 k (fun i hi => dAt_bd (fun t ht => hbd.out t (by omega)) (by omega))
                have he1 := hbd.out (2 * k) (by omega)
                have HD : Hid (sAt (el xs) j k = el xs (2 * k) + (bef (dAt (el xs) j) k + 2) / 4) := rfl
                clear hdb
                generalize bef (dAt (el xs) j) k = A at HA hav HD
                obtain ⟨hcell, hfr, hBg, hgl⟩ := ho1.cellK k hkj
                rw [mid_at _ _ hkj] at hcell
                have i4 : (0 : Int) ≤ (k : Int) := by omega
                have i5 : (k : Int) < j := by omega
                have j2 : IntKind.i64.wrap (A + 2) = A + 2 := IntWalk.i64_in _ (by omega)
                have j3 : IntKind.i64.wrap (el xs (2 * k) + (A + 2) / 4) = el xs (2 * k) + (A + 2) / 4 := IntWalk.i64_in _ (by omega)
                have hcK := fun (w1 : World) (hb : Below wr.heap.size wr.drew w1) => (ho1.drew.below hb).cellK k hkj
                have HCK := Lib.hid hcK
                clear hcK
                have hbD : Below w.heap.size w wr.drew := hb1.drew
                go_wp2_with fail
                go_region_with (first
                  | (go_at_call 65; refine (before_is wr.drew _ j _ k _ A (ho2.drew.row (by omega)) hkj (by omega) HDB.out HA.out).mono ?_; rintro e w1 ⟨rfl, hbQ⟩; have hcQ := (HCK.out _ hbQ).1; rw [mid_at _ _ hkj] at hcQ; have hfQ := (HCK.out _ hbQ).2.1)
                  | (go_at_call 63; refine (down4_any _ _ (by omega) (by omega)).mono ?_; rintro e w' ⟨rfl, rfl⟩))
                all_goals
                  clear j2 j3
                  have hq1 := (ho1.drew.below hbQ).store k (el xs (2 * k) + (A + 2) / 4)
                  rw [← HD.out, mid_set _ _ hkj, HD.out] at hq1
                  have hq2 := (ho2.drew.below hbQ).storeOther (i := k) (u := .int .i64 (el xs (2 * k) + (A + 2) / 4)) hap
                  have hq3 := (hbD.trans (hbQ.mono hbD.size)).setCell (p := ⟨g1, k, none⟩) hBg (.int .i64 (el xs (2 * k) + (A + 2) / 4))
                  go_wp2_with fail
                  go_roundw
                  case rel => exact ⟨k + 1, by omega, by go_num, hq1, hq2, hq3⟩
                  case measure => simp [intOf]; omega
              · obtain rfl : k = j := by omega
                rw [mid_end] at ho1
                have hr1 := ho1.row (by omega)
                have hr2 := ho2.row (by omega)
                go_wp2_with (at_builtin; (first
                  | (refine copy_row wr wr.heap.size rfl rfl _ _ rfl _ _ _ _ rfl rfl hr1 (by omega) ?_; intro aX cX wX hownX hbX hszX; have hr2X := hr2.below hbX)
                  | (refine wpList_app_own wX rfl _ _ rfl wr.heap.size _ _ _ _ rfl hownX _ _ _ _ rfl hr2X (by omega) (by omega) ?_; intro aY cY wY hownY hgrY)))
                go_ret
                exact Fresh.mk' (hownY.mono hb1.size) (hb1.trans ((below_app hbX hgrY hownX (Nat.le_refl _) (by omega)).mono hb1.size)) (by omega) rfl
theorem LeapOf_all (w : World) (a : Option Addr) (n c : Nat) (xs : List Int) (h : Row w a n c xs) :
    Calls Tryz.prog 38 #[.slice a n c] w fun e w' => Fresh w w' e (leapR xs).length (leapR xs) := by
  cases hv : evenB xs
  · rw [show leapR xs = [] by simp [leapR, hv]]
    refine (LeapOf_no w a n c xs h hv).mono ?_
    rintro e w' ⟨rfl, rfl⟩
    exact Fresh.mk (own_nil _ _) (Below.refl _ _)
  · refine (LeapOf_yes w a n c xs h hv).mono ?_
    rintro e w' ⟨a1, c1, rfl, hown, hbl⟩
    have hl := hown.len
    exact Fresh.mk' hown hbl (by rw [← hl]; simp [leapR, hv]) (by simp [leapR, hv])
end Go.Proofs.YtmfffmipnbdpjaaGreatDoor
