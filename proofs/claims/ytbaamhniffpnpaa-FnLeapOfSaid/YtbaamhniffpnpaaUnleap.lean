/-
  Leaps taken back: the program's UnleapOf.
-/
import Derived.Test.YtbaamhniffpnpaaLeap
namespace Go.Proofs.Ytbaamhniffpnpaa
open Go.RowKit

theorem eAt_bd {f : Nat → Int} {h i : Nat} (hb : ∀ i, i < 2 * h → -1000 ≤ f i ∧ f i ≤ 1000) (hi : i < h) : -2001 ≤ eAt f h i ∧ eAt f h i ≤ 2001 := by
  have h1 := hb i (by omega)
  have h2 := @bef_bd (fun j => f (h + j)) 1000 i (fun j hj => hb (h + j) (by omega))
  rw [eAt]; omega
theorem Row.rest {w : World} {b off n c : Nat} {xs : List Int} (h : Row w (some ⟨b, off, none⟩) n c xs) (m : Nat) (hm : m < n) : Row w (some ⟨b, off + m, none⟩) (n - m) (c - m) (xs.drop m) :=
  ⟨by simp [h.len], by have := h.small; omega, by have := h.cap; omega, (fun e => by cases e), fun i hi => by
    obtain ⟨b1, off1, e, hlt, hc⟩ := h.cell (m + i) (by omega)
    injection e with e; injection e with e1 e2; subst e1; subst e2
    refine ⟨b, off + m, rfl, hlt, fun j hj => ?_⟩
    rw [Nat.add_assoc, hc (m + j) (by omega), el_drop]⟩
theorem el_take {xs : List Int} {m i : Nat} (h : i < m) : el (xs.take m) i = el xs i := by
  unfold el; rw [List.getD_eq_getElem?_getD, List.getD_eq_getElem?_getD, List.getElem?_take_of_lt h]
theorem mid_set2 (f : Nat → Int) {k n : Nat} (h : 2 * k + 1 < n) : ((tab (mid (2 * k) f (fun _ => 0)) n).set (2 * k) (f (2 * k))).set (2 * k + 1) (f (2 * k + 1)) = tab (mid (2 * (k + 1)) f (fun _ => 0)) n := by
  rw [mid_set f _ (by omega), mid_set f _ (by omega), show 2 * (k + 1) = 2 * k + 1 + 1 by omega]

set_option maxHeartbeats 400000 in
theorem UnleapOf_no (w : World) (a : Option Addr) (n c : Nat) (xs : List Int) (h : Row w a n c xs) (hv : evenB xs = false) :
    Calls Try.prog 15 #[.slice a n c] w fun e w' => e = .returned (.slice none 0 0) ∧ w = w' := by
  go_enter Try.func15, Try.ntmps15
  go_wp2_with fail
  refine (even_is w a n c xs false h hv).mono ?_
  rintro e w' ⟨rfl, rfl⟩
  go_wp2_with fail
  go_ret
  exact ⟨rfl, rfl⟩
set_option maxHeartbeats 800000 in
theorem UnleapOf_zero (w : World) (a : Option Addr) (c : Nat) (xs : List Int) (hr : Row w a 0 c xs) (hv : evenB xs = true) :
    Calls Try.prog 15 #[.slice a 0 c] w fun e w' => Fresh w w' e 0 [] := by
  obtain ⟨a5, c5, h5⟩ : ∃ (a5 : Option Addr) (c5 : Nat), ∀ w : World, (Instr.slice 22 (.slice a 0 c) (some (.int .i64 0)) none none).run Try.prog w = .ok (.slice a5 0 c5) w := by
    cases a with
    | none => obtain rfl : c = 0 := hr.nil rfl; exact ⟨none, 0, fun w => by kernel_rfl⟩
    | some ad => exact ⟨some ad, c, fun w => by simp [go_sem]⟩
  obtain ⟨a6, c6, h6, hr6⟩ : ∃ (a5 : Option Addr) (c5 : Nat), (∀ w : World, (Instr.slice 22 (.slice a 0 c) none (some (.int .i64 0)) none).run Try.prog w = .ok (.slice a5 0 c5) w) ∧ ∀ w, Row w a5 0 c5 [] := by
    cases a with
    | none => obtain rfl : c = 0 := hr.nil rfl; exact ⟨none, 0, fun w => by kernel_rfl, fun w => row_nil w⟩
    | some ad => exact ⟨some ad, c, fun w => by simp [go_sem], fun w => ⟨rfl, by omega, by omega, (fun e => by cases e), fun i hi => by omega⟩⟩
  have HR6 := Lib.hid hr6
  clear hr6
  go_enter Try.func15, Try.ntmps15
  go_wp2_with fail
  refine (even_is w a 0 c xs true hr hv).mono ?_
  rintro e w' ⟨rfl, rfl⟩
  have hbA := ((Below.refl _ w).alloc (Nat.le_refl _) (.cells #[] 3)).drew
  go_wp2_with fail
  go_region_held3 (fun _ => True) (trivial)
      ((refine step_app_own _ (by rfl) _ _ (by rfl) w.heap.size _ _ _ [] (by rfl) (by exact (own_empty w).drew) _ _ _ _ (by rfl) (by exact HR6.out _) (by omega) (by exact hbA.size) ?_; intro aX cX wX hownX hgrX; have hblX := below_app hbA hgrX (own_empty w).drew (Nat.le_refl _) hbA.size))
  all_goals
    go_wp2_with fail
    go_loop [24] (fun u => u = .int .i64 0) (fun _ => 0)
    case atStart => rfl
    case round =>
      obtain rfl := hrel
      go_wp2_with (at_make; go_must (refine make_int wX rfl _ _ rfl .i64 .i64 _ _ 0 rfl rfl rfl rfl (by omega) ?_); intro w0 hown0 hb0 hsz0)
      go_loop [43] (fun u => u = .int .i64 0) (fun _ => 0)
      case atStart => rfl
      case round =>
        obtain rfl := hrel
        go_wp2_with fail
        go_ret
        exact Fresh.mk' (hown0.mono hblX.size) (hblX.trans (hb0.mono hblX.size)) rfl rfl
set_option maxHeartbeats 3200000 in
theorem UnleapOf_pos (w : World) (a : Option Addr) (n c : Nat) (xs : List Int) (hr : Row w a n c xs) (hv : evenB xs = true) (hn0 : 0 < n) :
    Calls Try.prog 15 #[.slice a n c] w fun e w' => Fresh w w' e n (unleapL xs (xs.length / 2)) := by
  have hlen : Hid (xs.length = n) := hr.len
  obtain ⟨hn2, hn16, hbd0⟩ := evenB_half hv hr.len
  rw [hr.len]
  obtain ⟨h, hh⟩ : ∃ h, h = n / 2 := ⟨_, rfl⟩
  rw [← hh] at hn2 ⊢
  have hnle : n ≤ 2 * h := by omega
  have hnge : 2 * h ≤ n := by omega
  have hh0 : 0 < h := by omega
  have hbd1 : ∀ i, i < n → -1000 ≤ el xs i ∧ el xs i ≤ 1000 := fun i hi => valid_bd (evenB_yes hv).1 (by rw [hlen.out]; exact hi)
  have hbd := Lib.hid hbd1
  have HN := Lib.hid hn2
  have hhalf : (n : Int) / 2 = h := by omega
  clear hh hbd0 hbd1 hn2
  have hcc := hr.cap
  obtain ⟨b, off, rfl, hbb, _⟩ := hr.at hn0
  have i1 : (0 : Int) ≤ (h : Int) := by omega
  have i2 : (h : Int) ≤ (n : Int) := by omega
  have i3 : (h : Int) ≤ (c : Int) := by omega
  have i4 : (n : Int) ≤ (c : Int) := by omega
  have hz : ¬ (c - h = 0) := by omega
  have hnh : n - h = h := by omega
  have hpre := hr.pre h (by omega)
  have hsuf := hr.rest h (by omega)
  rw [hnh] at hsuf
  have HNH := Lib.hid hnh
  clear hnh
  go_enter Try.func15, Try.ntmps15
  go_wp2_with fail
  refine (even_is w (some ⟨b, off, none⟩) n c xs true hr hv).mono ?_
  rintro e w' ⟨rfl, rfl⟩
  go_upto_region 4 with fail
  go_cut [4, 5] (fun s4 s5 wx => ∃ (g1 : Option Addr) (c1 : Nat), s4 = .slice g1 h c1 ∧ s5 = .slice (some ⟨b, off + h, none⟩) h (c - h) ∧ Own wx w.heap.size g1 h c1 (xs.take h) ∧ Below w.heap.size w wx)
  case first =>
    have hpA := (hpre.below ((Below.refl _ w).alloc (Nat.le_refl _) (.cells #[] 3))).drew
    have hbA := ((Below.refl _ w).alloc (Nat.le_refl _) (.cells #[] 3)).drew
    go_region_held3 (fun _ => True) (trivial)
      ((refine step_app_own _ (by rfl) _ _ (by rfl) w.heap.size _ _ _ [] (by rfl) (by exact (own_empty w).drew) _ _ _ _ (by rfl) (by exact hpA) (by omega) (by exact hbA.size) ?_; intro aX cX wX hownX hgrX; have hblX := below_app hbA hgrX (own_empty w).drew (Nat.le_refl _) hbA.size))
    all_goals
      rw [Nat.zero_add, List.nil_append] at hownX
      rw [Nat.zero_add]
      go_wp2_with fail
      go_meet
      exact ⟨_, _, rfl, by rw [HNH.out], hownX, hblX⟩
  case rest =>
    obtain ⟨a1, c1, rfl, rfl, hown, hbl⟩ := hcut
    obtain ⟨g1, rfl, hBg0, _, _, _⟩ := hown.at 0 hh0
    have htk : xs.take h = tab (mid 0 (eAt (el xs) h) (el xs)) h := by
      rw [mid_zero]; apply el_ext
      · rw [tab_length, List.length_take, hlen.out]; omega
      · intro i hi
        have hi' : i < h := by rw [List.length_take] at hi; omega
        rw [el_take hi', el_tab hi']
    rw [htk] at hown
    clear htk
    go_wp2_with fail
    go_loopw [24] (fun u wr => ∃ k : Nat, k ≤ h ∧ u = .int .i64 k ∧ Own wr w.heap.size (some ⟨g1, 0, none⟩) h c1 (tab (mid k (eAt (el xs) h) (el xs)) h) ∧ Below w.heap.size w wr) (fun u _ => h - (intOf u).toNat)
    case atStart => exact ⟨0, Nat.zero_le _, rfl, hown, hbl⟩
    case round =>
      obtain ⟨k, hk, rfl, ho1, hb1⟩ := hrel
      clear hown hbl
      by_cases hkj : k < h
      · have HDB : Hid (∀ i, i < h → -1000000000 ≤ el (xs.drop h) i ∧ el (xs.drop h) i ≤ 1000000000) := fun i hi => by rw [el_drop]; have := hbd.out (h + i) (by omega); omega
        have HA : Hid (bef (el (xs.drop h)) k = bef (fun j => el xs (h + j)) k) := bef_congr fun i hi => el_drop _ _
        have hav := @bef_bd (fun j => el xs (h + j)) 1000 k (fun i hi => hbd.out (h + i) (by omega))
        have he1 := hbd.out k (by omega)
        have HD : Hid (eAt (el xs) h k = el xs k - (bef (fun j => el xs (h + j)) k + 2) / 4) := rfl
        generalize bef (fun j => el xs (h + j)) k = A at HA hav HD
        obtain ⟨hcell, hfr, hBg, hgl⟩ := ho1.cellK k hkj
        rw [mid_at _ _ hkj] at hcell
        have i4 : (0 : Int) ≤ (k : Int) := by omega
        have i5 : (k : Int) < h := by omega
        have j2 : IntKind.i64.wrap (A + 2) = A + 2 := IntWalk.i64_in _ (by omega)
        have j3 : IntKind.i64.wrap (el xs k - (A + 2) / 4) = el xs k - (A + 2) / 4 := IntWalk.i64_in _ (by omega)
        have hcK := fun (w1 : World) (hb : Below wr.heap.size wr.drew w1) => (ho1.drew.below hb).cellK k hkj
        have HCK := Lib.hid hcK
        clear hcK
        have hbD : Below w.heap.size w wr.drew := hb1.drew
        have hRd := hsuf.below hbD
        go_wp2_with fail
        go_region_with (first
          | (go_at_call 41; refine (before_is wr.drew _ h _ k _ A hRd hkj (by omega) HDB.out HA.out).mono ?_; rintro e w1 ⟨rfl, hbQ⟩; have hcQ := (HCK.out _ hbQ).1; rw [mid_at _ _ hkj] at hcQ; have hfQ := (HCK.out _ hbQ).2.1)
          | (go_at_call 40; refine (down4_any _ _ (by omega) (by omega)).mono ?_; rintro e w' ⟨rfl, rfl⟩))
        all_goals
          clear j2 j3
          have hq1 := (ho1.drew.below hbQ).store k (el xs k - (A + 2) / 4)
          rw [← HD.out, mid_set _ _ hkj, HD.out] at hq1
          have hq3 := (hbD.trans (hbQ.mono hbD.size)).setCell (p := ⟨g1, k, none⟩) hBg (.int .i64 (el xs k - (A + 2) / 4))
          go_wp2_with fail
          go_roundw
          case rel => exact ⟨k + 1, by omega, by go_num, hq1, hq3⟩
          case measure => simp [intOf]; omega
      · obtain rfl : k = h := by omega
        rw [mid_end] at ho1
        have hr1 := ho1.row (by omega)
        have hsf := hsuf.below hb1
        go_wp2_with (at_make; go_must (refine make_int wr rfl _ _ rfl .i64 .i64 _ _ n rfl rfl rfl rfl (by omega) ?_); intro w0 hown0 hb0 hsz0)
        have hm0 := mid_zero (ulAt (el xs) k) (fun _ => 0) n
        rw [← show 2 * 0 = 0 from rfl] at hm0
        rw [← hm0] at hown0
        clear hm0
        obtain ⟨wo, rfl⟩ : ∃ wo : World, wo = wr := ⟨_, rfl⟩
        go_loopw [43] (fun u wr => ∃ j : Nat, j ≤ k ∧ u = .int .i64 j ∧ Own wr wo.heap.size (some ⟨wo.heap.size, 0, none⟩) n n (tab (mid (2 * j) (ulAt (el xs) k) (fun _ => 0)) n) ∧ Below wo.heap.size wo wr) (fun u _ => k - (intOf u).toNat)
        case atStart => exact ⟨0, Nat.zero_le _, rfl, hown0, hb0⟩
        case round =>
          obtain ⟨j, hj, rfl, hp, hb2⟩ := hrel
          clear hown0 hb0
          by_cases hjk : j < k
          · obtain ⟨b1, off1, e1, _, hcs⟩ := (hr1.below hb2).cell j hjk
            injection e1 with e1; injection e1 with e1 e2; subst e1; subst e2
            have hc1 := hcs j hjk
            rw [Nat.zero_add, el_tab hjk] at hc1
            clear hcs
            have hv0 : ulAt (el xs) k (2 * j) = eAt (el xs) k j := by rw [ulAt, if_pos (by omega), show 2 * j / 2 = j by omega]
            have hv1 : ulAt (el xs) k (2 * j + 1) = el xs (k + j) + arr (eAt (el xs) k) k j / 2 := by rw [ulAt, if_neg (by omega), show (2 * j + 1) / 2 = j by omega]
            have hset := mid_set2 (ulAt (el xs) k) (k := j) (n := n) (by omega)
            rw [hv0, hv1] at hset
            have HSET := Lib.hid hset
            clear hset hv0 hv1
            obtain ⟨hcell, hfr, hBg, hgl⟩ := hp.cellK (2 * j) (by omega)
            have hST := hp.store (2 * j) (eAt (el xs) k j)
            have hbS := hb2.setCell (p := ⟨wo.heap.size, 2 * j, none⟩) hBg (.int .i64 (eAt (el xs) k j))
            have h2j : (2 * (j : Int)).toNat = 2 * j := by omega
            go_wp2_with fail
            generalize wr.setCell ⟨wo.heap.size, 2 * j, none⟩ (.int .i64 (eAt (el xs) k j)) = wq at hST hbS ⊢
            clear hc1 hcell hfr hgl hp hb2
            have hc2 : wq.cell? ⟨b, off + k + j, none⟩ = some (.int .i64 (el xs (k + j))) := by
              obtain ⟨b1, off1, e1, _, hcs⟩ := (hsf.below hbS).cell j hjk
              injection e1 with e1; injection e1 with e1 e2; subst e1; subst e2
              rw [hcs j hjk, el_drop]
            have HC : Hid (∀ w', Below wo.heap.size wo w' → w'.cell? ⟨b, off + k + j, none⟩ = some (.int .i64 (el xs (k + j)))) := fun w' hb' => by
              obtain ⟨b1, off1, e1, _, hcs⟩ := (hsf.below hb').cell j hjk
              injection e1 with e1; injection e1 with e1 e2; subst e1; subst e2
              rw [hcs j hjk, el_drop]
            have HBX : Hid (∀ i, i < k → -1000000000 ≤ el (tab (eAt (el xs) k) k) i ∧ el (tab (eAt (el xs) k) k) i ≤ 1000000000) := fun i hi => by rw [el_tab hi]; have := @eAt_bd (el xs) k i (fun t ht => hbd.out t (by omega)) hi; omega
            have HA : Hid (arr (el (tab (eAt (el xs) k) k)) k j = arr (eAt (el xs) k) k j) := arr_congr hjk fun i hi => el_tab hi
            have hav := @arr_bd (eAt (el xs) k) 2001 k j (fun i hi => eAt_bd (fun t ht => hbd.out t (by omega)) hi) hjk
            have he1 := hbd.out (k + j) (by omega)
            generalize arr (eAt (el xs) k) k j = A at HA hav HSET
            have i1 : (0 : Int) ≤ 2 * (j : Int) + 1 := by omega
            have i2 : 2 * (j : Int) + 1 < n := by omega
            have i3 : (2 * (j : Int) + 1).toNat = 2 * j + 1 := by omega
            have i4 : (0 : Int) ≤ (j : Int) := by omega
            have i5 : (j : Int) < k := by omega
            have j0 : IntKind.i64.wrap (2 * (j : Int)) = 2 * (j : Int) := IntWalk.i64_in _ (by omega)
            have j1 : IntKind.i64.wrap (2 * (j : Int) + 1) = 2 * (j : Int) + 1 := IntWalk.i64_in _ (by omega)
            have j2 : IntKind.i64.wrap (el xs (k + j) + A / 2) = el xs (k + j) + A / 2 := IntWalk.i64_in _ (by omega)
            have hcK := fun (w1 : World) (hb : Below wq.heap.size wq.drew w1) => (hST.drew.below hb).cellK (2 * j + 1) (by omega)
            have HCK := Lib.hid hcK
            clear hcK
            have hbD : Below wo.heap.size wo wq.drew := hbS.drew
            have hrD := hr1.below hbD
            go_region_held3 (fun w' => w'.cell? ⟨b, off + k + j, none⟩ = some (.int .i64 (el xs (k + j))))
              (first | go_keep | exact HC.out _ (hbD.trans (hbQ.mono hbD.size)) | exact HC.out _ ((hbD.trans (hbQ.mono hbD.size)).setCell (p := ⟨wo.heap.size, 2 * j + 1, none⟩) hBg _))
              (first
                | (go_at_call 42; refine (around_is wq.drew _ k _ j _ A hrD hjk (by omega) HBX.out HA.out).mono ?_; rintro e w1 ⟨rfl, hbQ⟩; have hcQ := (HCK.out _ hbQ).1; have hfQ := (HCK.out _ hbQ).2.1)
                | (go_at_call 40; refine (down2_any _ _ (by omega) (by omega)).mono ?_; rintro e w' ⟨rfl, rfl⟩))
            clear j0 j1 j2
            have hq2 := (hST.drew.below hbQ).store (2 * j + 1) (el xs (k + j) + A / 2)
            rw [HSET.out] at hq2
            have hq3 := (hbD.trans (hbQ.mono hbD.size)).setCell (p := ⟨wo.heap.size, 2 * j + 1, none⟩) hBg (.int .i64 (el xs (k + j) + A / 2))
            go_wp2_with fail
            go_roundw
            case rel => exact ⟨j + 1, by omega, by go_num, hq2, hq3⟩
            case measure => simp [intOf]; omega
          · obtain rfl : j = k := by omega
            go_wp2_with fail
            go_ret
            refine Fresh.mk' (hp.mono hb1.size) (hb1.trans (hb2.mono hb1.size)) rfl ?_
            rw [unleapL, HN.out, mid_end]
theorem UnleapOf_yes (w : World) (a : Option Addr) (n c : Nat) (xs : List Int) (hr : Row w a n c xs) (hv : evenB xs = true) :
    Calls Try.prog 15 #[.slice a n c] w fun e w' => Fresh w w' e n (unleapL xs (xs.length / 2)) := by
  by_cases h0 : 0 < n
  · exact UnleapOf_pos w a n c xs hr hv h0
  · obtain rfl : n = 0 := by omega
    have hl := hr.len
    rw [hl]
    exact UnleapOf_zero w a c xs hr hv
theorem UnleapOf_all (w : World) (a : Option Addr) (n c : Nat) (xs : List Int) (h : Row w a n c xs) :
    Calls Try.prog 15 #[.slice a n c] w fun e w' => Fresh w w' e (unleapR xs).length (unleapR xs) := by
  cases hv : evenB xs
  · rw [show unleapR xs = [] by simp [unleapR, hv]]
    refine (UnleapOf_no w a n c xs h hv).mono ?_
    rintro e w' ⟨rfl, rfl⟩
    exact Fresh.mk (own_nil _ _) (Below.refl _ _)
  · refine (UnleapOf_yes w a n c xs h hv).mono ?_
    rintro e w' ⟨a1, c1, rfl, hown, hbl⟩
    have hl := hown.len
    exact Fresh.mk' hown hbl (by rw [← hl]; simp [unleapR, hv]) (by simp [unleapR, hv])
end Go.Proofs.Ytbaamhniffpnpaa
