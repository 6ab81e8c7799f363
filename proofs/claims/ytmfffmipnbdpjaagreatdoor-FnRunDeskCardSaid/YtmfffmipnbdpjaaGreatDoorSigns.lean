/-
  Sums with signs: the program's and the reference's.
-/
import Derived.Test.YtmfffmipnbdpjaaGreatDoorOnes
namespace Go.Proofs.YtmfffmipnbdpjaaGreatDoor
open Go.RowKit

/-- The sign with which the number at x stands in the sum at y. -/
def sgn (x y : Nat) : Int := if oddB (x &&& y) then -1 else 1
def sgAt (f : Nat → Int) (n y : Nat) : Int := sm (fun x => sgn x y * f x) n
def signsL (xs : List Int) (n : Nat) : List Int := tab (sgAt (el xs) n) n

theorem sgn_bd (x y : Nat) : sgn x y = 1 ∨ sgn x y = -1 := by unfold sgn; split <;> simp
theorem sgt_bd {f : Nat → Int} {M : Int} {x y : Nat} (h : -M ≤ f x ∧ f x ≤ M) : -M ≤ sgn x y * f x ∧ sgn x y * f x ≤ M := by
  rcases sgn_bd x y with e | e <;> rw [e] <;> omega
theorem sgs_bd {f : Nat → Int} {M : Int} {n y : Nat} (h : ∀ i, i < n → -M ≤ f i ∧ f i ≤ M) : -(M * n) ≤ sgAt f n y ∧ sgAt f n y ≤ M * n :=
  sm_bd fun i hi => sgt_bd (h i hi)

theorem pop_odd (z : Nat) : oddB z = decide (pop z % 2 = 1) := rfl
set_option maxHeartbeats 800000 in
theorem signs_any (w : World) (a : Option Addr) (n c : Nat) (xs : List Int) (h : Row w a n c xs) (hn : n ≤ 16) (hb : ∀ i, i < n → -1000 ≤ el xs i ∧ el xs i ≤ 1000) :
    Calls Tryz.prog 57 #[.slice a n c] w fun e w' => Fresh w w' e n (signsL xs n) := by
  have hbd := Lib.hid hb
  clear hb
  go_enter Tryz.func57, Tryz.ntmps57
  go_wp2_with fail
  go_loopw [3, 11] (fun v u wr => ∃ (k : Nat) (a1 : Option Addr) (c1 : Nat), k ≤ n ∧ u = .int .i64 k ∧ v = .slice a1 k c1 ∧ Own wr w.heap.size a1 k c1 (tab (sgAt (el xs) n) k) ∧ Below w.heap.size w wr ∧ w.heap.size + 1 ≤ wr.heap.size) (fun v _ _ => n - lenOf v)
  case atStart => exact ⟨0, _, 0, Nat.zero_le _, rfl, rfl, own_empty w, (Below.refl _ _).alloc (Nat.le_refl _) _, by simp⟩
  case round =>
    obtain ⟨y, a1, c1, hy, rfl, rfl, hown, hbl, hsz⟩ := hrel
    by_cases hlt : y < n
    · go_wp2_with fail
      obtain ⟨wo, rfl⟩ : ∃ wo : World, wo = wr := ⟨_, rfl⟩
      have hR := h.below hbl
      go_loop [5, 16] (fun s u => ∃ k : Nat, k ≤ n ∧ u = .int .i64 k ∧ s = .int .i64 (sgAt (el xs) k y)) (fun _ u => n - (intOf u).toNat)
      case atStart => exact ⟨0, Nat.zero_le _, rfl, rfl⟩
      case round =>
        obtain ⟨x, hx, rfl, rfl⟩ := hrel
        by_cases hxn : x < n
        · obtain ⟨b, off, rfl, hbb, hcell⟩ := hR.cell x hxn
          have hc := hcell x hxn
          clear hcell
          have he := hbd.out x hxn
          have hs := @sgs_bd (el xs) 1000 x y (fun i hi => hbd.out i (by omega))
          have hand : bits .and .i64 (x : Int) (y : Int) = ((x &&& y : Nat) : Int) := i64_and x y (by omega) (by omega)
          have hz : x &&& y < 8192 := Nat.lt_of_le_of_lt Nat.and_le_left (by omega)
          have hss : sgAt (el xs) (x + 1) y = sgAt (el xs) x y + sgn x y * el xs x := rfl
          have hg : sgn x y = if oddB (x &&& y) then -1 else 1 := rfl
          have HS : Hid (sgAt (el xs) (x + 1) y = sgAt (el xs) x y + (if oddB (x &&& y) then -1 else 1) * el xs x) := by rw [Hid, hss, hg]
          clear hss hg
          generalize x &&& y = z at hand hz HS
          cases ho : oddB z
          · have hpb : ((pop z : Int) % 2 == 0) = true := by have := pop_odd z; rw [ho] at this; simp at this ⊢; omega
            have HO := Lib.hid ho
            clear ho
            go_wp2_with fail
            refine (odd_is _ z false hz HO.out).mono ?_
            rintro e w' ⟨rfl, rfl⟩
            go_wp2_with fail
            go_round
            case rel => exact ⟨x + 1, by omega, by go_num, by rw [HS.out, HO.out]; simp⟩
            case measure => simp [intOf]; omega
          · have hpb : ((pop z : Int) % 2 == 0) = false := by have := pop_odd z; rw [ho] at this; simp at this ⊢; omega
            have HO := Lib.hid ho
            clear ho
            go_wp2_with fail
            refine (odd_is _ z true hz HO.out).mono ?_
            rintro e w' ⟨rfl, rfl⟩
            go_wp2_with fail
            go_round
            case rel => exact ⟨x + 1, by omega, by go_num, by rw [HS.out, HO.out]; simp; omega⟩
            case measure => simp [intOf]; omega
        · obtain rfl : x = n := by omega
          go_wp2_with (at_builtin; go_must (refine app_int wo rfl _ _ rfl w.heap.size _ _ _ _ _ rfl hown rfl (by omega) (by omega) ?_); intro a2 c2 w2 hown2 hgr2 hsz2)
          go_roundw
          case rel => exact ⟨y + 1, a2, c2, by omega, by go_num, rfl, hown2, below_app hbl hgr2 hown (Nat.le_refl _) (by omega), by omega⟩
          case measure => simp [lenOf]; omega
    · obtain rfl : y = n := by omega
      go_wp2_with fail
      go_ret
      exact Fresh.mk hown hbl
set_option maxHeartbeats 800000 in
theorem ssigns_any (w : World) (a : Option Addr) (n c : Nat) (xs : List Int) (h : Row w a n c xs) (hn : n ≤ 16) (hb : ∀ i, i < n → -1000 ≤ el xs i ∧ el xs i ≤ 1000) :
    Calls Tryz.prog 26 #[.slice a n c] w fun e w' => Fresh w w' e n (signsL xs n) := by
  have hbd := Lib.hid hb
  clear hb
  go_enter Tryz.func26, Tryz.ntmps26
  go_wp2_with fail
  go_loopw [3, 4] (fun v u wr => ∃ (k : Nat) (a1 : Option Addr) (c1 : Nat), k ≤ n ∧ u = .int .i64 k ∧ v = .slice a1 k c1 ∧ Own wr w.heap.size a1 k c1 (tab (sgAt (el xs) n) k) ∧ Below w.heap.size w wr ∧ w.heap.size + 1 ≤ wr.heap.size) (fun v _ _ => n - lenOf v)
  case atStart => exact ⟨0, _, 0, Nat.zero_le _, rfl, rfl, own_empty w, (Below.refl _ _).alloc (Nat.le_refl _) _, by simp⟩
  case round =>
    obtain ⟨y, a1, c1, hy, rfl, rfl, hown, hbl, hsz⟩ := hrel
    by_cases hlt : y < n
    · go_wp2_with fail
      obtain ⟨wo, rfl⟩ : ∃ wo : World, wo = wr := ⟨_, rfl⟩
      have hR := h.below hbl
      go_loop [5, 6] (fun s u => ∃ k : Nat, k ≤ n ∧ u = .int .i64 k ∧ s = .int .i64 (sgAt (el xs) k y)) (fun _ u => n - (intOf u).toNat)
      case atStart => exact ⟨0, Nat.zero_le _, rfl, rfl⟩
      case round =>
        obtain ⟨x, hx, rfl, rfl⟩ := hrel
        by_cases hxn : x < n
        · obtain ⟨b, off, rfl, hbb, hcell⟩ := hR.cell x hxn
          have hc := hcell x hxn
          clear hcell
          have he := hbd.out x hxn
          have hs := @sgs_bd (el xs) 1000 x y (fun i hi => hbd.out i (by omega))
          have hand : bits .and .i64 (x : Int) (y : Int) = ((x &&& y : Nat) : Int) := i64_and x y (by omega) (by omega)
          have hz : x &&& y < 8192 := Nat.lt_of_le_of_lt Nat.and_le_left (by omega)
          have hss : sgAt (el xs) (x + 1) y = sgAt (el xs) x y + sgn x y * el xs x := rfl
          have hg : sgn x y = if oddB (x &&& y) then -1 else 1 := rfl
          have HS : Hid (sgAt (el xs) (x + 1) y = sgAt (el xs) x y + (if oddB (x &&& y) then -1 else 1) * el xs x) := by rw [Hid, hss, hg]
          clear hss hg
          generalize x &&& y = z at hand hz HS
          cases ho : oddB z
          · have hpb : ((pop z : Int) % 2 == 0) = true := by have := pop_odd z; rw [ho] at this; simp at this ⊢; omega
            have HO := Lib.hid ho
            clear ho
            go_wp2_with fail
            refine (sones_any _ z hz).mono ?_
            rintro e w' ⟨rfl, rfl⟩
            go_wp2_with fail
            go_round
            case rel => exact ⟨x + 1, by omega, by go_num, by rw [HS.out, HO.out]; simp⟩
            case measure => simp [intOf]; omega
          · have hpb : ((pop z : Int) % 2 == 0) = false := by have := pop_odd z; rw [ho] at this; simp at this ⊢; omega
            have HO := Lib.hid ho
            clear ho
            go_wp2_with fail
            refine (sones_any _ z hz).mono ?_
            rintro e w' ⟨rfl, rfl⟩
            go_wp2_with fail
            go_round
            case rel => exact ⟨x + 1, by omega, by go_num, by rw [HS.out, HO.out]; simp; omega⟩
            case measure => simp [intOf]; omega
        · obtain rfl : x = n := by omega
          go_wp2_with (at_builtin; go_must (refine app_int wo rfl _ _ rfl w.heap.size _ _ _ _ _ rfl hown rfl (by omega) (by omega) ?_); intro a2 c2 w2 hown2 hgr2 hsz2)
          go_roundw
          case rel => exact ⟨y + 1, a2, c2, by omega, by go_num, rfl, hown2, below_app hbl hgr2 hown (Nat.le_refl _) (by omega), by omega⟩
          case measure => simp [lenOf]; omega
    · obtain rfl : y = n := by omega
      go_wp2_with fail
      go_ret
      exact Fresh.mk hown hbl
def signsR (xs : List Int) : List Int := if cube xs then signsL xs xs.length else []
theorem signsR_len (xs : List Int) : (signsR xs).length ≤ 1000 := by
  unfold signsR
  split
  · rename_i h
    have := valid_len (cube_iff.1 h).1
    rw [signsL, tab_length]; omega
  · simp
set_option maxHeartbeats 400000 in
theorem SignsOf_no (w : World) (a : Option Addr) (n c : Nat) (xs : List Int) (h : Row w a n c xs) (hv : cube xs = false) :
    Calls Tryz.prog 35 #[.slice a n c] w fun e w' => e = .returned (.slice none 0 0) ∧ w = w' := by
  go_enter Tryz.func35, Tryz.ntmps35
  go_wp2_with fail
  refine (whole_is w a n c xs false h hv).mono ?_
  rintro e w' ⟨rfl, rfl⟩
  go_wp2_with fail
  go_ret
  exact ⟨rfl, rfl⟩
set_option maxHeartbeats 400000 in
theorem SignsOf_yes (w : World) (a : Option Addr) (n c : Nat) (xs : List Int) (h : Row w a n c xs) (hv : cube xs = true) :
    Calls Tryz.prog 35 #[.slice a n c] w fun e w' => Fresh w w' e n (signsL xs xs.length) := by
  have HL : Hid (xs.length = n) := h.len
  have hx := (cube_iff.1 hv).1
  have hn : n ≤ 16 := by have := valid_len hx; rw [HL.out] at this; exact this
  have HB : Hid (∀ i, i < n → -1000 ≤ el xs i ∧ el xs i ≤ 1000) := fun i hi => valid_bd hx (by rw [HL.out]; exact hi)
  clear hx
  go_enter Tryz.func35, Tryz.ntmps35
  go_wp2_with fail
  refine (whole_is w a n c xs true h hv).mono ?_
  rintro e w' ⟨rfl, rfl⟩
  go_wp2_with fail
  refine (signs_any w a n c xs h hn HB.out).mono ?_
  rintro e w1 ⟨a1, c1, rfl, hown, hbl⟩
  go_wp2_with fail
  go_ret
  rw [HL.out]
  exact Fresh.mk hown hbl
theorem SignsOf_all (w : World) (a : Option Addr) (n c : Nat) (xs : List Int) (h : Row w a n c xs) :
    Calls Tryz.prog 35 #[.slice a n c] w fun e w' => Fresh w w' e (signsR xs).length (signsR xs) := by
  cases hv : cube xs
  · rw [show signsR xs = [] by simp [signsR, hv]]
    refine (SignsOf_no w a n c xs h hv).mono ?_
    rintro e w' ⟨rfl, rfl⟩
    exact Fresh.mk (own_nil _ _) (Below.refl _ _)
  · refine (SignsOf_yes w a n c xs h hv).mono ?_
    rintro e w' ⟨a1, c1, rfl, hown, hbl⟩
    have hl := hown.len
    exact Fresh.mk' hown hbl (by rw [← hl]; simp [signsR, hv]) (by simp [signsR, hv])
end Go.Proofs.YtmfffmipnbdpjaaGreatDoor
