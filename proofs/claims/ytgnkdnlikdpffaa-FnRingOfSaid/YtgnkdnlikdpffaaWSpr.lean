/-
  SpreadOf and RingOf, the program's and the reference's.
-/
import Derived.Test.YtgnkdnlikdpffaaWWave2
namespace Go.Proofs.Ytgnkdnlikdpffaa
open Go.RowKit

theorem nz_succ (f : Nat → Int) (k : Nat) : nz f (k + 1) = nz f k + (if f k = 0 then 0 else 1) := rfl
set_option maxHeartbeats 800000 in
theorem many_any (w : World) (a : Option Addr) (n c : Nat) (xs : List Int) (h : Row w a n c xs) (hn : n ≤ 1000) :
    Calls Try.prog 41 #[.slice a n c] w fun e w' => e = .returned (.int .i64 (nz (el xs) n)) ∧ w = w' := by
  go_enter Try.func41, Try.ntmps41
  go_wp2_with fail
  go_loop [3, 8] (fun s u => ∃ k : Nat, k ≤ n ∧ u = .int .i64 k ∧ s = .int .i64 (nz (el xs) k)) (fun _ u => n - (intOf u).toNat)
  case atStart => exact ⟨0, Nat.zero_le _, rfl, rfl⟩
  case round =>
    obtain ⟨k, hk, rfl, rfl⟩ := hrel
    by_cases hlt : k < n
    · obtain ⟨b, off, rfl, hbb, hcell⟩ := h.cell k hlt
      have hc := hcell k hlt
      clear hcell
      have hb := nz_bd (el xs) k
      have hs := nz_succ (el xs) k
      by_cases h0 : el xs k = 0
      · rw [if_pos h0] at hs
        have HS := Lib.hid hs
        have h0b : (el xs k != 0) = false := by simp [h0]
        clear hs h0
        go_wp2_with fail
        go_round
        case rel => exact ⟨k + 1, by omega, by go_num, by rw [HS.out]; simp⟩
        case measure => simp [intOf]; omega
      · rw [if_neg h0] at hs
        have HS := Lib.hid hs
        have h0b : (el xs k != 0) = true := by simp [h0]
        clear hs h0
        go_wp2_with fail
        go_round
        case rel => exact ⟨k + 1, by omega, by go_num, by rw [HS.out]⟩
        case measure => simp [intOf]; omega
    · obtain rfl : k = n := by omega
      go_wp2_with fail
      go_ret
      exact ⟨rfl, rfl⟩
set_option maxHeartbeats 800000 in
theorem some_any (w : World) (a : Option Addr) (n c : Nat) (xs : List Int) (h : Row w a n c xs) (hn : n ≤ 1000) :
    Calls Try.prog 40 #[.slice a n c] w fun e w' => e = .returned (.int .i64 (nz (el xs) n)) ∧ w = w' := by
  go_enter Try.func40, Try.ntmps40
  go_wp2_with fail
  go_loop [3, 4] (fun s u => ∃ k : Nat, k ≤ n ∧ u = .int .i64 k ∧ s = .int .i64 (nz (el xs) k)) (fun _ u => n - (intOf u).toNat)
  case atStart => exact ⟨0, Nat.zero_le _, rfl, rfl⟩
  case round =>
    obtain ⟨k, hk, rfl, rfl⟩ := hrel
    by_cases hlt : k < n
    · obtain ⟨b, off, rfl, hbb, hcell⟩ := h.cell k hlt
      have hc := hcell k hlt
      clear hcell
      have hb := nz_bd (el xs) k
      have hs := nz_succ (el xs) k
      by_cases h0 : el xs k = 0
      · rw [if_pos h0] at hs
        have HS := Lib.hid hs
        have h0b : (el xs k != 0) = false := by simp [h0]
        clear hs h0
        go_wp2_with fail
        go_round
        case rel => exact ⟨k + 1, by omega, by go_num, by rw [HS.out]; simp⟩
        case measure => simp [intOf]; omega
      · rw [if_neg h0] at hs
        have HS := Lib.hid hs
        have h0b : (el xs k != 0) = true := by simp [h0]
        clear hs h0
        go_wp2_with fail
        go_round
        case rel => exact ⟨k + 1, by omega, by go_num, by rw [HS.out]⟩
        case measure => simp [intOf]; omega
    · obtain rfl : k = n := by omega
      go_wp2_with fail
      go_ret
      exact ⟨rfl, rfl⟩

def spA (xs : List Int) : Int := if rests xs then nz (el xs) xs.length else -1
def spB (xs : List Int) : Int := if rests xs then nz (wvAt (rootN xs.length) (el xs) xs.length) xs.length else -1
theorem nz_tab {f : Nat → Int} {n : Nat} : nz (el (tab f n)) n = nz f n := nz_congr fun i hi => el_tab hi
def SaysTwo (w w' : World) (e : Ending) (x y : Int) : Prop := e = .returned (.tuple #[.int .i64 x, .int .i64 y]) ∧ Below w.heap.size w w'
set_option maxHeartbeats 800000 in
theorem SpreadOf_all (w : World) (a : Option Addr) (n c : Nat) (xs : List Int) (h : Row w a n c xs) :
    Calls Try.prog 18 #[.slice a n c] w fun e w' => SaysTwo w w' e (spA xs) (spB xs) := by
  cases hv : rests xs
  · rw [show spA xs = -1 by simp [spA, hv], show spB xs = -1 by simp [spB, hv]]
    go_enter Try.func18, Try.ntmps18
    go_wp2_with fail
    refine (ValidRests_is w a n c xs false h hv).mono ?_
    rintro e w' ⟨rfl, rfl⟩
    go_wp2_with fail
    go_ret2
    exact ⟨rfl, Below.refl _ _⟩
  · rw [show spA xs = nz (el xs) n by simp [spA, hv, h.len], show spB xs = nz (wvAt (rootN n) (el xs) n) n by simp [spB, hv, h.len]]
    have HL : Hid (xs.length = n) := h.len
    obtain ⟨hd, hn1, hn96⟩ := rests_len hv h.len
    have HB : Hid (∀ i, i < n → 0 ≤ el xs i ∧ el xs i < 97) := fun i hi => (rests_iff.1 hv).2 i (by rw [HL.out]; exact hi)
    have hr96 := (root_facts hd).2.1
    have HZ : Hid (nz (el (wvL (rootN n) xs n)) n = nz (wvAt (rootN n) (el xs) n) n) := nz_tab
    go_enter Try.func18, Try.ntmps18
    go_wp2_with fail
    refine (ValidRests_is w a n c xs true h hv).mono ?_
    rintro e w' ⟨rfl, rfl⟩
    go_wp2_with fail
    refine (many_any w a n c xs h (by omega)).mono ?_
    rintro e w' ⟨rfl, rfl⟩
    go_wp2_with fail
    refine (WaveOf_yes w a n c xs h hv).mono ?_
    rintro e w1 ⟨a1, c1, rfl, hown, hbl⟩
    go_wp2_with fail
    refine (many_any w1 a1 n c1 _ (hown.row (by omega)) (by omega)).mono ?_
    rw [HZ.out]
    rintro e w' ⟨rfl, rfl⟩
    go_wp2_with fail
    go_ret2
    exact ⟨rfl, hbl⟩
set_option maxHeartbeats 800000 in
theorem sSpreadOf_all (w : World) (a : Option Addr) (n c : Nat) (xs : List Int) (h : Row w a n c xs) :
    Calls Try.prog 17 #[.slice a n c] w fun e w' => SaysTwo w w' e (spA xs) (spB xs) := by
  cases hv : rests xs
  · rw [show spA xs = -1 by simp [spA, hv], show spB xs = -1 by simp [spB, hv]]
    go_enter Try.func17, Try.ntmps17
    go_wp2_with fail
    refine (validRests_is w a n c xs false h hv).mono ?_
    rintro e w' ⟨rfl, rfl⟩
    go_wp2_with fail
    go_ret2
    exact ⟨rfl, Below.refl _ _⟩
  · rw [show spA xs = nz (el xs) n by simp [spA, hv, h.len], show spB xs = nz (wvAt (rootN n) (el xs) n) n by simp [spB, hv, h.len]]
    have HL : Hid (xs.length = n) := h.len
    obtain ⟨hd, hn1, hn96⟩ := rests_len hv h.len
    have HB : Hid (∀ i, i < n → 0 ≤ el xs i ∧ el xs i < 97) := fun i hi => (rests_iff.1 hv).2 i (by rw [HL.out]; exact hi)
    have hr96 := (root_facts hd).2.1
    have HZ : Hid (nz (el (wvL (rootN n) xs n)) n = nz (wvAt (rootN n) (el xs) n) n) := nz_tab
    go_enter Try.func17, Try.ntmps17
    go_wp2_with fail
    refine (validRests_is w a n c xs true h hv).mono ?_
    rintro e w' ⟨rfl, rfl⟩
    go_wp2_with fail
    refine (some_any w a n c xs h (by omega)).mono ?_
    rintro e w' ⟨rfl, rfl⟩
    go_wp2_with fail
    refine (root_any w n hd).mono ?_
    rintro e w' ⟨rfl, rfl⟩
    go_wp2_with fail
    refine (swave_any w a n c xs (rootN n) h hn1 hn96 hr96 HB.out).mono ?_
    rintro e w1 ⟨a1, c1, rfl, hown, hbl⟩
    go_wp2_with fail
    refine (some_any w1 a1 n c1 _ (hown.row (by omega)) (by omega)).mono ?_
    rw [HZ.out]
    rintro e w' ⟨rfl, rfl⟩
    go_wp2_with fail
    go_ret2
    exact ⟨rfl, hbl⟩

def rgOk (xs ys : List Int) : Bool := rests xs && (rests ys && decide (xs.length = ys.length))
def rgR (xs ys : List Int) : List Int := if rgOk xs ys then tab (ringF xs.length (el xs) (el ys)) xs.length else []
theorem rgOk_iff {xs ys : List Int} : rgOk xs ys = true ↔ rests xs = true ∧ rests ys = true ∧ xs.length = ys.length := by simp [rgOk]
theorem rgR_len (xs ys : List Int) : (rgR xs ys).length ≤ 1000 := by
  unfold rgR
  split
  · rename_i h; have := (rests_len (rgOk_iff.1 h).1 rfl).2.2; rw [tab_length]; omega
  · simp
set_option maxHeartbeats 1600000 in
theorem ring_any (w : World) (a b : Option Addr) (n c d : Nat) (xs ys : List Int) (h : Row w a n c xs) (h2 : Row w b n d ys) (hv : rests xs = true) (hw : rests ys = true) :
    Calls Try.prog 50 #[.slice a n c, .slice b n d] w fun e w' => Fresh w w' e n (tab (ringF n (el xs) (el ys)) n) := by
  have HL : Hid (xs.length = n) := h.len
  obtain ⟨hd, hn1, hn96⟩ := rests_len hv h.len
  have HBX : Hid (∀ i, i < n → 0 ≤ el xs i ∧ el xs i < 97) := fun i hi => (rests_iff.1 hv).2 i (by rw [HL.out]; exact hi)
  have HBY : Hid (∀ i, i < n → 0 ≤ el ys i ∧ el ys i < 97) := fun i hi => (rests_iff.1 hw).2 i (by rw [h2.len]; exact hi)
  go_enter Try.func50, Try.ntmps50
  go_wp2_with (at_make; go_must (refine make_int w rfl _ _ rfl .i64 .i64 _ _ n rfl rfl rfl rfl (by omega) ?_); intro w0 hown0 hb0 hsz0)
  rw [rg_zero (el xs) (el ys) n n] at hown0
  obtain ⟨bx, ox, rfl, hbbx, hcx⟩ := h.at (by omega)
  obtain ⟨bY, oY, rfl, hbbY, hcY⟩ := h2.at (by omega)
  have HX := Lib.hid hcx
  have HY := Lib.hid hcY
  clear hcx hcY
  go_loopw [6] (fun u wr => ∃ x : Nat, x ≤ n ∧ u = .int .i64 x ∧ Own wr w.heap.size (some ⟨w.heap.size, 0, none⟩) n n (tab (rgAt n (el xs) (el ys) x 0) n) ∧ Below w.heap.size w wr) (fun u _ => n - (intOf u).toNat)
  case atStart => exact ⟨0, Nat.zero_le _, rfl, hown0, hb0⟩
  case round =>
    obtain ⟨x, hx0, rfl, hown, hbl⟩ := hrel
    clear hown0 hb0
    by_cases hlt : x < n
    · have hc := HX.out wr hbl x hlt
      go_wp2_with fail
      obtain ⟨wo, rfl⟩ : ∃ wo : World, wo = wr := ⟨_, rfl⟩
      go_loopw [7] (fun u wr => ∃ y : Nat, y ≤ n ∧ u = .int .i64 y ∧ Own wr w.heap.size (some ⟨w.heap.size, 0, none⟩) n n (tab (rgAt n (el xs) (el ys) x y) n) ∧ Below w.heap.size w wr) (fun u _ => n - (intOf u).toNat)
      case atStart => exact ⟨0, Nat.zero_le _, rfl, hown, hbl⟩
      case round =>
        obtain ⟨y, hy0, rfl, hown2, hbl2⟩ := hrel
        clear hown hbl hc
        by_cases hyn : y < n
        · have hcx := HX.out wr hbl2 x hlt
          have hcy := HY.out wr hbl2 y hyn
          have hol := Nat.mod_lt (x + y) (show 0 < n by omega)
          have hkm : (((x + y) % n : Nat) : Int) = ((x : Int) + (y : Int)) % (n : Int) := by simp
          have f0 : ¬ n = 0 := by omega
          have f1 : 0 ≤ (x : Int) + (y : Int) ∧ (x : Int) + (y : Int) ≤ 9216 := by omega
          have f2 : 0 ≤ ((x : Int) + (y : Int)) % (n : Int) := by omega
          have f3 : ((x : Int) + (y : Int)) % (n : Int) < n := by omega
          have f4 : (((x : Int) + (y : Int)) % (n : Int)).toNat = (x + y) % n := by omega
          have f5 : ((x : Int) + (y : Int)).tmod (n : Int) = ((x : Int) + (y : Int)) % (n : Int) := Int.tmod_eq_emod_of_nonneg f1.1
          have hset := rg_set (el xs) (el ys) n x y n hol
          have hmb := rg_bd (el xs) (el ys) n x y ((x + y) % n)
          have hpb := mul96 (HBX.out x hlt) (HBY.out y hyn)
          have hcl := el_tab (f := rgAt n (el xs) (el ys) x y) hol
          generalize (x + y) % n = z at hol hset hmb hcl hkm f4
          obtain ⟨hcell, hfr, hBg, hgl⟩ := hown2.cellK z hol
          rw [hcl] at hcell
          have HST := hown2.store z ((rgAt n (el xs) (el ys) x y z + el xs x * el ys y) % 97)
          rw [hset] at HST
          have HBW := hbl2.setCell (p := ⟨w.heap.size, z, none⟩) hBg (.int .i64 ((rgAt n (el xs) (el ys) x y z + el xs x * el ys y) % 97))
          clear hset hcl hkm
          generalize rgAt n (el xs) (el ys) x y z = S at *
          have i1 : (0 : Int) ≤ (x : Int) := by omega
          have i2 : (x : Int) < n := by omega
          have i3 : (0 : Int) ≤ (y : Int) := by omega
          have i4 : (y : Int) < n := by omega
          have j2 : IntKind.i64.wrap (el xs x * el ys y) = el xs x * el ys y := IntWalk.i64_in _ (by omega)
          have j3 : IntKind.i64.wrap (S + el xs x * el ys y) = S + el xs x * el ys y := IntWalk.i64_in _ (by omega)
          go_wp2_with fail
          go_still_tail 18, (by kernel_rfl)
          still_call ((mod_any _ _ (by omega) (by omega)).mono fun _ _ h => ⟨h.1, h.2.symm⟩)
          repeat still_step
          refine wpStill_nil ?_
          change wpList _ _ _ _ _ wr.drew
          clear j2 j3
          go_wp2_with fail
          go_roundw
          case rel => exact ⟨y + 1, by omega, by go_num, HST.drew, HBW.drew⟩
          case measure => simp [intOf]; omega
        · obtain rfl : y = n := by omega
          have he : tab (rgAt y (el xs) (el ys) x y) y = tab (rgAt y (el xs) (el ys) (x + 1) 0) y := tab_congr fun r _ => rg_end _ _ _ _ _
          rw [he] at hown2
          clear he
          go_wp2_with fail
          go_roundw
          case rel => exact ⟨x + 1, by omega, by go_num, hown2, hbl2⟩
          case measure => simp [intOf]; omega
    · obtain rfl : x = n := by omega
      go_wp2_with fail
      go_ret
      exact Fresh.mk hown hbl
set_option maxHeartbeats 1600000 in
theorem RingOf_yes (w : World) (a b : Option Addr) (n c d : Nat) (xs ys : List Int) (h : Row w a n c xs) (h2 : Row w b n d ys) (hv : rests xs = true) (hw : rests ys = true) :
    Calls Try.prog 26 #[.slice a n c, .slice b n d] w fun e w' => Fresh w w' e n (tab (ringF n (el xs) (el ys)) n) := by
  have HL : Hid (xs.length = n) := h.len
  obtain ⟨hd, hn1, hn96⟩ := rests_len hv h.len
  have HBX : Hid (∀ i, i < n → 0 ≤ el xs i ∧ el xs i < 97) := fun i hi => (rests_iff.1 hv).2 i (by rw [HL.out]; exact hi)
  have HBY : Hid (∀ i, i < n → 0 ≤ el ys i ∧ el ys i < 97) := fun i hi => (rests_iff.1 hw).2 i (by rw [h2.len]; exact hi)
  go_enter Try.func26, Try.ntmps26
  go_wp2_with fail
  refine (ValidRests_is w a n c xs true h hv).mono ?_
  rintro e w' ⟨rfl, rfl⟩
  go_wp2_with fail
  refine (ValidRests_is w b _ d ys true h2 hw).mono ?_
  rintro e w' ⟨rfl, rfl⟩
  go_wp2_with (at_make; go_must (refine make_int w rfl _ _ rfl .i64 .i64 _ _ n rfl rfl rfl rfl (by omega) ?_); intro w0 hown0 hb0 hsz0)
  rw [rg_zero (el xs) (el ys) n n] at hown0
  obtain ⟨bx, ox, rfl, hbbx, hcx⟩ := h.at (by omega)
  obtain ⟨bY, oY, rfl, hbbY, hcY⟩ := h2.at (by omega)
  have HX := Lib.hid hcx
  have HY := Lib.hid hcY
  clear hcx hcY
  go_loopw [31] (fun u wr => ∃ x : Nat, x ≤ n ∧ u = .int .i64 x ∧ Own wr w.heap.size (some ⟨w.heap.size, 0, none⟩) n n (tab (rgAt n (el xs) (el ys) x 0) n) ∧ Below w.heap.size w wr) (fun u _ => n - (intOf u).toNat)
  case atStart => exact ⟨0, Nat.zero_le _, rfl, hown0, hb0⟩
  case round =>
    obtain ⟨x, hx0, rfl, hown, hbl⟩ := hrel
    clear hown0 hb0
    by_cases hlt : x < n
    · have hc := HX.out wr hbl x hlt
      go_wp2_with fail
      obtain ⟨wo, rfl⟩ : ∃ wo : World, wo = wr := ⟨_, rfl⟩
      go_loopw [38] (fun u wr => ∃ y : Nat, y ≤ n ∧ u = .int .i64 y ∧ Own wr w.heap.size (some ⟨w.heap.size, 0, none⟩) n n (tab (rgAt n (el xs) (el ys) x y) n) ∧ Below w.heap.size w wr) (fun u _ => n - (intOf u).toNat)
      case atStart => exact ⟨0, Nat.zero_le _, rfl, hown, hbl⟩
      case round =>
        obtain ⟨y, hy0, rfl, hown2, hbl2⟩ := hrel
        clear hown hbl hc
        by_cases hyn : y < n
        · have hcx := HX.out wr hbl2 x hlt
          have hcy := HY.out wr hbl2 y hyn
          have hol := Nat.mod_lt (x + y) (show 0 < n by omega)
          have hkm : (((x + y) % n : Nat) : Int) = ((x : Int) + (y : Int)) % (n : Int) := by simp
          have f0 : ¬ n = 0 := by omega
          have f1 : 0 ≤ (x : Int) + (y : Int) ∧ (x : Int) + (y : Int) ≤ 9216 := by omega
          have f2 : 0 ≤ ((x : Int) + (y : Int)) % (n : Int) := by omega
          have f3 : ((x : Int) + (y : Int)) % (n : Int) < n := by omega
          have f4 : (((x : Int) + (y : Int)) % (n : Int)).toNat = (x + y) % n := by omega
          have f5 : ((x : Int) + (y : Int)).tmod (n : Int) = ((x : Int) + (y : Int)) % (n : Int) := Int.tmod_eq_emod_of_nonneg f1.1
          have hset := rg_set (el xs) (el ys) n x y n hol
          have hmb := rg_bd (el xs) (el ys) n x y ((x + y) % n)
          have hpb := mul96 (HBX.out x hlt) (HBY.out y hyn)
          have hcl := el_tab (f := rgAt n (el xs) (el ys) x y) hol
          generalize (x + y) % n = z at hol hset hmb hcl hkm f4
          obtain ⟨hcell, hfr, hBg, hgl⟩ := hown2.cellK z hol
          rw [hcl] at hcell
          have HST := hown2.store z ((rgAt n (el xs) (el ys) x y z + el xs x * el ys y) % 97)
          rw [hset] at HST
          have HBW := hbl2.setCell (p := ⟨w.heap.size, z, none⟩) hBg (.int .i64 ((rgAt n (el xs) (el ys) x y z + el xs x * el ys y) % 97))
          clear hset hcl hkm
          generalize rgAt n (el xs) (el ys) x y z = S at *
          go_wp2_with fail
          go_roundw
          case rel => exact ⟨y + 1, by omega, by go_num, HST, HBW⟩
          case measure => simp [intOf]; omega
        · obtain rfl : y = n := by omega
          have he : tab (rgAt y (el xs) (el ys) x y) y = tab (rgAt y (el xs) (el ys) (x + 1) 0) y := tab_congr fun r _ => rg_end _ _ _ _ _
          rw [he] at hown2
          clear he
          go_wp2_with fail
          go_roundw
          case rel => exact ⟨x + 1, by omega, by go_num, hown2, hbl2⟩
          case measure => simp [intOf]; omega
    · obtain rfl : x = n := by omega
      go_wp2_with fail
      go_ret
      exact Fresh.mk hown hbl
set_option maxHeartbeats 800000 in
theorem RingOf_no (w : World) (a b : Option Addr) (n c m d : Nat) (xs ys : List Int) (h : Row w a n c xs) (h2 : Row w b m d ys) (hok : rgOk xs ys = false) :
    Calls Try.prog 26 #[.slice a n c, .slice b m d] w fun e w' => Fresh w w' e 0 [] := by
  have hl := h.len
  have hl2 := h2.len
  cases hx : rests xs
  · clear hok hl hl2
    go_enter Try.func26, Try.ntmps26
    go_wp2_with fail
    refine (ValidRests_is w a n c xs false h hx).mono ?_
    rintro e w' ⟨rfl, rfl⟩
    go_wp2_with fail
    go_ret
    exact Fresh.mk (own_nil _ _) (Below.refl _ _)
  · cases hy : rests ys
    · clear hok hl hl2
      go_enter Try.func26, Try.ntmps26
      go_wp2_with fail
      refine (ValidRests_is w a n c xs true h hx).mono ?_
      rintro e w' ⟨rfl, rfl⟩
      go_wp2_with fail
      refine (ValidRests_is w b _ d ys false h2 hy).mono ?_
      rintro e w' ⟨rfl, rfl⟩
      go_wp2_with fail
      go_ret
      exact Fresh.mk (own_nil _ _) (Below.refl _ _)
    · have hne : ((n : Int) != (m : Int)) = true := by
        simp only [rgOk, hx, hy, hl, hl2, Bool.true_and, decide_eq_false_iff_not] at hok
        simp; omega
      clear hok hl hl2
      go_enter Try.func26, Try.ntmps26
      go_wp2_with fail
      refine (ValidRests_is w a n c xs true h hx).mono ?_
      rintro e w' ⟨rfl, rfl⟩
      go_wp2_with fail
      refine (ValidRests_is w b _ d ys true h2 hy).mono ?_
      rintro e w' ⟨rfl, rfl⟩
      go_wp2_with fail
      go_ret
      exact Fresh.mk (own_nil _ _) (Below.refl _ _)
theorem RingOf_all (w : World) (a b : Option Addr) (n c m d : Nat) (xs ys : List Int) (h : Row w a n c xs) (h2 : Row w b m d ys) :
    Calls Try.prog 26 #[.slice a n c, .slice b m d] w fun e w' => Fresh w w' e (rgR xs ys).length (rgR xs ys) := by
  cases hok : rgOk xs ys
  · rw [show rgR xs ys = [] by rw [rgR, hok]; rfl]
    exact RingOf_no w a b n c m d xs ys h h2 hok
  · have hl := h.len
    have hr : rgR xs ys = tab (ringF n (el xs) (el ys)) n := by rw [rgR, if_pos hok, hl]
    rw [hr, tab_length]
    obtain ⟨hx, hy, hnm⟩ := rgOk_iff.1 hok
    have hm : n = m := by have := h2.len; omega
    subst hm
    exact RingOf_yes w a b n c d xs ys h h2 hx hy
set_option maxHeartbeats 1600000 in
theorem sRingOf_yes (w : World) (a b : Option Addr) (n c d : Nat) (xs ys : List Int) (h : Row w a n c xs) (h2 : Row w b n d ys) (hv : rests xs = true) (hw : rests ys = true) :
    Calls Try.prog 27 #[.slice a n c, .slice b n d] w fun e w' => Fresh w w' e n (tab (ringF n (el xs) (el ys)) n) := by
  go_enter Try.func27, Try.ntmps27
  go_wp2_with fail
  refine (validRests_is w a n c xs true h hv).mono ?_
  rintro e w' ⟨rfl, rfl⟩
  go_wp2_with fail
  refine (validRests_is w b _ d ys true h2 hw).mono ?_
  rintro e w' ⟨rfl, rfl⟩
  go_wp2_with fail
  refine (ring_any w a b n c d xs ys h h2 hv hw).mono ?_
  rintro e w1 ⟨a1, c1, rfl, hown, hbl⟩
  go_wp2_with fail
  go_ret
  exact Fresh.mk hown hbl
set_option maxHeartbeats 800000 in
theorem sRingOf_no (w : World) (a b : Option Addr) (n c m d : Nat) (xs ys : List Int) (h : Row w a n c xs) (h2 : Row w b m d ys) (hok : rgOk xs ys = false) :
    Calls Try.prog 27 #[.slice a n c, .slice b m d] w fun e w' => Fresh w w' e 0 [] := by
  have hl := h.len
  have hl2 := h2.len
  cases hx : rests xs
  · clear hok hl hl2
    go_enter Try.func27, Try.ntmps27
    go_wp2_with fail
    refine (validRests_is w a n c xs false h hx).mono ?_
    rintro e w' ⟨rfl, rfl⟩
    go_wp2_with fail
    go_ret
    exact Fresh.mk (own_nil _ _) (Below.refl _ _)
  · cases hy : rests ys
    · clear hok hl hl2
      go_enter Try.func27, Try.ntmps27
      go_wp2_with fail
      refine (validRests_is w a n c xs true h hx).mono ?_
      rintro e w' ⟨rfl, rfl⟩
      go_wp2_with fail
      refine (validRests_is w b _ d ys false h2 hy).mono ?_
      rintro e w' ⟨rfl, rfl⟩
      go_wp2_with fail
      go_ret
      exact Fresh.mk (own_nil _ _) (Below.refl _ _)
    · have hne : ((n : Int) != (m : Int)) = true := by
        simp only [rgOk, hx, hy, hl, hl2, Bool.true_and, decide_eq_false_iff_not] at hok
        simp; omega
      clear hok hl hl2
      go_enter Try.func27, Try.ntmps27
      go_wp2_with fail
      refine (validRests_is w a n c xs true h hx).mono ?_
      rintro e w' ⟨rfl, rfl⟩
      go_wp2_with fail
      refine (validRests_is w b _ d ys true h2 hy).mono ?_
      rintro e w' ⟨rfl, rfl⟩
      go_wp2_with fail
      go_ret
      exact Fresh.mk (own_nil _ _) (Below.refl _ _)
theorem sRingOf_all (w : World) (a b : Option Addr) (n c m d : Nat) (xs ys : List Int) (h : Row w a n c xs) (h2 : Row w b m d ys) :
    Calls Try.prog 27 #[.slice a n c, .slice b m d] w fun e w' => Fresh w w' e (rgR xs ys).length (rgR xs ys) := by
  cases hok : rgOk xs ys
  · rw [show rgR xs ys = [] by rw [rgR, hok]; rfl]
    exact sRingOf_no w a b n c m d xs ys h h2 hok
  · have hl := h.len
    have hr : rgR xs ys = tab (ringF n (el xs) (el ys)) n := by rw [rgR, if_pos hok, hl]
    rw [hr, tab_length]
    obtain ⟨hx, hy, hnm⟩ := rgOk_iff.1 hok
    have hm : n = m := by have := h2.len; omega
    subst hm
    exact sRingOf_yes w a b n c d xs ys h h2 hx hy
end Go.Proofs.Ytgnkdnlikdpffaa
