/-
  MissesOf, MatchesOf; the reference's matches.
-/
import Derived.Test.YtahnfjolidenfaaMatch
import Derived.Test.YtahnfjolidenfaaExact
import Derived.Test.YtahnfjolidenfaaTwo
import Derived.StillTailTactics
namespace Go.Proofs.Ytahnfjolidenfaa
open Go.RowKit

/-- One miss: letter j of the pattern against the text from i on. -/
def ms1 (s p : ByteArray) (i j : Nat) : Int := if byt p j ≠ 63 ∧ byt p j ≠ byt s (i + j) then 1 else 0
def missAt (s p : ByteArray) (i : Nat) : Int := sm (ms1 s p i) p.size
def missL (s p : ByteArray) (n : Nat) : List Int := tab (missAt s p) n
/-- The difference, times itself. -/
def sq1 (s p : ByteArray) (i j : Nat) : Int := if byt p j ≠ 63 then ((byt p j : Int) - (byt s (i + j) : Int)) * ((byt p j : Int) - (byt s (i + j) : Int)) else 0
def sqAt (s p : ByteArray) (i : Nat) : Int := sm (sq1 s p i) p.size
/-- The places where f is 0. -/
def hitL (f : Nat → Int) : Nat → List Int
  | 0 => []
  | k + 1 => if f k = 0 then hitL f k ++ [(k : Int)] else hitL f k
theorem hit_yes {f : Nat → Int} {k : Nat} (h : f k = 0) : hitL f (k + 1) = hitL f k ++ [(k : Int)] := by rw [hitL, if_pos h]
theorem hit_no {f : Nat → Int} {k : Nat} (h : ¬ f k = 0) : hitL f (k + 1) = hitL f k := by rw [hitL, if_neg h]
theorem hit_len (f : Nat → Int) (n : Nat) : (hitL f n).length ≤ n := by
  induction n with
  | zero => exact Nat.le_refl _
  | succ k ih =>
    rw [hitL]
    split
    · rw [List.length_append, List.length_singleton]; omega
    · omega
theorem ms_bd (s p : ByteArray) (i j : Nat) : 0 ≤ ms1 s p i j ∧ ms1 s p i j ≤ 1 := by rw [ms1]; split <;> omega
theorem sm_bd0 {f : Nat → Int} {M : Int} {n : Nat} (h : ∀ i, i < n → 0 ≤ f i ∧ f i ≤ M) : 0 ≤ sm f n ∧ sm f n ≤ M * n := by
  induction n with
  | zero => simp [sm]
  | succ k ih =>
    have h1 := ih fun i hi => h i (by omega)
    have h2 := h k (by omega)
    rw [sm, show ((k + 1 : Nat) : Int) = (k : Int) + 1 by omega, Int.mul_add, Int.mul_one]
    omega
theorem sq_bd (s p : ByteArray) (i j : Nat) : 0 ≤ sq1 s p i j ∧ sq1 s p i j ≤ 65025 := by
  rw [sq1]
  split
  · have h1 := byt_lt p j
    have h2 := byt_lt s (i + j)
    generalize hd : (byt p j : Int) - (byt s (i + j) : Int) = d
    have h3 : -255 ≤ d := by omega
    have h4 : d ≤ 255 := by omega
    have h5 := @mul_bd d d 255 255 ⟨h3, h4⟩ ⟨h3, h4⟩
    refine ⟨?_, by omega⟩
    by_cases h0 : 0 ≤ d
    · exact Int.mul_nonneg h0 h0
    · have : 0 ≤ (-d) * (-d) := Int.mul_nonneg (by omega) (by omega)
      rwa [Int.neg_mul_neg] at this
  · omega
theorem smz {f : Nat → Int} {n : Nat} (h : ∀ i, i < n → 0 ≤ f i) (hz : sm f n = 0) : ∀ i, i < n → f i = 0 := by
  induction n with
  | zero => intro i hi; omega
  | succ k ih =>
    rw [sm] at hz
    have h2 := h k (by omega)
    have h3 : 0 ≤ sm f k := by
      clear ih hz h2
      induction k with
      | zero => simp [sm]
      | succ m ihm => rw [sm]; have := h m (by omega); have := ihm fun i hi => h i (by omega); omega
    intro i hi
    by_cases e : i = k
    · subst e; omega
    · exact ih (fun i hi => h i (by omega)) (by omega) i (by omega)
theorem sm_all0 {f : Nat → Int} {n : Nat} (h : ∀ i, i < n → f i = 0) : sm f n = 0 := by
  induction n with
  | zero => rfl
  | succ k ih => rw [sm, ih fun i hi => h i (by omega), h k (by omega)]; rfl
theorem ms_sq (s p : ByteArray) (i j : Nat) : ms1 s p i j = 0 ↔ sq1 s p i j = 0 := by
  rw [ms1, sq1]
  by_cases h : byt p j = 63
  · simp [h]
  · by_cases h2 : byt p j = byt s (i + j)
    · simp [h2]
    · rw [if_pos ⟨h, h2⟩, if_pos h]
      constructor
      · intro e; omega
      · intro e
        rcases Int.mul_eq_zero.1 e with e | e <;> omega
theorem miss_sq (s p : ByteArray) (i : Nat) : missAt s p i = 0 ↔ sqAt s p i = 0 := by
  constructor
  · intro h
    have h1 := smz (fun j _ => (ms_bd s p i j).1) h
    exact sm_all0 fun j hj => (ms_sq s p i j).1 (h1 j hj)
  · intro h
    have h1 := smz (fun j _ => (sq_bd s p i j).1) h
    exact sm_all0 fun j hj => (ms_sq s p i j).2 (h1 j hj)
theorem hit_congr {f g : Nat → Int} {n : Nat} (h : ∀ i, f i = 0 ↔ g i = 0) : hitL f n = hitL g n := by
  induction n with
  | zero => rfl
  | succ k ih =>
    by_cases e : f k = 0
    · rw [hit_yes e, hit_yes ((h k).1 e), ih]
    · rw [hit_no e, hit_no fun e2 => e ((h k).2 e2), ih]
theorem hit_sq (s p : ByteArray) (n : Nat) : hitL (sqAt s p) n = hitL (missAt s p) n := hit_congr fun i => (miss_sq s p i).symm

theorem MissesOf_no (w : World) (s p : ByteArray) (hs : s.size ≤ 1000) (hp : p.size ≤ 1000) (hv : textB s p = false) :
    Calls Try.prog 9 #[.string s, .string p] w fun e w' => e = .returned (.slice none 0 0) ∧ w = w' := by
  go_enter Try.func9, Try.ntmps9
  go_wp2_with fail
  refine (textsOk_is w s p false hs hp hv).mono ?_
  rintro e w' ⟨rfl, rfl⟩
  go_wp2_with fail
  go_ret
  exact ⟨rfl, rfl⟩
set_option maxHeartbeats 3200000 in
theorem MissesOf_yes (w : World) (s p : ByteArray) (hv : textB s p = true) :
    Calls Try.prog 9 #[.string s, .string p] w fun e w' => Fresh w w' e (s.size + 1 - p.size) (missL s p (s.size + 1 - p.size)) := by
  obtain ⟨⟨h1, h2, h3⟩, _, _⟩ := textB_iff.1 hv
  have hby := byt_get
  obtain ⟨N, hN⟩ : ∃ N, N = s.size + 1 - p.size := ⟨_, rfl⟩
  rw [← hN]
  go_enter Try.func9, Try.ntmps9
  go_wp2_with fail
  refine (textsOk_is w s p true (by omega) (by omega) hv).mono ?_
  rintro e w' ⟨rfl, rfl⟩
  clear hv
  go_wp2_with fail
  go_loopw [5, 6] (fun v u wr => ∃ (k : Nat) (a1 : Option Addr) (c1 : Nat), k ≤ N ∧ u = .int .i64 k ∧ v = .slice a1 k c1 ∧ Own wr w.heap.size a1 k c1 (missL s p k) ∧ Below w.heap.size w wr ∧ w.heap.size + 1 ≤ wr.heap.size) (fun v _ _ => N + 1 - lenOf v)
  case atStart => exact ⟨0, _, 0, Nat.zero_le _, rfl, rfl, own_empty w, (Below.refl _ _).alloc (Nat.le_refl _) _, by simp⟩
  case round =>
    obtain ⟨k, a1, c1, hk, rfl, rfl, hown, hbl, hsz⟩ := hrel
    by_cases hlt : k < N
    · have hkp : k + p.size ≤ s.size := by omega
      go_wp2_with fail
      obtain ⟨wo, rfl⟩ : ∃ wo : World, wo = wr := ⟨_, rfl⟩
      go_loopw [7, 25] (fun v u wr => ∃ j : Nat, j ≤ p.size ∧ u = .int .i64 j ∧ v = .int .i64 (sm (ms1 s p k) j) ∧ Own wr w.heap.size a1 k c1 (missL s p k) ∧ Below w.heap.size w wr ∧ w.heap.size + 1 ≤ wr.heap.size) (fun _ u _ => p.size - (intOf u).toNat)
      case atStart => exact ⟨0, Nat.zero_le _, rfl, rfl, hown, hbl, hsz⟩
      case round =>
        obtain ⟨j, hj, rfl, rfl, hown2, hbl2, hsz2⟩ := hrel
        clear hown hbl hsz
        have hsb := @sm_bd0 (ms1 s p k) 1 j fun t _ => ms_bd s p k t
        by_cases hjp : j < p.size
        · have hkj : k + j < s.size := by omega
          have i0 : (0 : Int) ≤ (j : Int) := by omega
          have i1 : (j : Int) < (p.size : Int) := by omega
          have i2 : (0 : Int) ≤ (k : Int) + j := by omega
          have i3 : (k : Int) + j < (s.size : Int) := by omega
          have i4 : ((k : Int) + j).toNat = k + j := by omega
          have j1 : IntKind.i64.wrap ((k : Int) + j) = (k : Int) + j := IntWalk.i64_in _ (by omega)
          by_cases c0 : byt p j = 63
          · have HJ : Hid (ms1 s p k j = 0) := by rw [Hid, ms1, if_neg (by omega)]
            have c0b : ((byt p j : Int) != 63) = false := by simp; omega
            have HM2 : Hid (sm (ms1 s p k) (j + 1) = sm (ms1 s p k) j + 0) := by rw [Hid, sm, HJ.out]
            clear HJ
            clear c0
            go_wp2_with fail
            go_quiet (fail)
            clear j1
            go_wp2_with fail
            go_roundw
            case rel => exact ⟨j + 1, by omega, by go_num, by rw [HM2.out] <;> go_num, hown2, bdrewN hbl2 _, hsz2⟩
            case measure => simp [intOf]; omega
          · have c0b : ((byt p j : Int) != 63) = true := by simp; omega
            by_cases c1 : byt p j = byt s (k + j)
            · have HJ : Hid (ms1 s p k j = 0) := by rw [Hid, ms1, if_neg (by omega)]
              have c1b : ((byt p j : Int) != (byt s (k + j) : Int)) = false := by simp; omega
              have HM2 : Hid (sm (ms1 s p k) (j + 1) = sm (ms1 s p k) j + 0) := by rw [Hid, sm, HJ.out]
              clear HJ
              clear c0 c1
              go_wp2_with fail
              go_quiet (fail)
              clear j1
              go_wp2_with fail
              go_roundw
              case rel => exact ⟨j + 1, by omega, by go_num, by rw [HM2.out] <;> go_num, hown2, bdrewN hbl2 _, hsz2⟩
              case measure => simp [intOf]; omega
            · have HJ : Hid (ms1 s p k j = 1) := by rw [Hid, ms1, if_pos ⟨c0, c1⟩]
              have c1b : ((byt p j : Int) != (byt s (k + j) : Int)) = true := by simp; omega
              have HM2 : Hid (sm (ms1 s p k) (j + 1) = sm (ms1 s p k) j + 1) := by rw [Hid, sm, HJ.out]
              clear HJ
              clear c0 c1
              go_wp2_with fail
              go_quiet (fail)
              clear j1
              go_wp2_with fail
              go_roundw
              case rel => exact ⟨j + 1, by omega, by go_num, by rw [HM2.out] <;> go_num, hown2, bdrewN hbl2 _, hsz2⟩
              case measure => simp [intOf]; omega
        · obtain rfl : j = p.size := by omega
          go_wp2_with (at_builtin; go_must (refine app_int wr rfl _ _ rfl w.heap.size _ _ _ _ _ rfl hown2 rfl (by omega) (by omega) ?_); intro a2 c2 w2 hown3 hgr3 hsz3)
          go_roundw
          case rel => exact ⟨k + 1, a2, c2, by omega, by go_num, rfl, hown3, below_app hbl2 hgr3 hown2 (Nat.le_refl _) (by omega), by omega⟩
          case measure => simp [lenOf]; omega
    · obtain rfl : k = N := by omega
      go_wp2_with fail
      go_ret
      exact Fresh.mk hown hbl
theorem MatchesOf_no (w : World) (s p : ByteArray) (hs : s.size ≤ 1000) (hp : p.size ≤ 1000) (hv : textB s p = false) :
    Calls Try.prog 6 #[.string s, .string p] w fun e w' => e = .returned (.slice none 0 0) ∧ w = w' := by
  go_enter Try.func6, Try.ntmps6
  go_wp2_with fail
  refine (textsOk_is w s p false hs hp hv).mono ?_
  rintro e w' ⟨rfl, rfl⟩
  go_wp2_with fail
  go_ret
  exact ⟨rfl, rfl⟩
set_option maxHeartbeats 1600000 in
theorem MatchesOf_yes (w : World) (s p : ByteArray) (hv : textB s p = true) :
    Calls Try.prog 6 #[.string s, .string p] w fun e w' => Fresh w w' e (hitL (missAt s p) (s.size + 1 - p.size)).length (hitL (missAt s p) (s.size + 1 - p.size)) := by
  obtain ⟨⟨h1, h2, h3⟩, _, _⟩ := textB_iff.1 hv
  have HMI := Lib.hid fun w0 => MissesOf_yes w0 s p hv
  obtain ⟨N, hN⟩ : ∃ N, N = s.size + 1 - p.size := ⟨_, rfl⟩
  have hN21 : N ≤ 21 := by omega
  rw [← hN] at HMI ⊢
  clear hN
  go_enter Try.func6, Try.ntmps6
  go_wp2_with fail
  refine (textsOk_is w s p true (by omega) (by omega) hv).mono ?_
  rintro e w' ⟨rfl, rfl⟩
  clear hv
  go_wp2_with fail
  refine (HMI.out _).mono ?_
  rintro e w1 ⟨am, cm, rfl, hownm, hbm⟩
  have hown0 := (own_empty w).below hbm
  have hbl0 := ((Below.refl w.heap.size w).alloc (Nat.le_refl _) (.cells #[] 3)).trans (hbm.mono (by simp))
  have hsz0 : w.heap.size + 1 ≤ w1.heap.size := by have := hbm.size; simp at this; omega
  have hap0 : Apart (some ⟨w.heap.size, 0, none⟩) am := fun x y e1 e2 => by
    injection e1 with e1
    subst e1; subst e2
    have h5 := hownm.blk y.block rfl
    simp at h5
    show w.heap.size ≠ y.block
    omega
  have hom := hownm.mono (show w.heap.size ≤ _ by simp)
  clear hbm hownm
  go_wp2_with fail
  go_loopw [5, 17] (fun v u wr => ∃ (k : Nat) (a1 : Option Addr) (c1 m : Nat), k ≤ N ∧ u = .int .i64 k ∧ v = .slice a1 m c1 ∧ m ≤ k ∧ Own wr w.heap.size a1 m c1 (hitL (missAt s p) k) ∧ Below w.heap.size w wr ∧ Own wr w.heap.size am N cm (missL s p N) ∧ Apart a1 am ∧ w.heap.size + 1 ≤ wr.heap.size) (fun _ u _ => N - (intOf u).toNat)
  case atStart => exact ⟨0, _, _, 0, Nat.zero_le _, rfl, rfl, Nat.le_refl _, hown0, hbl0, hom, hap0, hsz0⟩
  case round =>
    obtain ⟨k, a1, c1, m, hk, rfl, rfl, hm, hown, hbl, howm, hap, hsz⟩ := hrel
    clear hown0 hbl0 hom hap0 hsz0
    by_cases hlt : k < N
    · obtain ⟨g, rfl, _, _, hc, _⟩ := howm.at k hlt
      rw [missL, el_tab hlt] at hc
      by_cases hz : missAt s p k = 0
      · have HH : Hid (hitL (missAt s p) (k + 1) = hitL (missAt s p) k ++ [(k : Int)]) := hit_yes hz
        rw [hz] at hc
        clear hz
        go_wp2_with (at_builtin; go_must (refine app_int_two wr rfl _ _ rfl w.heap.size _ _ _ _ _ rfl hown _ _ _ _ howm hap rfl (by omega) (by omega) ?_); intro a2 c2 w2 hown3 howm3 hap3 hgr3 hsz3)
        go_roundw
        case rel => exact ⟨k + 1, a2, c2, m + 1, by omega, by go_num, rfl, by omega, by rw [HH.out]; exact hown3, below_app hbl hgr3 hown (Nat.le_refl _) (by omega), howm3, hap3, by omega⟩
        case measure => simp [intOf]; omega
      · have HH : Hid (hitL (missAt s p) (k + 1) = hitL (missAt s p) k) := hit_no hz
        have hzb : (missAt s p k == 0) = false := by simp; exact hz
        clear hz
        go_wp2_with fail
        go_roundw
        case rel => exact ⟨k + 1, a1, c1, m, by omega, by go_num, rfl, by omega, by rw [HH.out]; exact hown, hbl, howm, hap, hsz⟩
        case measure => simp [intOf]; omega
    · obtain rfl : k = N := by omega
      go_wp2_with fail
      go_ret
      exact Fresh.mk' hown hbl hown.len.symm rfl
set_option maxHeartbeats 3200000 in
theorem matches_any (w : World) (s p : ByteArray) (h1 : s.size ≤ 20) (h2 : 1 ≤ p.size) (h3 : p.size ≤ 20) :
    Calls Try.prog 22 #[.string s, .string p] w fun e w' => Fresh w w' e (hitL (sqAt s p) (s.size + 1 - p.size)).length (hitL (sqAt s p) (s.size + 1 - p.size)) := by
  have hby := byt_get
  obtain ⟨N, hN⟩ : ∃ N, N = s.size + 1 - p.size := ⟨_, rfl⟩
  rw [← hN]
  go_enter Try.func22, Try.ntmps22
  go_wp2_with fail
  go_loopw [5, 6] (fun v u wr => ∃ (k : Nat) (a1 : Option Addr) (c1 m : Nat), k ≤ N ∧ u = .int .i64 k ∧ v = .slice a1 m c1 ∧ m ≤ k ∧ Own wr w.heap.size a1 m c1 (hitL (sqAt s p) k) ∧ Below w.heap.size w wr ∧ w.heap.size + 1 ≤ wr.heap.size) (fun _ u _ => N - (intOf u).toNat)
  case atStart => exact ⟨0, _, 0, 0, Nat.zero_le _, rfl, rfl, Nat.le_refl _, own_empty w, (Below.refl _ _).alloc (Nat.le_refl _) _, by simp⟩
  case round =>
    obtain ⟨k, a1, c1, m, hk, rfl, rfl, hm, hown, hbl, hsz⟩ := hrel
    by_cases hlt : k < N
    · have hkp : k + p.size ≤ s.size := by omega
      go_wp2_with fail
      obtain ⟨wo, rfl⟩ : ∃ wo : World, wo = wr := ⟨_, rfl⟩
      go_loopw [7, 8] (fun v u wr => ∃ j : Nat, j ≤ p.size ∧ u = .int .i64 j ∧ v = .int .i64 (sm (sq1 s p k) j) ∧ Own wr w.heap.size a1 m c1 (hitL (sqAt s p) k) ∧ Below w.heap.size w wr ∧ w.heap.size + 1 ≤ wr.heap.size) (fun _ u _ => p.size - (intOf u).toNat)
      case atStart => exact ⟨0, Nat.zero_le _, rfl, rfl, hown, hbl, hsz⟩
      case round =>
        obtain ⟨j, hj, rfl, rfl, hown2, hbl2, hsz2⟩ := hrel
        clear hown hbl hsz
        have hsb := @sm_bd0 (sq1 s p k) 65025 j fun t _ => sq_bd s p k t
        by_cases hjp : j < p.size
        · have hkj : k + j < s.size := by omega
          by_cases c0 : byt p j = 63
          · have HM2 : Hid (sm (sq1 s p k) (j + 1) = sm (sq1 s p k) j) := by rw [Hid, sm, sq1, if_neg (by omega)]; omega
            have c0b : ((byt p j : Int) != 63) = false := by simp; omega
            clear c0
            go_wp2_with fail
            go_roundw
            case rel => exact ⟨j + 1, by omega, by go_num, by rw [HM2.out], hown2, hbl2, hsz2⟩
            case measure => simp [intOf]; omega
          · have HM2 : Hid (sm (sq1 s p k) (j + 1) = sm (sq1 s p k) j + ((byt p j : Int) - (byt s (k + j) : Int)) * ((byt p j : Int) - (byt s (k + j) : Int))) := by rw [Hid, sm, sq1, if_pos c0]
            have hq := sq_bd s p k j
            rw [sq1, if_pos c0] at hq
            have c0b : ((byt p j : Int) != 63) = true := by simp; omega
            have i0 : (0 : Int) ≤ (j : Int) := by omega
            have i1 : (j : Int) < (p.size : Int) := by omega
            have i2 : (0 : Int) ≤ (k : Int) + j := by omega
            have i3 : (k : Int) + j < (s.size : Int) := by omega
            have i4 : ((k : Int) + j).toNat = k + j := by omega
            have j1 : IntKind.i64.wrap ((k : Int) + j) = (k : Int) + j := IntWalk.i64_in _ (by omega)
            have b1 := byt_lt p j
            have b2 := byt_lt s (k + j)
            have j2 : IntKind.i64.wrap (byt p j : Int) = (byt p j : Int) := IntWalk.i64_in _ (by omega)
            have j3 : IntKind.i64.wrap (byt s (k + j) : Int) = (byt s (k + j) : Int) := IntWalk.i64_in _ (by omega)
            have j4 : IntKind.i64.wrap ((byt p j : Int) - (byt s (k + j) : Int)) = (byt p j : Int) - (byt s (k + j) : Int) := IntWalk.i64_in _ (by omega)
            clear c0
            go_wp2_with fail
            go_quiet (fail)
            clear j1 j2 j3 j4
            go_wp2_with fail
            go_roundw
            case rel => exact ⟨j + 1, by omega, by go_num, by rw [HM2.out], hown2, bdrewN hbl2 _, hsz2⟩
            case measure => simp [intOf]; omega
        · obtain rfl : j = p.size := by omega
          have HE : Hid (sqAt s p k = sm (sq1 s p k) p.size) := rfl
          by_cases hz : sqAt s p k = 0
          · have HH : Hid (hitL (sqAt s p) (k + 1) = hitL (sqAt s p) k ++ [(k : Int)]) := hit_yes hz
            rw [HE.out] at hz
            go_wp2_with (at_builtin; go_must (refine app_int wr rfl _ _ rfl w.heap.size _ _ _ _ _ rfl hown2 rfl (by omega) (by omega) ?_); intro a2 c2 w2 hown3 hgr3 hsz3)
            go_roundw
            case rel => exact ⟨k + 1, a2, c2, m + 1, by omega, by go_num, rfl, by omega, by rw [HH.out]; exact hown3, below_app hbl2 hgr3 hown2 (Nat.le_refl _) (by omega), by omega⟩
            case measure => simp [intOf]; omega
          · have HH : Hid (hitL (sqAt s p) (k + 1) = hitL (sqAt s p) k) := hit_no hz
            rw [HE.out] at hz
            have hzb : (sm (sq1 s p k) p.size == 0) = false := by simp; exact hz
            clear hz
            go_wp2_with fail
            go_roundw
            case rel => exact ⟨k + 1, a1, c1, m, by omega, by go_num, rfl, by omega, by rw [HH.out]; exact hown2, hbl2, hsz2⟩
            case measure => simp [intOf]; omega
    · obtain rfl : k = N := by omega
      go_wp2_with fail
      go_ret
      exact Fresh.mk' hown hbl hown.len.symm rfl
theorem empty_list (p : ByteArray) : (p.toList == []) = decide (p.size = 0) := by
  obtain ⟨⟨l⟩⟩ := p
  rw [ByteArray.toList_eq]
  show (l == []) = decide (l.length = 0)
  cases l with
  | nil => rfl
  | cons a t => simp
theorem vp_text (s p : ByteArray) : textB s p = (vpB s false && vpB p true && decide (1 ≤ p.size)) := by
  rw [Bool.eq_iff_iff, textB_iff]
  simp [vpB]
  constructor
  · rintro ⟨⟨a, b, c⟩, d, e⟩; exact ⟨⟨⟨d, a⟩, e, c⟩, b⟩
  · rintro ⟨⟨⟨d, a⟩, e, c⟩, b⟩; exact ⟨⟨a, b, c⟩, d, e⟩
set_option maxHeartbeats 800000 in
theorem sMatchesOf_no (w : World) (s p : ByteArray) (hs : s.size ≤ 1000) (hp : p.size ≤ 1000) (hv : textB s p = false) :
    Calls Try.prog 8 #[.string s, .string p] w fun e w' => e = .returned (.slice none 0 0) ∧ w = w' := by
  have he := empty_list p
  rw [vp_text] at hv
  cases h1 : vpB s false
  · clear hv he
    go_enter Try.func8, Try.ntmps8
    go_wp2_with fail
    refine (validPattern_is w s false false hs h1).mono ?_
    rintro e w' ⟨rfl, rfl⟩
    go_wp2_with fail
    go_ret
    exact ⟨rfl, rfl⟩
  · cases h2 : vpB p true
    · clear hv he
      go_enter Try.func8, Try.ntmps8
      go_wp2_with fail
      refine (validPattern_is w s false true hs h1).mono ?_
      rintro e w' ⟨rfl, rfl⟩
      go_wp2_with fail
      refine (validPattern_is w p true false hp h2).mono ?_
      rintro e w' ⟨rfl, rfl⟩
      go_wp2_with fail
      go_ret
      exact ⟨rfl, rfl⟩
    · rw [h1, h2] at hv
      have h0 : p.size = 0 := by
        by_cases h : p.size = 0
        · exact h
        · rw [decide_eq_true (show 1 ≤ p.size by omega)] at hv; exact absurd hv (by decide)
      rw [h0] at he
      have he2 : (p.toList == []) = true := he
      clear hv he h0
      go_enter Try.func8, Try.ntmps8
      go_wp2_with fail
      refine (validPattern_is w s false true hs h1).mono ?_
      rintro e w' ⟨rfl, rfl⟩
      go_wp2_with fail
      refine (validPattern_is w p true true hp h2).mono ?_
      rintro e w' ⟨rfl, rfl⟩
      go_wp2_with fail
      go_ret
      exact ⟨rfl, rfl⟩
set_option maxHeartbeats 800000 in
theorem sMatchesOf_yes (w : World) (s p : ByteArray) (hv : textB s p = true) :
    Calls Try.prog 8 #[.string s, .string p] w fun e w' => Fresh w w' e (hitL (missAt s p) (s.size + 1 - p.size)).length (hitL (missAt s p) (s.size + 1 - p.size)) := by
  obtain ⟨⟨b1, b2, b3⟩, _, _⟩ := textB_iff.1 hv
  have he := empty_list p
  rw [decide_eq_false (by omega)] at he
  rw [vp_text, Bool.and_eq_true, Bool.and_eq_true] at hv
  obtain ⟨⟨h1, h2⟩, _⟩ := hv
  have HM := Lib.hid (matches_any w s p b1 b2 b3)
  rw [hit_sq] at HM
  go_enter Try.func8, Try.ntmps8
  go_wp2_with fail
  refine (validPattern_is w s false true (by omega) h1).mono ?_
  rintro e w' ⟨rfl, rfl⟩
  go_wp2_with fail
  refine (validPattern_is w p true true (by omega) h2).mono ?_
  rintro e w' ⟨rfl, rfl⟩
  go_wp2_with fail
  refine HM.out.mono ?_
  rintro e w1 ⟨a1, c1, rfl, hown, hbl⟩
  go_wp2_with fail
  go_ret
  exact Fresh.mk hown hbl
end Go.Proofs.Ytahnfjolidenfaa
