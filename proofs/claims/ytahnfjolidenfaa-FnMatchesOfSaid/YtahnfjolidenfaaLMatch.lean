/-
  The law of MatchesOf.
-/
import Derived.Test.YtahnfjolidenfaaMatch2
import Derived.Test.YtahnfjolidenfaaDMatch
namespace Go.Proofs.Ytahnfjolidenfaa
open Go.RowKit

theorem hit_src {f : Nat → Int} : ∀ n t, t < (hitL f n).length → ∃ i, i < n ∧ el (hitL f n) t = (i : Int) ∧ f i = 0 := by
  intro n
  induction n with
  | zero => intro t ht; exact absurd ht (Nat.not_lt_zero _)
  | succ k ih =>
    intro t ht
    by_cases h0 : f k = 0
    · rw [hit_yes h0, List.length_append, List.length_singleton] at ht
      rw [hit_yes h0]
      by_cases e : t < (hitL f k).length
      · obtain ⟨i, h1, h2, h3⟩ := ih t e
        exact ⟨i, by omega, by rw [el_append_left e]; exact h2, h3⟩
      · obtain rfl : t = (hitL f k).length := by omega
        exact ⟨k, by omega, el_append_at, h0⟩
    · rw [hit_no h0] at ht ⊢
      obtain ⟨i, h1, h2, h3⟩ := ih t ht
      exact ⟨i, by omega, h2, h3⟩
theorem hit_mem {f : Nat → Int} : ∀ n i, i < n → f i = 0 → ∃ t, t < (hitL f n).length ∧ el (hitL f n) t = (i : Int) := by
  intro n
  induction n with
  | zero => intro i hi; omega
  | succ k ih =>
    intro i hi h
    by_cases h0 : f k = 0
    · rw [hit_yes h0, List.length_append, List.length_singleton]
      by_cases e : i = k
      · subst e; exact ⟨(hitL f i).length, by omega, el_append_at⟩
      · obtain ⟨t, h1, h2⟩ := ih i (by omega) h
        exact ⟨t, by omega, by rw [el_append_left h1]; exact h2⟩
    · rw [hit_no h0]
      have e : i ≠ k := by intro e; subst e; exact h0 h
      exact ih i (by omega) h
theorem hit_asc {f : Nat → Int} : ∀ n t, t + 1 < (hitL f n).length → el (hitL f n) t < el (hitL f n) (t + 1) := by
  intro n
  induction n with
  | zero => intro t ht; exact absurd ht (Nat.not_lt_zero _)
  | succ k ih =>
    intro t ht
    by_cases h0 : f k = 0
    · rw [hit_yes h0, List.length_append, List.length_singleton] at ht
      rw [hit_yes h0]
      by_cases e : t + 1 < (hitL f k).length
      · rw [el_append_left (by omega), el_append_left e]; exact ih t e
      · have e2 : t + 1 = (hitL f k).length := by omega
        rw [el_append_left (by omega), e2, el_append_at]
        obtain ⟨i, h1, h2, _⟩ := hit_src (f := f) k t (by omega)
        rw [h2]; omega
    · rw [hit_no h0] at ht ⊢
      exact ih t ht

def mtR (s p : ByteArray) : List Int := if textB s p then hitL (missAt s p) (s.size + 1 - p.size) else []
def msR (s p : ByteArray) : List Int := if textB s p then missL s p (s.size + 1 - p.size) else []
theorem MatchesOf_all (w : World) (s p : ByteArray) (hs : s.size ≤ 1000) (hp : p.size ≤ 1000) :
    Calls Try.prog 6 #[.string s, .string p] w fun e w' => Fresh w w' e (mtR s p).length (mtR s p) := by
  cases hv : textB s p
  · rw [show mtR s p = [] by simp [mtR, hv]]
    refine (MatchesOf_no w s p hs hp hv).mono ?_
    rintro e w' ⟨rfl, rfl⟩
    exact Fresh.mk (own_nil _ _) (Below.refl _ _)
  · refine (MatchesOf_yes w s p hv).mono ?_
    rintro e w' ⟨a1, c1, rfl, hown, hbl⟩
    have hl := hown.len
    exact Fresh.mk' hown hbl (by rw [← hl]; simp [mtR, hv]) (by simp [mtR, hv])
theorem sMatchesOf_all (w : World) (s p : ByteArray) (hs : s.size ≤ 1000) (hp : p.size ≤ 1000) :
    Calls Try.prog 8 #[.string s, .string p] w fun e w' => Fresh w w' e (mtR s p).length (mtR s p) := by
  cases hv : textB s p
  · rw [show mtR s p = [] by simp [mtR, hv]]
    refine (sMatchesOf_no w s p hs hp hv).mono ?_
    rintro e w' ⟨rfl, rfl⟩
    exact Fresh.mk (own_nil _ _) (Below.refl _ _)
  · refine (sMatchesOf_yes w s p hv).mono ?_
    rintro e w' ⟨a1, c1, rfl, hown, hbl⟩
    have hl := hown.len
    exact Fresh.mk' hown hbl (by rw [← hl]; simp [mtR, hv]) (by simp [mtR, hv])
theorem MissesOf_all (w : World) (s p : ByteArray) (hs : s.size ≤ 1000) (hp : p.size ≤ 1000) :
    Calls Try.prog 9 #[.string s, .string p] w fun e w' => Fresh w w' e (msR s p).length (msR s p) := by
  cases hv : textB s p
  · rw [show msR s p = [] by simp [msR, hv]]
    refine (MissesOf_no w s p hs hp hv).mono ?_
    rintro e w' ⟨rfl, rfl⟩
    exact Fresh.mk (own_nil _ _) (Below.refl _ _)
  · refine (MissesOf_yes w s p hv).mono ?_
    rintro e w' ⟨a1, c1, rfl, hown, hbl⟩
    have hl := hown.len
    exact Fresh.mk' hown hbl (by rw [← hl]; simp [msR, hv]) (by simp [msR, hv])
/-- What the law asks. -/
structure Good (xs ys : List Int) : Prop where
  mem : ∀ i, i < ys.length → el ys i = 0 → ∃ t, t < xs.length ∧ el xs t = (i : Int)
  non : ∀ i, i < ys.length → ¬ el ys i = 0 → ∀ t, t < xs.length → el xs t ≠ (i : Int)
  asc : ∀ t, t + 1 < xs.length → el xs t < el xs (t + 1)
  len : xs.length ≤ ys.length
  bd : ys.length ≤ 1000
theorem good (s p : ByteArray) : Good (mtR s p) (msR s p) := by
  cases hv : textB s p
  · rw [show mtR s p = [] by simp [mtR, hv], show msR s p = [] by simp [msR, hv]]
    exact ⟨fun i hi => absurd hi (Nat.not_lt_zero _), fun i hi => absurd hi (Nat.not_lt_zero _), fun i hi => absurd hi (Nat.not_lt_zero _), Nat.le_refl _, Nat.zero_le _⟩
  · rw [show mtR s p = hitL (missAt s p) (s.size + 1 - p.size) by simp [mtR, hv], show msR s p = tab (missAt s p) (s.size + 1 - p.size) by simp [msR, hv, missL]]
    obtain ⟨⟨h1, h2, h3⟩, _⟩ := textB_iff.1 hv
    refine ⟨fun i hi hz => ?_, fun i hi hz t ht => ?_, hit_asc _, ?_, ?_⟩
    · rw [tab_length] at hi
      rw [el_tab hi] at hz
      exact hit_mem _ i hi hz
    · rw [tab_length] at hi
      rw [el_tab hi] at hz
      obtain ⟨j, g1, g2, g3⟩ := hit_src _ t ht
      rw [g2]
      intro e
      have e2 : j = i := by omega
      subst e2
      exact hz g3
    · rw [tab_length]; exact hit_len _ _
    · rw [tab_length]; omega
/-- A number that a list has. -/
theorem isIn_yes (w : World) (a : Option Addr) (n c : Nat) (xs : List Int) (v : Int) (t : Nat) (h : Row w a n c xs) (ht : t < n) (hv : el xs t = v) :
    Calls Try.prog 10 #[.slice a n c, .int .i64 v] w fun e w' => Tells w w' e true := by
  have hsm := h.small
  have HV := Lib.hid hv
  clear hv
  go_enter Try.func10, Try.ntmps10
  go_wp2_with fail
  go_loop [5] (fun u => ∃ k : Nat, k ≤ t ∧ u = .int .i64 k) (fun u => n - (intOf u).toNat)
  case atStart => exact ⟨0, Nat.zero_le _, rfl⟩
  case round =>
    obtain ⟨k, hk, rfl⟩ := hrel
    have hlt : k < n := by omega
    obtain ⟨b, off, rfl, hbb, hcell⟩ := h.cell k hlt
    have hc := hcell k hlt
    clear hcell
    by_cases he : el xs k = v
    · have hb : (el xs k == v) = true := by simp; exact he
      clear he
      go_wp2_with fail
      go_ret
      exact ⟨rfl, rfl⟩
    · have hb : (el xs k == v) = false := by simp; exact he
      have hkt : k < t := by
        by_cases e : k = t
        · subst e; exact absurd HV.out he
        · omega
      clear he
      go_wp2_with fail
      go_round
      case rel => exact ⟨k + 1, by omega, by go_num⟩
      case measure => simp [intOf]; omega
/-- A number that a list has not. -/
theorem isIn_no (w : World) (a : Option Addr) (n c : Nat) (xs : List Int) (v : Int) (h : Row w a n c xs) (hv : ∀ t, t < n → el xs t ≠ v) :
    Calls Try.prog 10 #[.slice a n c, .int .i64 v] w fun e w' => Tells w w' e false := by
  have hsm := h.small
  have HV := Lib.hid hv
  clear hv
  go_enter Try.func10, Try.ntmps10
  go_wp2_with fail
  go_loop [5] (fun u => ∃ k : Nat, k ≤ n ∧ u = .int .i64 k) (fun u => n - (intOf u).toNat)
  case atStart => exact ⟨0, Nat.zero_le _, rfl⟩
  case round =>
    obtain ⟨k, hk, rfl⟩ := hrel
    by_cases hlt : k < n
    · obtain ⟨b, off, rfl, hbb, hcell⟩ := h.cell k hlt
      have hc := hcell k hlt
      clear hcell
      have hb : (el xs k == v) = false := by simp; exact HV.out k hlt
      go_wp2_with fail
      go_round
      case rel => exact ⟨k + 1, by omega, by go_num⟩
      case measure => simp [intOf]; omega
    · go_wp2_with fail
      go_ret
      exact ⟨rfl, rfl⟩
/-- An ascending list. -/
theorem ascends_yes (w : World) (a : Option Addr) (n c : Nat) (xs : List Int) (h : Row w a n c xs) (hv : ∀ t, t + 1 < n → el xs t < el xs (t + 1)) :
    Calls Try.prog 11 #[.slice a n c] w fun e w' => Says w w' e true := by
  have hsm := h.small
  have HV := Lib.hid hv
  clear hv
  go_enter Try.func11, Try.ntmps11
  go_wp2_with fail
  go_loopw [3] (fun u wr => ∃ k : Nat, 1 ≤ k ∧ u = .int .i64 k ∧ Below w.heap.size w wr) (fun u _ => n - (intOf u).toNat)
  case atStart => exact ⟨1, Nat.le_refl _, rfl, Below.refl _ _⟩
  case round =>
    obtain ⟨k, hk, rfl, hbl⟩ := hrel
    by_cases hlt : k < n
    · obtain ⟨t, rfl⟩ : ∃ t, k = t + 1 := ⟨k - 1, by omega⟩
      obtain ⟨b, off, rfl, hbb, hcell⟩ := (h.below hbl).cell (t + 1) hlt
      have hc := hcell (t + 1) hlt
      have hc0 := hcell t (by omega)
      clear hcell
      have hv := HV.out t hlt
      have hvb : decide (el xs (t + 1) ≤ el xs t) = false := decide_eq_false (by omega)
      have i0 : (0 : Int) ≤ (t : Int) + 1 := by omega
      have i1 : (t : Int) + 1 < (n : Int) := by omega
      have i2 : (0 : Int) ≤ (t : Int) + 1 - 1 := by omega
      have i3 : (t : Int) + 1 - 1 < (n : Int) := by omega
      have i4 : ((t : Int) + 1).toNat = t + 1 := by omega
      have i5 : ((t : Int) + 1 - 1).toNat = t := by omega
      have j1 : IntKind.i64.wrap ((t : Int) + 1 - 1) = (t : Int) + 1 - 1 := IntWalk.i64_in _ (by omega)
      go_wp2_with fail
      go_quiet (fail)
      clear j1
      go_wp2_with fail
      go_roundw
      case rel => exact ⟨t + 1 + 1, by omega, by go_num, bdrewN hbl _⟩
      case measure => simp [intOf]; omega
    · go_wp2_with fail
      go_ret
      exact ⟨rfl, hbl⟩
set_option maxHeartbeats 3200000 in
theorem law_MatchesOf (w : World) (a : Option Addr) (n c : Nat) (h : Bts w a n w.heap.size) (hnc : n ≤ c) :
    Calls Try.prog 3 #[.slice a n c] w fun e w' => Says w w' e true := by
  by_cases hbig : 1048576 < n
  · go_enter Try.func3, Try.ntmps3
    go_wp2
    go_ret
    exact ⟨rfl, Below.refl _ _⟩
  go_enter Try.func3, Try.ntmps3
  go_wp2_with fail
  refine (DrawMatchesOf_any w a n c h hnc (by omega)).mono ?_
  rintro e w1 ⟨s, p, rfl, hs, hp, hbl⟩
  have HG := Lib.hid (good s p)
  have HI := Lib.hid fun w0 => MatchesOf_all w0 s p (by omega) (by omega)
  have HS := Lib.hid fun w0 => sMatchesOf_all w0 s p (by omega) (by omega)
  have HM := Lib.hid fun w0 => MissesOf_all w0 s p (by omega) (by omega)
  generalize mtR s p = xs at *
  generalize msR s p = ys at *
  obtain ⟨k, hk⟩ : ∃ k, k = xs.length := ⟨_, rfl⟩
  obtain ⟨m, hm⟩ : ∃ m, m = ys.length := ⟨_, rfl⟩
  have hkm : k ≤ m := by rw [hk, hm]; exact HG.out.len
  have hm1 : m ≤ 1000 := by rw [hm]; exact HG.out.bd
  rw [← hk] at HI HS
  rw [← hm] at HM
  have HK := Lib.hid hk
  have HMM := Lib.hid hm
  clear hk hm
  go_wp2_with fail
  refine (HI.out w1).mono ?_
  rintro e w2 ⟨a2, c2, rfl, own2, b2⟩
  have l2 := bstep hbl b2
  have r2 := own2.row (show k ≤ 1125899906842624 by omega)
  clear own2 b2 hbl
  go_wp2_with fail
  refine (HS.out w2).mono ?_
  rintro e w3 ⟨a3, c3, rfl, own3, b3⟩
  have l3 := bstep l2 b3
  have r3 := r2.below b3
  go_wp2_with fail
  refine (equalInts_any_eq w3 _ _ k k _ _ xs xs r3 (own3.row (by omega)) rfl).mono ?_
  rintro e w4 ⟨rfl, b4⟩
  have l4 := bstep l3 b4
  have r4 := r3.below b4
  clear own3 b3 b4 r3 r2 l3 l2
  cases he : p.toList == []
  · go_wp2_with fail
    refine (HM.out w4).mono ?_
    rintro e w5 ⟨a5, c5, rfl, own5, b5⟩
    have l5 := bstep l4 b5
    have r5 := r4.below b5
    clear own5 b5 r4 l4
    by_cases hm0 : m = 0
    · have hmb : ((m : Int) == 0) = true := by simp; omega
      have rLast := r5
      have lLast := l5
      clear r5 l5
      go_wp2_with fail
      refine (HS.out _).mono ?_
      rintro e w8 ⟨a8, c8, rfl, own8, b8⟩
      go_wp2_with fail
      refine (equalInts_any_eq w8 _ _ k k _ _ xs xs (rLast.below b8) (own8.row (by omega)) rfl).mono ?_
      rintro e w9 ⟨rfl, b9⟩
      go_wp2_with fail
      go_ret
      exact ⟨rfl, bstep (bstep lLast b8) b9⟩
    · have hmb : ((m : Int) == 0) = false := by simp; omega
      go_wp2_with fail
      refine (HM.out w5).mono ?_
      rintro e w6 ⟨a6, c6, rfl, own6, b6⟩
      have l6 := bstep l5 b6
      have r6 := r5.below b6
      have ry := own6.row (show m ≤ 1125899906842624 by omega)
      clear own6 b6 r5 l5
      go_wp2_with fail
      go_loopw [7] (fun u wr => ∃ j : Nat, j ≤ m ∧ u = .int .i64 j ∧ Below w6.heap.size w6 wr) (fun u _ => m - (intOf u).toNat)
      case atStart => exact ⟨0, Nat.zero_le _, rfl, Below.refl _ _⟩
      case round =>
        obtain ⟨j, hj, rfl, hblr⟩ := hrel
        by_cases hlt : j < m
        · obtain ⟨b7, o7, rfl, _, hcy⟩ := (ry.below hblr).cell j hlt
          have hc := hcy j hlt
          clear hcy
          have hrx := r6.below hblr
          have HRP : Hid (∀ q, Row (wr.drewN q) a2 k c2 xs) := fun q => hrx.heap rfl
          have i0 : (0 : Int) ≤ (j : Int) := by omega
          have i1 : (j : Int) < m := by omega
          clear hrx
          by_cases hz : el ys j = 0
          · obtain ⟨t, ht, hte⟩ := HG.out.mem j (by rw [← HMM.out]; exact hlt) hz
            rw [← HK.out] at ht
            have HTE := Lib.hid hte
            rw [hz] at hc
            clear hte hz
            go_wp2_with fail
            go_quiet ((go_at_call 10; exact quiet_tells (isIn_yes _ _ _ _ _ _ t (HRP.out _) ht HTE.out)))
            go_wp2_with fail
            go_roundw
            case rel => exact ⟨j + 1, by omega, by go_num, bdrewN hblr _⟩
            case measure => simp [intOf]; omega
          · have HNO : Hid (∀ t, t < k → el xs t ≠ (j : Int)) := fun t ht => HG.out.non j (by rw [← HMM.out]; exact hlt) hz t (by rw [← HK.out]; exact ht)
            have hzb : (el ys j == 0) = false := by simp; exact hz
            clear hz
            go_wp2_with fail
            go_quiet ((go_at_call 10; exact quiet_tells (isIn_no _ _ _ _ _ _ (HRP.out _) HNO.out)))
            go_wp2_with fail
            go_roundw
            case rel => exact ⟨j + 1, by omega, by go_num, bdrewN hblr _⟩
            case measure => simp [intOf]; omega
        · obtain rfl : j = m := by omega
          have HAS : Hid (∀ t, t + 1 < k → el xs t < el xs (t + 1)) := fun t ht => HG.out.asc t (by rw [← HK.out]; exact ht)
          go_wp2_with fail
          refine (ascends_yes wr _ _ _ xs (r6.below hblr) HAS.out).mono ?_
          rintro e w7 ⟨rfl, b7⟩
          go_wp2_with fail
          go_ret
          exact ⟨ret_bool (by simp <;> omega), bstep (bstep l6 hblr) b7⟩
  · have rLast := r4
    have lLast := l4
    clear r4 l4
    go_wp2_with fail
    refine (HS.out _).mono ?_
    rintro e w8 ⟨a8, c8, rfl, own8, b8⟩
    go_wp2_with fail
    refine (equalInts_any_eq w8 _ _ k k _ _ xs xs (rLast.below b8) (own8.row (by omega)) rfl).mono ?_
    rintro e w9 ⟨rfl, b9⟩
    go_wp2_with fail
    go_ret
    exact ⟨rfl, bstep (bstep lLast b8) b9⟩
end Go.Proofs.Ytahnfjolidenfaa
