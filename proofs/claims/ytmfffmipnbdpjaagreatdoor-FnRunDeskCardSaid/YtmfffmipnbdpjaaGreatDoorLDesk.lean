/-
  The law of RunDesk: the desk's whole answer, its beginnings, its newlines.
-/
import Derived.Test.YtmfffmipnbdpjaaGreatDoorDesk6
import Derived.Test.YtmfffmipnbdpjaaGreatDoorDDesk
namespace Go.Proofs.YtmfffmipnbdpjaaGreatDoor
open Go.RowKit

/-- How many of the first k bytes are newlines. -/
def nlC (s : ByteArray) : Nat → Nat
  | 0 => 0
  | k + 1 => if byt s k = 10 then nlC s k + 1 else nlC s k
theorem nlC_le (s : ByteArray) (k : Nat) : nlC s k ≤ k := by
  induction k with
  | zero => exact Nat.le_refl _
  | succ k ih => rw [nlC]; split <;> omega
theorem nlC_yes {s : ByteArray} {k : Nat} (h : byt s k = 10) : nlC s (k + 1) = nlC s k + 1 := if_pos h
theorem nlC_no {s : ByteArray} {k : Nat} (h : ¬ byt s k = 10) : nlC s (k + 1) = nlC s k := if_neg h
theorem nlC_left {s t : ByteArray} {k : Nat} (h : k ≤ s.size) : nlC (s ++ t) k = nlC s k := by
  induction k with
  | zero => rfl
  | succ k ih => rw [nlC, nlC, ih (by omega), byt_left (by omega)]
theorem nlC_app {s t : ByteArray} {j : Nat} : nlC (s ++ t) (s.size + j) = nlC s s.size + nlC t j := by
  induction j with
  | zero => exact nlC_left (Nat.le_refl _)
  | succ j ih =>
    rw [← Nat.add_assoc, nlC, nlC, ih, byt_right]
    split <;> omega
theorem nlC_none {s : ByteArray} {k : Nat} (h : ∀ i, i < k → byt s i ≠ 10) : nlC s k = 0 := by
  induction k with
  | zero => rfl
  | succ k ih => rw [nlC, if_neg (h k (by omega))]; exact ih fun i hi => h i (by omega)
theorem nlC_desk {f : Nat → ByteArray} {n : Nat} (h : ∀ i, i < n → ∀ j, j < (f i).size → byt (f i) j ≠ 10) : nlC (deskF f n) (deskF f n).size = n := by
  induction n with
  | zero => rfl
  | succ n ih =>
    rw [deskF, ByteArray.size_append, nlC_app, ih fun i hi => h i (by omega), ByteArray.size_append, nlC_app, nlC_none (h n (by omega))]
    have e : nlC (bs [10]) (bs [10]).size = 1 := rfl
    rw [e]
theorem deskF_pre {f : Nat → ByteArray} {k n : Nat} (h : k ≤ n) : ∃ t, deskF f n = deskF f k ++ t := by
  induction n with
  | zero =>
    obtain rfl : k = 0 := by omega
    exact ⟨bs [], by rw [deskF]; exact (bs_app [] []).symm⟩
  | succ n ih =>
    by_cases e : k = n + 1
    · subst e; exact ⟨bs [], by rw [bs_eq (deskF f (n + 1)), bs_app, List.append_nil]⟩
    · obtain ⟨t, ht⟩ := ih (by omega)
      exact ⟨t ++ (f n ++ bs [10]), by rw [deskF, ht, ba_assoc]⟩
theorem deskF_ext {f : Nat → ByteArray} {k n : Nat} (h : k ≤ n) : (deskF f n).extract 0 (deskF f k).size = deskF f k ∧ (deskF f k).size ≤ (deskF f n).size := by
  obtain ⟨t, ht⟩ := @deskF_pre f k n h
  rw [ht]
  exact ⟨ByteArray.extract_append_eq_left rfl, by rw [ByteArray.size_append]; omega⟩
theorem deskF_pos {f : Nat → ByteArray} {n : Nat} (h : 0 < n) : 1 ≤ (deskF f n).size := by
  obtain ⟨k, rfl⟩ : ∃ k, n = k + 1 := ⟨n - 1, by omega⟩
  rw [deskF, ByteArray.size_append, ByteArray.size_append]
  have e : (bs [10]).size = 1 := rfl
  omega


set_option maxHeartbeats 800000 in
theorem newlines_any (w : World) (s : ByteArray) (hs : s.size ≤ 1000000) :
    Calls Tryz.prog 11 #[.string s] w fun e w' => e = .returned (.int .i64 (nlC s s.size)) ∧ w = w' := by
  have hby := byt_get
  go_enter Tryz.func11, Tryz.ntmps11
  go_wp2_with fail
  go_loop [3, 4] (fun v u => ∃ (k m : Nat), k ≤ s.size ∧ u = .int .i64 k ∧ v = .int .i64 m ∧ m ≤ k ∧ Hid (nlC s k = m)) (fun _ u => s.size - (intOf u).toNat)
  case atStart => exact ⟨0, 0, Nat.zero_le _, rfl, rfl, Nat.le_refl _, rfl⟩
  case round =>
    obtain ⟨k, m, hk, rfl, rfl, hm, HM⟩ := hrel
    by_cases hlt : k < s.size
    · by_cases he : byt s k = 10
      · have HM2 : Hid (nlC s (k + 1) = m + 1) := by rw [Hid, nlC_yes he, HM.out]
        have heb : ((byt s k : Int) == 10) = true := by simp; omega
        clear he
        go_wp2_with fail
        go_round
        case rel => exact ⟨k + 1, m + 1, by omega, by go_num, by go_num, by omega, HM2⟩
        case measure => simp [intOf]; omega
      · have HM2 : Hid (nlC s (k + 1) = m) := by rw [Hid, nlC_no he, HM.out]
        have heb : ((byt s k : Int) == 10) = false := by simp; omega
        clear he
        go_wp2_with fail
        go_round
        case rel => exact ⟨k + 1, m, by omega, by go_num, rfl, by omega, HM2⟩
        case measure => simp [intOf]; omega
    · obtain rfl : k = s.size := by omega
      go_wp2_with fail
      go_ret
      exact ⟨by rw [HM.out]; rfl, rfl⟩
theorem RowS.take {w : World} {a : Option Addr} {n c d k : Nat} {ss : List ByteArray} (h : RowS w a n c ss) (hk : k ≤ n) : RowS w a k d (ss.take k) := by
  have hl := h.len
  refine ⟨by simp; omega, fun i hi => ?_⟩
  obtain ⟨b, off, ha, hlt, hc⟩ := h.cell i (by omega)
  refine ⟨b, off, ha, hlt, fun j hj => ?_⟩
  rw [hc j (by omega)]
  unfold st
  simp [List.getD, List.getElem?_take, hj]
theorem st_take {ss : List ByteArray} {k i : Nat} (h : i < k) : st (ss.take k) i = st ss i := by
  unfold st
  simp [List.getD, List.getElem?_take, h]
theorem deskR_in {f : Nat → ByteArray} {n : Nat} (h : n ≤ 20) : deskR f n = deskF f n := if_neg (by omega)
set_option maxHeartbeats 3200000 in
theorem law_RunDesk (w : World) (a : Option Addr) (n c : Nat) (hE : Env w) (h : Bts w a n w.heap.size) (hnc : n ≤ c) :
    Calls Tryz.prog 4 #[.slice a n c] w fun e w' => Says w w' e true := by
  have hlo := hE.lo
  by_cases hbig : 1048576 < n
  · go_enter Tryz.func4, Tryz.ntmps4
    go_wp2
    go_ret
    exact ⟨rfl, Below.refl _ _⟩
  go_enter Tryz.func4, Tryz.ntmps4
  go_wp2_with fail
  refine (DrawRunDesk_any w a n c h hnc (by omega)).mono ?_
  rintro e w1 ⟨a1, m, c1, ss, rfl, hm, hsh, hown, hbl⟩
  have hlen := hown.len
  have hcap := hown.cap
  have hrow := hown.row
  obtain ⟨f, hf⟩ : ∃ f : Nat → ByteArray, ∀ i, i < m → Line (st ss i) (f i) :=
    ⟨fun i => if hi : (st ss i).size ≤ 1048576 then Classical.choose (line_any (st ss i) hi) else bs [], fun i hi => by
      have h1 : (st ss i).size ≤ 1048576 := by have := hsh.st (i := i) (by omega); omega
      show Line (st ss i) (if hi : (st ss i).size ≤ 1048576 then Classical.choose (line_any (st ss i) hi) else bs [])
      rw [dif_pos h1]; exact Classical.choose_spec (line_any (st ss i) h1)⟩
  have HF := Lib.hid hf
  have HSZ : Hid (∀ k, k ≤ m → (deskF f k).size ≤ 1505) := fun k hk => by have := @deskF_size f k fun i hi => (HF.out i (by omega)).sz; omega
  have HNL : Hid (nlC (deskF f m) (deskF f m).size = m) := nlC_desk fun i hi => (HF.out i hi).nl
  clear hf hsh
  have hE1 := hE.below hbl hlo
  have hlo1 := hE1.lo
  go_wp2_with fail
  refine (RunDesk_any w1 a1 m c1 ss f hE1 hrow (by omega) HF.out).mono ?_
  rintro e w2 ⟨rfl, b2⟩
  rw [deskR_in (by omega)]
  have l2 := bstep hbl b2
  have r2 := hrow.below b2
  have hE2 := hE1.below b2 hlo1
  clear b2
  go_wp2_with fail
  refine (sRunDesk_any w2 a1 m c1 ss f r2 (by omega) HF.out).mono ?_
  rintro e w3 ⟨rfl, b3⟩
  rw [deskR_in (by omega)]
  have l3 := bstep l2 b3
  have r3 := r2.below b3
  have hE3 := hE2.below b3 hE2.lo
  have htb : ((deskF f m).toList == (deskF f m).toList) = true := by simp
  clear b3 r2 l2 hE2 hE1 hrow hown hbl
  by_cases hm0 : m = 0
  · subst hm0
    have he : ((deskF f 0).toList == []) = true := by rw [show deskF f 0 = bs [] from rfl, bs_toList]; rfl
    go_wp2_with fail
    refine (sRunDesk_any w3 a1 0 c1 ss f r3 (by omega) HF.out).mono ?_
    rintro e w4 ⟨rfl, b4⟩
    rw [deskR_in (by omega)]
    go_wp2_with fail
    go_ret
    exact ⟨rfl, bstep l3 b4⟩
  · have hp := @deskF_pos f m (by omega)
    have he : ((deskF f m).toList == []) = false := by
      cases hb : (deskF f m).toList == [] with
      | false => rfl
      | true =>
        have h1 : (deskF f m).toList = [] := by simpa using hb
        have h2 : (deskF f m).toList.length = (deskF f m).size := by rw [ByteArray.toList_eq]; simp
        rw [h1] at h2
        simp at h2
        omega
    obtain ⟨b, off, rfl, _, _⟩ := r3.cell 0 (by omega)
    clear hm0
    go_wp2_with fail
    go_loopw [5] (fun u wr => ∃ k : Nat, k ≤ m + 1 ∧ u = .int .i64 k ∧ Below w3.heap.size w3 wr) (fun u _ => m + 1 - (intOf u).toNat)
    case atStart => exact ⟨0, Nat.zero_le _, rfl, Below.refl _ _⟩
    case round =>
      obtain ⟨k, hk, rfl, hblr⟩ := hrel
      by_cases hlt : k ≤ m
      · have rk : RowS wr (some ⟨b, off, none⟩) k c1 (ss.take k) := (r3.below hblr).take hlt
        have hEr := hE3.below hblr hE3.lo
        obtain ⟨hx1, hx2⟩ := @deskF_ext f k m hlt
        have hxb : (((deskF f m).extract 0 (deskF f k).size).toList == (deskF f k).toList) = true := by rw [hx1]; simp
        have hzk := HSZ.out k hlt
        have hzm := HSZ.out m (Nat.le_refl _)
        clear hx1
        go_wp2_with fail
        refine (RunDesk_any wr _ k c1 (ss.take k) f hEr rk (by omega) (fun i hi => by rw [st_take hi]; exact HF.out i (by omega))).mono ?_
        rintro e w4 ⟨rfl, b4⟩
        rw [deskR_in (by omega)]
        go_wp2_with fail
        go_roundw
        case rel => exact ⟨k + 1, by omega, by go_num, bstep hblr b4⟩
        case measure => simp [intOf]; omega
      · have hz := HSZ.out m (Nat.le_refl _)
        go_wp2_with fail
        refine (newlines_any wr (deskF f m) (by omega)).mono ?_
        rintro e w' ⟨rfl, rfl⟩
        rw [HNL.out]
        go_wp2_with fail
        go_ret
        exact ⟨ret_bool (by simp), bstep l3 hblr⟩
end Go.Proofs.YtmfffmipnbdpjaaGreatDoor
