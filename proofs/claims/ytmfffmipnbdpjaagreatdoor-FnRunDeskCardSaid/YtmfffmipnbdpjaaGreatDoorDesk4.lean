/-
  The reference's answer to a line.
-/
import Derived.Test.YtmfffmipnbdpjaaGreatDoorDesk3
namespace Go.Proofs.YtmfffmipnbdpjaaGreatDoor
open Go.RowKit

theorem tell_yes {R : List Int} {n : Nat} (h : R.length = n) (hn : 0 < n) : ltx R n = tell R := by rw [tell, if_neg (by omega), h]
set_option maxRecDepth 100000 in
set_option maxHeartbeats 3200000 in
theorem answer_edge (w : World) (s : ByteArray) (xs : List Int) (hs : s.size ≤ 1048576) (h2 : (splS s 32).length = 2) (h0 : st (splS s 32) 0 = ⟨#[101, 100, 103, 101]⟩) (hr : RowText (st (splS s 32) 1) xs) (hR : Small (edgeL xs xs.length)) :
    Calls Tryz.prog 12 #[.string s] w fun e w' => e = .returned (.string (tell (edgeL xs xs.length))) ∧ Below w.heap.size w w' := by
  have HSP : Hid (∀ w, Calls Tryz.prog 22 #[.string s, .int .u8 32] w fun e w' => FreshS w w' e (splS s 32)) := fun w => splitAt_any w s 32 (by omega)
  have hpos := splS_pos s 32
  have hlen := splS_len s 32
  have hz1 := splS_sz s 32 1
  have HRR := Lib.hid fun w0 => readRow_yes w0 _ xs (Nat.le_trans hz1 hs) hr
  have HV := Lib.hid hr.ok
  have HB := Lib.hid fun i (hi : i < xs.length) => valid_bd hr.ok hi
  have hn16 : xs.length ≤ 16 := valid_len hr.ok
  have hn0 : 0 < xs.length := by rw [← rt_len hr]; exact splS_pos _ _
  clear hr hz1
  generalize splS s 32 = ss at *
  obtain ⟨n, hn⟩ : ∃ n, n = xs.length := ⟨_, rfl⟩
  rw [← hn] at hn16 hn0 HRR HB
  have HL := Lib.hid hn.symm
  clear hn hlen hpos
  have e1 : (edgeL xs n).length = n := tab_length _ _
  rw [HL.out] at hR ⊢
  have HRB : Hid (∀ i, i < n → -4000000000 ≤ el (edgeL xs n) i ∧ el (edgeL xs n) i ≤ 4000000000) := by have := hR.bd; rw [e1] at this; exact this
  have HTL := Lib.hid (tell_yes e1 hn0)
  clear e1 hR
  go_enter Tryz.func12, Tryz.ntmps12
  go_wp2_with fail
  refine (HSP.out _).mono ?_
  rintro e w1 ⟨al, cl, rfl, hownl, hbm⟩
  rw [h2] at hownl ⊢
  obtain ⟨g, rfl, hg1, hg2, hcell⟩ := hownl.at (by omega)
  have hc1 := hcell w1 rfl 1 (by omega)
  have HC0 := Lib.hid fun (w' : World) (e : w'.heap[g]? = w1.heap[g]?) => (hcell w' e 0 (by omega)).trans (by rw [h0])
  clear hcell hownl
  go_wp2_with fail
  refine (HRR.out w1).mono ?_
  rintro e w2 ⟨a2, c2, rfl, own2, b2⟩
  have bl2 := bstep hbm b2
  have hc0 := HC0.out w2 (b2.block g hg2)
  have r2 := own2.row (show n ≤ 1125899906842624 by omega)
  clear own2 hc1
  go_wp2_with fail
  refine (edge_any w2 a2 n c2 xs r2 hn16 HB.out).mono ?_
  rintro e w3 ⟨a3, c3, rfl, own3, b3⟩
  have bl3 := bstep bl2 b3
  go_wp2_with fail
  refine (listText_any w3 a3 n c3 _ (own3.row (by omega)) (by omega) HRB.out).mono ?_
  rintro e w' ⟨rfl, rfl⟩
  go_wp2_with fail
  go_ret
  exact ⟨by rw [← HTL.out]; rfl, bl3⟩
set_option maxRecDepth 100000 in
set_option maxHeartbeats 3200000 in
theorem answer_self (w : World) (s : ByteArray) (xs : List Int) (hs : s.size ≤ 1048576) (h2 : (splS s 32).length = 2) (h0 : st (splS s 32) 0 = ⟨#[115, 101, 108, 102]⟩) (hr : RowText (st (splS s 32) 1) xs) (hR : Small (selfR xs)) :
    Calls Tryz.prog 12 #[.string s] w fun e w' => e = .returned (.string (tell (selfR xs))) ∧ Below w.heap.size w w' := by
  have HSP : Hid (∀ w, Calls Tryz.prog 22 #[.string s, .int .u8 32] w fun e w' => FreshS w w' e (splS s 32)) := fun w => splitAt_any w s 32 (by omega)
  have hpos := splS_pos s 32
  have hlen := splS_len s 32
  have hz1 := splS_sz s 32 1
  have HRR := Lib.hid fun w0 => readRow_yes w0 _ xs (Nat.le_trans hz1 hs) hr
  have HV := Lib.hid hr.ok
  have HB := Lib.hid fun i (hi : i < xs.length) => valid_bd hr.ok hi
  have hn16 : xs.length ≤ 16 := valid_len hr.ok
  have hn0 : 0 < xs.length := by rw [← rt_len hr]; exact splS_pos _ _
  clear hr hz1
  generalize splS s 32 = ss at *
  obtain ⟨n, hn⟩ : ∃ n, n = xs.length := ⟨_, rfl⟩
  rw [← hn] at hn16 hn0 HRR HB
  have HL := Lib.hid hn.symm
  clear hn hlen hpos
  have e0 : selfR xs = selfL xs n := by rw [selfR, if_pos HV.out, HL.out]
  rw [e0] at hR ⊢
  have e1 : (selfL xs n).length = n := tab_length _ _
  have HRB : Hid (∀ i, i < n → -4000000000 ≤ el (selfL xs n) i ∧ el (selfL xs n) i ≤ 4000000000) := by have := hR.bd; rw [e1] at this; exact this
  have HTL := Lib.hid (tell_yes e1 hn0)
  clear e0 e1 hR
  go_enter Tryz.func12, Tryz.ntmps12
  go_wp2_with fail
  refine (HSP.out _).mono ?_
  rintro e w1 ⟨al, cl, rfl, hownl, hbm⟩
  rw [h2] at hownl ⊢
  obtain ⟨g, rfl, hg1, hg2, hcell⟩ := hownl.at (by omega)
  have hc1 := hcell w1 rfl 1 (by omega)
  have HC0 := Lib.hid fun (w' : World) (e : w'.heap[g]? = w1.heap[g]?) => (hcell w' e 0 (by omega)).trans (by rw [h0])
  clear hcell hownl
  go_wp2_with fail
  refine (HRR.out w1).mono ?_
  rintro e w2 ⟨a2, c2, rfl, own2, b2⟩
  have bl2 := bstep hbm b2
  have hc0 := HC0.out w2 (b2.block g hg2)
  have r2 := own2.row (show n ≤ 1125899906842624 by omega)
  clear own2 hc1
  go_wp2_with fail
  refine (itself_any w2 a2 n c2 xs r2 HV.out).mono ?_
  rintro e w3 ⟨a3, c3, rfl, own3, b3⟩
  have bl3 := bstep bl2 b3
  go_wp2_with fail
  refine (listText_any w3 a3 n c3 _ (own3.row (by omega)) (by omega) HRB.out).mono ?_
  rintro e w' ⟨rfl, rfl⟩
  go_wp2_with fail
  go_ret
  exact ⟨by rw [← HTL.out]; rfl, bl3⟩
set_option maxRecDepth 100000 in
set_option maxHeartbeats 3200000 in
theorem answer_signs (w : World) (s : ByteArray) (xs : List Int) (hs : s.size ≤ 1048576) (h2 : (splS s 32).length = 2) (h0 : st (splS s 32) 0 = ⟨#[115, 105, 103, 110, 115]⟩) (hr : RowText (st (splS s 32) 1) xs) (hR : Small (signsR xs)) :
    Calls Tryz.prog 12 #[.string s] w fun e w' => e = .returned (.string (tell (signsR xs))) ∧ Below w.heap.size w w' := by
  have HSP : Hid (∀ w, Calls Tryz.prog 22 #[.string s, .int .u8 32] w fun e w' => FreshS w w' e (splS s 32)) := fun w => splitAt_any w s 32 (by omega)
  have hpos := splS_pos s 32
  have hlen := splS_len s 32
  have hz1 := splS_sz s 32 1
  have HRR := Lib.hid fun w0 => readRow_yes w0 _ xs (Nat.le_trans hz1 hs) hr
  have HV := Lib.hid hr.ok
  have HB := Lib.hid fun i (hi : i < xs.length) => valid_bd hr.ok hi
  have hn16 : xs.length ≤ 16 := valid_len hr.ok
  have hn0 : 0 < xs.length := by rw [← rt_len hr]; exact splS_pos _ _
  clear hr hz1
  generalize splS s 32 = ss at *
  obtain ⟨n, hn⟩ : ∃ n, n = xs.length := ⟨_, rfl⟩
  rw [← hn] at hn16 hn0 HRR HB
  have HL := Lib.hid hn.symm
  clear hn hlen hpos
  cases hB : cube xs
  · have e0 : signsR xs = [] := by simp [signsR, hB]
    have HT : Hid (tell (signsR xs) = bs [119, 114, 111, 110, 103]) := by rw [Hid, e0]; rfl
    clear e0 hR
    go_enter Tryz.func12, Tryz.ntmps12
    go_wp2_with fail
    refine (HSP.out _).mono ?_
    rintro e w1 ⟨al, cl, rfl, hownl, hbm⟩
    rw [h2] at hownl ⊢
    obtain ⟨g, rfl, hg1, hg2, hcell⟩ := hownl.at (by omega)
    have hc1 := hcell w1 rfl 1 (by omega)
    have HC0 := Lib.hid fun (w' : World) (e : w'.heap[g]? = w1.heap[g]?) => (hcell w' e 0 (by omega)).trans (by rw [h0])
    clear hcell hownl
    go_wp2_with fail
    refine (HRR.out w1).mono ?_
    rintro e w2 ⟨a2, c2, rfl, own2, b2⟩
    have bl2 := bstep hbm b2
    have hc0 := HC0.out w2 (b2.block g hg2)
    have r2 := own2.row (show n ≤ 1125899906842624 by omega)
    clear own2 hc1
    go_wp2_with fail
    refine (validCube_is w2 a2 n c2 xs false r2 hB).mono ?_
    rintro e w' ⟨rfl, rfl⟩
    go_wp2_with fail
    go_ret
    exact ⟨by rw [HT.out]; rfl, bl2⟩
  · have e0 : signsR xs = signsL xs n := by rw [signsR, if_pos hB, HL.out]
    rw [e0] at hR ⊢
    have e1 : (signsL xs n).length = n := tab_length _ _
    have HRB : Hid (∀ i, i < n → -4000000000 ≤ el (signsL xs n) i ∧ el (signsL xs n) i ≤ 4000000000) := by have := hR.bd; rw [e1] at this; exact this
    have HTL := Lib.hid (tell_yes e1 hn0)
    have HBB := Lib.hid hB
    clear e0 e1 hR
    go_enter Tryz.func12, Tryz.ntmps12
    go_wp2_with fail
    refine (HSP.out _).mono ?_
    rintro e w1 ⟨al, cl, rfl, hownl, hbm⟩
    rw [h2] at hownl ⊢
    obtain ⟨g, rfl, hg1, hg2, hcell⟩ := hownl.at (by omega)
    have hc1 := hcell w1 rfl 1 (by omega)
    have HC0 := Lib.hid fun (w' : World) (e : w'.heap[g]? = w1.heap[g]?) => (hcell w' e 0 (by omega)).trans (by rw [h0])
    clear hcell hownl
    go_wp2_with fail
    refine (HRR.out w1).mono ?_
    rintro e w2 ⟨a2, c2, rfl, own2, b2⟩
    have bl2 := bstep hbm b2
    have hc0 := HC0.out w2 (b2.block g hg2)
    have r2 := own2.row (show n ≤ 1125899906842624 by omega)
    clear own2 hc1
    go_wp2_with fail
    refine (validCube_is w2 a2 n c2 xs true r2 hB).mono ?_
    rintro e w' ⟨rfl, rfl⟩
    go_wp2_with fail
    refine (ssigns_any w2 a2 n c2 xs r2 hn16 HB.out).mono ?_
    rintro e w3 ⟨a3, c3, rfl, own3, b3⟩
    have bl3 := bstep bl2 b3
    go_wp2_with fail
    refine (listText_any w3 a3 n c3 _ (own3.row (by omega)) (by omega) HRB.out).mono ?_
    rintro e w' ⟨rfl, rfl⟩
    go_wp2_with fail
    go_ret
    exact ⟨by rw [← HTL.out]; rfl, bl3⟩
set_option maxRecDepth 100000 in
set_option maxHeartbeats 3200000 in
theorem answer_wave (w : World) (s : ByteArray) (xs : List Int) (hs : s.size ≤ 1048576) (h2 : (splS s 32).length = 2) (h0 : st (splS s 32) 0 = ⟨#[119, 97, 118, 101]⟩) (hr : RowText (st (splS s 32) 1) xs) (hR : Small (wvR xs)) :
    Calls Tryz.prog 12 #[.string s] w fun e w' => e = .returned (.string (tell (wvR xs))) ∧ Below w.heap.size w w' := by
  have HSP : Hid (∀ w, Calls Tryz.prog 22 #[.string s, .int .u8 32] w fun e w' => FreshS w w' e (splS s 32)) := fun w => splitAt_any w s 32 (by omega)
  have hpos := splS_pos s 32
  have hlen := splS_len s 32
  have hz1 := splS_sz s 32 1
  have HRR := Lib.hid fun w0 => readRow_yes w0 _ xs (Nat.le_trans hz1 hs) hr
  have HV := Lib.hid hr.ok
  have HB := Lib.hid fun i (hi : i < xs.length) => valid_bd hr.ok hi
  have hn16 : xs.length ≤ 16 := valid_len hr.ok
  have hn0 : 0 < xs.length := by rw [← rt_len hr]; exact splS_pos _ _
  clear hr hz1
  generalize splS s 32 = ss at *
  obtain ⟨n, hn⟩ : ∃ n, n = xs.length := ⟨_, rfl⟩
  rw [← hn] at hn16 hn0 HRR HB
  have HL := Lib.hid hn.symm
  clear hn hlen hpos
  cases hB : rests xs
  · have e0 : wvR xs = [] := by simp [wvR, hB]
    have HT : Hid (tell (wvR xs) = bs [119, 114, 111, 110, 103]) := by rw [Hid, e0]; rfl
    clear e0 hR
    go_enter Tryz.func12, Tryz.ntmps12
    go_wp2_with fail
    refine (HSP.out _).mono ?_
    rintro e w1 ⟨al, cl, rfl, hownl, hbm⟩
    rw [h2] at hownl ⊢
    obtain ⟨g, rfl, hg1, hg2, hcell⟩ := hownl.at (by omega)
    have hc1 := hcell w1 rfl 1 (by omega)
    have HC0 := Lib.hid fun (w' : World) (e : w'.heap[g]? = w1.heap[g]?) => (hcell w' e 0 (by omega)).trans (by rw [h0])
    clear hcell hownl
    go_wp2_with fail
    refine (HRR.out w1).mono ?_
    rintro e w2 ⟨a2, c2, rfl, own2, b2⟩
    have bl2 := bstep hbm b2
    have hc0 := HC0.out w2 (b2.block g hg2)
    have r2 := own2.row (show n ≤ 1125899906842624 by omega)
    clear own2 hc1
    go_wp2_with fail
    refine (validRests_is w2 a2 n c2 xs false r2 hB).mono ?_
    rintro e w' ⟨rfl, rfl⟩
    go_wp2_with fail
    go_ret
    exact ⟨by rw [HT.out]; rfl, bl2⟩
  · have e0 : wvR xs = wvL (rootN n) xs n := by rw [wvR, if_pos hB, HL.out]
    rw [e0] at hR ⊢
    have e1 : (wvL (rootN n) xs n).length = n := tab_length _ _
    have HRB : Hid (∀ i, i < n → -4000000000 ≤ el (wvL (rootN n) xs n) i ∧ el (wvL (rootN n) xs n) i ≤ 4000000000) := by have := hR.bd; rw [e1] at this; exact this
    have HTL := Lib.hid (tell_yes e1 hn0)
    have HBB := Lib.hid hB
    clear e0 e1 hR
    go_enter Tryz.func12, Tryz.ntmps12
    go_wp2_with fail
    refine (HSP.out _).mono ?_
    rintro e w1 ⟨al, cl, rfl, hownl, hbm⟩
    rw [h2] at hownl ⊢
    obtain ⟨g, rfl, hg1, hg2, hcell⟩ := hownl.at (by omega)
    have hc1 := hcell w1 rfl 1 (by omega)
    have HC0 := Lib.hid fun (w' : World) (e : w'.heap[g]? = w1.heap[g]?) => (hcell w' e 0 (by omega)).trans (by rw [h0])
    clear hcell hownl
    go_wp2_with fail
    refine (HRR.out w1).mono ?_
    rintro e w2 ⟨a2, c2, rfl, own2, b2⟩
    have bl2 := bstep hbm b2
    have hc0 := HC0.out w2 (b2.block g hg2)
    have r2 := own2.row (show n ≤ 1125899906842624 by omega)
    clear own2 hc1
    go_wp2_with fail
    refine (validRests_is w2 a2 n c2 xs true r2 hB).mono ?_
    rintro e w' ⟨rfl, rfl⟩
    go_wp2_with fail
    refine (sWaveOf_yes w2 a2 n c2 xs r2 HBB.out).mono ?_
    rintro e w3 ⟨a3, c3, rfl, own3, b3⟩
    have bl3 := bstep bl2 b3
    go_wp2_with fail
    refine (listText_any w3 a3 n c3 _ (own3.row (by omega)) (by omega) HRB.out).mono ?_
    rintro e w' ⟨rfl, rfl⟩
    go_wp2_with fail
    go_ret
    exact ⟨by rw [← HTL.out]; rfl, bl3⟩
theorem halve_len {xs : List Int} {n : Nat} (hB : evenB xs = true) (hl : xs.length = n) : (halveL xs (n / 2)).length = n := by
  rw [halveL, tab_length]; exact (evenB_half hB hl).1.symm
theorem leap_len {xs : List Int} {n : Nat} (hB : evenB xs = true) (hl : xs.length = n) : (leapL xs (n / 2)).length = n := by
  rw [leapL, List.length_append, tab_length, tab_length]
  have := (evenB_half hB hl).1
  omega
set_option maxRecDepth 100000 in
set_option maxHeartbeats 3200000 in
theorem answer_halve (w : World) (s : ByteArray) (xs : List Int) (hs : s.size ≤ 1048576) (h2 : (splS s 32).length = 2) (h0 : st (splS s 32) 0 = ⟨#[104, 97, 108, 118, 101]⟩) (hr : RowText (st (splS s 32) 1) xs) (hR : Small (halfR xs)) :
    Calls Tryz.prog 12 #[.string s] w fun e w' => e = .returned (.string (tell (halfR xs))) ∧ Below w.heap.size w w' := by
  have HSP : Hid (∀ w, Calls Tryz.prog 22 #[.string s, .int .u8 32] w fun e w' => FreshS w w' e (splS s 32)) := fun w => splitAt_any w s 32 (by omega)
  have hpos := splS_pos s 32
  have hlen := splS_len s 32
  have hz1 := splS_sz s 32 1
  have HRR := Lib.hid fun w0 => readRow_yes w0 _ xs (Nat.le_trans hz1 hs) hr
  have HV := Lib.hid hr.ok
  have HB := Lib.hid fun i (hi : i < xs.length) => valid_bd hr.ok hi
  have hn16 : xs.length ≤ 16 := valid_len hr.ok
  have hn0 : 0 < xs.length := by rw [← rt_len hr]; exact splS_pos _ _
  clear hr hz1
  generalize splS s 32 = ss at *
  obtain ⟨n, hn⟩ : ∃ n, n = xs.length := ⟨_, rfl⟩
  rw [← hn] at hn16 hn0 HRR HB
  have HL := Lib.hid hn.symm
  clear hn hlen hpos
  cases hB : evenB xs
  · have e0 : halfR xs = [] := by simp [halfR, hB]
    have HT : Hid (tell (halfR xs) = bs [119, 114, 111, 110, 103]) := by rw [Hid, e0]; rfl
    clear e0 hR
    go_enter Tryz.func12, Tryz.ntmps12
    go_wp2_with fail
    refine (HSP.out _).mono ?_
    rintro e w1 ⟨al, cl, rfl, hownl, hbm⟩
    rw [h2] at hownl ⊢
    obtain ⟨g, rfl, hg1, hg2, hcell⟩ := hownl.at (by omega)
    have hc1 := hcell w1 rfl 1 (by omega)
    have HC0 := Lib.hid fun (w' : World) (e : w'.heap[g]? = w1.heap[g]?) => (hcell w' e 0 (by omega)).trans (by rw [h0])
    clear hcell hownl
    go_wp2_with fail
    refine (HRR.out w1).mono ?_
    rintro e w2 ⟨a2, c2, rfl, own2, b2⟩
    have bl2 := bstep hbm b2
    have hc0 := HC0.out w2 (b2.block g hg2)
    have r2 := own2.row (show n ≤ 1125899906842624 by omega)
    clear own2 hc1
    go_wp2_with fail
    refine (validEven_is w2 a2 n c2 xs false r2 hB).mono ?_
    rintro e w' ⟨rfl, rfl⟩
    go_wp2_with fail
    go_ret
    exact ⟨by rw [HT.out]; rfl, bl2⟩
  · have e0 : halfR xs = halveL xs (n / 2) := by rw [halfR, if_pos hB, HL.out]
    rw [e0] at hR ⊢
    have e1 : (halveL xs (n / 2)).length = n := halve_len hB HL.out
    have HRB : Hid (∀ i, i < n → -4000000000 ≤ el (halveL xs (n / 2)) i ∧ el (halveL xs (n / 2)) i ≤ 4000000000) := by have := hR.bd; rw [e1] at this; exact this
    have HTL := Lib.hid (tell_yes e1 hn0)
    have HBB := Lib.hid hB
    clear e0 e1 hR
    go_enter Tryz.func12, Tryz.ntmps12
    go_wp2_with fail
    refine (HSP.out _).mono ?_
    rintro e w1 ⟨al, cl, rfl, hownl, hbm⟩
    rw [h2] at hownl ⊢
    obtain ⟨g, rfl, hg1, hg2, hcell⟩ := hownl.at (by omega)
    have hc1 := hcell w1 rfl 1 (by omega)
    have HC0 := Lib.hid fun (w' : World) (e : w'.heap[g]? = w1.heap[g]?) => (hcell w' e 0 (by omega)).trans (by rw [h0])
    clear hcell hownl
    go_wp2_with fail
    refine (HRR.out w1).mono ?_
    rintro e w2 ⟨a2, c2, rfl, own2, b2⟩
    have bl2 := bstep hbm b2
    have hc0 := HC0.out w2 (b2.block g hg2)
    have r2 := own2.row (show n ≤ 1125899906842624 by omega)
    clear own2 hc1
    go_wp2_with fail
    refine (validEven_is w2 a2 n c2 xs true r2 hB).mono ?_
    rintro e w' ⟨rfl, rfl⟩
    go_wp2_with fail
    refine (shalve_any w2 a2 n c2 (n / 2) xs r2 (evenB_half HBB.out HL.out).1 (by omega) (evenB_half HBB.out HL.out).2.2).mono ?_
    rintro e w3 ⟨a3, c3, rfl, own3, b3⟩
    have bl3 := bstep bl2 b3
    go_wp2_with fail
    refine (listText_any w3 a3 n c3 _ (own3.row (by omega)) (by omega) HRB.out).mono ?_
    rintro e w' ⟨rfl, rfl⟩
    go_wp2_with fail
    go_ret
    exact ⟨by rw [← HTL.out]; rfl, bl3⟩
set_option maxRecDepth 100000 in
set_option maxHeartbeats 3200000 in
theorem answer_leap (w : World) (s : ByteArray) (xs : List Int) (hs : s.size ≤ 1048576) (h2 : (splS s 32).length = 2) (h0 : st (splS s 32) 0 = ⟨#[108, 101, 97, 112]⟩) (hr : RowText (st (splS s 32) 1) xs) (hR : Small (leapR xs)) :
    Calls Tryz.prog 12 #[.string s] w fun e w' => e = .returned (.string (tell (leapR xs))) ∧ Below w.heap.size w w' := by
  have HSP : Hid (∀ w, Calls Tryz.prog 22 #[.string s, .int .u8 32] w fun e w' => FreshS w w' e (splS s 32)) := fun w => splitAt_any w s 32 (by omega)
  have hpos := splS_pos s 32
  have hlen := splS_len s 32
  have hz1 := splS_sz s 32 1
  have HRR := Lib.hid fun w0 => readRow_yes w0 _ xs (Nat.le_trans hz1 hs) hr
  have HV := Lib.hid hr.ok
  have HB := Lib.hid fun i (hi : i < xs.length) => valid_bd hr.ok hi
  have hn16 : xs.length ≤ 16 := valid_len hr.ok
  have hn0 : 0 < xs.length := by rw [← rt_len hr]; exact splS_pos _ _
  clear hr hz1
  generalize splS s 32 = ss at *
  obtain ⟨n, hn⟩ : ∃ n, n = xs.length := ⟨_, rfl⟩
  rw [← hn] at hn16 hn0 HRR HB
  have HL := Lib.hid hn.symm
  clear hn hlen hpos
  cases hB : evenB xs
  · have e0 : leapR xs = [] := by simp [leapR, hB]
    have HT : Hid (tell (leapR xs) = bs [119, 114, 111, 110, 103]) := by rw [Hid, e0]; rfl
    clear e0 hR
    go_enter Tryz.func12, Tryz.ntmps12
    go_wp2_with fail
    refine (HSP.out _).mono ?_
    rintro e w1 ⟨al, cl, rfl, hownl, hbm⟩
    rw [h2] at hownl ⊢
    obtain ⟨g, rfl, hg1, hg2, hcell⟩ := hownl.at (by omega)
    have hc1 := hcell w1 rfl 1 (by omega)
    have HC0 := Lib.hid fun (w' : World) (e : w'.heap[g]? = w1.heap[g]?) => (hcell w' e 0 (by omega)).trans (by rw [h0])
    clear hcell hownl
    go_wp2_with fail
    refine (HRR.out w1).mono ?_
    rintro e w2 ⟨a2, c2, rfl, own2, b2⟩
    have bl2 := bstep hbm b2
    have hc0 := HC0.out w2 (b2.block g hg2)
    have r2 := own2.row (show n ≤ 1125899906842624 by omega)
    clear own2 hc1
    go_wp2_with fail
    refine (validEven_is w2 a2 n c2 xs false r2 hB).mono ?_
    rintro e w' ⟨rfl, rfl⟩
    go_wp2_with fail
    go_ret
    exact ⟨by rw [HT.out]; rfl, bl2⟩
  · have e0 : leapR xs = leapL xs (n / 2) := by rw [leapR, if_pos hB, HL.out]
    rw [e0] at hR ⊢
    have e1 : (leapL xs (n / 2)).length = n := leap_len hB HL.out
    have HRB : Hid (∀ i, i < n → -4000000000 ≤ el (leapL xs (n / 2)) i ∧ el (leapL xs (n / 2)) i ≤ 4000000000) := by have := hR.bd; rw [e1] at this; exact this
    have HTL := Lib.hid (tell_yes e1 hn0)
    have HBB := Lib.hid hB
    clear e0 e1 hR
    go_enter Tryz.func12, Tryz.ntmps12
    go_wp2_with fail
    refine (HSP.out _).mono ?_
    rintro e w1 ⟨al, cl, rfl, hownl, hbm⟩
    rw [h2] at hownl ⊢
    obtain ⟨g, rfl, hg1, hg2, hcell⟩ := hownl.at (by omega)
    have hc1 := hcell w1 rfl 1 (by omega)
    have HC0 := Lib.hid fun (w' : World) (e : w'.heap[g]? = w1.heap[g]?) => (hcell w' e 0 (by omega)).trans (by rw [h0])
    clear hcell hownl
    go_wp2_with fail
    refine (HRR.out w1).mono ?_
    rintro e w2 ⟨a2, c2, rfl, own2, b2⟩
    have bl2 := bstep hbm b2
    have hc0 := HC0.out w2 (b2.block g hg2)
    have r2 := own2.row (show n ≤ 1125899906842624 by omega)
    clear own2 hc1
    go_wp2_with fail
    refine (validEven_is w2 a2 n c2 xs true r2 hB).mono ?_
    rintro e w' ⟨rfl, rfl⟩
    go_wp2_with fail
    refine (leap_any w2 a2 n c2 (n / 2) xs r2 (evenB_half HBB.out HL.out).1 hn16 HB.out).mono ?_
    rintro e w3 ⟨a3, c3, rfl, own3, b3⟩
    have bl3 := bstep bl2 b3
    go_wp2_with fail
    refine (listText_any w3 a3 n c3 _ (own3.row (by omega)) (by omega) HRB.out).mono ?_
    rintro e w' ⟨rfl, rfl⟩
    go_wp2_with fail
    go_ret
    exact ⟨by rw [← HTL.out]; rfl, bl3⟩
set_option maxHeartbeats 800000 in
theorem answer_len (w : World) (s : ByteArray) (hs : s.size ≤ 1048576) (h2 : (splS s 32).length ≠ 2) :
    Calls Tryz.prog 12 #[.string s] w fun e w' => e = .returned (.string (bs [119, 104, 97, 116])) ∧ Below w.heap.size w w' := by
  have HSP : Hid (∀ w, Calls Tryz.prog 22 #[.string s, .int .u8 32] w fun e w' => FreshS w w' e (splS s 32)) := fun w => splitAt_any w s 32 (by omega)
  have hpos := splS_pos s 32
  have hlen := splS_len s 32
  generalize splS s 32 = ss at *
  obtain ⟨n, hn⟩ : ∃ n, n = ss.length := ⟨_, rfl⟩
  rw [← hn] at h2 hpos hlen
  have HN := Lib.hid hn
  have h2b : ((n : Int) != 2) = true := by simp; omega
  clear hn h2
  go_enter Tryz.func12, Tryz.ntmps12
  go_wp2_with fail
  refine (HSP.out _).mono ?_
  rintro e w1 ⟨al, cl, rfl, hownl, hbm⟩
  rw [← HN.out] at hownl ⊢
  go_wp2_with fail
  go_ret
  exact ⟨rfl, hbm⟩
theorem rr_any (w : World) (s : ByteArray) (hs : s.size ≤ 1048576) :
    Calls Tryz.prog 23 #[.string s] w fun e w' => ∃ a n c ok, e = .returned (.tuple #[.slice a n c, .bool ok]) ∧ Below w.heap.size w w' := by
  by_cases h : ∃ xs, RowText s xs
  · obtain ⟨xs, hx⟩ := h
    refine (readRow_yes w s xs hs hx).mono ?_
    rintro e w' ⟨a, c, rfl, _, hb⟩
    exact ⟨_, _, _, _, rfl, hb⟩
  · refine (readRow_no w s hs fun xs hx => h ⟨xs, hx⟩).mono ?_
    rintro e w' ⟨a, n, c, rfl, hb⟩
    exact ⟨_, _, _, _, rfl, hb⟩
theorem tl_no {a : ByteArray} {l : List UInt8} (h : a ≠ ⟨l.toArray⟩) : (a.toList == l) = false := by
  rw [ByteArray.toList_eq, beq_eq_false_iff_ne]
  intro e
  exact h (by rw [bs_eq a, e]; rfl)
set_option maxRecDepth 100000 in
set_option maxHeartbeats 3200000 in
theorem answer_word (w : World) (s : ByteArray) (hs : s.size ≤ 1048576) (h2 : (splS s 32).length = 2) (h0 : st (splS s 32) 0 ∉ words) :
    Calls Tryz.prog 12 #[.string s] w fun e w' => e = .returned (.string (bs [119, 104, 97, 116])) ∧ Below w.heap.size w w' := by
  have HSP : Hid (∀ w, Calls Tryz.prog 22 #[.string s, .int .u8 32] w fun e w' => FreshS w w' e (splS s 32)) := fun w => splitAt_any w s 32 (by omega)
  have hpos := splS_pos s 32
  have hlen := splS_len s 32
  have hz1 := splS_sz s 32 1
  have HRR := Lib.hid fun w0 => rr_any w0 (st (splS s 32) 1) (Nat.le_trans hz1 hs)
  clear hz1 hlen hpos
  generalize splS s 32 = ss at *
  have q1 : ((st ss 0).toList == [101, 100, 103, 101]) = false := tl_no fun e => h0 (by rw [e]; simp [words])
  have q2 : ((st ss 0).toList == [115, 105, 103, 110, 115]) = false := tl_no fun e => h0 (by rw [e]; simp [words])
  have q3 : ((st ss 0).toList == [119, 97, 118, 101]) = false := tl_no fun e => h0 (by rw [e]; simp [words])
  have q4 : ((st ss 0).toList == [104, 97, 108, 118, 101]) = false := tl_no fun e => h0 (by rw [e]; simp [words])
  have q5 : ((st ss 0).toList == [108, 101, 97, 112]) = false := tl_no fun e => h0 (by rw [e]; simp [words])
  have q6 : ((st ss 0).toList == [115, 101, 108, 102]) = false := tl_no fun e => h0 (by rw [e]; simp [words])
  clear h0
  go_enter Tryz.func12, Tryz.ntmps12
  go_wp2_with fail
  refine (HSP.out _).mono ?_
  rintro e w1 ⟨al, cl, rfl, hownl, hbm⟩
  rw [h2] at hownl ⊢
  obtain ⟨g, rfl, hg1, hg2, hcell⟩ := hownl.at (by omega)
  have hc1 := hcell w1 rfl 1 (by omega)
  have HC := Lib.hid hcell
  clear hcell hownl
  go_wp2_with fail
  refine (HRR.out w1).mono ?_
  rintro e w2 ⟨a2, n2, c2, ok, rfl, b2⟩
  have bl2 := bstep hbm b2
  have hc0 := HC.out w2 (b2.block g hg2) 0 (by omega)
  clear hc1
  go_wp2_with fail
  go_ret
  exact ⟨rfl, bl2⟩
set_option maxRecDepth 100000 in
set_option maxHeartbeats 3200000 in
theorem answer_bad (w : World) (s : ByteArray) (k0 : ByteArray) (hs : s.size ≤ 1048576) (h2 : (splS s 32).length = 2) (h0 : st (splS s 32) 0 = k0) (hk0 : k0 ∈ words) (hr : ∀ xs, ¬ RowText (st (splS s 32) 1) xs) :
    Calls Tryz.prog 12 #[.string s] w fun e w' => e = .returned (.string (bs [119, 114, 111, 110, 103])) ∧ Below w.heap.size w w' := by
  have HSP : Hid (∀ w, Calls Tryz.prog 22 #[.string s, .int .u8 32] w fun e w' => FreshS w w' e (splS s 32)) := fun w => splitAt_any w s 32 (by omega)
  have hpos := splS_pos s 32
  have hlen := splS_len s 32
  have hz1 := splS_sz s 32 1
  have HRR := Lib.hid fun w0 => readRow_no w0 (st (splS s 32) 1) (Nat.le_trans hz1 hs) hr
  clear hz1 hlen hpos hr
  generalize splS s 32 = ss at *
  have hW : k0 = ⟨#[101, 100, 103, 101]⟩ ∨ k0 = ⟨#[115, 105, 103, 110, 115]⟩ ∨ k0 = ⟨#[119, 97, 118, 101]⟩ ∨ k0 = ⟨#[104, 97, 108, 118, 101]⟩ ∨ k0 = ⟨#[108, 101, 97, 112]⟩ ∨ k0 = ⟨#[115, 101, 108, 102]⟩ := by simpa [words] using hk0
  clear hk0
  rcases hW with rfl | rfl | rfl | rfl | rfl | rfl
  all_goals
    go_enter Tryz.func12, Tryz.ntmps12
    go_wp2_with fail
    refine (HSP.out _).mono ?_
    rintro e w1 ⟨al, cl, rfl, hownl, hbm⟩
    rw [h2] at hownl ⊢
    obtain ⟨g, rfl, hg1, hg2, hcell⟩ := hownl.at (by omega)
    have hc1 := hcell w1 rfl 1 (by omega)
    have HC := Lib.hid hcell
    clear hcell hownl
    go_wp2_with fail
    refine (HRR.out w1).mono ?_
    rintro e w2 ⟨a2, n2, c2, rfl, b2⟩
    have bl2 := bstep hbm b2
    have hc0 := HC.out w2 (b2.block g hg2) 0 (by omega)
    rw [h0] at hc0
    clear hc1
    go_wp2_with fail
    go_ret
    exact ⟨rfl, bl2⟩
end Go.Proofs.YtmfffmipnbdpjaaGreatDoor
