/-
  Each line has one answer, the program's and the reference's.
-/
import Derived.Test.YtmfffmipnbdpjaaGreatDoorDesk4
namespace Go.Proofs.YtmfffmipnbdpjaaGreatDoor
open Go.RowKit

theorem small_nil : Small [] := ⟨by decide, fun j hj => absurd hj (Nat.not_lt_zero _)⟩
theorem small_tab {f : Nat → Int} {n : Nat} (hn : n ≤ 16) (h : ∀ i, i < n → -4000000000 ≤ f i ∧ f i ≤ 4000000000) : Small (tab f n) :=
  ⟨by rw [tab_length]; exact hn, fun j hj => by rw [tab_length] at hj; rw [el_tab hj]; exact h j hj⟩
theorem small_edge {xs : List Int} (h : valid xs = true) : Small (edgeL xs xs.length) :=
  small_tab (valid_len h) fun i hi => by have := @Dit_bd16 (el xs) xs.length i 0 (fun j hj => valid_bd h hj) (valid_len h) (by omega); omega
theorem small_signs {xs : List Int} (h : valid xs = true) : Small (signsR xs) := by
  have hn := valid_len h
  rw [signsR]
  split
  · exact small_tab hn fun i hi => by have := @sgs_bd (el xs) 1000 xs.length i fun j hj => valid_bd h hj; omega
  · exact small_nil
theorem small_wave {xs : List Int} (h : valid xs = true) : Small (wvR xs) := by
  rw [wvR]
  split
  · exact small_tab (valid_len h) fun i hi => by have := wvAt_bd (rootN xs.length) (el xs) xs.length i; omega
  · exact small_nil
theorem small_halve {xs : List Int} (h : valid xs = true) : Small (halfR xs) := by
  have hn := valid_len h
  rw [halfR]
  split
  · refine small_tab (by omega) fun i hi => ?_
    rw [hvAt]
    split
    · have h1 := valid_bd h (show 2 * i < xs.length by omega)
      have h2 := valid_bd h (show 2 * i + 1 < xs.length by omega)
      omega
    · have h1 := valid_bd h (show 2 * (i - xs.length / 2) < xs.length by omega)
      have h2 := valid_bd h (show 2 * (i - xs.length / 2) + 1 < xs.length by omega)
      omega
  · exact small_nil
theorem small_leap {xs : List Int} (h : valid xs = true) : Small (leapR xs) := by
  have hn := valid_len h
  rw [leapR]
  split
  · have hb : ∀ i, i < 2 * (xs.length / 2) → -1000 ≤ el xs i ∧ el xs i ≤ 1000 := fun i hi => valid_bd h (by omega)
    refine ⟨by rw [leapL, List.length_append, tab_length, tab_length]; omega, fun j hj => ?_⟩
    rw [leapL, List.length_append, tab_length, tab_length] at hj
    by_cases hj2 : j < xs.length / 2
    · rw [leapL, el_append_left (by rw [tab_length]; exact hj2), el_tab hj2]
      have := sAt_bd hb hj2; omega
    · have e : el (leapL xs (xs.length / 2)) j = dAt (el xs) (xs.length / 2) (j - xs.length / 2) := by
        rw [leapL]
        have e2 : el (tab (sAt (el xs) (xs.length / 2)) (xs.length / 2) ++ tab (dAt (el xs) (xs.length / 2)) (xs.length / 2)) j = el (tab (dAt (el xs) (xs.length / 2)) (xs.length / 2)) (j - xs.length / 2) := by
          unfold el
          rw [List.getD_eq_getElem?_getD, List.getD_eq_getElem?_getD, List.getElem?_append_right (by rw [tab_length]; omega), tab_length]
        rw [e2, el_tab (by omega)]
      rw [e]
      have := dAt_bd hb (show j - xs.length / 2 < xs.length / 2 by omega); omega
  · exact small_nil
theorem small_self {xs : List Int} (h : valid xs = true) : Small (selfR xs) := by
  have hn := valid_len h
  rw [selfR, if_pos h]
  refine small_tab hn fun d hd => ?_
  have := @sfp_bd (el xs) xs.length d (xs.length - d) (fun j hj => valid_bd h hj) (by omega)
  have e : sfAt (el xs) xs.length d = sfp (el xs) d (xs.length - d) := rfl
  rw [e]; omega
theorem EdgeOf_len (w : World) (a : Option Addr) (c : Nat) (xs : List Int) (h : Row w a xs.length c xs) (hv : valid xs = true) :
    Calls Tryz.prog 34 #[.slice a xs.length c] w fun e w' => Fresh w w' e (edgeL xs xs.length).length (edgeL xs xs.length) := by
  have e : (edgeL xs xs.length).length = xs.length := tab_length _ _
  rw [e]
  exact EdgeOf_yes w a xs.length c xs h hv
theorem tell_size {R : List Int} (h : Small R) : (tell R).size ≤ 300 := by
  rw [tell]
  split
  · exact (by decide : (5 : Nat) ≤ 300)
  · have := @ltx_size R R.length h.bd
    have := h.len
    omega
theorem byt_left {s t : ByteArray} {i : Nat} (h : i < s.size) : byt (s ++ t) i = byt s i := by
  have hl : i < s.data.toList.length := by simpa using h
  unfold byt
  rw [ByteArray.data_append, Array.toList_append]
  simp [List.getD, List.getElem?_append_left hl]
theorem byt_right {s t : ByteArray} {j : Nat} : byt (s ++ t) (s.size + j) = byt t j := by
  have hl : s.data.toList.length = s.size := by simp
  unfold byt
  rw [ByteArray.data_append, Array.toList_append, ← hl, List.getD_eq_getElem?_getD, List.getD_eq_getElem?_getD, List.getElem?_append_right (Nat.le_add_right _ _), Nat.add_sub_cancel_left]
/-- A text without a newline. -/
def NoNl (s : ByteArray) : Prop := ∀ j, j < s.size → byt s j ≠ 10
theorem NoNl.app {s t : ByteArray} (h : NoNl s) (k : NoNl t) : NoNl (s ++ t) := by
  intro j hj
  rw [ByteArray.size_append] at hj
  by_cases e : j < s.size
  · rw [byt_left e]; exact h j e
  · obtain ⟨i, rfl⟩ : ∃ i, j = s.size + i := ⟨j - s.size, by omega⟩
    rw [byt_right]; exact k i (by omega)
theorem noNl_bs {l : List UInt8} (h : ∀ x, x ∈ l → x ≠ 10) : NoNl (bs l) := by
  intro j hj
  have hj2 : j < l.length := hj
  unfold byt
  rw [bs_data]
  simp only [List.getD, List.getElem?_eq_getElem hj2, Option.getD_some]
  intro e
  exact h _ (List.getElem_mem hj2) (UInt8.toNat_inj.1 (e.trans rfl))
theorem dec_noNl : ∀ (k u : Nat), u < 10 ^ (k + 1) → ∀ x, x ∈ Lib.decDigits u → x ≠ 10 := by
  have d1 : ∀ v, v < 10 → ∀ x, x ∈ [UInt8.ofNat (48 + v)] → x ≠ 10 := by decide
  intro k
  induction k with
  | zero =>
    intro u h
    have hu : u < 10 := by simpa using h
    rw [decDigits_lt hu]
    exact d1 u hu
  | succ k ih =>
    intro u h
    by_cases hu : u < 10
    · rw [decDigits_lt hu]; exact d1 u hu
    · rw [decDigits_ge hu]
      intro x hx
      rcases List.mem_append.1 hx with hx | hx
      · exact ih _ (by rw [Nat.pow_succ] at h; omega) x hx
      · exact d1 _ (Nat.mod_lt _ (by decide)) x hx
theorem noNl_dec (u : Nat) (h : u < 10000000000) : NoNl (decB u) := noNl_bs (dec_noNl 9 u h)
theorem noNl_num {n : Int} (h1 : -4000000000 ≤ n) (h2 : n ≤ 4000000000) : NoNl (numB n) := by
  by_cases h : 0 ≤ n
  · obtain ⟨u, rfl⟩ := Int.eq_ofNat_of_zero_le h
    rw [← numB_nat]
    exact noNl_dec u (by omega)
  · obtain ⟨u, hu⟩ := Int.eq_ofNat_of_zero_le (show 0 ≤ -n by omega)
    obtain rfl : n = -(u : Int) := by omega
    rw [← numB_neg (by omega)]
    exact NoNl.app (noNl_bs (l := [45]) (by decide)) (noNl_dec u (by omega))
theorem noNl_ltx {xs : List Int} {k : Nat} (h : ∀ i, i < k → -4000000000 ≤ el xs i ∧ el xs i ≤ 4000000000) : NoNl (ltx xs k) := by
  induction k with
  | zero => exact noNl_bs (l := []) (by decide)
  | succ k ih =>
    have h1 := ih fun i hi => h i (by omega)
    have h2 := noNl_num (h k (by omega)).1 (h k (by omega)).2
    rw [ltx]
    split
    · exact (h1.app (noNl_bs (by decide))).app h2
    · exact h1.app h2
theorem noNl_tell {R : List Int} (h : Small R) : NoNl (tell R) := by
  rw [tell]
  split
  · exact noNl_bs (by decide)
  · exact noNl_ltx h.bd
/-- A line's answer: the program's and the reference's. -/
structure Line (s out : ByteArray) : Prop where
  sz : out.size ≤ 300
  nl : NoNl out
  imp : ∀ w, Env w → Calls Tryz.prog 13 #[.string s] w fun e w' => e = .returned (.string out) ∧ Below w.heap.size w w'
  ref : ∀ w, Calls Tryz.prog 12 #[.string s] w fun e w' => e = .returned (.string out) ∧ Below w.heap.size w w'
theorem line_any (s : ByteArray) (hs : s.size ≤ 1048576) : ∃ out, Line s out := by
  by_cases h2 : (splS s 32).length = 2
  · by_cases h0 : st (splS s 32) 0 ∈ words
    · by_cases hr : ∃ xs, RowText (st (splS s 32) 1) xs
      · obtain ⟨xs, hx⟩ := hr
        obtain ⟨k0, hk⟩ : ∃ k0, k0 = st (splS s 32) 0 := ⟨_, rfl⟩
        rw [← hk] at h0
        have hW : k0 = ⟨#[101, 100, 103, 101]⟩ ∨ k0 = ⟨#[115, 105, 103, 110, 115]⟩ ∨ k0 = ⟨#[119, 97, 118, 101]⟩ ∨ k0 = ⟨#[104, 97, 108, 118, 101]⟩ ∨ k0 = ⟨#[108, 101, 97, 112]⟩ ∨ k0 = ⟨#[115, 101, 108, 102]⟩ := by simpa [words] using h0
        clear h0
        rcases hW with rfl | rfl | rfl | rfl | rfl | rfl
        · have h0 := hk.symm
          have hv := hx.ok
          exact ⟨tell (edgeL xs xs.length), tell_size (small_edge hv), noNl_tell (small_edge hv), fun w hE => answered_edge w s xs _ hE hs h2 h0 hx (small_edge hv) (fun w a c hrow => EdgeOf_len w a c xs hrow hv), fun w => answer_edge w s xs hs h2 h0 hx (small_edge hv)⟩
        · have h0 := hk.symm
          have hv := hx.ok
          exact ⟨tell (signsR xs), tell_size (small_signs hv), noNl_tell (small_signs hv), fun w hE => answered_signs w s xs _ hE hs h2 h0 hx (small_signs hv) (fun w a c hrow => SignsOf_all w a xs.length c xs hrow), fun w => answer_signs w s xs hs h2 h0 hx (small_signs hv)⟩
        · have h0 := hk.symm
          have hv := hx.ok
          exact ⟨tell (wvR xs), tell_size (small_wave hv), noNl_tell (small_wave hv), fun w hE => answered_wave w s xs _ hE hs h2 h0 hx (small_wave hv) (fun w a c hrow => WaveOf_all w a xs.length c xs hrow), fun w => answer_wave w s xs hs h2 h0 hx (small_wave hv)⟩
        · have h0 := hk.symm
          have hv := hx.ok
          exact ⟨tell (halfR xs), tell_size (small_halve hv), noNl_tell (small_halve hv), fun w hE => answered_halve w s xs _ hE hs h2 h0 hx (small_halve hv) (fun w a c hrow => HalveOf_all w a xs.length c xs hrow), fun w => answer_halve w s xs hs h2 h0 hx (small_halve hv)⟩
        · have h0 := hk.symm
          have hv := hx.ok
          exact ⟨tell (leapR xs), tell_size (small_leap hv), noNl_tell (small_leap hv), fun w hE => answered_leap w s xs _ hE hs h2 h0 hx (small_leap hv) (fun w a c hrow => LeapOf_all w a xs.length c xs hrow), fun w => answer_leap w s xs hs h2 h0 hx (small_leap hv)⟩
        · have h0 := hk.symm
          have hv := hx.ok
          exact ⟨tell (selfR xs), tell_size (small_self hv), noNl_tell (small_self hv), fun w hE => answered_self w s xs _ hE hs h2 h0 hx (small_self hv) (fun w a c hrow => SelfOf_all w a xs.length c xs hrow), fun w => answer_self w s xs hs h2 h0 hx (small_self hv)⟩
      · exact ⟨bs [119, 114, 111, 110, 103], by decide, noNl_bs (by decide), fun w hE => answered_bad w s _ hE hs h2 rfl h0 fun xs hx => hr ⟨xs, hx⟩, fun w => answer_bad w s _ hs h2 rfl h0 fun xs hx => hr ⟨xs, hx⟩⟩
    · exact ⟨bs [119, 104, 97, 116], by decide, noNl_bs (by decide), fun w hE => answered_word w s hE hs h2 h0, fun w => answer_word w s hs h2 h0⟩
  · exact ⟨bs [119, 104, 97, 116], by decide, noNl_bs (by decide), fun w hE => answered_len w s hE hs h2, fun w => answer_len w s hs h2⟩
end Go.Proofs.YtmfffmipnbdpjaaGreatDoor
