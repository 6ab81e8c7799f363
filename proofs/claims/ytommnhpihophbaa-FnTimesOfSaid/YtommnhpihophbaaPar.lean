/-
  Sums over parts, and taken back: what BelowOf, UnbelowOf and the reference's below compute.
-/
import Derived.Test.YtommnhpihophbaaCube
import Derived.StillTailTactics
namespace Go.Proofs.Ytommnhpihophbaa
open Go.RowKit

/-- The sums over the first j binary digits, with a sign. -/
def Gs (s : Int) (f : Nat → Int) : Nat → Nat → Int
  | 0, x => f x
  | j + 1, x => if x.testBit j then Gs s f j x + s * Gs s f j (x - p2 j) else Gs s f j x

theorem bit_sub : ∀ x, x < 16 → ∀ j, j < 4 → x.testBit j = true → p2 j ≤ x ∧ (x - p2 j).testBit j = false := by decide
theorem Gs_bd {s : Int} (hs : s = 1 ∨ s = -1) {f : Nat → Int} (h : ∀ i, i < 16 → -1000 ≤ f i ∧ f i ≤ 1000) (j : Nat) : ∀ x, x < 16 → -(1000 * (p2 j : Int)) ≤ Gs s f j x ∧ Gs s f j x ≤ 1000 * (p2 j : Int) := by
  induction j with
  | zero => intro x hx; have := h x hx; show -(1000 * ((1 : Nat) : Int)) ≤ f x ∧ _; simp [Gs, p2]; omega
  | succ j ih =>
    intro x hx
    have h1 := ih x hx
    have h2 := ih (x - p2 j) (by omega)
    have e := p2_succ j
    rw [Gs]
    rcases hs with rfl | rfl <;> (split <;> omega)

/-- In the middle of the pass over digit j: those below cur are done. -/
def mixL (s : Int) (xs : List Int) (n j cur : Nat) : List Int := tab (fun x => if x < cur then Gs s (el xs) (j + 1) x else Gs s (el xs) j x) n

theorem mix_el {s : Int} {xs : List Int} {n j cur : Nat} (hn : n ≤ 16) (hj : j < 4) (hc : cur < n) (hb : cur.testBit j = true) : el (mixL s xs n j cur) (cur - p2 j) = Gs s (el xs) j (cur - p2 j) := by
  obtain ⟨h1, h2⟩ := bit_sub cur (by omega) j hj hb
  have := p2_pos j
  rw [mixL, el_tab (by omega), if_pos (by omega), Gs, h2]; simp
theorem mix_at {s : Int} {xs : List Int} {n j cur : Nat} (hc : cur < n) : el (mixL s xs n j cur) cur = Gs s (el xs) j cur := by
  rw [mixL, el_tab hc, if_neg (by omega)]

theorem el_set {xs : List Int} {i k : Nat} {y : Int} (hi : i < xs.length) : el (xs.set i y) k = if k = i then y else el xs k := by
  unfold el
  by_cases e : k = i
  · subst e; simp [List.getD, hi]
  · rw [if_neg e]; simp [List.getD, List.getElem?_set, Ne.symm e]
theorem set_tab {f : Nat → Int} {n i : Nat} {y : Int} (hi : i < n) : (tab f n).set i y = tab (fun x => if x = i then y else f x) n := by
  apply el_ext
  · simp [tab_length]
  · intro k hk
    have hk' : k < n := by simpa [tab_length] using hk
    rw [el_set (by rw [tab_length]; exact hi), el_tab hk', el_tab hk']

theorem mix_set {s : Int} {xs : List Int} {n j cur : Nat} (hc : cur < n) (hb : cur.testBit j = true) :
    (mixL s xs n j cur).set cur (Gs s (el xs) j cur + s * Gs s (el xs) j (cur - p2 j)) = mixL s xs n j (cur + 1) := by
  rw [mixL, set_tab hc, mixL]
  apply tab_congr
  intro x hx
  by_cases e : x = cur
  · subst e; rw [if_pos rfl, if_pos (by omega), Gs, hb]; simp
  · rw [if_neg e]
    by_cases h : x < cur
    · rw [if_pos h, if_pos (by omega)]
    · rw [if_neg h, if_neg (by omega)]
theorem mix_skip {s : Int} {xs : List Int} {n j cur : Nat} (hb : cur.testBit j = false) : mixL s xs n j cur = mixL s xs n j (cur + 1) := by
  rw [mixL, mixL]
  apply tab_congr
  intro x hx
  by_cases h : x < cur
  · rw [if_pos h, if_pos (by omega)]
  · rw [if_neg h]
    by_cases e : x = cur
    · subst e; rw [if_pos (by omega), Gs, hb]; simp
    · rw [if_neg (by omega)]
theorem mix_start (s : Int) (xs : List Int) (n j : Nat) : mixL s xs n j 0 = tab (Gs s (el xs) j) n := by
  rw [mixL]; exact tab_congr fun x _ => by rw [if_neg (by omega)]
theorem mix_end (s : Int) (xs : List Int) (n j : Nat) : mixL s xs n j n = tab (Gs s (el xs) (j + 1)) n := by
  rw [mixL]; exact tab_congr fun x hx => by rw [if_pos hx]

set_option maxHeartbeats 1600000 in
theorem below_any (w : World) (a : Option Addr) (n c : Nat) (xs : List Int) (s : Int) (kk : Nat) (h : Row w a n c xs) (hkk : kk ≤ 4) (hnk : n = p2 kk) (hs : s = 1 ∨ s = -1)
    (hb : ∀ i, i < n → -1000 ≤ el xs i ∧ el xs i ≤ 1000) :
    Calls Try.prog 76 #[.slice a n c, .int .i64 s] w fun e w' => Fresh w w' e n (tab (Gs s (el xs) kk) n) := by
  have hlen : Hid (xs.length = n) := h.len
  have hn : n ≤ 16 := by rw [hnk]; exact p2_le hkk
  have hN : Hid (n = p2 kk) := hnk
  have hS : Hid (s = 1 ∨ s = -1) := hs
  have hs2 : -1 ≤ s ∧ s ≤ 1 := by omega
  have hbd : Hid (∀ i, i < 16 → -1000 ≤ el xs i ∧ el xs i ≤ 1000) := fun i hi => by
    by_cases e : i < n
    · exact hb i e
    · rw [el_out (by rw [hlen.out]; omega)]; omega
  clear hnk hs hb
  go_enter Try.func76, Try.ntmps76
  go_wp2_with (at_builtin; go_must (refine copy_row w w.heap.size rfl rfl _ _ rfl _ _ _ _ rfl rfl h (by omega) ?_); intro a0 c0 w0 hown0 hb0 hsz0)
  have hx0 : tab (el xs) n = xs := by rw [← hlen.out]; exact tab_el xs
  have HX0 : Hid (tab (Gs s (el xs) 0) n = xs) := hx0
  clear hx0
  go_loopw [6] (fun u wr => ∃ j : Nat, j ≤ kk ∧ u = .int .i64 j ∧ Own wr w.heap.size a0 n c0 (tab (Gs s (el xs) j) n) ∧ Below w.heap.size w wr) (fun u _ => kk - (intOf u).toNat)
  case atStart => exact ⟨0, Nat.zero_le _, rfl, by rw [HX0.out]; exact hown0, hb0⟩
  case round =>
    obtain ⟨j, hj, rfl, hown, hbl⟩ := hrel
    clear hown0 hb0
    by_cases hlt : j < kk
    · have hpl : p2 j < n := by
        have := p2_le (show j + 1 ≤ kk by omega)
        rw [p2_succ] at this
        have := p2_pos j
        have := hN.out
        omega
      have hj4 : j < 4 := by omega
      go_wp2_with (go_at_call 78; refine (power_any _ j (by omega)).mono ?_; rintro e w' ⟨rfl, rfl⟩)
      obtain ⟨wo, rfl⟩ : ∃ wo : World, wo = wr := ⟨_, rfl⟩
      go_loopw [7] (fun u wr => ∃ x : Nat, x ≤ n ∧ u = .int .i64 x ∧ Own wr w.heap.size a0 n c0 (mixL s xs n j x) ∧ Below w.heap.size w wr) (fun u _ => n - (intOf u).toNat)
      case atStart => exact ⟨0, Nat.zero_le _, rfl, by rw [mix_start]; exact hown, hbl⟩
      case round =>
        obtain ⟨x, hx, rfl, hown2, hbl2⟩ := hrel
        clear hown hbl
        by_cases hxn : x < n
        · cases hbit : x.testBit j
          · have hbt : bt x j = 0 := by simp [bt, hbit]
            have HSK : Hid (mixL s xs n j x = mixL s xs n j (x + 1)) := mix_skip hbit
            go_wp2_with (go_at_call 87; refine (bit_any _ x j (by omega) (by omega)).mono ?_; rw [hbt]; rintro e w' ⟨rfl, rfl⟩)
            go_roundw
            case rel => exact ⟨x + 1, by omega, by go_num, by rw [← HSK.out]; exact hown2, hbl2⟩
            case measure => simp [intOf]; omega
          · have hbt : bt x j = 1 := by simp [bt, hbit]
            obtain ⟨hpx, _⟩ := bit_sub x (by omega) j hj4 hbit
            have hg1 := Gs_bd hS.out hbd.out j x (by omega)
            have hg2 := Gs_bd hS.out hbd.out j (x - p2 j) (by omega)
            have hp16 : p2 j ≤ 16 := by omega
            obtain ⟨g, rfl, hBg, hgl, hcell, hfr⟩ := hown2.at x hxn
            obtain ⟨g', hg', _, _, hcell2, _⟩ := hown2.at (x - p2 j) (by omega)
            injection hg' with hg'; injection hg' with hg'; subst hg'
            rw [mix_at hxn] at hcell
            rw [mix_el hn hj4 hxn hbit] at hcell2
            have HST := (hown2.store x (Gs s (el xs) j x + s * Gs s (el xs) j (x - p2 j)))
            rw [mix_set hxn hbit] at HST
            have hm := @mul_bd s (Gs s (el xs) j (x - p2 j)) 1 (1000 * (p2 j : Int)) hs2 hg2
            go_wp2_with (go_at_call 87; refine (bit_any _ x j (by omega) (by omega)).mono ?_; rw [hbt]; rintro e w' ⟨rfl, rfl⟩)
            have i1 : (0 : Int) ≤ (x : Int) := by omega
            have i2 : (x : Int) < n := by omega
            have i3 : (0 : Int) ≤ (x : Int) - p2 j := by omega
            have i4 : (x : Int) - p2 j < n := by omega
            have i5 : ((x : Int) - p2 j).toNat = x - p2 j := by omega
            have i6 : IntKind.i64.wrap ((x : Int) - p2 j) = (x : Int) - p2 j := IntWalk.i64_in _ (by omega)
            have i7 : IntKind.i64.wrap (s * Gs s (el xs) j (x - p2 j)) = s * Gs s (el xs) j (x - p2 j) := IntWalk.i64_in _ (by omega)
            have i8 : IntKind.i64.wrap (Gs s (el xs) j x + s * Gs s (el xs) j (x - p2 j)) = Gs s (el xs) j x + s * Gs s (el xs) j (x - p2 j) := IntWalk.i64_in _ (by omega)
            go_still_tail 17, (by kernel_rfl)
            still_call ((power_any _ j (by omega)).mono fun _ _ h => ⟨h.1, h.2.symm⟩)
            repeat still_step
            refine wpStill_nil ?_
            change wpList _ _ _ _ _ wr.drew
            clear i6 i7 i8
            go_wp2_with fail
            go_roundw
            case rel => exact ⟨x + 1, by omega, by go_num, HST.drew, (hbl2.setCell hBg _).drew⟩
            case measure => simp [intOf]; omega
        · obtain rfl : x = n := by omega
          go_wp2_with fail
          go_roundw
          case rel => exact ⟨j + 1, by omega, by go_num, by rw [← mix_end]; exact hown2, hbl2⟩
          case measure => simp [intOf]; omega
    · obtain rfl : j = kk := by omega
      have hge : (n : Int) ≤ (p2 j : Int) := by have := hN.out; omega
      go_wp2_with (go_at_call 78; refine (power_any _ j (by omega)).mono ?_; rintro e w' ⟨rfl, rfl⟩)
      go_ret
      exact Fresh.mk hown hbl
end Go.Proofs.Ytommnhpihophbaa
