/-
  Sums over parts, and taken back: what BelowOf, UnbelowOf and the reference's below compute.
-/
import Derived.Test.YtccddkgpcgnaoaaCube
import Derived.StillTailTactics
namespace Go.Proofs.Ytccddkgpcgnaoaa
open Go.RowKit

/-- The sums over the first j binary digits, with a sign. -/
def Gs (s : Int) (f : Nat → Int) : Nat → Nat → Int
  | 0, x => f x
  | j + 1, x => if x.testBit j then Gs s f j x + s * Gs s f j (x - p2 j) else Gs s f j x

theorem bit_sub : ∀ x, x < 16 → ∀ j, j < 4 → x.testBit j = true → p2 j ≤ x ∧ (x - p2 j).testBit j = false := by decide
theorem Gs_bd {s : Int} (hs : s = 1 ∨ s = -1) {f : Nat → Int} (h : ∀ i, i < 16 → -1000 ≤ f i ∧ f i ≤ 1000) (j : Nat) : ∀ x, x < 16 → -(1000 * (p2 j : Int)) ≤ Gs s f j x ∧ Gs s f j x ≤ 1000 * (p2 j : Int) := by
  induction j with
  | zero => intro x hx; have := h x hx; show -(1000 * ((1 : Nat) : Int)) ≤ f x ∧ _; simp [Gs, p2]; omega
  | succ j ih =>
    intro x hx
    have h1 := ih x hx
    have h2 := ih (x - p2 j) (by omega)
    have e := p2_succ j
    rw [Gs]
    rcases hs with rfl | rfl <;> (split <;> omega)

/-- In the middle of the pass over digit j: those below cur are done. -/
def mixL (s : Int) (xs : List Int) (n j cur : Nat) : List Int := tab (fun x => if x < cur then Gs s (el xs) (j + 1) x else Gs s (el xs) j x) n

theorem mix_el {s : Int} {xs : List Int} {n j cur : Nat} (hn : n ≤ 16) (hj : j < 4) (hc : cur < n) (hb : cur.testBit j = true) : el (mixL s xs n j cur) (cur - p2 j) = Gs s (el xs) j (cur - p2 j) := by
  obtain ⟨h1, h2⟩ := bit_sub cur (by omega) j hj hb
  have := p2_pos j
  rw [mixL, el_tab (by omega), if_pos (by omega), Gs, h2]; simp
theorem mix_at {s : Int} {xs : List Int} {n j cur : Nat} (hc : cur < n) : el (mixL s xs n j cur) cur = Gs s (el xs) j cur := by
  rw [mixL, el_tab hc, if_neg (by omega)]

theorem el_set {xs : List Int} {i k : Nat} {y : Int} (hi : i < xs.length) : el (xs.set i y) k = if k = i then y else el xs k := by
  unfold el
  by_cases e : k = i
  · subst e; simp [List.getD, hi]
  · rw [if_neg e]; simp [List.getD, List.getElem?_set, Ne.symm e]
theorem set_tab {f : Nat → Int} {n i : Nat} {y : Int} (hi : i < n) : (tab f n).set i y = tab (fun x => if x = i then y else f x) n := by
  apply el_ext
  · simp [tab_length]
  · intro k hk
    have hk' : k < n := by simpa [tab_length] using hk
    rw [el_set (by rw [tab_length]; exact hi), el_tab hk', el_tab hk']

theorem mix_set {s : Int} {xs : List Int} {n j cur : Nat} (hc : cur < n) (hb : cur.testBit j = true) :
    (mixL s xs n j cur).set cur (Gs s (el xs) j cur + s * Gs s (el xs) j (cur - p2 j)) = mixL s xs n j (cur + 1) := by
  rw [mixL, set_tab hc, mixL]
  apply tab_congr
  intro x hx
  by_cases e : x = cur
  · subst e; rw [if_pos rfl, if_pos (by omega), Gs, hb]; simp
  · rw [if_neg e]
    by_cases h : x < cur
    · rw [if_pos h, if_pos (by omega)]
    · rw [if_neg h, if_neg (by omega)]
theorem mix_skip {s : Int} {xs : List Int} {n j cur : Nat} (hb : cur.testBit j = false) : mixL s xs n j cur = mixL s xs n j (cur + 1) := by
  rw [mixL, mixL]
  apply tab_congr
  intro x hx
  by_cases h : x < cur
  · rw [if_pos h, if_pos (by omega)]
  · rw [if_neg h]
    by_cases e : x = cur
    · subst e; rw [if_pos (by omega), Gs, hb]; simp
    · rw [if_neg (by omega)]
theorem mix_start (s : Int) (xs : List Int) (n j : Nat) : mixL s xs n j 0 = tab (Gs s (el xs) j) n := by
  rw [mixL]; exact tab_congr fun x _ => by rw [if_neg (by omega)]
theorem mix_end (s : Int) (xs : List Int) (n j : Nat) : mixL s xs n j n = tab (Gs s (el xs) (j + 1)) n := by
  rw [mixL]; exact tab_congr fun x hx => by rw [if_pos hx]

end Go.Proofs.Ytccddkgpcgnaoaa
