/-
  Halves and leaps are taken back: the plain laws.
-/
import Derived.Test.YtbaamhniffpnpaaUnleapS
namespace Go.Proofs.Ytbaamhniffpnpaa
open Go.RowKit

theorem tab_of {f : Nat → Int} {xs : List Int} {n : Nat} (hl : xs.length = n) (h : ∀ i, i < n → f i = el xs i) : tab f n = xs :=
  el_ext (by rw [tab_length, hl]) fun i hi => by rw [tab_length] at hi; rw [el_tab hi, h i hi]
theorem uh_hv (f : Nat → Int) (h i : Nat) (hi : i < 2 * h) : uhAt (hvAt f h) h i = f i := by
  have a1 : hvAt f h (i / 2) = f (2 * (i / 2)) + (f (2 * (i / 2) + 1) - f (2 * (i / 2))) / 2 := by rw [hvAt, if_pos (by omega)]
  have a2 : hvAt f h (h + i / 2) = f (2 * (i / 2) + 1) - f (2 * (i / 2)) := by rw [hvAt, if_neg (by omega), show h + i / 2 - h = i / 2 by omega]
  rw [uhAt, a1, a2]
  split
  · rw [show 2 * (i / 2) = i by omega]; omega
  · rw [show 2 * (i / 2) + 1 = i by omega]; omega
theorem hv_uh (f : Nat → Int) (h i : Nat) (_hi : i < 2 * h) : hvAt (uhAt f h) h i = f i := by
  have b1 : ∀ j, uhAt f h (2 * j) = f j - f (h + j) / 2 := fun j => by rw [uhAt, if_pos (by omega), show 2 * j / 2 = j by omega]
  have b2 : ∀ j, uhAt f h (2 * j + 1) = f j - f (h + j) / 2 + f (h + j) := fun j => by rw [uhAt, if_neg (by omega), show (2 * j + 1) / 2 = j by omega]
  rw [hvAt]
  split
  · rw [b1, b2]; omega
  · rw [b1, b2, show h + (i - h) = i by omega]; omega
theorem hallR_len (xs : List Int) : (hallR xs).length ≤ 1000 := by
  unfold hallR
  split
  · rename_i h
    obtain ⟨_, h2⟩ := cube_iff.1 h
    rw [hallL, tab_length, (lgN_spec h2).1]
    have := valid_len (cube_iff.1 h).1; omega
  · simp
theorem uallR_len (xs : List Int) : (uallR xs).length ≤ 1000 := by
  unfold uallR
  split
  · rename_i h
    obtain ⟨_, h2⟩ := cube_iff.1 h
    rw [uallL, tab_length, (lgN_spec h2).1]
    have := valid_len (cube_iff.1 h).1; omega
  · simp
theorem halfR_len (xs : List Int) : (halfR xs).length ≤ 1000 := by
  unfold halfR
  split
  · rename_i h
    have := (evenB_yes h).1
    have := valid_len this
    simp [halveL, tab_length]; omega
  · simp
theorem unhalfR_len (xs : List Int) : (unhalfR xs).length ≤ 1000 := by
  unfold unhalfR
  split
  · rename_i h
    have := (evenB_yes h).1
    have := valid_len this
    simp [unhalveL, tab_length]; omega
  · simp
/-- What a result that is not empty tells. -/
theorem evenR_pos {xs : List Int} {L : List Int → Nat → List Int} {k : Nat} (h : k = (if evenB xs then L xs (xs.length / 2) else []).length) (h0 : ¬ k = 0) : evenB xs = true := by
  cases hv : evenB xs with
  | true => rfl
  | false => rw [hv] at h; simp at h; exact absurd h h0
theorem even_two {xs : List Int} {m : Nat} (hv : evenB xs = true) (hl : xs.length = m) : ∃ h, m = 2 * h ∧ xs.length / 2 = h ∧ m ≤ 16 ∧ valid xs = true := by
  obtain ⟨h1, h2⟩ := evenB_yes hv
  have := valid_len h1
  exact ⟨m / 2, by omega, by rw [hl], by omega, h1⟩
theorem evenB_mk {xs : List Int} {h : Nat} (hv : valid xs = true) (hl : xs.length = 2 * h) : evenB xs = true := by
  simp [evenB, hv, hl]
theorem half_back {xs ys : List Int} {m : Nat} (hl : xs.length = m) (hys : ys = unhalfR xs) (hv : evenB xs = true) (hy : valid ys = true) : halfR ys = xs := by
  obtain ⟨h, h1, h2, _, _⟩ := even_two hv hl
  rw [unhalfR, if_pos hv, h2, unhalveL] at hys
  have hly : ys.length = 2 * h := by rw [hys, tab_length]
  rw [halfR, if_pos (evenB_mk hy hly), hly, show 2 * h / 2 = h by omega, halveL]
  refine tab_of (by omega) fun i hi => ?_
  rw [← hv_uh (el xs) h i hi]
  exact hvAt_congr (fun j hj => by rw [hys, el_tab hj]) i hi
theorem unhalf_back {xs ys : List Int} {m : Nat} (hl : xs.length = m) (hys : ys = halfR xs) (hv : evenB xs = true) (hy : valid ys = true) : unhalfR ys = xs := by
  obtain ⟨h, h1, h2, _, _⟩ := even_two hv hl
  rw [halfR, if_pos hv, h2, halveL] at hys
  have hly : ys.length = 2 * h := by rw [hys, tab_length]
  rw [unhalfR, if_pos (evenB_mk hy hly), hly, show 2 * h / 2 = h by omega, unhalveL]
  refine tab_of (by omega) fun i hi => ?_
  rw [← uh_hv (el xs) h i hi]
  exact uhAt_congr (fun j hj => by rw [hys, el_tab hj]) i hi

theorem Ud_Hd (f : Nat → Int) (kk : Nat) : ∀ j, j ≤ kk → ∀ i, i < p2 kk → Ud j (Hd kk 0 f) i = Hd (kk - j) j f i := by
  intro j
  induction j with
  | zero => intro _ i _; rfl
  | succ j ih =>
    intro hj i hi
    have h2 : 2 * p2 j ≤ p2 kk := by rw [← p2_succ]; exact p2_le hj
    have e : ∀ i, i < p2 kk → Ud j (Hd kk 0 f) i = hst (Hd (kk - (j + 1)) (j + 1) f) (p2 j) i := fun i hi => by
      rw [ih (by omega) i hi, show kk - j = kk - (j + 1) + 1 by omega, Hd]
    rw [Ud, ust]
    split
    · rename_i hlt
      rw [uhAt_congr (g := hvAt (Hd (kk - (j + 1)) (j + 1) f) (p2 j)) (fun t ht => by rw [e t (by omega), hst, if_pos ht]) i hlt]
      exact uh_hv _ _ i hlt
    · rename_i hlt
      rw [e i hi, hst, if_neg hlt]
theorem Hd_congr {f g : Nat → Int} {N : Nat} (h : ∀ i, i < N → f i = g i) (d : Nat) : ∀ j, p2 (j + d) ≤ N → ∀ i, i < N → Hd d j f i = Hd d j g i := by
  induction d with
  | zero => intro j _ i hi; exact h i hi
  | succ d ih =>
    intro j hj i hi
    have ih' := ih (j + 1) (by rw [show j + 1 + d = j + (d + 1) by omega]; exact hj)
    have h2 : 2 * p2 j ≤ N := by rw [← p2_succ]; exact Nat.le_trans (p2_le (by omega)) hj
    rw [Hd, Hd, hst, hst]
    split
    · rename_i hlt; exact hvAt_congr (fun t ht => ih' t (by omega)) i hlt
    · exact ih' i hi
theorem Ud_congr {f g : Nat → Int} {N : Nat} (h : ∀ i, i < N → f i = g i) (j : Nat) : p2 j ≤ N → ∀ i, i < N → Ud j f i = Ud j g i := by
  induction j with
  | zero => intro _ i hi; exact h i hi
  | succ j ih =>
    intro hj i hi
    have ih' := ih (Nat.le_trans (p2_le (by omega)) hj)
    have h2 : 2 * p2 j ≤ N := by rw [← p2_succ]; exact hj
    rw [Ud, Ud, ust, ust]
    split
    · rename_i hlt; exact uhAt_congr (fun t ht => ih' t (by omega)) i hlt
    · exact ih' i hi
theorem Hd_Ud (f : Nat → Int) (kk : Nat) : ∀ d, d ≤ kk → ∀ i, i < p2 kk → Hd d (kk - d) (Ud kk f) i = Ud (kk - d) f i := by
  intro d
  induction d with
  | zero => intro _ i _; rfl
  | succ d ih =>
    intro hd i hi
    have h2 : 2 * p2 (kk - (d + 1)) ≤ p2 kk := by rw [← p2_succ]; exact p2_le (by omega)
    have e : ∀ i, i < p2 kk → Hd d (kk - (d + 1) + 1) (Ud kk f) i = ust (Ud (kk - (d + 1)) f) (p2 (kk - (d + 1))) i := fun i hi => by
      rw [show kk - (d + 1) + 1 = kk - d by omega, ih (by omega) i hi, show kk - d = kk - (d + 1) + 1 by omega, Ud]
    rw [Hd, hst]
    split
    · rename_i hlt
      rw [hvAt_congr (g := uhAt (Ud (kk - (d + 1)) f) (p2 (kk - (d + 1)))) (fun t ht => by rw [e t (by omega), ust, if_pos ht]) i hlt]
      exact hv_uh _ _ i hlt
    · rename_i hlt
      rw [e i hi, ust, if_neg hlt]
theorem cubeR_pos {xs : List Int} {L : List Int → Nat → List Int} {k : Nat} (h : k = (if cube xs then L xs (lgN xs.length) else []).length) (h0 : ¬ k = 0) : cube xs = true := by
  cases hv : cube xs with
  | true => rfl
  | false => rw [hv] at h; simp at h; exact absurd h h0
theorem cube_mk {xs : List Int} {kk : Nat} (hv : valid xs = true) (hk : kk ≤ 4) (hl : xs.length = p2 kk) : cube xs = true ∧ lgN xs.length = kk := by
  rw [cube_iff, hl]
  have : ∀ k, k < 5 → isP2 (p2 k) = true ∧ lgN (p2 k) = k := by decide
  exact ⟨⟨hv, (this kk (by omega)).1⟩, (this kk (by omega)).2⟩
theorem hall_back {xs ys : List Int} {m : Nat} (hl : xs.length = m) (hys : ys = uallR xs) (hv : cube xs = true) (hy : valid ys = true) : hallR ys = xs := by
  obtain ⟨kk, h1, h2, h3, _⟩ := cube_kk hv hl
  rw [uallR, if_pos hv, hl, ← h1, uallL] at hys
  have hly : ys.length = p2 kk := by rw [hys, tab_length]
  obtain ⟨c1, c2⟩ := cube_mk hy h3 hly
  rw [hallR, if_pos c1, c2, hallL]
  refine tab_of (by omega) fun i hi => ?_
  rw [Hd_congr (g := Ud kk (el xs)) (fun j hj => by rw [hys, el_tab hj]) kk 0 (by rw [Nat.zero_add]; exact Nat.le_refl _) i hi]
  have := Hd_Ud (el xs) kk kk (Nat.le_refl _) i hi
  rw [Nat.sub_self] at this
  exact this
theorem uall_back {xs ys : List Int} {m : Nat} (hl : xs.length = m) (hys : ys = hallR xs) (hv : cube xs = true) (hy : valid ys = true) : uallR ys = xs := by
  obtain ⟨kk, h1, h2, h3, _⟩ := cube_kk hv hl
  rw [hallR, if_pos hv, hl, ← h1, hallL] at hys
  have hly : ys.length = p2 kk := by rw [hys, tab_length]
  obtain ⟨c1, c2⟩ := cube_mk hy h3 hly
  rw [uallR, if_pos c1, c2, uallL]
  refine tab_of (by omega) fun i hi => ?_
  rw [Ud_congr (g := Hd kk 0 (el xs)) (fun j hj => by rw [hys, el_tab hj]) kk (Nat.le_refl _) i hi]
  have := Ud_Hd (el xs) kk kk (Nat.le_refl _) i hi
  rw [Nat.sub_self] at this
  exact this

theorem el_leap1 {xs : List Int} {h i : Nat} (hi : i < h) : el (leapL xs h) i = sAt (el xs) h i := by
  rw [leapL, el_append_left (by rw [tab_length]; exact hi), el_tab hi]
theorem el_leap2 {xs : List Int} {h i : Nat} (hi : i < h) : el (leapL xs h) (h + i) = dAt (el xs) h i := by
  rw [leapL, el_app, tab_length, if_neg (by omega), show h + i - h = i by omega, el_tab hi]
theorem unleap_back {xs ys : List Int} {m : Nat} (hl : xs.length = m) (hys : ys = leapR xs) (hv : evenB xs = true) (hy : valid ys = true) : unleapR ys = xs := by
  obtain ⟨h, h1, h2, _, _⟩ := even_two hv hl
  rw [leapR, if_pos hv, h2] at hys
  have hly : ys.length = 2 * h := by rw [hys]; simp [leapL, tab_length]; omega
  rw [unleapR, if_pos (evenB_mk hy hly), hly, show 2 * h / 2 = h by omega, unleapL]
  have e : ∀ i, i < h → eAt (el ys) h i = el xs (2 * i) := fun i hi => by
    rw [eAt, hys, el_leap1 hi, bef_congr (g := dAt (el xs) h) (fun j hj => el_leap2 (by omega)), sAt]; omega
  refine tab_of (by omega) fun i hi => ?_
  rw [ulAt]
  split
  · rw [e _ (by omega), show 2 * (i / 2) = i by omega]
  · rw [arr_congr (g := fun j => el xs (2 * j)) (by omega) e, hys, el_leap2 (by omega), dAt, show 2 * (i / 2) + 1 = i by omega]; omega
theorem leap_back {xs ys : List Int} {m : Nat} (hl : xs.length = m) (hys : ys = unleapR xs) (hv : evenB xs = true) (hy : valid ys = true) : leapR ys = xs := by
  obtain ⟨h, h1, h2, _, _⟩ := even_two hv hl
  rw [unleapR, if_pos hv, h2] at hys
  have hly : ys.length = 2 * h := by rw [hys]; simp [unleapL, tab_length]
  rw [leapR, if_pos (evenB_mk hy hly), hly, show 2 * h / 2 = h by omega]
  have e0 : ∀ i, i < h → el ys (2 * i) = eAt (el xs) h i := fun i hi => by
    rw [hys, unleapL, el_tab (by omega), ulAt, if_pos (by omega), show 2 * i / 2 = i by omega]
  have e1 : ∀ i, i < h → el ys (2 * i + 1) = el xs (h + i) + arr (eAt (el xs) h) h i / 2 := fun i hi => by
    rw [hys, unleapL, el_tab (by omega), ulAt, if_neg (by omega), show (2 * i + 1) / 2 = i by omega]
  have ed : ∀ i, i < h → dAt (el ys) h i = el xs (h + i) := fun i hi => by
    rw [dAt, e1 i hi, arr_congr (g := eAt (el xs) h) hi (fun j hj => e0 j hj)]; omega
  have es : ∀ i, i < h → sAt (el ys) h i = el xs i := fun i hi => by
    rw [sAt, e0 i hi, bef_congr (g := fun j => el xs (h + j)) (fun j hj => ed j (by omega)), eAt]; omega
  apply el_ext
  · simp [leapL, tab_length]; omega
  · intro i hi
    have hi' : i < 2 * h := by simp [leapL, tab_length] at hi; omega
    by_cases hlt : i < h
    · rw [el_leap1 hlt, es i hlt]
    · obtain ⟨j, rfl⟩ : ∃ j, i = h + j := ⟨i - h, by omega⟩
      rw [el_leap2 (by omega), ed j (by omega)]
end Go.Proofs.Ytbaamhniffpnpaa
