/-
  All halves, and all put together: plain laws, and the program's HalveAll and UnhalveAll.
-/
import Derived.Test.YtmfffmipnbdpjaaGreatDoorHalveS
import Derived.Laws.CopyOwn
namespace Go.Proofs.YtmfffmipnbdpjaaGreatDoor
open Go.RowKit

/-- 'copy(s, t)', s a row of the call's own, t no longer than it. -/
theorem copy_own {ops : Array Oper} {rest : List Oper} {o : Oper} {a : Act} {Q : Exit → Act → World → Prop} (w : World) (hg : o.guard = none) (d s : Operand)
    (ho : o.op = .call { callee := .builtin .copy, args := #[d, s], argTypes := #[36, 36] })
    (B : Nat) (a1 : Option Addr) (n c : Nat) (xs : List Int) (hd : a.eval d = .slice a1 n c) (hown : Own w B a1 n c xs) (hn0 : 0 < n)
    (ax : Option Addr) (m cx : Nat) (ys : List Int) (hs : a.eval s = .slice ax m cx) (hsrc : Row w ax m cx ys) (hm : m ≤ n) (H : Nat) (hH : H ≤ B) (W0 : World) (hb : Below H W0 w)
    (h : ∀ w2, Own w2 B a1 n c (ys ++ xs.drop m) → Below H W0 w2 → Below B w w2 → wpList Tryz.prog ops Q rest (a.put o.dst (.int .i64 m)) w2) :
    wpList Tryz.prog ops Q (o :: rest) a w := by
  obtain ⟨i0, hi, hz0, hz1, hz2⟩ := info_parts Tryz.infoInt
  have hlen := hsrc.len
  have hlx := hown.len
  rcases hown.2 with ⟨h1, h2⟩ | ⟨g, cap, cur, hv, hBg, hgh, hnc, hcm, hsz, htk⟩
  · omega
  · injection hv with e1 e2 e3
    subst e1
    refine wpList_copy_splice hg d s 36 36 ho 3 Tryz.underlying36 (by rw [hi]; exact congrArg some hz1) (some ⟨g, 0, none⟩) ax n c m cx hd hs g 0 cur.toList 3 (by simpa using hgh) (ys.map (Value.int .i64))
      (by simp [hlen]; exact (Nat.min_eq_left hm).symm) ?_ (by simp [hlen]; omega) (ints_oneCell _ _) B w (Below.refl _ _) hBg ?_
    · intro hpos
      refine ⟨rfl, ?_⟩
      have hm0 : 0 < m := by simpa [hlen] using hpos
      obtain ⟨b, off, e, _, hc⟩ := hsrc.cell 0 hm0
      subst e
      refine ⟨_, rfl, fun j v hj => ?_⟩
      have hjm : j < m := by have := (List.getElem?_eq_some_iff.1 hj).1; simpa [hlen] using this
      rw [Addr.add_lit, hc j hjm]
      have hj' : j < ys.length := by omega
      rw [List.getElem?_map, List.getElem?_eq_getElem hj'] at hj
      rw [el_mk hj']; exact hj
    · intro w' hh hbl
      have hlc : (ys.map (Value.int IntKind.i64)).length = m := by simp [hlen]
      have hgo : goInt (ys.map (Value.int IntKind.i64)).length = .int .i64 m := by rw [hlc]; rfl
      rw [hgo]
      refine h w' ?_ (hb.trans (hbl.mono hH)) hbl
      have hcl : cur.toList.length = cap := by simpa using hsz
      refine ⟨by simp [hlen, hlx]; omega, Or.inr ⟨g, cap, _, by rw [e3], hBg, hh.out, hnc, hcm, ?_, ?_⟩⟩
      · simp only [splice, hlc, List.size_toArray, List.length_append, List.length_drop, hcl, Nat.zero_add]
        simp; omega
      · have ht : cur.toList.take n = xs.map (Value.int .i64) := by simpa using htk
        simp only [splice, hlc, Nat.zero_add, List.take_zero, List.nil_append, Nat.mul_one]
        rw [List.take_append, hlc, List.take_of_length_le (by rw [hlc]; exact hm), List.map_append, List.map_drop, ← ht, List.drop_take]

def hst (f : Nat → Int) (m i : Nat) : Int := if i < 2 * m then hvAt f m i else f i
def ust (f : Nat → Int) (m i : Nat) : Int := if i < 2 * m then uhAt f m i else f i
/-- Halved d times, at last with halves of 2 to the j numbers. -/
def Hd : Nat → Nat → (Nat → Int) → Nat → Int
  | 0, _, f => f
  | d + 1, j, f => hst (Hd d (j + 1) f) (p2 j)
/-- Put together j times. -/
def Ud : Nat → (Nat → Int) → Nat → Int
  | 0, f => f
  | j + 1, f => ust (Ud j f) (p2 j)
def hallL (xs : List Int) (kk : Nat) : List Int := tab (Hd kk 0 (el xs)) (p2 kk)
def uallL (xs : List Int) (kk : Nat) : List Int := tab (Ud kk (el xs)) (p2 kk)

theorem hv_bd {f : Nat → Int} {M : Int} {m : Nat} (h : ∀ i, i < 2 * m → -M ≤ f i ∧ f i ≤ M) (i : Nat) (hi : i < 2 * m) : -(2 * M) ≤ hvAt f m i ∧ hvAt f m i ≤ 2 * M := by
  rw [hvAt]
  split
  · have h1 := h (2 * i) (by omega); have h2 := h (2 * i + 1) (by omega); omega
  · have h1 := h (2 * (i - m)) (by omega); have h2 := h (2 * (i - m) + 1) (by omega); omega
theorem uh_bd {f : Nat → Int} {M : Int} {m : Nat} (hM : 1 ≤ M) (h : ∀ i, i < 2 * m → -M ≤ f i ∧ f i ≤ M) (i : Nat) (hi : i < 2 * m) : -(3 * M) ≤ uhAt f m i ∧ uhAt f m i ≤ 3 * M := by
  rw [uhAt]
  split
  · have h1 := h (i / 2) (by omega); have h2 := h (m + i / 2) (by omega); omega
  · have h1 := h (i / 2) (by omega); have h2 := h (m + i / 2) (by omega); omega
theorem Hd_bd {f : Nat → Int} {N : Nat} (h : ∀ i, i < N → -1000 ≤ f i ∧ f i ≤ 1000) (d : Nat) : ∀ j, p2 (j + d) ≤ N → ∀ i, i < N → -(1000 * (p2 d : Int)) ≤ Hd d j f i ∧ Hd d j f i ≤ 1000 * (p2 d : Int) := by
  induction d with
  | zero => intro j _ i hi; have := h i hi; rw [Hd]; simp [p2]; omega
  | succ d ih =>
    intro j hj i hi
    have hp := p2_succ d
    have hpp := p2_pos d
    have ih' := ih (j + 1) (by rw [show j + 1 + d = j + (d + 1) by omega]; exact hj)
    rw [Hd, hst]
    split
    · rename_i hlt
      have h2 : 2 * p2 j ≤ N := by rw [← p2_succ]; exact Nat.le_trans (p2_le (by omega)) hj
      have := hv_bd (M := 1000 * (p2 d : Int)) (fun i hi => ih' i (by omega)) i hlt
      omega
    · have := ih' i hi; omega
theorem Ud_bd {f : Nat → Int} {N : Nat} (h : ∀ i, i < N → -1000 ≤ f i ∧ f i ≤ 1000) (j : Nat) : p2 j ≤ N → ∀ i, i < N → -(1000 * (3 : Int) ^ j) ≤ Ud j f i ∧ Ud j f i ≤ 1000 * (3 : Int) ^ j := by
  induction j with
  | zero => intro _ i hi; have := h i hi; rw [Ud]; simp; omega
  | succ j ih =>
    intro hj i hi
    have h3 : (3 : Int) ^ (j + 1) = 3 * 3 ^ j := by rw [Int.pow_succ, Int.mul_comm]
    have hp3 : (1 : Int) ≤ 3 ^ j := by have := Int.pow_pos (n := 3) (m := j) (by decide); omega
    have ih' := ih (Nat.le_trans (p2_le (by omega)) hj)
    rw [h3, Ud, ust]
    split
    · rename_i hlt
      have h2 : 2 * p2 j ≤ N := by rw [← p2_succ]; exact hj
      have := uh_bd (M := 1000 * (3 : Int) ^ j) (by omega) (fun i hi => ih' i (by omega)) i hlt
      omega
    · have := ih' i hi; omega
theorem p2_16 {kk : Nat} (h : kk ≤ 4) : p2 kk ≤ 16 := p2_le h
theorem pow3_81 {j : Nat} (h : j ≤ 4) : (3 : Int) ^ j ≤ 81 := by
  have : ∀ j, j < 5 → (3 : Int) ^ j ≤ 81 := by decide
  exact this j (by omega)

theorem tab_take {f : Nat → Int} {n m : Nat} (h : m ≤ n) : (tab f n).take m = tab f m := by
  apply el_ext
  · simp [tab_length]; omega
  · intro i hi
    have hi' : i < m := by simp [tab_length] at hi; omega
    rw [el_tab hi']
    have := el_tab (f := f) (n := n) (i := i) (by omega)
    unfold el at this ⊢
    rw [← this, List.getD_eq_getElem?_getD, List.getD_eq_getElem?_getD, List.getElem?_take_of_lt hi']
theorem el_app {xs ys : List Int} (i : Nat) : el (xs ++ ys) i = if i < xs.length then el xs i else el ys (i - xs.length) := by
  split
  · rename_i h; exact el_append_left h
  · rename_i h
    unfold el
    rw [List.getD_eq_getElem?_getD, List.getD_eq_getElem?_getD, List.getElem?_append_right (by omega)]
theorem el_drop {xs : List Int} (m i : Nat) : el (xs.drop m) i = el xs (m + i) := by
  unfold el
  rw [List.getD_eq_getElem?_getD, List.getD_eq_getElem?_getD, List.getElem?_drop]
theorem hvAt_congr {f g : Nat → Int} {m : Nat} (h : ∀ i, i < 2 * m → f i = g i) (i : Nat) (hi : i < 2 * m) : hvAt f m i = hvAt g m i := by
  rw [hvAt, hvAt]
  split
  · rw [h (2 * i) (by omega), h (2 * i + 1) (by omega)]
  · rw [h (2 * (i - m)) (by omega), h (2 * (i - m) + 1) (by omega)]
theorem uhAt_congr {f g : Nat → Int} {m : Nat} (h : ∀ i, i < 2 * m → f i = g i) (i : Nat) (hi : i < 2 * m) : uhAt f m i = uhAt g m i := by
  rw [uhAt, uhAt, h (i / 2) (by omega), h (m + i / 2) (by omega)]
theorem hst_join {f : Nat → Int} {N m : Nat} (h : 2 * m ≤ N) : halveL ((tab f N).take (2 * m)) m ++ (tab f N).drop (2 * m) = tab (hst f m) N := by
  apply el_ext
  · simp [halveL, tab_length]; omega
  · intro i hi
    have hi' : i < N := by simp [halveL, tab_length] at hi; omega
    rw [el_tab hi', el_app, halveL, tab_length, hst, tab_take h]
    split
    · rename_i hlt; rw [el_tab hlt]; exact hvAt_congr (fun j hj => el_tab hj) i hlt
    · rename_i hlt; rw [el_drop, el_tab (by omega), show 2 * m + (i - 2 * m) = i by omega]
theorem ust_join {f : Nat → Int} {N m : Nat} (h : 2 * m ≤ N) : unhalveL ((tab f N).take (2 * m)) m ++ (tab f N).drop (2 * m) = tab (ust f m) N := by
  apply el_ext
  · simp [unhalveL, tab_length]; omega
  · intro i hi
    have hi' : i < N := by simp [unhalveL, tab_length] at hi; omega
    rw [el_tab hi', el_app, unhalveL, tab_length, ust, tab_take h]
    split
    · rename_i hlt; rw [el_tab hlt]; exact uhAt_congr (fun j hj => el_tab hj) i hlt
    · rename_i hlt; rw [el_drop, el_tab (by omega), show 2 * m + (i - 2 * m) = i by omega]
/-- A row's beginning. -/
theorem Row.pre {w : World} {a : Option Addr} {n c : Nat} {xs : List Int} (h : Row w a n c xs) (m : Nat) (hm : m ≤ n) : Row w a m c (xs.take m) :=
  ⟨by simp [h.len]; omega, Nat.le_trans hm h.small, Nat.le_trans hm h.cap, h.nil, fun i hi => by
    obtain ⟨b, off, ha, hlt, hc⟩ := h.cell i (by omega)
    refine ⟨b, off, ha, hlt, fun j hj => ?_⟩
    rw [hc j (by omega)]
    have : el (xs.take m) j = el xs j := by
      unfold el; rw [List.getD_eq_getElem?_getD, List.getD_eq_getElem?_getD, List.getElem?_take_of_lt hj]
    rw [this]⟩
end Go.Proofs.YtmfffmipnbdpjaaGreatDoor
