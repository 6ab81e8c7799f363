/-
  Two rows of the call's own that both grow: appending to one leaves the other, and they stay apart.
-/
import Derived.Test.YtmfffmipnbdpjaaGreatDoorEq
import Derived.Deep.AppendLies
namespace Go.Proofs.YtmfffmipnbdpjaaGreatDoor
open Go.RowKit

/-- Two rows that lie in different blocks. -/
def Apart (a b : Option Addr) : Prop := ∀ p q : Addr, a = some p → b = some q → p.block ≠ q.block
theorem Apart.symm {a b : Option Addr} (h : Apart a b) : Apart b a := fun p q hp hq => (h q p hq hp).symm
theorem own_block_lt {w : World} {B : Nat} {a : Option Addr} {n c : Nat} {xs : List Int} (h : Own w B a n c xs) {p : Addr} (hp : a = some p) : B ≤ p.block ∧ p.block < w.heap.size := by
  subst hp
  rcases h.2 with ⟨h1, _⟩ | ⟨g, cap, cur, hv, hg, hh, _⟩
  · cases h1
  · injection hv with e1 e2 e3; injection e1 with e1; subst e1
    refine ⟨hg, ?_⟩
    rcases Nat.lt_or_ge g w.heap.size with hlt | hge
    · exact hlt
    · rw [Array.getElem?_eq_none hge] at hh; cases hh
theorem own_head {w : World} {B : Nat} {a : Option Addr} {n c : Nat} {xs : List Int} (h : Own w B a n c xs) {p : Addr} (hp : a = some p) : (Value.slice a n c).ownBlock = some p.block := by
  subst hp
  rcases h.2 with ⟨h1, _⟩ | ⟨g, cap, cur, hv, hg, hh, _⟩
  · cases h1
  · injection hv with e1 e2 e3; injection e1 with e1; subst e1; rfl

theorem own_kept_apart {w w' : World} {B B2 : Nat} {a b : Option Addr} {n c m d : Nat} {xs ys : List Int} (h : Own w B2 b m d ys) (h1 : Own w B a n c xs) (hg : w.grownBy w' (Value.slice a n c).ownBlock) (hap : Apart a b) : Own w' B2 b m d ys := by
  refine World.ownsRow.kept h hg ?_
  cases b with
  | none => exact .inl rfl
  | some q =>
    right
    rw [own_head h rfl]
    cases a with
    | none =>
      rcases h1.2 with ⟨h2, _⟩ | ⟨g, cap, cur, hv, _⟩
      · have e : (Value.slice none n c).ownBlock = none := rfl
        rw [e]; intro e2; cases e2
      · cases hv
    | some p =>
      rw [own_head h1 rfl]
      intro e; injection e with e
      exact hap p q rfl rfl e.symm

/-- 'append(s, y)' at an operation of whatever region: where the new row lies. -/
theorem wp_app_two {o : Oper} {a : Act} {K : Act → World → Prop} {Q : Exit → Act → World → Prop} (w : World) (s x : Operand)
    (ho : o.op = .call { callee := .builtin .append, args := #[s, x], argTypes := #[36, 36] })
    (B : Nat) (a1 : Option Addr) (n c : Nat) (xs : List Int) (hs : a.eval s = .slice a1 n c) (hown : Own w B a1 n c xs)
    (b : Option Addr) (m d : Nat) (ys : List Int) (hown2 : Own w B b m d ys) (hap : Apart a1 b)
    (ad : Addr) (k cx : Nat) (zs : List Int) (hx : a.eval x = .slice (some ad) k cx) (hsrc : Row w (some ad) k cx zs) (hk : 0 < k) (hn : n + k ≤ 1125899906842) (hB : B ≤ w.heap.size)
    (h : ∀ a2 c2 w2, Own w2 B a2 (n + k) c2 (xs ++ zs) → Own w2 B b m d ys → Apart a2 b → w.grownBy w2 (Value.slice a1 n c).ownBlock → K (a.put o.dst (.slice a2 (n + k) c2)) w2) :
    o.wp Tryz.prog a w K Q := by
  obtain ⟨i0, hi, hz0, hz1, hz2⟩ := info_parts Tryz.infoInt
  have hlen := hsrc.len
  refine wp_append_lies w s x 36 ho B 3 i0 (.int .i64 0) 1 8 Tryz.underlying36 hi hz0 hz1 hz2 rfl (by decide) (.slice a1 n c) n (xs.map (Value.int .i64)) hs hown
    ad k cx (zs.map (Value.int .i64)) hx (by simp [hlen]) ?_ (ints_oneCell _ _) hk (by unfold maxLen; omega) (by omega) hB w.heap.size rfl ?_
  · intro j u hu
    have hj : j < k := by
      have := (List.getElem?_eq_some_iff.1 hu).1
      simpa [hlen] using this
    obtain ⟨b0, off, e, _, hc⟩ := hsrc.cell j hj
    obtain rfl := Option.some.inj e
    rw [Addr.add_lit, hc j hj]
    have hj' : j < zs.length := by omega
    rw [List.getElem?_map, List.getElem?_eq_getElem hj'] at hu
    rw [el_mk hj']; exact hu
  · intro g cap w' hown' hgrow hat hlt
    refine h (some ⟨g, 0, none⟩) cap w' ?_ (own_kept_apart hown2 hown hgrow hap) ?_ hgrow
    · show w'.ownsRow B 3 1 (.slice (some ⟨g, 0, none⟩) (n + k) cap) (n + k) ((xs ++ zs).map (Value.int .i64))
      rw [List.map_append]; exact hown'
    · intro p q hp hq
      injection hp with hp; subst hp
      show g ≠ q.block
      rcases hat with hat | hat
      · cases a1 with
        | none => cases hat
        | some p1 =>
          rw [own_head hown rfl] at hat
          injection hat with hat
          rw [← hat]; exact hap p1 q rfl hq
      · have := (own_block_lt hown2 hq).2
        omega

theorem step_app_two {ops : Array Oper} {o : Oper} {a : Act} {K : Act → World → Prop} {Q : Exit → Act → World → Prop} {E : Prop} (w : World) (hgd : o.guard = none) (s x : Operand)
    (ho : o.op = .call { callee := .builtin .append, args := #[s, x], argTypes := #[36, 36] })
    (B : Nat) (a1 : Option Addr) (n c : Nat) (xs : List Int) (hs : a.eval s = .slice a1 n c) (hown : Own w B a1 n c xs)
    (b : Option Addr) (m d : Nat) (ys : List Int) (hown2 : Own w B b m d ys) (hap : Apart a1 b)
    (ad : Addr) (k cx : Nat) (zs : List Int) (hx : a.eval x = .slice (some ad) k cx) (hsrc : Row w (some ad) k cx zs) (hk : 0 < k) (hn : n + k ≤ 1125899906842) (hB : B ≤ w.heap.size)
    (h : ∀ a2 c2 w2, Own w2 B a2 (n + k) c2 (xs ++ zs) → Own w2 B b m d ys → Apart a2 b → w.grownBy w2 (Value.slice a1 n c).ownBlock → K (a.put o.dst (.slice a2 (n + k) c2)) w2) :
    if Region.wanted o (yielded ops a.tmps) = true then Oper.wp Tryz.prog o a w K Q else E := by
  have hw : Region.wanted o (yielded ops a.tmps) = true := by simp [Region.wanted, hgd]
  rw [if_pos hw]
  exact wp_app_two w s x ho B a1 n c xs hs hown b m d ys hown2 hap ad k cx zs hx hsrc hk hn hB h

/-- 'append(s, y)' of one number in a plain region. -/
theorem app_int_two {ops : Array Oper} {rest : List Oper} {o : Oper} {a : Act} {Q : Exit → Act → World → Prop} (w : World) (hg : o.guard = none) (s x : Operand)
    (ho : o.op = .call { callee := .builtin .append, args := #[s, x], argTypes := #[36, 36] })
    (B : Nat) (a1 : Option Addr) (n c : Nat) (xs : List Int) (y : Int) (hs : a.eval s = .slice a1 n c) (hown : Own w B a1 n c xs)
    (b : Option Addr) (m d : Nat) (ys : List Int) (hown2 : Own w B b m d ys) (hap : Apart a1 b)
    (hx : a.eval x = .slice (some ⟨w.heap.size, 0, none⟩) 1 1) (hn : n ≤ 1125899906) (hB : B ≤ w.heap.size)
    (h : ∀ a2 c2 w2, Own w2 B a2 (n + 1) c2 (xs ++ [y]) → Own w2 B b m d ys → Apart a2 b → w.grownBy w2 (Value.slice a1 n c).ownBlock → w.heap.size + 1 ≤ w2.heap.size → wpList Tryz.prog ops Q rest (a.put o.dst (.slice a2 (n + 1) c2)) w2) :
    wpList Tryz.prog ops Q (o :: rest) a (w.alloc (.cells #[.int .i64 y] 3)) := by
  have hA : w.grownBy (w.alloc (.cells #[.int .i64 y] 3)) (Value.slice a1 n c).ownBlock := World.grownBy_alloc w _ _
  refine wpList_plain hg fun _ hK => wp_app_two _ s x ho B a1 n c xs hs (hown.alloc _) b m d ys (hown2.alloc _) hap ⟨w.heap.size, 0, none⟩ 1 1 [y] hx ((own_lit w w.heap.size [y] rfl (Nat.le_refl _) (by simp)).row (by simp)) (by omega) (by omega) (by simp; omega) fun a2 c2 w2 h1 h2 h3 h4 => hK _ _ (h a2 c2 w2 h1 h2 h3 ?_ ?_)
  · refine ⟨h4.os.trans hA.os, h4.tape.trans hA.tape, h4.output.trans hA.output, Nat.le_trans hA.size h4.size, fun k hk hne => (h4.block k (Nat.lt_of_lt_of_le hk hA.size) hne).trans (hA.block k hk hne)⟩
  · have := h4.size; simp at this; exact this
/-- A place of a row whose head is known. -/
theorem Own.cellK {w : World} {B g n c : Nat} {xs : List Int} (h : Own w B (some ⟨g, 0, none⟩) n c xs) (i : Nat) (hi : i < n) :
    w.cell? ⟨g, i, none⟩ = some (.int .i64 (el xs i)) ∧ w.frozen? ⟨g, i, none⟩ = false ∧ B ≤ g ∧ g < w.heap.size := by
  obtain ⟨g1, e, h1, h2, h3, h4⟩ := h.at i hi
  injection e with e; injection e with e; subst e
  exact ⟨h3, h4, h1, h2⟩
theorem Own.storeOther {w : World} {B g1 g2 i n c : Nat} {u : Value} {xs : List Int} (h : Own w B (some ⟨g2, 0, none⟩) n c xs) (hne : g1 ≠ g2) : Own (w.setCell ⟨g1, i, none⟩ u) B (some ⟨g2, 0, none⟩) n c xs :=
  World.ownsRow.kept h (grown_store w g1 i u) (.inr (by show (some g2 : Option Nat) ≠ some g1; intro e; injection e with e; exact hne e.symm))

/-- The first k new, the others as they were. -/
def mid (k : Nat) (f g : Nat → Int) (i : Nat) : Int := if i < k then f i else g i
theorem mid_zero (f g : Nat → Int) (n : Nat) : tab (mid 0 f g) n = tab g n := tab_congr fun i _ => by rw [mid, if_neg (by omega)]
theorem mid_end (f g : Nat → Int) (n : Nat) : tab (mid n f g) n = tab f n := tab_congr fun i hi => by rw [mid, if_pos hi]
theorem mid_at (f g : Nat → Int) {k n : Nat} (h : k < n) : el (tab (mid k f g) n) k = g k := by rw [el_tab h, mid, if_neg (by omega)]
theorem mid_set (f g : Nat → Int) {k n : Nat} (h : k < n) : (tab (mid k f g) n).set k (f k) = tab (mid (k + 1) f g) n := by
  apply el_ext
  · simp [tab_length]
  · intro i hi
    have hi' : i < n := by simpa [tab_length] using hi
    rw [el_tab hi']
    have e : el ((tab (mid k f g) n).set k (f k)) i = if i = k then f k else el (tab (mid k f g) n) i := by
      unfold el
      by_cases e : i = k
      · subst e; simp [List.getD, tab_length, h]
      · rw [if_neg e]; simp [List.getD, List.getElem?_set, Ne.symm e]
    rw [e]
    by_cases e : i = k
    · subst e; rw [if_pos rfl, mid, if_pos (by omega)]
    · rw [if_neg e, el_tab hi', mid, mid]
      by_cases e2 : i < k
      · rw [if_pos e2, if_pos (by omega)]
      · rw [if_neg e2, if_neg (by omega)]
end Go.Proofs.YtmfffmipnbdpjaaGreatDoor
