/-
  The laws of this seat's program for making and appending to slices of integers, in the form that the walk takes.
-/
import Derived.Test.YtmfffmipnbdpjaaGreatDoorRows
import Derived.Test.YtmfffmipnbdpjaaGreatDoorBase
namespace Go.Proofs.YtmfffmipnbdpjaaGreatDoor
open Go.RowKit

theorem Tryz.infoInt : (Tryz.prog.info? 3).map (fun i => (i.zero, i.size, i.bytes)) = some (some (.int .i64 0), 1, 8) := by kernel_rfl

theorem own_empty (w : World) : Own (w.alloc (.cells #[] 3)) w.heap.size (some ⟨w.heap.size, 0, none⟩) 0 0 [] :=
  World.ownsRow_made w #[] 0 (Nat.le_refl _) (by simp [maxLen]) rfl

/-- 'append(s, ys..)', ys numbers written out, s a row of the call's own. -/
theorem app_ints {ops : Array Oper} {rest : List Oper} {o : Oper} {a : Act} {Q : Exit → Act → World → Prop} (w : World) (hg : o.guard = none) (s x : Operand)
    (ho : o.op = .call { callee := .builtin .append, args := #[s, x], argTypes := #[36, 36] })
    (B : Nat) (a1 : Option Addr) (n c m : Nat) (xs ys : List Int) (hm : ys.length = m) (hm1 : 1 ≤ m) (hm2 : m ≤ 1000) (hs : a.eval s = .slice a1 n c) (hown : Own w B a1 n c xs)
    (hx : a.eval x = .slice (some ⟨w.heap.size, 0, none⟩) m m) (hn : n ≤ 1125899906842) (hB : B ≤ w.heap.size)
    (h : ∀ a2 c2 w2, Own w2 B a2 (n + m) c2 (xs ++ ys) → w.grownBy w2 (Value.slice a1 n c).ownBlock → w.heap.size + 1 ≤ w2.heap.size → wpList Tryz.prog ops Q rest (a.put o.dst (.slice a2 (n + m) c2)) w2) :
    wpList Tryz.prog ops Q (o :: rest) a (w.alloc (.cells (ys.map (Value.int .i64)).toArray 3)) := by
  obtain ⟨i0, hi, hz0, hz1, hz2⟩ := info_parts Tryz.infoInt
  refine wpList_append_own (w.alloc (.cells (ys.map (Value.int .i64)).toArray 3)) hg s x 36 ho B 3 i0 (.int .i64 0) 1 8 Tryz.underlying36 hi hz0 hz1 hz2 rfl (by decide) (.slice a1 n c) n (xs.map (Value.int .i64)) hs (World.ownsRow.alloc hown _)
    ⟨w.heap.size, 0, none⟩ m m (ys.map (Value.int .i64)) hx (by simp [hm]) ?_ (ints_oneCell _ _) ?_ ?_ ?_ ?_
  · intro j u hu
    rw [Addr.add_lit, Nat.zero_add, World.cell?_alloc_at _ _ _ _ rfl, List.getElem?_toArray]
    exact hu
  · unfold maxLen; omega
  · omega
  · simp; omega
  · intro v' w' hown' hgrow hnil
    have hv : ∃ a2 c2, v' = .slice a2 (n + m) c2 := by
      rcases hown'.2 with ⟨_, h2⟩ | ⟨g, cap, cur, hv, _⟩
      · omega
      · exact ⟨_, _, hv⟩
    obtain ⟨a2, c2, rfl⟩ := hv
    have hgr : w.grownBy w' (Value.slice a1 n c).ownBlock := by
      have h0 : w.grownBy (w.alloc (.cells (ys.map (Value.int .i64)).toArray 3)) (Value.slice a1 n c).ownBlock := World.grownBy_alloc w _ _
      refine ⟨hgrow.os.trans h0.os, hgrow.tape.trans h0.tape, hgrow.output.trans h0.output, Nat.le_trans h0.size hgrow.size, fun k hk hne => ?_⟩
      rw [hgrow.block k (by simp; omega) hne, h0.block k hk hne]
    refine h a2 c2 w' ?_ hgr ?_
    · show w'.ownsRow B 3 1 (.slice a2 (n + m) c2) (n + m) ((xs ++ ys).map (Value.int .i64))
      rw [List.map_append]; exact hown'
    · have := hgrow.size; simp at this; exact this

/-- 'append(s, y)', y one number, s a row of the call's own. -/
theorem app_int {ops : Array Oper} {rest : List Oper} {o : Oper} {a : Act} {Q : Exit → Act → World → Prop} (w : World) (hg : o.guard = none) (s x : Operand)
    (ho : o.op = .call { callee := .builtin .append, args := #[s, x], argTypes := #[36, 36] })
    (B : Nat) (a1 : Option Addr) (n c : Nat) (xs : List Int) (y : Int) (hs : a.eval s = .slice a1 n c) (hown : Own w B a1 n c xs)
    (hx : a.eval x = .slice (some ⟨w.heap.size, 0, none⟩) 1 1) (hn : n ≤ 1125899906842) (hB : B ≤ w.heap.size)
    (h : ∀ a2 c2 w2, Own w2 B a2 (n + 1) c2 (xs ++ [y]) → w.grownBy w2 (Value.slice a1 n c).ownBlock → w.heap.size + 1 ≤ w2.heap.size → wpList Tryz.prog ops Q rest (a.put o.dst (.slice a2 (n + 1) c2)) w2) :
    wpList Tryz.prog ops Q (o :: rest) a (w.alloc (.cells #[.int .i64 y] 3)) :=
  app_ints w hg s x ho B a1 n c 1 xs [y] rfl (Nat.le_refl _) (by decide) hs hown hx hn hB h

theorem Own.alloc {w : World} {B : Nat} {a : Option Addr} {n c : Nat} {xs : List Int} (h : Own w B a n c xs) (o : Obj) : Own (w.alloc o) B a n c xs := World.ownsRow.alloc h o

theorem Own.blk {w : World} {B : Nat} {a : Option Addr} {n c : Nat} {xs : List Int} (h : Own w B a n c xs) : ∀ k, (Value.slice a n c).ownBlock = some k → B ≤ k ∧ k < w.heap.size := World.ownsRow.lt h

theorem below_app {H B : Nat} {W0 w w' : World} {a : Option Addr} {n c : Nat} {xs : List Int} (h : Below H W0 w) (hg : w.grownBy w' (Value.slice a n c).ownBlock) (hown : Own w B a n c xs) (hB : H ≤ B) (hH : H ≤ w.heap.size) : Below H W0 w' :=
  h.grown hg hH fun k hk => by have := hown.blk k hk; omega

/-- A place of a row of the call's own: where it lies, what it holds, that it may be written. -/
theorem Own.at {w : World} {B : Nat} {a : Option Addr} {n c : Nat} {xs : List Int} (h : Own w B a n c xs) (i : Nat) (hi : i < n) :
    ∃ g, a = some ⟨g, 0, none⟩ ∧ B ≤ g ∧ g < w.heap.size ∧ w.cell? ⟨g, i, none⟩ = some (.int .i64 (el xs i)) ∧ w.frozen? ⟨g, i, none⟩ = false := by
  have hl := h.len
  have hlt := h.blk
  rcases h.2 with ⟨_, h2⟩ | ⟨g, cap, cur, hv, hg, hh, hn, hc, hz, ht⟩
  · omega
  · have ha : a = some ⟨g, 0, none⟩ := by injection hv
    have hcc : c = cap := by injection hv
    subst ha; subst hcc
    refine ⟨g, rfl, hg, (hlt g rfl).2, ?_, World.ownsRow.frozenAt h i⟩
    rw [World.ownsRow.cellAt h i (by omega)]
    have hj' : i < xs.length := by omega
    rw [List.getElem?_map, List.getElem?_eq_getElem hj', el_mk hj']; rfl

theorem Own.store {w : World} {B g n c : Nat} {xs : List Int} (h : Own w B (some ⟨g, 0, none⟩) n c xs) (i : Nat) (y : Int) :
    Own (w.setCell ⟨g, i, none⟩ (.int .i64 y)) B (some ⟨g, 0, none⟩) n c (xs.set i y) := by
  have := (World.ownsRow.stored h i (.int .i64 y)).1
  simpa [Own, List.map_set] using this

theorem grown_store (w : World) (g i : Nat) (u : Value) : w.grownBy (w.setCell ⟨g, i, none⟩ u) (some g) :=
  ⟨rfl, rfl, rfl, by simp [World.setCell], fun k hk hne => Below.heap_setCell _ _ _ _ (by intro e; exact hne (by rw [e]))⟩

theorem own_lit (w : World) (B : Nat) (xs : List Int) {k : Nat} (hk : w.heap.size = k) (hB : B ≤ k) (hn : xs.length ≤ 1000) :
    Own (w.alloc (.cells (xs.map (Value.int .i64)).toArray 3)) B (some ⟨k, 0, none⟩) xs.length xs.length xs := by
  subst hk
  have := World.ownsRow_lit (e := 3) (size := 1) w (xs.map (Value.int .i64)).toArray xs.length hB (by unfold maxLen; omega) (by simp)
  simpa [Own] using this

theorem Own.drew {w : World} {B : Nat} {a : Option Addr} {n c : Nat} {xs : List Int} (h : Own w B a n c xs) : Own w.drew B a n c xs := h
theorem Row.drew {w : World} {a : Option Addr} {n c : Nat} {xs : List Int} (h : Row w a n c xs) : Row w.drew a n c xs := ⟨h.len, h.small, h.cap, h.nil, h.cell⟩

theorem own_slice_form {w : World} {B e size : Nat} {v : Value} {n : Nat} {xs : List Value} (h : w.ownsRow B e size v n xs) : ∃ a c, v = .slice a n c := by
  rcases h.2 with ⟨rfl, rfl⟩ | ⟨g, cap, cur, rfl, _⟩
  · exact ⟨_, _, rfl⟩
  · exact ⟨_, _, rfl⟩

/-- 'append(s, t...)', both rows of the call's own (or nil): at an operation. -/
theorem wp_app_own {o : Oper} {a : Act} {K : Act → World → Prop} {Q : Exit → Act → World → Prop} (w : World) (s x : Operand)
    (ho : o.op = .call { callee := .builtin .append, args := #[s, x], argTypes := #[36, 36] })
    (B : Nat) (a1 : Option Addr) (n c : Nat) (xs : List Int) (hs : a.eval s = .slice a1 n c) (hown : Own w B a1 n c xs)
    (ax : Option Addr) (m cx : Nat) (ys : List Int) (hx : a.eval x = .slice ax m cx) (hsrc : Row w ax m cx ys) (hn : n + m ≤ 1125899906842) (hB : B ≤ w.heap.size)
    (h : ∀ a2 c2 w2, Own w2 B a2 (n + m) c2 (xs ++ ys) → w.grownBy w2 (Value.slice a1 n c).ownBlock → K (a.put o.dst (.slice a2 (n + m) c2)) w2) :
    o.wp Tryz.prog a w K Q := by
  obtain ⟨i0, hi, hz0, hz1, hz2⟩ := info_parts Tryz.infoInt
  cases ax with
  | none =>
    have h2 := hsrc.nil rfl
    have h1 := hsrc.cap
    subst h2
    obtain rfl : m = 0 := by omega
    have hys : ys = [] := List.eq_nil_of_length_eq_zero hsrc.len
    subst hys
    have hrun := run_append_owned_none (P := Tryz.prog) (w := w) B 36 o.type 3 i0 1 Tryz.underlying36 hi (.slice a1 n c) n (xs.map (Value.int .i64)) hown
    have hk := h a1 c w (by simpa using hown) (World.grownBy.refl w _)
    unfold Oper.wp execOp
    simp only [ho, resolve, invoke, builtin, Sem.run_bind, Sem.run_pure, Result.andThen_ok, List.map_toArray, List.map_cons, List.map_nil, hs, hx, hrun]
    exact hk
  | some ad =>
    have hlen := hsrc.len
    refine wp_append_own w s x 36 ho B 3 i0 (.int .i64 0) 1 8 Tryz.underlying36 hi hz0 hz1 hz2 rfl (by decide) (.slice a1 n c) n (xs.map (Value.int .i64)) hs hown
      ad m cx (ys.map (Value.int .i64)) hx (by simp [hlen]) ?_ (ints_oneCell _ _) (by unfold maxLen; omega) (by omega) hB ?_
    · intro j u hu
      have hj : j < m := by
        have := (List.getElem?_eq_some_iff.1 hu).1
        simpa [hlen] using this
      obtain ⟨b, off, e, _, hc⟩ := hsrc.cell j hj
      obtain rfl := Option.some.inj e
      rw [Addr.add_lit, hc j hj]
      have hj' : j < ys.length := by omega
      rw [List.getElem?_map, List.getElem?_eq_getElem hj'] at hu
      rw [el_mk hj']; exact hu
    · intro v' w' hown' hgrow _
      obtain ⟨a2, c2, rfl⟩ := own_slice_form hown'
      refine h a2 c2 w' ?_ hgrow
      show w'.ownsRow B 3 1 (.slice a2 (n + m) c2) (n + m) ((xs ++ ys).map (Value.int .i64))
      rw [List.map_append]; exact hown'

theorem wpList_app_own {ops : Array Oper} {rest : List Oper} {o : Oper} {a : Act} {Q : Exit → Act → World → Prop} (w : World) (hg : o.guard = none) (s x : Operand)
    (ho : o.op = .call { callee := .builtin .append, args := #[s, x], argTypes := #[36, 36] })
    (B : Nat) (a1 : Option Addr) (n c : Nat) (xs : List Int) (hs : a.eval s = .slice a1 n c) (hown : Own w B a1 n c xs)
    (ax : Option Addr) (m cx : Nat) (ys : List Int) (hx : a.eval x = .slice ax m cx) (hsrc : Row w ax m cx ys) (hn : n + m ≤ 1125899906842) (hB : B ≤ w.heap.size)
    (h : ∀ a2 c2 w2, Own w2 B a2 (n + m) c2 (xs ++ ys) → w.grownBy w2 (Value.slice a1 n c).ownBlock → wpList Tryz.prog ops Q rest (a.put o.dst (.slice a2 (n + m) c2)) w2) :
    wpList Tryz.prog ops Q (o :: rest) a w :=
  wpList_plain hg fun _ hK => wp_app_own w s x ho B a1 n c xs hs hown ax m cx ys hx hsrc hn hB fun a2 c2 w2 h1 h2 => hK _ _ (h a2 c2 w2 h1 h2)

theorem step_app_own {ops : Array Oper} {o : Oper} {a : Act} {K : Act → World → Prop} {Q : Exit → Act → World → Prop} {E : Prop} (w : World) (hgd : o.guard = none) (s x : Operand)
    (ho : o.op = .call { callee := .builtin .append, args := #[s, x], argTypes := #[36, 36] })
    (B : Nat) (a1 : Option Addr) (n c : Nat) (xs : List Int) (hs : a.eval s = .slice a1 n c) (hown : Own w B a1 n c xs)
    (ax : Option Addr) (m cx : Nat) (ys : List Int) (hx : a.eval x = .slice ax m cx) (hsrc : Row w ax m cx ys) (hn : n + m ≤ 1125899906842) (hB : B ≤ w.heap.size)
    (h : ∀ a2 c2 w2, Own w2 B a2 (n + m) c2 (xs ++ ys) → w.grownBy w2 (Value.slice a1 n c).ownBlock → K (a.put o.dst (.slice a2 (n + m) c2)) w2) :
    if Region.wanted o (yielded ops a.tmps) = true then Oper.wp Tryz.prog o a w K Q else E := by
  have hw : Region.wanted o (yielded ops a.tmps) = true := by simp [Region.wanted, hgd]
  rw [if_pos hw]
  exact wp_app_own w s x ho B a1 n c xs hs hown ax m cx ys hx hsrc hn hB h

end Go.Proofs.YtmfffmipnbdpjaaGreatDoor
