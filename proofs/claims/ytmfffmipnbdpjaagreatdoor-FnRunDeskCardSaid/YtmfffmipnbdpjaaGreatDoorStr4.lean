/-
  An append that leaves a given block alone; the reference's reading of rows.
-/
import Derived.Test.YtmfffmipnbdpjaaGreatDoorStr3
import Derived.Test.YtmfffmipnbdpjaaGreatDoorTwo
namespace Go.Proofs.YtmfffmipnbdpjaaGreatDoor
open Go.RowKit

/-- 'append(s, y)' of one number, block b left alone. -/
theorem app_int_away {ops : Array Oper} {rest : List Oper} {o : Oper} {a : Act} {Q : Exit → Act → World → Prop} (w : World) (hg : o.guard = none) (s x : Operand)
    (ho : o.op = .call { callee := .builtin .append, args := #[s, x], argTypes := #[36, 36] })
    (B : Nat) (a1 : Option Addr) (n c : Nat) (xs : List Int) (y : Int) (hs : a.eval s = .slice a1 n c) (hown : Own w B a1 n c xs)
    (b : Nat) (hb : b < w.heap.size) (hne : ∀ p, a1 = some p → p.block ≠ b)
    (hx : a.eval x = .slice (some ⟨w.heap.size, 0, none⟩) 1 1) (hn : n ≤ 1125899906) (hB : B ≤ w.heap.size)
    (h : ∀ a2 c2 w2, Own w2 B a2 (n + 1) c2 (xs ++ [y]) → w2.heap[b]? = w.heap[b]? → (∀ p, a2 = some p → p.block ≠ b) → w.grownBy w2 (Value.slice a1 n c).ownBlock → w.heap.size + 1 ≤ w2.heap.size → wpList Tryz.prog ops Q rest (a.put o.dst (.slice a2 (n + 1) c2)) w2) :
    wpList Tryz.prog ops Q (o :: rest) a (w.alloc (.cells #[.int .i64 y] 3)) := by
  obtain ⟨i0, hi, hz0, hz1, hz2⟩ := info_parts Tryz.infoInt
  have hA : w.grownBy (w.alloc (.cells #[.int .i64 y] 3)) (Value.slice a1 n c).ownBlock := World.grownBy_alloc w _ _
  refine wpList_plain hg fun _ hK => ?_
  refine wp_append_lies (w.alloc (.cells #[.int .i64 y] 3)) s x 36 ho B 3 i0 (.int .i64 0) 1 8 Tryz.underlying36 hi hz0 hz1 hz2 rfl (by decide) (.slice a1 n c) n (xs.map (Value.int .i64)) hs (hown.alloc _)
    ⟨w.heap.size, 0, none⟩ 1 1 ([y].map (Value.int .i64)) hx (by simp) ?_ (ints_oneCell _ _) (by omega) (by unfold maxLen; omega) (by omega) (by simp; omega) (w.heap.size + 1) (by simp) ?_
  · intro j u hu
    rw [Addr.add_lit, Nat.zero_add, World.cell?_alloc_at _ _ _ _ rfl]
    simpa using hu
  · intro g cap w' hown' hgrow hat hlt
    have hgr : w.grownBy w' (Value.slice a1 n c).ownBlock :=
      ⟨hgrow.os.trans hA.os, hgrow.tape.trans hA.tape, hgrow.output.trans hA.output, Nat.le_trans hA.size hgrow.size, fun k hk hne => (hgrow.block k (Nat.lt_of_lt_of_le hk hA.size) hne).trans (hA.block k hk hne)⟩
    have hob : ∀ p, a1 = some p → (Value.slice a1 n c).ownBlock = some p.block := fun p hp => own_head hown hp
    refine hK _ _ (h (some ⟨g, 0, none⟩) cap w' ?_ ?_ ?_ hgr ?_)
    · show w'.ownsRow B 3 1 (.slice (some ⟨g, 0, none⟩) (n + 1) cap) (n + 1) ((xs ++ [y]).map (Value.int .i64))
      rw [List.map_append]; exact hown'
    · refine hgr.block b hb ?_
      cases a1 with
      | none => intro e; cases e
      | some p => rw [hob p rfl]; intro e; injection e with e; exact hne p rfl e.symm
    · intro p hp
      injection hp with hp; subst hp
      show g ≠ b
      rcases hat with hat | hat
      · cases a1 with
        | none => cases hat
        | some p1 =>
          rw [hob p1 rfl] at hat
          injection hat with hat
          rw [← hat]; exact hne p1 rfl
      · omega
    · have := hgrow.size; simp at this; exact this

/-- Where a list of texts of the call's own lies. -/
theorem OwnS.at {w : World} {B : Nat} {a : Option Addr} {n c : Nat} {ss : List ByteArray} (h : OwnS w B a n c ss) (hn : 0 < n) :
    ∃ g, a = some ⟨g, 0, none⟩ ∧ B ≤ g ∧ g < w.heap.size ∧ ∀ w' : World, w'.heap[g]? = w.heap[g]? → ∀ j, j < n → w'.cell? ⟨g, j, none⟩ = some (.string (st ss j)) := by
  have hl := h.len
  have hlt := World.ownsRow.lt h
  rcases h.2 with ⟨h1, h2⟩ | ⟨g, cap, cur, hv, hg, hh, _, hc, hz, ht⟩
  · omega
  · have ha : a = some ⟨g, 0, none⟩ := by injection hv
    subst ha
    refine ⟨g, rfl, hg, (hlt g rfl).2, fun w' e j hj => ?_⟩
    rw [World.cell?_of_block (w := w) e, World.ownsRow.cellAt h j (by omega)]
    have hj' : j < ss.length := by omega
    rw [List.getElem?_map, List.getElem?_eq_getElem hj', st_mk hj']; rfl

/-- What a text is that holds a row. -/
structure RowText (s : ByteArray) (xs : List Int) : Prop where
  ok : valid xs = true
  eq : splS s 44 = xs.map numB
theorem splS_pos (s : ByteArray) (c : Nat) : 0 < (splS s c).length := by rw [splS, List.length_append, List.length_singleton]; omega
theorem splS_len (s : ByteArray) (c : Nat) : (splS s c).length ≤ s.size + 1 := by
  rw [splS, List.length_append, List.length_singleton]
  have := (cutO_bd s c s.size).2
  omega
theorem extract_le (s : ByteArray) (a b : Nat) : (s.extract a b).size ≤ s.size := by rw [ByteArray.size_extract]; omega
theorem cutO_sz (s : ByteArray) (c i : Nat) : ∀ x ∈ (cutO s c i).1, x.size ≤ s.size := by
  induction i with
  | zero => intro x hx; cases hx
  | succ k ih =>
    rw [cutO]
    split
    · intro x hx
      rcases List.mem_append.1 hx with hx | hx
      · exact ih x hx
      · rw [List.mem_singleton.1 hx]; exact extract_le _ _ _
    · exact ih
theorem splS_sz (s : ByteArray) (c j : Nat) : (st (splS s c) j).size ≤ s.size := by
  by_cases h : j < (splS s c).length
  · rw [st_mk h]
    have hm : (splS s c)[j] ∈ splS s c := List.getElem_mem h
    generalize (splS s c)[j] = x at hm
    rw [splS] at hm
    rcases List.mem_append.1 hm with hx | hx
    · exact cutO_sz s c _ _ hx
    · rw [List.mem_singleton.1 hx]; exact extract_le _ _ _
  · have : st (splS s c) j = ByteArray.empty := by unfold st; simp [List.getD, List.getElem?_eq_none (Nat.le_of_not_lt h)]
    rw [this]; exact Nat.zero_le _
theorem rt_st {s : ByteArray} {xs : List Int} (h : RowText s xs) {j : Nat} (hj : j < xs.length) : st (splS s 44) j = numB (el xs j) := by
  rw [h.eq, st_mk (by simpa using hj), List.getElem_map, el_mk hj]
theorem rt_len {s : ByteArray} {xs : List Int} (h : RowText s xs) : (splS s 44).length = xs.length := by rw [h.eq, List.length_map]

set_option maxHeartbeats 1600000 in
theorem readRow_yes (w : World) (s : ByteArray) (xs : List Int) (hs : s.size ≤ 1048576) (h : RowText s xs) :
    Calls Tryz.prog 23 #[.string s] w fun e w' => ∃ a c, e = .returned (.tuple #[.slice a xs.length c, .bool true]) ∧ Own w' w.heap.size a xs.length c xs ∧ Below w.heap.size w w' := by
  have hv := h.ok
  have HV := Lib.hid hv
  have hn16 : xs.length ≤ 16 := valid_len hv
  have HRD : Hid (∀ w j, j < xs.length → Calls Tryz.prog 44 #[.string (st (splS s 44) j)] w fun e w' => e = .returned (.tuple #[.int .i64 (el xs j), .bool true]) ∧ w = w') := by
    intro w j hj
    have hb := valid_bd hv hj
    have := readNumber_any w (st (splS s 44) j) (by have := splS_sz s 44 j; omega)
    rw [rt_st h hj, rdN_numB hb.1 hb.2] at this
    rw [rt_st h hj]
    exact this
  have HSP : Hid (∀ w, Calls Tryz.prog 22 #[.string s, .int .u8 44] w fun e w' => FreshS w w' e (splS s 44)) := fun w => splitAt_any w s 44 (by omega)
  have HL := rt_len h
  have hpos := splS_pos s 44
  have HTK : Hid (xs = tab (el xs) xs.length) := (tab_el xs).symm
  clear h hv
  generalize splS s 44 = ss at *
  obtain ⟨n, hn⟩ : ∃ n, n = xs.length := ⟨_, rfl⟩
  rw [← hn] at hn16 HRD HL HTK ⊢
  have hn0 : 0 < n := by omega
  clear hn hpos
  go_enter Tryz.func23, Tryz.ntmps23
  go_wp2_with fail
  refine (HSP.out _).mono ?_
  rintro e w1 ⟨al, cl, rfl, hownl, hbm⟩
  rw [HL] at hownl ⊢
  obtain ⟨g, rfl, hg1, hg2, hcell⟩ := hownl.at hn0
  have HC := Lib.hid hcell
  have hown0 := (own_empty w).below hbm
  have hbl0 := ((Below.refl w.heap.size w).alloc (Nat.le_refl _) (.cells #[] 3)).trans (hbm.mono (by simp))
  have hg3 : w.heap.size + 1 ≤ g := by simpa using hg1
  clear hcell hownl hbm hg1
  go_wp2_with fail
  go_loopw [4, 6] (fun v u wr => ∃ (k : Nat) (a1 : Option Addr) (c1 : Nat), k ≤ n ∧ u = .int .i64 k ∧ v = .slice a1 k c1 ∧ Own wr w.heap.size a1 k c1 (tab (el xs) k) ∧ Below w.heap.size w wr ∧ wr.heap[g]? = w1.heap[g]? ∧ (∀ p, a1 = some p → p.block ≠ g) ∧ g < wr.heap.size) (fun v _ _ => n - lenOf v)
  case atStart => exact ⟨0, _, 0, Nat.zero_le _, rfl, rfl, hown0, hbl0, rfl, fun p hp => by injection hp with hp; subst hp; show w.heap.size ≠ g; omega, hg2⟩
  case round =>
    obtain ⟨k, a1, c1, hk, rfl, rfl, hown, hbl, hsame, hne, hgl⟩ := hrel
    clear hown0 hbl0
    by_cases hlt : k < n
    · have hc := HC.out wr hsame k hlt
      go_wp2_with fail
      refine (HRD.out wr k hlt).mono ?_
      rintro e w' ⟨rfl, rfl⟩
      go_wp2_with (at_builtin; go_must (refine app_int_away wr rfl _ _ rfl w.heap.size _ _ _ _ _ rfl hown g hgl hne rfl (by omega) (by omega) ?_); intro a2 c2 w2 hown3 hsame3 hne3 hgr3 hsz3)
      go_roundw
      case rel => exact ⟨k + 1, a2, c2, by omega, by go_num, rfl, hown3, below_app hbl hgr3 hown (Nat.le_refl _) (by omega), hsame3.trans hsame, hne3, by omega⟩
      case measure => simp [lenOf]; omega
    · obtain rfl : k = n := by omega
      rw [← HTK.out] at hown
      go_wp2_with fail
      refine (validRow_is wr a1 k c1 xs true (hown.row (by omega)) HV.out).mono ?_
      rintro e w' ⟨rfl, rfl⟩
      go_wp2_with fail
      go_ret2
      exact ⟨a1, c1, rfl, hown, hbl⟩
set_option maxHeartbeats 1600000 in
theorem readRow_no (w : World) (s : ByteArray) (hs : s.size ≤ 1048576) (h : ∀ xs, ¬ RowText s xs) :
    Calls Tryz.prog 23 #[.string s] w fun e w' => ∃ a n c, e = .returned (.tuple #[.slice a n c, .bool false]) ∧ Below w.heap.size w w' := by
  have HRD : Hid (∀ w j, Calls Tryz.prog 44 #[.string (st (splS s 44) j)] w fun e w' => e = .returned (.tuple #[.int .i64 (rdN (st (splS s 44) j)).1, .bool (rdN (st (splS s 44) j)).2]) ∧ w = w') := by
    intro w j
    exact readNumber_any w (st (splS s 44) j) (by have := splS_sz s 44 j; omega)
  have HSP : Hid (∀ w, Calls Tryz.prog 22 #[.string s, .int .u8 44] w fun e w' => FreshS w w' e (splS s 44)) := fun w => splitAt_any w s 44 (by omega)
  have hL := splS_len s 44
  have hpos := splS_pos s 44
  have HNO : Hid (∀ ys : List Int, valid ys = true → splS s 44 ≠ ys.map numB) := fun ys hv e => h ys ⟨hv, e⟩
  clear h
  generalize splS s 44 = ss at *
  obtain ⟨n, hn⟩ : ∃ n, n = ss.length := ⟨_, rfl⟩
  rw [← hn] at hL hpos
  have HL := Lib.hid hn
  have hn2 : n ≤ 1048577 := by omega
  clear hn hL
  go_enter Tryz.func23, Tryz.ntmps23
  go_wp2_with fail
  refine (HSP.out _).mono ?_
  rintro e w1 ⟨al, cl, rfl, hownl, hbm⟩
  rw [← HL.out] at hownl ⊢
  obtain ⟨g, rfl, hg1, hg2, hcell⟩ := hownl.at hpos
  have HC := Lib.hid hcell
  have hown0 := (own_empty w).below hbm
  have hbl0 := ((Below.refl w.heap.size w).alloc (Nat.le_refl _) (.cells #[] 3)).trans (hbm.mono (by simp))
  have hg3 : w.heap.size + 1 ≤ g := by simpa using hg1
  clear hcell hownl hbm hg1
  go_wp2_with fail
  go_loopw [4, 6] (fun v u wr => ∃ (k : Nat) (a1 : Option Addr) (c1 : Nat) (ys : List Int), k ≤ n ∧ u = .int .i64 k ∧ v = .slice a1 k c1 ∧ Own wr w.heap.size a1 k c1 ys ∧ Below w.heap.size w wr ∧ wr.heap[g]? = w1.heap[g]? ∧ (∀ p, a1 = some p → p.block ≠ g) ∧ g < wr.heap.size ∧ Hid (∀ j, j < k → st ss j = numB (el ys j))) (fun v _ _ => n - lenOf v)
  case atStart => exact ⟨0, _, 0, [], Nat.zero_le _, rfl, rfl, hown0, hbl0, rfl, fun p hp => by injection hp with hp; subst hp; show w.heap.size ≠ g; omega, hg2, fun j hj => by omega⟩
  case round =>
    obtain ⟨k, a1, c1, ys, hk, rfl, rfl, hown, hbl, hsame, hne, hgl, HEQ⟩ := hrel
    clear hown0 hbl0
    have HYL : Hid (ys.length = k) := hown.len
    by_cases hlt : k < n
    · have hc := HC.out wr hsame k hlt
      have hbd := rdN_bd (st ss k)
      cases ho : (rdN (st ss k)).2
      · go_wp2_with fail
        refine (HRD.out wr k).mono ?_
        rintro e w' ⟨rfl, rfl⟩
        rw [ho]
        go_wp2_with fail
        go_ret2
        exact ⟨_, _, _, rfl, hbl⟩
      · have HOK := Lib.hid (rdN_ok ho)
        have HEQ2 : Hid (∀ j, j < k + 1 → st ss j = numB (el (ys ++ [(rdN (st ss k)).1]) j)) := by
          intro j hj
          by_cases e : j = k
          · subst e
            have e2 : el (ys ++ [(rdN (st ss j)).1]) j = (rdN (st ss j)).1 := by
              have := @el_append_at ys (rdN (st ss j)).1
              rw [HYL.out] at this; exact this
            rw [e2]; exact HOK.out
          · rw [el_append_left (by rw [HYL.out]; omega)]; exact HEQ.out j (by omega)
        go_wp2_with fail
        refine (HRD.out wr k).mono ?_
        rintro e w' ⟨rfl, rfl⟩
        rw [ho]
        clear ho
        go_wp2_with (at_builtin; go_must (refine app_int_away wr rfl _ _ rfl w.heap.size _ _ _ _ _ rfl hown g hgl hne rfl (by omega) (by omega) ?_); intro a2 c2 w2 hown3 hsame3 hne3 hgr3 hsz3)
        go_roundw
        case rel => exact ⟨k + 1, a2, c2, _, by omega, by go_num, rfl, hown3, below_app hbl hgr3 hown (Nat.le_refl _) (by omega), hsame3.trans hsame, hne3, by omega, HEQ2⟩
        case measure => simp [lenOf]; omega
    · obtain rfl : k = n := by omega
      cases hv : valid ys
      · go_wp2_with fail
        refine (validRow_is wr a1 k c1 ys false (hown.row (by omega)) hv).mono ?_
        rintro e w' ⟨rfl, rfl⟩
        go_wp2_with fail
        go_ret2
        exact ⟨_, _, _, rfl, hbl⟩
      · exfalso
        refine HNO.out ys hv ?_
        apply List.ext_getElem
        · rw [List.length_map, HYL.out]; exact HL.out.symm
        · intro j h1 h2
          have hj : j < k := by rw [HL.out]; exact h1
          have := HEQ.out j hj
          rw [st_mk h1] at this
          rw [this, List.getElem_map, el_mk]
end Go.Proofs.YtmfffmipnbdpjaaGreatDoor
