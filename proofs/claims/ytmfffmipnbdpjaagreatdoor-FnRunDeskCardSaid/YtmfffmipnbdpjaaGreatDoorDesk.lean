/-
  The library's functions in the form that the walks of the desk take; the program's reading of rows.
-/
import Derived.Test.YtmfffmipnbdpjaaGreatDoorStr4
import Derived.Test.YtmfffmipnbdpjaaGreatDoorPSplit
import Derived.Test.YtmfffmipnbdpjaaGreatDoorShelf
import Derived.WalkSmall
namespace Go.Proofs.YtmfffmipnbdpjaaGreatDoor
open Go.RowKit

theorem glob1 : Tryz.prog.globalNamed "strconv.ErrSyntax" = some 1 := by kernel_rfl
theorem glob2 : Tryz.prog.globalNamed "strconv.ErrRange" = some 2 := by kernel_rfl
theorem glob3 : Tryz.prog.globalNamed "internal/strconv.uint64pow10" = some 3 := by kernel_rfl
/-- What the library's functions want of the program's variables. -/
structure Env (w : World) : Prop where
  ml : ∃ m, w.cell? ⟨0, 0, none⟩ = some (.int .i64 m)
  es : ∃ tp p, w.var? Tryz.prog "strconv.ErrSyntax" = some #[.iface tp p]
  er : ∃ tp p, w.var? Tryz.prog "strconv.ErrRange" = some #[.iface tp p]
  tab : Lib.TabIs Tryz.prog w "internal/strconv.uint64pow10" .u64 Lib.pow10Tab
  lo : 8 ≤ w.heap.size
theorem Env.below {w w' : World} {B : Nat} (h : Env w) (hb : Below B w w') (hB : 8 ≤ B) : Env w' := by
  obtain ⟨m, hm⟩ := h.ml
  obtain ⟨tp, p, hs⟩ := h.es
  obtain ⟨tq, q, hr⟩ := h.er
  refine ⟨⟨m, ?_⟩, ⟨tp, p, var?_below hb glob1 (by omega) hs⟩, ⟨tq, q, var?_below hb glob2 (by omega) hr⟩, var?_below hb glob3 (by omega) h.tab, ?_⟩
  · rw [← hm]; exact World.cell?_of_block (hb.block 0 (by omega))
  · have := hb.size; have := h.lo; omega

theorem split_fresh (w : World) (s : ByteArray) (c : UInt8) (hE : Env w) (hs : s.size ≤ 2097152) :
    Calls Tryz.prog 33 #[.string s, .string ⟨#[c]⟩] w fun e w' => FreshS w w' e (splS s c.toNat) := by
  obtain ⟨m, hm⟩ := hE.ml
  refine (Go.Proofs.Tryz.strings_Split s ⟨#[c]⟩ m w (by omega) hm (Nat.le_refl 1)).mono ?_
  rintro e w' ⟨rfl, rfl⟩
  have hl := split_len s c
  refine ⟨some ⟨w.heap.size, 0, none⟩, Lib.countB s ⟨#[c]⟩ + 1, by rw [hl], ?_, (Below.refl _ _).alloc (Nat.le_refl _) _⟩
  have hle := splS_len s c.toNat
  rw [hl, split_same]
  have := World.ownsRow_lit (e := 9) (size := 1) w (base := w.heap.size) ((splS s c.toNat).map Value.string).toArray (splS s c.toNat).length (Nat.le_refl _) (by unfold maxLen; omega) (by simp)
  simpa [OwnS] using this
theorem itoa_any (w : World) (n : Int) (hE : Env w) (h0 : -9223372036854775808 ≤ n) (h1 : n ≤ 9223372036854775807) :
    Calls Tryz.prog 41 #[.int .i64 n] w fun e w' => e = .returned (.string (numB n)) ∧ Below w.heap.size w w' := by
  refine (Go.Proofs.Tryz.strconv_Itoa n h0 h1 w hE.tab).mono ?_
  rintro e w' ⟨rfl, k, os, rfl⟩
  refine ⟨rfl, ⟨rfl, rfl, rfl, ?_, fun j hj => ?_⟩⟩
  · show w.heap.size ≤ (w.heap ++ os).size; rw [Array.size_append]; omega
  · show (w.heap ++ os)[j]? = w.heap[j]?
    exact Array.getElem?_append_left hj
theorem atoi_ok (w : World) (s : ByteArray) (v : Int) (hs : s.size ≤ 2097152) (h : Lib.atoiAll s.data.toList = .ok v) :
    Calls Tryz.prog 66 #[.string s] w fun e w' => e = .returned (.tuple #[.int .i64 v, .nilIface]) ∧ Below w.heap.size w w' := by
  refine (Go.Proofs.Tryz.strconv_Atoi_ok s (by omega) v h w).mono ?_
  rintro e w' ⟨rfl, h⟩
  refine ⟨rfl, ?_⟩
  rcases h with rfl | ⟨t, rfl⟩
  · exact Below.refl _ _
  · exact ⟨rfl, rfl, rfl, by rw [Lib.bytesWorld_size]; omega, fun j hj => Lib.bytesWorld_at_old w _ t j hj⟩
theorem atoi_bad (w : World) (s : ByteArray) (hE : Env w) (hs : s.size ≤ 2097152) (h : ∀ v, Lib.atoiAll s.data.toList ≠ .ok v) :
    Calls Tryz.prog 66 #[.string s] w fun e w' => ∃ (v : Int) (t : TypeId) (p : Addr), e = .returned (.tuple #[.int .i64 v, .iface t (.pointer (some p))]) ∧ Below w.heap.size w w' := by
  obtain ⟨tp, p, hs1⟩ := hE.es
  obtain ⟨tq, q, hr1⟩ := hE.er
  cases ha : Lib.atoiAll s.data.toList
  · rename_i v; exact absurd ha (h v)
  · refine (Go.Proofs.Tryz.strconv_Atoi_syntax_var s (by omega) ha tp p w hs1).mono ?_
    rintro e w' ⟨N, rfl, _, _, hb⟩
    exact ⟨_, _, _, rfl, hb⟩
  · refine (Go.Proofs.Tryz.strconv_Atoi_range_var s (by omega) ha tq q w hr1).mono ?_
    rintro e w' ⟨N, rfl, _, _, hb⟩
    exact ⟨_, _, _, rfl, hb⟩

set_option maxHeartbeats 3200000 in
theorem decimals_yes (w : World) (s : ByteArray) (xs : List Int) (hE : Env w) (hs : s.size ≤ 1048576) (h : RowText s xs) :
    Calls Tryz.prog 40 #[.string s] w fun e w' => Fresh w w' e xs.length xs := by
  have hv := h.ok
  have HV := Lib.hid hv
  have hn16 : xs.length ≤ 16 := valid_len hv
  have HAT : Hid (∀ w j, j < xs.length → Calls Tryz.prog 66 #[.string (st (splS s 44) j)] w fun e w' => e = .returned (.tuple #[.int .i64 (el xs j), .nilIface]) ∧ Below w.heap.size w w') := by
    intro w j hj
    have hb := valid_bd hv hj
    exact atoi_ok w _ _ (by have := splS_sz s 44 j; omega) (by rw [rt_st h hj]; exact atoi_numB hb.1 hb.2)
  have HIT : Hid (∀ w j, Env w → j < xs.length → Calls Tryz.prog 41 #[.int .i64 (el xs j)] w fun e w' => e = .returned (.string (numB (el xs j))) ∧ Below w.heap.size w w') := by
    intro w j hE hj
    have hb := valid_bd hv hj
    exact itoa_any w _ hE (by omega) (by omega)
  have HEQ : Hid (∀ j, j < xs.length → ((numB (el xs j)).toList == (st (splS s 44) j).toList) = true) := by
    intro j hj
    rw [rt_st h hj]; simp
  have hL := splS_len s 44
  have hpos := splS_pos s 44
  have HSP : Hid (∀ w, Env w → Calls Tryz.prog 33 #[.string s, .string ⟨#[44]⟩] w fun e w' => FreshS w w' e (splS s 44)) := fun w hE => split_fresh w s 44 hE (by omega)
  have HL := Lib.hid (rt_len h)
  have HTK : Hid (xs = tab (el xs) xs.length) := (tab_el xs).symm
  have hA := (Below.refl w.heap.size w).alloc (Nat.le_refl _) (.cells #[] 3)
  have hlo := hE.lo
  clear h hv hL
  generalize splS s 44 = ss at *
  obtain ⟨n, hn⟩ : ∃ n, n = xs.length := ⟨_, rfl⟩
  rw [← hn] at hn16 HAT HIT HEQ HL HTK ⊢
  rw [HL.out] at hpos
  clear hn
  go_enter Tryz.func40, Tryz.ntmps40
  go_wp2_with fail
  refine (HSP.out _ (hE.below hA (hE.lo))).mono ?_
  rintro e w1 ⟨al, cl, rfl, hownl, hbm⟩
  rw [HL.out] at hownl ⊢
  obtain ⟨g, rfl, hg1, hg2, hcell⟩ := hownl.at hpos
  have HC := Lib.hid hcell
  have hown0 := (own_empty w).below hbm
  have hbl0 := hA.trans (hbm.mono (by simp))
  have hg3 : w.heap.size + 1 ≤ g := by simpa using hg1
  clear hcell hownl hbm hg1
  go_wp2_with fail
  go_loopw [3, 12] (fun v u wr => ∃ (k : Nat) (a1 : Option Addr) (c1 : Nat), k ≤ n ∧ u = .int .i64 k ∧ v = .slice a1 k c1 ∧ Own wr w.heap.size a1 k c1 (tab (el xs) k) ∧ Below w.heap.size w wr ∧ wr.heap[g]? = w1.heap[g]? ∧ (∀ p, a1 = some p → p.block ≠ g) ∧ g < wr.heap.size) (fun v _ _ => n - lenOf v)
  case atStart => exact ⟨0, _, 0, Nat.zero_le _, rfl, rfl, hown0, hbl0, rfl, fun p hp => by injection hp with hp; subst hp; show w.heap.size ≠ g; omega, hg2⟩
  case round =>
    obtain ⟨k, a1, c1, hk, rfl, rfl, hown, hbl, hsame, hne, hgl⟩ := hrel
    clear hown0 hbl0
    by_cases hlt : k < n
    · have hc := HC.out wr hsame k hlt
      have hq := HEQ.out k hlt
      go_wp2_with fail
      refine (HAT.out wr k hlt).mono ?_
      rintro e w3 ⟨rfl, b3⟩
      go_wp2_with fail
      refine (HIT.out w3 k (hE.below (bstep hbl b3) hlo) hlt).mono ?_
      rintro e w4 ⟨rfl, b4⟩
      have b34 := bstep b3 b4
      have hown4 := hown.below b34
      have hbl4 := bstep hbl b34
      have hsame4 := (b34.block g hgl).trans hsame
      have hgl4 : g < w4.heap.size := by have := b34.size; omega
      clear b3 b4 b34 hown hbl hsame hgl
      go_wp2_with (at_builtin; go_must (refine app_int_away w4 rfl _ _ rfl w.heap.size _ _ _ _ _ rfl hown4 g hgl4 hne rfl (by omega) (by omega) ?_); intro a2 c2 w2 hown3 hsame3 hne3 hgr3 hsz3)
      go_roundw
      case rel => exact ⟨k + 1, a2, c2, by omega, by go_num, rfl, hown3, below_app hbl4 hgr3 hown4 (Nat.le_refl _) (by omega), hsame3.trans hsame4, hne3, by omega⟩
      case measure => simp [lenOf]; omega
    · obtain rfl : k = n := by omega
      rw [← HTK.out] at hown
      go_wp2_with fail
      refine (ValidRow_is wr a1 k c1 xs true (hown.row (by omega)) HV.out).mono ?_
      rintro e w' ⟨rfl, rfl⟩
      go_wp2_with fail
      go_ret
      exact Fresh.mk hown hbl
set_option maxHeartbeats 3200000 in
theorem decimals_no (w : World) (s : ByteArray) (hE : Env w) (hs : s.size ≤ 1048576) (h : ∀ xs, ¬ RowText s xs) :
    Calls Tryz.prog 40 #[.string s] w fun e w' => e = .returned (.slice none 0 0) ∧ Below w.heap.size w w' := by
  have HSZ : Hid (∀ j, (st (splS s 44) j).size ≤ 2097152) := fun j => by have := splS_sz s 44 j; omega
  have hL := splS_len s 44
  have hpos := splS_pos s 44
  have HSP : Hid (∀ w, Env w → Calls Tryz.prog 33 #[.string s, .string ⟨#[44]⟩] w fun e w' => FreshS w w' e (splS s 44)) := fun w hE => split_fresh w s 44 hE (by omega)
  have HNO : Hid (∀ ys : List Int, valid ys = true → splS s 44 ≠ ys.map numB) := fun ys hv e => h ys ⟨hv, e⟩
  have hA := (Below.refl w.heap.size w).alloc (Nat.le_refl _) (.cells #[] 3)
  have hlo := hE.lo
  clear h
  generalize splS s 44 = ss at *
  obtain ⟨n, hn⟩ : ∃ n, n = ss.length := ⟨_, rfl⟩
  rw [← hn] at hL hpos
  have HL := Lib.hid hn.symm
  have hn2 : n ≤ 1048577 := by omega
  clear hn hL
  go_enter Tryz.func40, Tryz.ntmps40
  go_wp2_with fail
  refine (HSP.out _ (hE.below hA (hE.lo))).mono ?_
  rintro e w1 ⟨al, cl, rfl, hownl, hbm⟩
  rw [HL.out] at hownl ⊢
  obtain ⟨g, rfl, hg1, hg2, hcell⟩ := hownl.at hpos
  have HC := Lib.hid hcell
  have hown0 := (own_empty w).below hbm
  have hbl0 := hA.trans (hbm.mono (by simp))
  have hg3 : w.heap.size + 1 ≤ g := by simpa using hg1
  clear hcell hownl hbm hg1
  go_wp2_with fail
  go_loopw [3, 12] (fun v u wr => ∃ (k : Nat) (a1 : Option Addr) (c1 : Nat) (ys : List Int), k ≤ n ∧ u = .int .i64 k ∧ v = .slice a1 k c1 ∧ Own wr w.heap.size a1 k c1 ys ∧ Below w.heap.size w wr ∧ wr.heap[g]? = w1.heap[g]? ∧ (∀ p, a1 = some p → p.block ≠ g) ∧ g < wr.heap.size ∧ Hid (∀ j, j < k → st ss j = numB (el ys j))) (fun v _ _ => n - lenOf v)
  case atStart => exact ⟨0, _, 0, [], Nat.zero_le _, rfl, rfl, hown0, hbl0, rfl, fun p hp => by injection hp with hp; subst hp; show w.heap.size ≠ g; omega, hg2, fun j hj => by omega⟩
  case round =>
    obtain ⟨k, a1, c1, ys, hk, rfl, rfl, hown, hbl, hsame, hne, hgl, HEQ⟩ := hrel
    clear hown0 hbl0
    have HYL : Hid (ys.length = k) := hown.len
    by_cases hlt : k < n
    · have hc := HC.out wr hsame k hlt
      by_cases hok : ∃ v, Lib.atoiAll (st ss k).data.toList = .ok v
      · obtain ⟨v, hv⟩ := hok
        have hvb := Lib.atoiAll_bounds hv
        have HAV := Lib.hid hv
        have hbq := tl_beq (numB v) (st ss k)
        clear hv
        go_wp2_with fail
        refine (atoi_ok wr (st ss k) v (HSZ.out k) HAV.out).mono ?_
        rintro e w3 ⟨rfl, b3⟩
        go_wp2_with fail
        refine (itoa_any w3 v (hE.below (bstep hbl b3) hlo) hvb.1 hvb.2).mono ?_
        rintro e w4 ⟨rfl, b4⟩
        have b34 := bstep b3 b4
        have hown4 := hown.below b34
        have hbl4 := bstep hbl b34
        have hsame4 := (b34.block g hgl).trans hsame
        have hgl4 : g < w4.heap.size := by have := b34.size; omega
        clear b3 b4 b34 hown hbl hsame hgl
        by_cases he : numB v = st ss k
        · have HEQ2 : Hid (∀ j, j < k + 1 → st ss j = numB (el (ys ++ [v]) j)) := by
            intro j hj
            by_cases e : j = k
            · subst e
              have e2 : el (ys ++ [v]) j = v := by
                have := @el_append_at ys v
                rw [HYL.out] at this; exact this
              rw [e2]; exact he.symm
            · rw [el_append_left (by rw [HYL.out]; omega)]; exact HEQ.out j (by omega)
          rw [decide_eq_true he] at hbq
          clear he
          go_wp2_with (at_builtin; go_must (refine app_int_away w4 rfl _ _ rfl w.heap.size _ _ _ _ _ rfl hown4 g hgl4 hne rfl (by omega) (by omega) ?_); intro a2 c2 w2 hown3 hsame3 hne3 hgr3 hsz3)
          go_roundw
          case rel => exact ⟨k + 1, a2, c2, _, by omega, by go_num, rfl, hown3, below_app hbl4 hgr3 hown4 (Nat.le_refl _) (by omega), hsame3.trans hsame4, hne3, by omega, HEQ2⟩
          case measure => simp [lenOf]; omega
        · rw [decide_eq_false he] at hbq
          clear he
          go_wp2_with fail
          go_ret
          exact ⟨rfl, hbl4⟩
      · go_wp2_with fail
        refine (atoi_bad wr (st ss k) (hE.below hbl hlo) (HSZ.out k) fun v hv => hok ⟨v, hv⟩).mono ?_
        rintro e w3 ⟨v, t, p, rfl, b3⟩
        go_wp2_with fail
        go_ret
        exact ⟨rfl, bstep hbl b3⟩
    · obtain rfl : k = n := by omega
      cases hv : valid ys
      · go_wp2_with fail
        refine (ValidRow_is wr a1 k c1 ys false (hown.row (by omega)) hv).mono ?_
        rintro e w' ⟨rfl, rfl⟩
        go_wp2_with fail
        go_ret
        exact ⟨rfl, hbl⟩
      · exfalso
        refine HNO.out ys hv ?_
        apply List.ext_getElem
        · rw [List.length_map, HYL.out]; exact HL.out
        · intro j h1 h2
          have hj : j < k := by rw [← HL.out]; exact h1
          have := HEQ.out j hj
          rw [st_mk h1] at this
          rw [this, List.getElem_map, el_mk]
end Go.Proofs.YtmfffmipnbdpjaaGreatDoor
