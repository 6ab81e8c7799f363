/-
  The program's answer to a line.
-/
import Derived.Test.YtmfffmipnbdpjaaGreatDoorDesk2
import Derived.Test.YtmfffmipnbdpjaaGreatDoorEdge
import Derived.Test.YtmfffmipnbdpjaaGreatDoorSigns
import Derived.Test.YtmfffmipnbdpjaaGreatDoorWWave2
import Derived.Test.YtmfffmipnbdpjaaGreatDoorHalveS
import Derived.Test.YtmfffmipnbdpjaaGreatDoorHAllX
import Derived.Test.YtmfffmipnbdpjaaGreatDoorLeapS
import Derived.Test.YtmfffmipnbdpjaaGreatDoorSelf
namespace Go.Proofs.YtmfffmipnbdpjaaGreatDoor
open Go.RowKit

theorem wpList_look {ops : Array Oper} {rest : List Oper} {o : Oper} {a : Act} {Q : Exit → Act → World → Prop} (w : World) (hg : o.guard = none) (m x : Operand) (t kt et : TypeId) (hop : o.op = Op.lookup t m x true)
    (ht : Tryz.prog.underlying t = some (.map kt et)) (hk : Tryz.prog.underlying kt = some .string) (r clock : Nat) (es : Array MapEntry) (s : ByteArray) (i : Nat) (v : Value)
    (hm : a.eval m = .map (some r)) (hx : a.eval x = .string s) (hb : w.heap[r]? = some (.map es clock)) (hf : Instr.findNow .string (.string s) es.toList 0 = some (some (i, v)))
    (hK : wpList Tryz.prog ops Q rest (a.put o.dst (.tuple #[v, .bool true])) w) : wpList Tryz.prog ops Q (o :: rest) a w := by
  refine wpList_plain hg fun K' hK' => ?_
  have hrun := run_look w t kt et ht hk r clock es s i v hb hf
  unfold Oper.wp
  simp [execOp, hop, hm, hx, hrun, Result.andThen]
  exact hK' _ _ hK
theorem wpList_look_no {ops : Array Oper} {rest : List Oper} {o : Oper} {a : Act} {Q : Exit → Act → World → Prop} (w : World) (hg : o.guard = none) (m x : Operand) (t kt : TypeId) (hop : o.op = Op.lookup t m x true)
    (ht : Tryz.prog.underlying t = some (.map kt 44)) (hk : Tryz.prog.underlying kt = some .string) (r clock : Nat) (es : Array MapEntry) (s : ByteArray)
    (hm : a.eval m = .map (some r)) (hx : a.eval x = .string s) (hb : w.heap[r]? = some (.map es clock)) (hf : Instr.findNow .string (.string s) es.toList 0 = some none)
    (hK : wpList Tryz.prog ops Q rest (a.put o.dst (.tuple #[.nilFunc, .bool false])) w) : wpList Tryz.prog ops Q (o :: rest) a w := by
  refine wpList_plain hg fun K' hK' => ?_
  have hrun := run_look_no w t kt 44 ht hk r clock es s .nilFunc hb (zero_fn w) hf
  unfold Oper.wp
  simp [execOp, hop, hm, hx, hrun, Result.andThen]
  exact hK' _ _ hK

/-- What a list of answers must be to be told. -/
structure Small (xs : List Int) : Prop where
  len : xs.length ≤ 16
  bd : ∀ j, j < xs.length → -4000000000 ≤ el xs j ∧ el xs j ≤ 4000000000
/-- The answer that tells a list. -/
def tell (xs : List Int) : ByteArray := if xs.length = 0 then bs [119, 114, 111, 110, 103] else ltx xs xs.length

theorem join_any (w : World) (B : Nat) (a : Option Addr) (n c : Nat) (ss : List ByteArray) (h : OwnS w B a n c ss) (hn : 0 < n) (hn2 : n ≤ 1000) (hl : (Lib.join (ss.map (·.data.toList)) [44]).length ≤ 140737488355328) :
    Calls Tryz.prog 42 #[.slice a n c, .string ⟨#[44]⟩] w fun e w' => e = .returned (.string (bs (Lib.join (ss.map (·.data.toList)) [44]))) ∧ Below w.heap.size w w' := by
  have hlen := h.len
  obtain ⟨g, rfl, _, hg, hc⟩ := h.at hn
  have hcap : n ≤ c := by
    rcases h.2 with ⟨h1, h2⟩ | ⟨g2, cap, cur, hv, _, _, hcc, _⟩
    · omega
    · have e : c = cap := by injection hv
      omega
  subst hlen
  refine (Go.Proofs.Tryz.strings_Join g 0 c ss ⟨#[44]⟩ w (fun j x hj => ?_) hg (by omega) hcap hl).mono fun e w' h => h
  have hj2 : j < ss.length := (List.getElem?_eq_some_iff.1 hj).1
  have e : ss[j] = x := (List.getElem?_eq_some_iff.1 hj).2
  rw [Nat.zero_add, hc w rfl j hj2, st_mk hj2, e]

set_option maxRecDepth 100000 in
set_option maxHeartbeats 3200000 in
theorem answered_edge (w : World) (s : ByteArray) (xs : List Int) (R : List Int) (hE : Env w) (hs : s.size ≤ 1048576) (h2 : (splS s 32).length = 2) (h0 : st (splS s 32) 0 = ⟨#[101, 100, 103, 101]⟩) (hr : RowText (st (splS s 32) 1) xs)
    (hR : Small R) (hc : ∀ w a c, Row w a xs.length c xs → Calls Tryz.prog 34 #[.slice a xs.length c] w fun e w' => Fresh w w' e R.length R) :
    Calls Tryz.prog 13 #[.string s] w fun e w' => e = .returned (.string (tell R)) ∧ Below w.heap.size w w' := by
  have hmm := @run_makeMap Tryz.prog
  have HSP : Hid (Calls Tryz.prog 33 #[.string s, .string ⟨#[32]⟩] w fun e w' => FreshS w w' e (splS s 32)) := split_fresh w s 32 hE (by omega)
  have hz1 := splS_sz s 32 1
  have HD := Lib.hid fun w0 hE0 => decimals_yes w0 _ xs hE0 (Nat.le_trans hz1 hs) hr
  have HCO := Lib.hid hc
  have hlo := hE.lo
  have hn0 : 0 < xs.length := by rw [← rt_len hr]; exact splS_pos _ _
  have hn16 : xs.length ≤ 16 := valid_len hr.ok
  have hN16 := hR.len
  have HBD := Lib.hid hR.bd
  have HJ := Lib.hid (join_tlB R R.length)
  have HJS : Hid ((Lib.join ((tlB R R.length).map (·.data.toList)) [44]).length ≤ 140737488355328) := by
    rw [Hid, join_size]
    have := ltx_size (xs := R) (k := R.length) hR.bd
    omega
  have HT0 : Hid (R.length = 0 → tell R = bs [119, 114, 111, 110, 103]) := fun h => if_pos h
  have HT1 : Hid (0 < R.length → tell R = ltx R R.length) := fun h => if_neg (by omega)
  clear hr hc hz1 hR
  generalize splS s 32 = ss at *
  obtain ⟨N, hN⟩ : ∃ N, N = R.length := ⟨_, rfl⟩
  rw [← hN] at hN16 HBD HJ HJS HT0 HT1 HCO
  clear hN
  obtain ⟨n, hn⟩ : ∃ n, n = xs.length := ⟨_, rfl⟩
  rw [← hn] at hn0 hn16 HD HCO
  clear hn
  go_enter Tryz.func13, Tryz.ntmps13
  go_wp2_with fail
  refine HSP.out.mono ?_
  rintro e w1 ⟨al, cl, rfl, hownl, hbm⟩
  rw [h2] at hownl ⊢
  obtain ⟨g, rfl, hg1, hg2, hcell⟩ := hownl.at (by omega)
  have hc0 := hcell w1 rfl 0 (by omega)
  have hc1 := hcell w1 rfl 1 (by omega)
  rw [h0] at hc0
  have hgne : g ≠ w1.heap.size := by omega
  have hsz1 := hbm.size
  clear hcell hownl
  go_wp2_with (first
    | (refine wpList_put _ rfl _ _ _ _ _ _ rfl Tryz.underlying47 Tryz.underlying9 _ _ _ _ rfl rfl rfl (by kernel_rfl) ?_)
    | (refine wpList_look _ rfl _ _ _ _ _ rfl Tryz.underlying47 Tryz.underlying9 _ _ _ _ _ _ rfl rfl (heap_alloc_new w1 _) (by rfl) ?_))
  refine (HD.out _ (hE.below (hbm.alloc (by omega) _) hlo)).mono ?_
  rintro e w2 ⟨a2, c2, rfl, own2, b2⟩
  have bl2 := bstep (hbm.alloc (by omega) _) b2
  have r2 := own2.row (show n ≤ 1125899906842624 by omega)
  have hA2 := (Below.refl w2.heap.size w2).alloc (Nat.le_refl _) (.cells #[] 9)
  have hsz2 := bl2.size
  clear own2 b2 hbm hc0 hc1
  go_wp2_with fail
  refine (HCO.out _ _ _ (r2.below hA2)).mono ?_
  rintro e w3 ⟨a3, c3, rfl, own3, b3⟩
  have ot0 := ((ownS_empty w2).below b3).mono hsz2
  have bl3 := bstep (bstep bl2 hA2) b3
  have hb3 : w2.heap.size + 1 ≤ w3.heap.size := by have := b3.size; simp at this; omega
  by_cases hN0 : N = 0
  · have HT := Lib.hid (HT0.out hN0)
    subst hN0
    go_wp2_with fail
    go_loopw [8, 42] (fun v u wr => u = .int .i64 0 ∧ (∃ a c, v = .slice a 0 c) ∧ wr = w3) (fun _ _ _ => 0)
    case atStart => exact ⟨rfl, ⟨_, _, rfl⟩, rfl⟩
    case round =>
      obtain ⟨rfl, ⟨at1, ct1, rfl⟩, rfl⟩ := hrel
      go_wp2_with fail
      go_ret
      exact ⟨by rw [HT.out]; rfl, bl3⟩
  · have hNp : 0 < N := by omega
    have HT := Lib.hid (HT1.out hNp)
    obtain ⟨b, off, rfl, hbl, hcr⟩ := (own3.row (show N ≤ 1125899906842624 by omega)).cell 0 hNp
    have HC := Lib.hid hcr
    have hbge : w2.heap.size + 1 ≤ b := by have := own3.blk b rfl; simp at this; omega
    clear hcr own3 b3 hN0
    go_wp2_with fail
    go_loopw [8, 42] (fun v u wr => ∃ (k : Nat) (a1 : Option Addr) (c1 : Nat), k ≤ N ∧ u = .int .i64 k ∧ v = .slice a1 k c1 ∧ OwnS wr w.heap.size a1 k c1 (tlB R k) ∧ Below w.heap.size w wr ∧ wr.heap[b]? = w3.heap[b]? ∧ (∀ p, a1 = some p → p.block ≠ b) ∧ b < wr.heap.size) (fun _ u _ => N - (intOf u).toNat)
    case atStart => exact ⟨0, _, 0, Nat.zero_le _, rfl, rfl, ot0, bl3, rfl, fun p hp => by injection hp with hp; subst hp; show w2.heap.size ≠ b; omega, hbl⟩
    case round =>
      obtain ⟨k, a1, c1, hk, rfl, rfl, hown, hblr, hsame, hne, hbl2⟩ := hrel
      clear ot0 bl3
      by_cases hlt : k < N
      · have hc := (World.cell?_of_block (w := w3) (a := ⟨b, off + k, none⟩) hsame).trans (HC.out k hlt)
        have hbd := HBD.out k hlt
        go_wp2_with fail
        refine (itoa_any wr _ (hE.below hblr hlo) (by omega) (by omega)).mono ?_
        rintro e w4 ⟨rfl, b4⟩
        have hown4 := hown.below b4
        have hbl4 := bstep hblr b4
        have hsame4 := (b4.block b hbl2).trans hsame
        have hbl5 : b < w4.heap.size := by have := b4.size; omega
        clear b4 hown hblr hsame hbl2
        go_wp2_with (at_builtin; go_must (refine app_str_away w4 rfl _ _ rfl w.heap.size _ _ _ _ _ rfl hown4 b hbl5 hne rfl (by omega) (by have := hbl4.size; omega) ?_); intro a5 c5 w5 hown5 hsame5 hne5 hgr5 hsz5)
        go_roundw
        case rel => exact ⟨k + 1, a5, c5, by omega, by go_num, rfl, hown5, below_appS hbl4 hgr5 hown4 (Nat.le_refl _) (by have := hbl4.size; omega), hsame5.trans hsame4, hne5, by omega⟩
        case measure => simp [intOf]; omega
      · obtain rfl : k = N := by omega
        go_wp2_with fail
        refine (join_any wr _ a1 k c1 _ hown hNp (by omega) HJS.out).mono ?_
        rintro e w4 ⟨rfl, b4⟩
        go_wp2_with fail
        go_ret
        exact ⟨by rw [HJ.out, HT.out, ← bs_eq]; rfl, bstep hblr b4⟩
set_option maxRecDepth 100000 in
set_option maxHeartbeats 3200000 in
theorem answered_signs (w : World) (s : ByteArray) (xs : List Int) (R : List Int) (hE : Env w) (hs : s.size ≤ 1048576) (h2 : (splS s 32).length = 2) (h0 : st (splS s 32) 0 = ⟨#[115, 105, 103, 110, 115]⟩) (hr : RowText (st (splS s 32) 1) xs)
    (hR : Small R) (hc : ∀ w a c, Row w a xs.length c xs → Calls Tryz.prog 35 #[.slice a xs.length c] w fun e w' => Fresh w w' e R.length R) :
    Calls Tryz.prog 13 #[.string s] w fun e w' => e = .returned (.string (tell R)) ∧ Below w.heap.size w w' := by
  have hmm := @run_makeMap Tryz.prog
  have HSP : Hid (Calls Tryz.prog 33 #[.string s, .string ⟨#[32]⟩] w fun e w' => FreshS w w' e (splS s 32)) := split_fresh w s 32 hE (by omega)
  have hz1 := splS_sz s 32 1
  have HD := Lib.hid fun w0 hE0 => decimals_yes w0 _ xs hE0 (Nat.le_trans hz1 hs) hr
  have HCO := Lib.hid hc
  have hlo := hE.lo
  have hn0 : 0 < xs.length := by rw [← rt_len hr]; exact splS_pos _ _
  have hn16 : xs.length ≤ 16 := valid_len hr.ok
  have hN16 := hR.len
  have HBD := Lib.hid hR.bd
  have HJ := Lib.hid (join_tlB R R.length)
  have HJS : Hid ((Lib.join ((tlB R R.length).map (·.data.toList)) [44]).length ≤ 140737488355328) := by
    rw [Hid, join_size]
    have := ltx_size (xs := R) (k := R.length) hR.bd
    omega
  have HT0 : Hid (R.length = 0 → tell R = bs [119, 114, 111, 110, 103]) := fun h => if_pos h
  have HT1 : Hid (0 < R.length → tell R = ltx R R.length) := fun h => if_neg (by omega)
  clear hr hc hz1 hR
  generalize splS s 32 = ss at *
  obtain ⟨N, hN⟩ : ∃ N, N = R.length := ⟨_, rfl⟩
  rw [← hN] at hN16 HBD HJ HJS HT0 HT1 HCO
  clear hN
  obtain ⟨n, hn⟩ : ∃ n, n = xs.length := ⟨_, rfl⟩
  rw [← hn] at hn0 hn16 HD HCO
  clear hn
  go_enter Tryz.func13, Tryz.ntmps13
  go_wp2_with fail
  refine HSP.out.mono ?_
  rintro e w1 ⟨al, cl, rfl, hownl, hbm⟩
  rw [h2] at hownl ⊢
  obtain ⟨g, rfl, hg1, hg2, hcell⟩ := hownl.at (by omega)
  have hc0 := hcell w1 rfl 0 (by omega)
  have hc1 := hcell w1 rfl 1 (by omega)
  rw [h0] at hc0
  have hgne : g ≠ w1.heap.size := by omega
  have hsz1 := hbm.size
  clear hcell hownl
  go_wp2_with (first
    | (refine wpList_put _ rfl _ _ _ _ _ _ rfl Tryz.underlying47 Tryz.underlying9 _ _ _ _ rfl rfl rfl (by kernel_rfl) ?_)
    | (refine wpList_look _ rfl _ _ _ _ _ rfl Tryz.underlying47 Tryz.underlying9 _ _ _ _ _ _ rfl rfl (heap_alloc_new w1 _) (by rfl) ?_))
  refine (HD.out _ (hE.below (hbm.alloc (by omega) _) hlo)).mono ?_
  rintro e w2 ⟨a2, c2, rfl, own2, b2⟩
  have bl2 := bstep (hbm.alloc (by omega) _) b2
  have r2 := own2.row (show n ≤ 1125899906842624 by omega)
  have hA2 := (Below.refl w2.heap.size w2).alloc (Nat.le_refl _) (.cells #[] 9)
  have hsz2 := bl2.size
  clear own2 b2 hbm hc0 hc1
  go_wp2_with fail
  refine (HCO.out _ _ _ (r2.below hA2)).mono ?_
  rintro e w3 ⟨a3, c3, rfl, own3, b3⟩
  have ot0 := ((ownS_empty w2).below b3).mono hsz2
  have bl3 := bstep (bstep bl2 hA2) b3
  have hb3 : w2.heap.size + 1 ≤ w3.heap.size := by have := b3.size; simp at this; omega
  by_cases hN0 : N = 0
  · have HT := Lib.hid (HT0.out hN0)
    subst hN0
    go_wp2_with fail
    go_loopw [8, 42] (fun v u wr => u = .int .i64 0 ∧ (∃ a c, v = .slice a 0 c) ∧ wr = w3) (fun _ _ _ => 0)
    case atStart => exact ⟨rfl, ⟨_, _, rfl⟩, rfl⟩
    case round =>
      obtain ⟨rfl, ⟨at1, ct1, rfl⟩, rfl⟩ := hrel
      go_wp2_with fail
      go_ret
      exact ⟨by rw [HT.out]; rfl, bl3⟩
  · have hNp : 0 < N := by omega
    have HT := Lib.hid (HT1.out hNp)
    obtain ⟨b, off, rfl, hbl, hcr⟩ := (own3.row (show N ≤ 1125899906842624 by omega)).cell 0 hNp
    have HC := Lib.hid hcr
    have hbge : w2.heap.size + 1 ≤ b := by have := own3.blk b rfl; simp at this; omega
    clear hcr own3 b3 hN0
    go_wp2_with fail
    go_loopw [8, 42] (fun v u wr => ∃ (k : Nat) (a1 : Option Addr) (c1 : Nat), k ≤ N ∧ u = .int .i64 k ∧ v = .slice a1 k c1 ∧ OwnS wr w.heap.size a1 k c1 (tlB R k) ∧ Below w.heap.size w wr ∧ wr.heap[b]? = w3.heap[b]? ∧ (∀ p, a1 = some p → p.block ≠ b) ∧ b < wr.heap.size) (fun _ u _ => N - (intOf u).toNat)
    case atStart => exact ⟨0, _, 0, Nat.zero_le _, rfl, rfl, ot0, bl3, rfl, fun p hp => by injection hp with hp; subst hp; show w2.heap.size ≠ b; omega, hbl⟩
    case round =>
      obtain ⟨k, a1, c1, hk, rfl, rfl, hown, hblr, hsame, hne, hbl2⟩ := hrel
      clear ot0 bl3
      by_cases hlt : k < N
      · have hc := (World.cell?_of_block (w := w3) (a := ⟨b, off + k, none⟩) hsame).trans (HC.out k hlt)
        have hbd := HBD.out k hlt
        go_wp2_with fail
        refine (itoa_any wr _ (hE.below hblr hlo) (by omega) (by omega)).mono ?_
        rintro e w4 ⟨rfl, b4⟩
        have hown4 := hown.below b4
        have hbl4 := bstep hblr b4
        have hsame4 := (b4.block b hbl2).trans hsame
        have hbl5 : b < w4.heap.size := by have := b4.size; omega
        clear b4 hown hblr hsame hbl2
        go_wp2_with (at_builtin; go_must (refine app_str_away w4 rfl _ _ rfl w.heap.size _ _ _ _ _ rfl hown4 b hbl5 hne rfl (by omega) (by have := hbl4.size; omega) ?_); intro a5 c5 w5 hown5 hsame5 hne5 hgr5 hsz5)
        go_roundw
        case rel => exact ⟨k + 1, a5, c5, by omega, by go_num, rfl, hown5, below_appS hbl4 hgr5 hown4 (Nat.le_refl _) (by have := hbl4.size; omega), hsame5.trans hsame4, hne5, by omega⟩
        case measure => simp [intOf]; omega
      · obtain rfl : k = N := by omega
        go_wp2_with fail
        refine (join_any wr _ a1 k c1 _ hown hNp (by omega) HJS.out).mono ?_
        rintro e w4 ⟨rfl, b4⟩
        go_wp2_with fail
        go_ret
        exact ⟨by rw [HJ.out, HT.out, ← bs_eq]; rfl, bstep hblr b4⟩
set_option maxRecDepth 100000 in
set_option maxHeartbeats 3200000 in
theorem answered_wave (w : World) (s : ByteArray) (xs : List Int) (R : List Int) (hE : Env w) (hs : s.size ≤ 1048576) (h2 : (splS s 32).length = 2) (h0 : st (splS s 32) 0 = ⟨#[119, 97, 118, 101]⟩) (hr : RowText (st (splS s 32) 1) xs)
    (hR : Small R) (hc : ∀ w a c, Row w a xs.length c xs → Calls Tryz.prog 36 #[.slice a xs.length c] w fun e w' => Fresh w w' e R.length R) :
    Calls Tryz.prog 13 #[.string s] w fun e w' => e = .returned (.string (tell R)) ∧ Below w.heap.size w w' := by
  have hmm := @run_makeMap Tryz.prog
  have HSP : Hid (Calls Tryz.prog 33 #[.string s, .string ⟨#[32]⟩] w fun e w' => FreshS w w' e (splS s 32)) := split_fresh w s 32 hE (by omega)
  have hz1 := splS_sz s 32 1
  have HD := Lib.hid fun w0 hE0 => decimals_yes w0 _ xs hE0 (Nat.le_trans hz1 hs) hr
  have HCO := Lib.hid hc
  have hlo := hE.lo
  have hn0 : 0 < xs.length := by rw [← rt_len hr]; exact splS_pos _ _
  have hn16 : xs.length ≤ 16 := valid_len hr.ok
  have hN16 := hR.len
  have HBD := Lib.hid hR.bd
  have HJ := Lib.hid (join_tlB R R.length)
  have HJS : Hid ((Lib.join ((tlB R R.length).map (·.data.toList)) [44]).length ≤ 140737488355328) := by
    rw [Hid, join_size]
    have := ltx_size (xs := R) (k := R.length) hR.bd
    omega
  have HT0 : Hid (R.length = 0 → tell R = bs [119, 114, 111, 110, 103]) := fun h => if_pos h
  have HT1 : Hid (0 < R.length → tell R = ltx R R.length) := fun h => if_neg (by omega)
  clear hr hc hz1 hR
  generalize splS s 32 = ss at *
  obtain ⟨N, hN⟩ : ∃ N, N = R.length := ⟨_, rfl⟩
  rw [← hN] at hN16 HBD HJ HJS HT0 HT1 HCO
  clear hN
  obtain ⟨n, hn⟩ : ∃ n, n = xs.length := ⟨_, rfl⟩
  rw [← hn] at hn0 hn16 HD HCO
  clear hn
  go_enter Tryz.func13, Tryz.ntmps13
  go_wp2_with fail
  refine HSP.out.mono ?_
  rintro e w1 ⟨al, cl, rfl, hownl, hbm⟩
  rw [h2] at hownl ⊢
  obtain ⟨g, rfl, hg1, hg2, hcell⟩ := hownl.at (by omega)
  have hc0 := hcell w1 rfl 0 (by omega)
  have hc1 := hcell w1 rfl 1 (by omega)
  rw [h0] at hc0
  have hgne : g ≠ w1.heap.size := by omega
  have hsz1 := hbm.size
  clear hcell hownl
  go_wp2_with (first
    | (refine wpList_put _ rfl _ _ _ _ _ _ rfl Tryz.underlying47 Tryz.underlying9 _ _ _ _ rfl rfl rfl (by kernel_rfl) ?_)
    | (refine wpList_look _ rfl _ _ _ _ _ rfl Tryz.underlying47 Tryz.underlying9 _ _ _ _ _ _ rfl rfl (heap_alloc_new w1 _) (by rfl) ?_))
  refine (HD.out _ (hE.below (hbm.alloc (by omega) _) hlo)).mono ?_
  rintro e w2 ⟨a2, c2, rfl, own2, b2⟩
  have bl2 := bstep (hbm.alloc (by omega) _) b2
  have r2 := own2.row (show n ≤ 1125899906842624 by omega)
  have hA2 := (Below.refl w2.heap.size w2).alloc (Nat.le_refl _) (.cells #[] 9)
  have hsz2 := bl2.size
  clear own2 b2 hbm hc0 hc1
  go_wp2_with fail
  refine (HCO.out _ _ _ (r2.below hA2)).mono ?_
  rintro e w3 ⟨a3, c3, rfl, own3, b3⟩
  have ot0 := ((ownS_empty w2).below b3).mono hsz2
  have bl3 := bstep (bstep bl2 hA2) b3
  have hb3 : w2.heap.size + 1 ≤ w3.heap.size := by have := b3.size; simp at this; omega
  by_cases hN0 : N = 0
  · have HT := Lib.hid (HT0.out hN0)
    subst hN0
    go_wp2_with fail
    go_loopw [8, 42] (fun v u wr => u = .int .i64 0 ∧ (∃ a c, v = .slice a 0 c) ∧ wr = w3) (fun _ _ _ => 0)
    case atStart => exact ⟨rfl, ⟨_, _, rfl⟩, rfl⟩
    case round =>
      obtain ⟨rfl, ⟨at1, ct1, rfl⟩, rfl⟩ := hrel
      go_wp2_with fail
      go_ret
      exact ⟨by rw [HT.out]; rfl, bl3⟩
  · have hNp : 0 < N := by omega
    have HT := Lib.hid (HT1.out hNp)
    obtain ⟨b, off, rfl, hbl, hcr⟩ := (own3.row (show N ≤ 1125899906842624 by omega)).cell 0 hNp
    have HC := Lib.hid hcr
    have hbge : w2.heap.size + 1 ≤ b := by have := own3.blk b rfl; simp at this; omega
    clear hcr own3 b3 hN0
    go_wp2_with fail
    go_loopw [8, 42] (fun v u wr => ∃ (k : Nat) (a1 : Option Addr) (c1 : Nat), k ≤ N ∧ u = .int .i64 k ∧ v = .slice a1 k c1 ∧ OwnS wr w.heap.size a1 k c1 (tlB R k) ∧ Below w.heap.size w wr ∧ wr.heap[b]? = w3.heap[b]? ∧ (∀ p, a1 = some p → p.block ≠ b) ∧ b < wr.heap.size) (fun _ u _ => N - (intOf u).toNat)
    case atStart => exact ⟨0, _, 0, Nat.zero_le _, rfl, rfl, ot0, bl3, rfl, fun p hp => by injection hp with hp; subst hp; show w2.heap.size ≠ b; omega, hbl⟩
    case round =>
      obtain ⟨k, a1, c1, hk, rfl, rfl, hown, hblr, hsame, hne, hbl2⟩ := hrel
      clear ot0 bl3
      by_cases hlt : k < N
      · have hc := (World.cell?_of_block (w := w3) (a := ⟨b, off + k, none⟩) hsame).trans (HC.out k hlt)
        have hbd := HBD.out k hlt
        go_wp2_with fail
        refine (itoa_any wr _ (hE.below hblr hlo) (by omega) (by omega)).mono ?_
        rintro e w4 ⟨rfl, b4⟩
        have hown4 := hown.below b4
        have hbl4 := bstep hblr b4
        have hsame4 := (b4.block b hbl2).trans hsame
        have hbl5 : b < w4.heap.size := by have := b4.size; omega
        clear b4 hown hblr hsame hbl2
        go_wp2_with (at_builtin; go_must (refine app_str_away w4 rfl _ _ rfl w.heap.size _ _ _ _ _ rfl hown4 b hbl5 hne rfl (by omega) (by have := hbl4.size; omega) ?_); intro a5 c5 w5 hown5 hsame5 hne5 hgr5 hsz5)
        go_roundw
        case rel => exact ⟨k + 1, a5, c5, by omega, by go_num, rfl, hown5, below_appS hbl4 hgr5 hown4 (Nat.le_refl _) (by have := hbl4.size; omega), hsame5.trans hsame4, hne5, by omega⟩
        case measure => simp [intOf]; omega
      · obtain rfl : k = N := by omega
        go_wp2_with fail
        refine (join_any wr _ a1 k c1 _ hown hNp (by omega) HJS.out).mono ?_
        rintro e w4 ⟨rfl, b4⟩
        go_wp2_with fail
        go_ret
        exact ⟨by rw [HJ.out, HT.out, ← bs_eq]; rfl, bstep hblr b4⟩
set_option maxRecDepth 100000 in
set_option maxHeartbeats 3200000 in
theorem answered_halve (w : World) (s : ByteArray) (xs : List Int) (R : List Int) (hE : Env w) (hs : s.size ≤ 1048576) (h2 : (splS s 32).length = 2) (h0 : st (splS s 32) 0 = ⟨#[104, 97, 108, 118, 101]⟩) (hr : RowText (st (splS s 32) 1) xs)
    (hR : Small R) (hc : ∀ w a c, Row w a xs.length c xs → Calls Tryz.prog 37 #[.slice a xs.length c] w fun e w' => Fresh w w' e R.length R) :
    Calls Tryz.prog 13 #[.string s] w fun e w' => e = .returned (.string (tell R)) ∧ Below w.heap.size w w' := by
  have hmm := @run_makeMap Tryz.prog
  have HSP : Hid (Calls Tryz.prog 33 #[.string s, .string ⟨#[32]⟩] w fun e w' => FreshS w w' e (splS s 32)) := split_fresh w s 32 hE (by omega)
  have hz1 := splS_sz s 32 1
  have HD := Lib.hid fun w0 hE0 => decimals_yes w0 _ xs hE0 (Nat.le_trans hz1 hs) hr
  have HCO := Lib.hid hc
  have hlo := hE.lo
  have hn0 : 0 < xs.length := by rw [← rt_len hr]; exact splS_pos _ _
  have hn16 : xs.length ≤ 16 := valid_len hr.ok
  have hN16 := hR.len
  have HBD := Lib.hid hR.bd
  have HJ := Lib.hid (join_tlB R R.length)
  have HJS : Hid ((Lib.join ((tlB R R.length).map (·.data.toList)) [44]).length ≤ 140737488355328) := by
    rw [Hid, join_size]
    have := ltx_size (xs := R) (k := R.length) hR.bd
    omega
  have HT0 : Hid (R.length = 0 → tell R = bs [119, 114, 111, 110, 103]) := fun h => if_pos h
  have HT1 : Hid (0 < R.length → tell R = ltx R R.length) := fun h => if_neg (by omega)
  clear hr hc hz1 hR
  generalize splS s 32 = ss at *
  obtain ⟨N, hN⟩ : ∃ N, N = R.length := ⟨_, rfl⟩
  rw [← hN] at hN16 HBD HJ HJS HT0 HT1 HCO
  clear hN
  obtain ⟨n, hn⟩ : ∃ n, n = xs.length := ⟨_, rfl⟩
  rw [← hn] at hn0 hn16 HD HCO
  clear hn
  go_enter Tryz.func13, Tryz.ntmps13
  go_wp2_with fail
  refine HSP.out.mono ?_
  rintro e w1 ⟨al, cl, rfl, hownl, hbm⟩
  rw [h2] at hownl ⊢
  obtain ⟨g, rfl, hg1, hg2, hcell⟩ := hownl.at (by omega)
  have hc0 := hcell w1 rfl 0 (by omega)
  have hc1 := hcell w1 rfl 1 (by omega)
  rw [h0] at hc0
  have hgne : g ≠ w1.heap.size := by omega
  have hsz1 := hbm.size
  clear hcell hownl
  go_wp2_with (first
    | (refine wpList_put _ rfl _ _ _ _ _ _ rfl Tryz.underlying47 Tryz.underlying9 _ _ _ _ rfl rfl rfl (by kernel_rfl) ?_)
    | (refine wpList_look _ rfl _ _ _ _ _ rfl Tryz.underlying47 Tryz.underlying9 _ _ _ _ _ _ rfl rfl (heap_alloc_new w1 _) (by rfl) ?_))
  refine (HD.out _ (hE.below (hbm.alloc (by omega) _) hlo)).mono ?_
  rintro e w2 ⟨a2, c2, rfl, own2, b2⟩
  have bl2 := bstep (hbm.alloc (by omega) _) b2
  have r2 := own2.row (show n ≤ 1125899906842624 by omega)
  have hA2 := (Below.refl w2.heap.size w2).alloc (Nat.le_refl _) (.cells #[] 9)
  have hsz2 := bl2.size
  clear own2 b2 hbm hc0 hc1
  go_wp2_with fail
  refine (HCO.out _ _ _ (r2.below hA2)).mono ?_
  rintro e w3 ⟨a3, c3, rfl, own3, b3⟩
  have ot0 := ((ownS_empty w2).below b3).mono hsz2
  have bl3 := bstep (bstep bl2 hA2) b3
  have hb3 : w2.heap.size + 1 ≤ w3.heap.size := by have := b3.size; simp at this; omega
  by_cases hN0 : N = 0
  · have HT := Lib.hid (HT0.out hN0)
    subst hN0
    go_wp2_with fail
    go_loopw [8, 42] (fun v u wr => u = .int .i64 0 ∧ (∃ a c, v = .slice a 0 c) ∧ wr = w3) (fun _ _ _ => 0)
    case atStart => exact ⟨rfl, ⟨_, _, rfl⟩, rfl⟩
    case round =>
      obtain ⟨rfl, ⟨at1, ct1, rfl⟩, rfl⟩ := hrel
      go_wp2_with fail
      go_ret
      exact ⟨by rw [HT.out]; rfl, bl3⟩
  · have hNp : 0 < N := by omega
    have HT := Lib.hid (HT1.out hNp)
    obtain ⟨b, off, rfl, hbl, hcr⟩ := (own3.row (show N ≤ 1125899906842624 by omega)).cell 0 hNp
    have HC := Lib.hid hcr
    have hbge : w2.heap.size + 1 ≤ b := by have := own3.blk b rfl; simp at this; omega
    clear hcr own3 b3 hN0
    go_wp2_with fail
    go_loopw [8, 42] (fun v u wr => ∃ (k : Nat) (a1 : Option Addr) (c1 : Nat), k ≤ N ∧ u = .int .i64 k ∧ v = .slice a1 k c1 ∧ OwnS wr w.heap.size a1 k c1 (tlB R k) ∧ Below w.heap.size w wr ∧ wr.heap[b]? = w3.heap[b]? ∧ (∀ p, a1 = some p → p.block ≠ b) ∧ b < wr.heap.size) (fun _ u _ => N - (intOf u).toNat)
    case atStart => exact ⟨0, _, 0, Nat.zero_le _, rfl, rfl, ot0, bl3, rfl, fun p hp => by injection hp with hp; subst hp; show w2.heap.size ≠ b; omega, hbl⟩
    case round =>
      obtain ⟨k, a1, c1, hk, rfl, rfl, hown, hblr, hsame, hne, hbl2⟩ := hrel
      clear ot0 bl3
      by_cases hlt : k < N
      · have hc := (World.cell?_of_block (w := w3) (a := ⟨b, off + k, none⟩) hsame).trans (HC.out k hlt)
        have hbd := HBD.out k hlt
        go_wp2_with fail
        refine (itoa_any wr _ (hE.below hblr hlo) (by omega) (by omega)).mono ?_
        rintro e w4 ⟨rfl, b4⟩
        have hown4 := hown.below b4
        have hbl4 := bstep hblr b4
        have hsame4 := (b4.block b hbl2).trans hsame
        have hbl5 : b < w4.heap.size := by have := b4.size; omega
        clear b4 hown hblr hsame hbl2
        go_wp2_with (at_builtin; go_must (refine app_str_away w4 rfl _ _ rfl w.heap.size _ _ _ _ _ rfl hown4 b hbl5 hne rfl (by omega) (by have := hbl4.size; omega) ?_); intro a5 c5 w5 hown5 hsame5 hne5 hgr5 hsz5)
        go_roundw
        case rel => exact ⟨k + 1, a5, c5, by omega, by go_num, rfl, hown5, below_appS hbl4 hgr5 hown4 (Nat.le_refl _) (by have := hbl4.size; omega), hsame5.trans hsame4, hne5, by omega⟩
        case measure => simp [intOf]; omega
      · obtain rfl : k = N := by omega
        go_wp2_with fail
        refine (join_any wr _ a1 k c1 _ hown hNp (by omega) HJS.out).mono ?_
        rintro e w4 ⟨rfl, b4⟩
        go_wp2_with fail
        go_ret
        exact ⟨by rw [HJ.out, HT.out, ← bs_eq]; rfl, bstep hblr b4⟩
set_option maxRecDepth 100000 in
set_option maxHeartbeats 3200000 in
theorem answered_leap (w : World) (s : ByteArray) (xs : List Int) (R : List Int) (hE : Env w) (hs : s.size ≤ 1048576) (h2 : (splS s 32).length = 2) (h0 : st (splS s 32) 0 = ⟨#[108, 101, 97, 112]⟩) (hr : RowText (st (splS s 32) 1) xs)
    (hR : Small R) (hc : ∀ w a c, Row w a xs.length c xs → Calls Tryz.prog 38 #[.slice a xs.length c] w fun e w' => Fresh w w' e R.length R) :
    Calls Tryz.prog 13 #[.string s] w fun e w' => e = .returned (.string (tell R)) ∧ Below w.heap.size w w' := by
  have hmm := @run_makeMap Tryz.prog
  have HSP : Hid (Calls Tryz.prog 33 #[.string s, .string ⟨#[32]⟩] w fun e w' => FreshS w w' e (splS s 32)) := split_fresh w s 32 hE (by omega)
  have hz1 := splS_sz s 32 1
  have HD := Lib.hid fun w0 hE0 => decimals_yes w0 _ xs hE0 (Nat.le_trans hz1 hs) hr
  have HCO := Lib.hid hc
  have hlo := hE.lo
  have hn0 : 0 < xs.length := by rw [← rt_len hr]; exact splS_pos _ _
  have hn16 : xs.length ≤ 16 := valid_len hr.ok
  have hN16 := hR.len
  have HBD := Lib.hid hR.bd
  have HJ := Lib.hid (join_tlB R R.length)
  have HJS : Hid ((Lib.join ((tlB R R.length).map (·.data.toList)) [44]).length ≤ 140737488355328) := by
    rw [Hid, join_size]
    have := ltx_size (xs := R) (k := R.length) hR.bd
    omega
  have HT0 : Hid (R.length = 0 → tell R = bs [119, 114, 111, 110, 103]) := fun h => if_pos h
  have HT1 : Hid (0 < R.length → tell R = ltx R R.length) := fun h => if_neg (by omega)
  clear hr hc hz1 hR
  generalize splS s 32 = ss at *
  obtain ⟨N, hN⟩ : ∃ N, N = R.length := ⟨_, rfl⟩
  rw [← hN] at hN16 HBD HJ HJS HT0 HT1 HCO
  clear hN
  obtain ⟨n, hn⟩ : ∃ n, n = xs.length := ⟨_, rfl⟩
  rw [← hn] at hn0 hn16 HD HCO
  clear hn
  go_enter Tryz.func13, Tryz.ntmps13
  go_wp2_with fail
  refine HSP.out.mono ?_
  rintro e w1 ⟨al, cl, rfl, hownl, hbm⟩
  rw [h2] at hownl ⊢
  obtain ⟨g, rfl, hg1, hg2, hcell⟩ := hownl.at (by omega)
  have hc0 := hcell w1 rfl 0 (by omega)
  have hc1 := hcell w1 rfl 1 (by omega)
  rw [h0] at hc0
  have hgne : g ≠ w1.heap.size := by omega
  have hsz1 := hbm.size
  clear hcell hownl
  go_wp2_with (first
    | (refine wpList_put _ rfl _ _ _ _ _ _ rfl Tryz.underlying47 Tryz.underlying9 _ _ _ _ rfl rfl rfl (by kernel_rfl) ?_)
    | (refine wpList_look _ rfl _ _ _ _ _ rfl Tryz.underlying47 Tryz.underlying9 _ _ _ _ _ _ rfl rfl (heap_alloc_new w1 _) (by rfl) ?_))
  refine (HD.out _ (hE.below (hbm.alloc (by omega) _) hlo)).mono ?_
  rintro e w2 ⟨a2, c2, rfl, own2, b2⟩
  have bl2 := bstep (hbm.alloc (by omega) _) b2
  have r2 := own2.row (show n ≤ 1125899906842624 by omega)
  have hA2 := (Below.refl w2.heap.size w2).alloc (Nat.le_refl _) (.cells #[] 9)
  have hsz2 := bl2.size
  clear own2 b2 hbm hc0 hc1
  go_wp2_with fail
  refine (HCO.out _ _ _ (r2.below hA2)).mono ?_
  rintro e w3 ⟨a3, c3, rfl, own3, b3⟩
  have ot0 := ((ownS_empty w2).below b3).mono hsz2
  have bl3 := bstep (bstep bl2 hA2) b3
  have hb3 : w2.heap.size + 1 ≤ w3.heap.size := by have := b3.size; simp at this; omega
  by_cases hN0 : N = 0
  · have HT := Lib.hid (HT0.out hN0)
    subst hN0
    go_wp2_with fail
    go_loopw [8, 42] (fun v u wr => u = .int .i64 0 ∧ (∃ a c, v = .slice a 0 c) ∧ wr = w3) (fun _ _ _ => 0)
    case atStart => exact ⟨rfl, ⟨_, _, rfl⟩, rfl⟩
    case round =>
      obtain ⟨rfl, ⟨at1, ct1, rfl⟩, rfl⟩ := hrel
      go_wp2_with fail
      go_ret
      exact ⟨by rw [HT.out]; rfl, bl3⟩
  · have hNp : 0 < N := by omega
    have HT := Lib.hid (HT1.out hNp)
    obtain ⟨b, off, rfl, hbl, hcr⟩ := (own3.row (show N ≤ 1125899906842624 by omega)).cell 0 hNp
    have HC := Lib.hid hcr
    have hbge : w2.heap.size + 1 ≤ b := by have := own3.blk b rfl; simp at this; omega
    clear hcr own3 b3 hN0
    go_wp2_with fail
    go_loopw [8, 42] (fun v u wr => ∃ (k : Nat) (a1 : Option Addr) (c1 : Nat), k ≤ N ∧ u = .int .i64 k ∧ v = .slice a1 k c1 ∧ OwnS wr w.heap.size a1 k c1 (tlB R k) ∧ Below w.heap.size w wr ∧ wr.heap[b]? = w3.heap[b]? ∧ (∀ p, a1 = some p → p.block ≠ b) ∧ b < wr.heap.size) (fun _ u _ => N - (intOf u).toNat)
    case atStart => exact ⟨0, _, 0, Nat.zero_le _, rfl, rfl, ot0, bl3, rfl, fun p hp => by injection hp with hp; subst hp; show w2.heap.size ≠ b; omega, hbl⟩
    case round =>
      obtain ⟨k, a1, c1, hk, rfl, rfl, hown, hblr, hsame, hne, hbl2⟩ := hrel
      clear ot0 bl3
      by_cases hlt : k < N
      · have hc := (World.cell?_of_block (w := w3) (a := ⟨b, off + k, none⟩) hsame).trans (HC.out k hlt)
        have hbd := HBD.out k hlt
        go_wp2_with fail
        refine (itoa_any wr _ (hE.below hblr hlo) (by omega) (by omega)).mono ?_
        rintro e w4 ⟨rfl, b4⟩
        have hown4 := hown.below b4
        have hbl4 := bstep hblr b4
        have hsame4 := (b4.block b hbl2).trans hsame
        have hbl5 : b < w4.heap.size := by have := b4.size; omega
        clear b4 hown hblr hsame hbl2
        go_wp2_with (at_builtin; go_must (refine app_str_away w4 rfl _ _ rfl w.heap.size _ _ _ _ _ rfl hown4 b hbl5 hne rfl (by omega) (by have := hbl4.size; omega) ?_); intro a5 c5 w5 hown5 hsame5 hne5 hgr5 hsz5)
        go_roundw
        case rel => exact ⟨k + 1, a5, c5, by omega, by go_num, rfl, hown5, below_appS hbl4 hgr5 hown4 (Nat.le_refl _) (by have := hbl4.size; omega), hsame5.trans hsame4, hne5, by omega⟩
        case measure => simp [intOf]; omega
      · obtain rfl : k = N := by omega
        go_wp2_with fail
        refine (join_any wr _ a1 k c1 _ hown hNp (by omega) HJS.out).mono ?_
        rintro e w4 ⟨rfl, b4⟩
        go_wp2_with fail
        go_ret
        exact ⟨by rw [HJ.out, HT.out, ← bs_eq]; rfl, bstep hblr b4⟩
set_option maxRecDepth 100000 in
set_option maxHeartbeats 3200000 in
theorem answered_self (w : World) (s : ByteArray) (xs : List Int) (R : List Int) (hE : Env w) (hs : s.size ≤ 1048576) (h2 : (splS s 32).length = 2) (h0 : st (splS s 32) 0 = ⟨#[115, 101, 108, 102]⟩) (hr : RowText (st (splS s 32) 1) xs)
    (hR : Small R) (hc : ∀ w a c, Row w a xs.length c xs → Calls Tryz.prog 39 #[.slice a xs.length c] w fun e w' => Fresh w w' e R.length R) :
    Calls Tryz.prog 13 #[.string s] w fun e w' => e = .returned (.string (tell R)) ∧ Below w.heap.size w w' := by
  have hmm := @run_makeMap Tryz.prog
  have HSP : Hid (Calls Tryz.prog 33 #[.string s, .string ⟨#[32]⟩] w fun e w' => FreshS w w' e (splS s 32)) := split_fresh w s 32 hE (by omega)
  have hz1 := splS_sz s 32 1
  have HD := Lib.hid fun w0 hE0 => decimals_yes w0 _ xs hE0 (Nat.le_trans hz1 hs) hr
  have HCO := Lib.hid hc
  have hlo := hE.lo
  have hn0 : 0 < xs.length := by rw [← rt_len hr]; exact splS_pos _ _
  have hn16 : xs.length ≤ 16 := valid_len hr.ok
  have hN16 := hR.len
  have HBD := Lib.hid hR.bd
  have HJ := Lib.hid (join_tlB R R.length)
  have HJS : Hid ((Lib.join ((tlB R R.length).map (·.data.toList)) [44]).length ≤ 140737488355328) := by
    rw [Hid, join_size]
    have := ltx_size (xs := R) (k := R.length) hR.bd
    omega
  have HT0 : Hid (R.length = 0 → tell R = bs [119, 114, 111, 110, 103]) := fun h => if_pos h
  have HT1 : Hid (0 < R.length → tell R = ltx R R.length) := fun h => if_neg (by omega)
  clear hr hc hz1 hR
  generalize splS s 32 = ss at *
  obtain ⟨N, hN⟩ : ∃ N, N = R.length := ⟨_, rfl⟩
  rw [← hN] at hN16 HBD HJ HJS HT0 HT1 HCO
  clear hN
  obtain ⟨n, hn⟩ : ∃ n, n = xs.length := ⟨_, rfl⟩
  rw [← hn] at hn0 hn16 HD HCO
  clear hn
  go_enter Tryz.func13, Tryz.ntmps13
  go_wp2_with fail
  refine HSP.out.mono ?_
  rintro e w1 ⟨al, cl, rfl, hownl, hbm⟩
  rw [h2] at hownl ⊢
  obtain ⟨g, rfl, hg1, hg2, hcell⟩ := hownl.at (by omega)
  have hc0 := hcell w1 rfl 0 (by omega)
  have hc1 := hcell w1 rfl 1 (by omega)
  rw [h0] at hc0
  have hgne : g ≠ w1.heap.size := by omega
  have hsz1 := hbm.size
  clear hcell hownl
  go_wp2_with (first
    | (refine wpList_put _ rfl _ _ _ _ _ _ rfl Tryz.underlying47 Tryz.underlying9 _ _ _ _ rfl rfl rfl (by kernel_rfl) ?_)
    | (refine wpList_look _ rfl _ _ _ _ _ rfl Tryz.underlying47 Tryz.underlying9 _ _ _ _ _ _ rfl rfl (heap_alloc_new w1 _) (by rfl) ?_))
  refine (HD.out _ (hE.below (hbm.alloc (by omega) _) hlo)).mono ?_
  rintro e w2 ⟨a2, c2, rfl, own2, b2⟩
  have bl2 := bstep (hbm.alloc (by omega) _) b2
  have r2 := own2.row (show n ≤ 1125899906842624 by omega)
  have hA2 := (Below.refl w2.heap.size w2).alloc (Nat.le_refl _) (.cells #[] 9)
  have hsz2 := bl2.size
  clear own2 b2 hbm hc0 hc1
  go_wp2_with fail
  refine (HCO.out _ _ _ (r2.below hA2)).mono ?_
  rintro e w3 ⟨a3, c3, rfl, own3, b3⟩
  have ot0 := ((ownS_empty w2).below b3).mono hsz2
  have bl3 := bstep (bstep bl2 hA2) b3
  have hb3 : w2.heap.size + 1 ≤ w3.heap.size := by have := b3.size; simp at this; omega
  by_cases hN0 : N = 0
  · have HT := Lib.hid (HT0.out hN0)
    subst hN0
    go_wp2_with fail
    go_loopw [8, 42] (fun v u wr => u = .int .i64 0 ∧ (∃ a c, v = .slice a 0 c) ∧ wr = w3) (fun _ _ _ => 0)
    case atStart => exact ⟨rfl, ⟨_, _, rfl⟩, rfl⟩
    case round =>
      obtain ⟨rfl, ⟨at1, ct1, rfl⟩, rfl⟩ := hrel
      go_wp2_with fail
      go_ret
      exact ⟨by rw [HT.out]; rfl, bl3⟩
  · have hNp : 0 < N := by omega
    have HT := Lib.hid (HT1.out hNp)
    obtain ⟨b, off, rfl, hbl, hcr⟩ := (own3.row (show N ≤ 1125899906842624 by omega)).cell 0 hNp
    have HC := Lib.hid hcr
    have hbge : w2.heap.size + 1 ≤ b := by have := own3.blk b rfl; simp at this; omega
    clear hcr own3 b3 hN0
    go_wp2_with fail
    go_loopw [8, 42] (fun v u wr => ∃ (k : Nat) (a1 : Option Addr) (c1 : Nat), k ≤ N ∧ u = .int .i64 k ∧ v = .slice a1 k c1 ∧ OwnS wr w.heap.size a1 k c1 (tlB R k) ∧ Below w.heap.size w wr ∧ wr.heap[b]? = w3.heap[b]? ∧ (∀ p, a1 = some p → p.block ≠ b) ∧ b < wr.heap.size) (fun _ u _ => N - (intOf u).toNat)
    case atStart => exact ⟨0, _, 0, Nat.zero_le _, rfl, rfl, ot0, bl3, rfl, fun p hp => by injection hp with hp; subst hp; show w2.heap.size ≠ b; omega, hbl⟩
    case round =>
      obtain ⟨k, a1, c1, hk, rfl, rfl, hown, hblr, hsame, hne, hbl2⟩ := hrel
      clear ot0 bl3
      by_cases hlt : k < N
      · have hc := (World.cell?_of_block (w := w3) (a := ⟨b, off + k, none⟩) hsame).trans (HC.out k hlt)
        have hbd := HBD.out k hlt
        go_wp2_with fail
        refine (itoa_any wr _ (hE.below hblr hlo) (by omega) (by omega)).mono ?_
        rintro e w4 ⟨rfl, b4⟩
        have hown4 := hown.below b4
        have hbl4 := bstep hblr b4
        have hsame4 := (b4.block b hbl2).trans hsame
        have hbl5 : b < w4.heap.size := by have := b4.size; omega
        clear b4 hown hblr hsame hbl2
        go_wp2_with (at_builtin; go_must (refine app_str_away w4 rfl _ _ rfl w.heap.size _ _ _ _ _ rfl hown4 b hbl5 hne rfl (by omega) (by have := hbl4.size; omega) ?_); intro a5 c5 w5 hown5 hsame5 hne5 hgr5 hsz5)
        go_roundw
        case rel => exact ⟨k + 1, a5, c5, by omega, by go_num, rfl, hown5, below_appS hbl4 hgr5 hown4 (Nat.le_refl _) (by have := hbl4.size; omega), hsame5.trans hsame4, hne5, by omega⟩
        case measure => simp [intOf]; omega
      · obtain rfl : k = N := by omega
        go_wp2_with fail
        refine (join_any wr _ a1 k c1 _ hown hNp (by omega) HJS.out).mono ?_
        rintro e w4 ⟨rfl, b4⟩
        go_wp2_with fail
        go_ret
        exact ⟨by rw [HJ.out, HT.out, ← bs_eq]; rfl, bstep hblr b4⟩

theorem findNow_str (s : ByteArray) : ∀ (es : List MapEntry) (i : Nat), (∀ e ∈ es, ∃ k, e.key = .string k) → ∃ r, Instr.findNow .string (.string s) es i = some r := by
  intro es
  induction es with
  | nil => intro i _; exact ⟨none, rfl⟩
  | cons e t ih =>
    intro i h
    obtain ⟨k, hk⟩ := h e (List.mem_cons_self ..)
    obtain ⟨r, hr⟩ := ih (i + 1) fun x hx => h x (List.mem_cons_of_mem _ hx)
    rw [Instr.findNow, hk]
    show ∃ r, (match some (s == k) with | some true => some (some (i, e.val)) | some false => Instr.findNow .string (.string s) t (i + 1) | none => none) = some r
    cases s == k
    · exact ⟨r, hr⟩
    · exact ⟨_, rfl⟩
theorem wpList_look_any {ops : Array Oper} {rest : List Oper} {o : Oper} {a : Act} {Q : Exit → Act → World → Prop} (w : World) (hg : o.guard = none) (m x : Operand) (t kt : TypeId) (hop : o.op = Op.lookup t m x true)
    (ht : Tryz.prog.underlying t = some (.map kt 44)) (hk : Tryz.prog.underlying kt = some .string) (r clock : Nat) (es : Array MapEntry) (s : ByteArray)
    (hm : a.eval m = .map (some r)) (hx : a.eval x = .string s) (hb : w.heap[r]? = some (.map es clock)) (hs : ∀ e ∈ es.toList, ∃ k, e.key = .string k)
    (hK : ∀ v ok, wpList Tryz.prog ops Q rest (a.put o.dst (.tuple #[v, .bool ok])) w) : wpList Tryz.prog ops Q (o :: rest) a w := by
  obtain ⟨r0, hr0⟩ := findNow_str s es.toList 0 hs
  cases r0 with
  | none => exact wpList_look_no w hg m x t kt hop ht hk r clock es s hm hx hb hr0 (hK _ _)
  | some p => exact wpList_look w hg m x t kt 44 hop ht hk r clock es s p.1 p.2 hm hx hb hr0 (hK _ _)

theorem ba_ne {a b : ByteArray} (h : a ≠ b) : (a == b) = false := by
  obtain ⟨a⟩ := a
  obtain ⟨b⟩ := b
  have e : ((ByteArray.mk a) == (ByteArray.mk b)) = (a == b) := rfl
  rw [e, beq_eq_false_iff_ne]
  intro e2
  exact h (by rw [e2])
set_option maxRecDepth 100000 in
set_option maxHeartbeats 3200000 in
/-- Not two words. -/
theorem answered_len (w : World) (s : ByteArray) (hE : Env w) (hs : s.size ≤ 1048576) (h2 : (splS s 32).length ≠ 2) :
    Calls Tryz.prog 13 #[.string s] w fun e w' => e = .returned (.string (bs [119, 104, 97, 116])) ∧ Below w.heap.size w w' := by
  have hmm := @run_makeMap Tryz.prog
  have HSP : Hid (Calls Tryz.prog 33 #[.string s, .string ⟨#[32]⟩] w fun e w' => FreshS w w' e (splS s 32)) := split_fresh w s 32 hE (by omega)
  have hpos := splS_pos s 32
  have hlen := splS_len s 32
  have hlo := hE.lo
  generalize splS s 32 = ss at *
  obtain ⟨n, hn⟩ : ∃ n, n = ss.length := ⟨_, rfl⟩
  rw [← hn] at h2 hpos hlen
  have HN := Lib.hid hn
  have h2b : ((n : Int) != 2) = true := by simp; omega
  clear hn h2
  go_enter Tryz.func13, Tryz.ntmps13
  go_wp2_with fail
  refine HSP.out.mono ?_
  rintro e w1 ⟨al, cl, rfl, hownl, hbm⟩
  rw [← HN.out] at hownl ⊢
  obtain ⟨g, rfl, hg1, hg2, hcell⟩ := hownl.at hpos
  have hc0 := hcell w1 rfl 0 hpos
  have hgne : g ≠ w1.heap.size := by omega
  have hsz1 := hbm.size
  clear hcell hownl
  go_wp2_with (first
    | (refine wpList_put _ rfl _ _ _ _ _ _ rfl Tryz.underlying47 Tryz.underlying9 _ _ _ _ rfl rfl rfl (by kernel_rfl) ?_)
    | (refine wpList_look_any _ rfl _ _ _ _ rfl Tryz.underlying47 Tryz.underlying9 _ _ _ _ rfl rfl (heap_alloc_new w1 _) (by simp) ?_; intro v0 ok0))
  go_ret
  exact ⟨rfl, hbm.alloc (by omega) _⟩
/-- The six words. -/
def words : List ByteArray := [⟨#[101, 100, 103, 101]⟩, ⟨#[115, 105, 103, 110, 115]⟩, ⟨#[119, 97, 118, 101]⟩, ⟨#[104, 97, 108, 118, 101]⟩, ⟨#[108, 101, 97, 112]⟩, ⟨#[115, 101, 108, 102]⟩]
set_option maxRecDepth 100000 in
set_option maxHeartbeats 3200000 in
/-- Two words, the first none of the six. -/
theorem answered_word (w : World) (s : ByteArray) (hE : Env w) (hs : s.size ≤ 1048576) (h2 : (splS s 32).length = 2) (h0 : st (splS s 32) 0 ∉ words) :
    Calls Tryz.prog 13 #[.string s] w fun e w' => e = .returned (.string (bs [119, 104, 97, 116])) ∧ Below w.heap.size w w' := by
  have hmm := @run_makeMap Tryz.prog
  have HSP : Hid (Calls Tryz.prog 33 #[.string s, .string ⟨#[32]⟩] w fun e w' => FreshS w w' e (splS s 32)) := split_fresh w s 32 hE (by omega)
  have hpos := splS_pos s 32
  have hlen := splS_len s 32
  have hlo := hE.lo
  generalize splS s 32 = ss at *
  have HF : Hid (∀ es : List MapEntry, (∀ e ∈ es, ∃ k ∈ words, e.key = .string k) → ∀ i, Instr.findNow .string (.string (st ss 0)) es i = some none) := by
    intro es
    induction es with
    | nil => intro _ i; rfl
    | cons e t ih =>
      intro h i
      obtain ⟨k, hkw, hk⟩ := h e (List.mem_cons_self ..)
      have hne : (st ss 0 == k) = false := ba_ne fun e2 => h0 (by rw [e2]; exact hkw)
      rw [Instr.findNow, hk]
      show (match some (st ss 0 == k) with | some true => some (some (i, e.val)) | some false => Instr.findNow .string (.string (st ss 0)) t (i + 1) | none => none) = some none
      rw [hne]
      exact ih (fun x hx => h x (List.mem_cons_of_mem _ hx)) (i + 1)
  clear h0
  go_enter Tryz.func13, Tryz.ntmps13
  go_wp2_with fail
  refine HSP.out.mono ?_
  rintro e w1 ⟨al, cl, rfl, hownl, hbm⟩
  rw [h2] at hownl ⊢
  obtain ⟨g, rfl, hg1, hg2, hcell⟩ := hownl.at (by omega)
  have hc0 := hcell w1 rfl 0 (by omega)
  have hgne : g ≠ w1.heap.size := by omega
  have hsz1 := hbm.size
  clear hcell hownl
  go_wp2_with (first
    | (refine wpList_put _ rfl _ _ _ _ _ _ rfl Tryz.underlying47 Tryz.underlying9 _ _ _ _ rfl rfl rfl (by kernel_rfl) ?_)
    | (refine wpList_look_no _ rfl _ _ _ _ rfl Tryz.underlying47 Tryz.underlying9 _ _ _ _ rfl rfl (heap_alloc_new w1 _) (HF.out _ (by simp [words]) 0) ?_))
  go_ret
  exact ⟨rfl, hbm.alloc (by omega) _⟩
set_option maxRecDepth 100000 in
set_option maxHeartbeats 3200000 in
/-- Two words, the first whichever of the six, the second no row. -/
theorem answered_bad (w : World) (s : ByteArray) (k0 : ByteArray) (hE : Env w) (hs : s.size ≤ 1048576) (h2 : (splS s 32).length = 2) (h0 : st (splS s 32) 0 = k0) (hk0 : k0 ∈ words) (hr : ∀ xs, ¬ RowText (st (splS s 32) 1) xs) :
    Calls Tryz.prog 13 #[.string s] w fun e w' => e = .returned (.string (bs [119, 114, 111, 110, 103])) ∧ Below w.heap.size w w' := by
  have hmm := @run_makeMap Tryz.prog
  have HSP : Hid (Calls Tryz.prog 33 #[.string s, .string ⟨#[32]⟩] w fun e w' => FreshS w w' e (splS s 32)) := split_fresh w s 32 hE (by omega)
  have hpos := splS_pos s 32
  have hlen := splS_len s 32
  have hlo := hE.lo
  have hz1 := splS_sz s 32 1
  have HD := Lib.hid fun w0 hE0 => decimals_no w0 _ hE0 (Nat.le_trans hz1 hs) hr
  clear hr hz1
  generalize splS s 32 = ss at *
  have hW : k0 = ⟨#[101, 100, 103, 101]⟩ ∨ k0 = ⟨#[115, 105, 103, 110, 115]⟩ ∨ k0 = ⟨#[119, 97, 118, 101]⟩ ∨ k0 = ⟨#[104, 97, 108, 118, 101]⟩ ∨ k0 = ⟨#[108, 101, 97, 112]⟩ ∨ k0 = ⟨#[115, 101, 108, 102]⟩ := by simpa [words] using hk0
  clear hk0
  rcases hW with rfl | rfl | rfl | rfl | rfl | rfl
  all_goals
    go_enter Tryz.func13, Tryz.ntmps13
    go_wp2_with fail
    refine HSP.out.mono ?_
    rintro e w1 ⟨al, cl, rfl, hownl, hbm⟩
    rw [h2] at hownl ⊢
    obtain ⟨g, rfl, hg1, hg2, hcell⟩ := hownl.at (by omega)
    have hc0 := hcell w1 rfl 0 (by omega)
    have hc1 := hcell w1 rfl 1 (by omega)
    rw [h0] at hc0
    have hgne : g ≠ w1.heap.size := by omega
    have hsz1 := hbm.size
    clear hcell hownl
    go_wp2_with (first
      | (refine wpList_put _ rfl _ _ _ _ _ _ rfl Tryz.underlying47 Tryz.underlying9 _ _ _ _ rfl rfl rfl (by kernel_rfl) ?_)
      | (refine wpList_look _ rfl _ _ _ _ _ rfl Tryz.underlying47 Tryz.underlying9 _ _ _ _ _ _ rfl rfl (heap_alloc_new w1 _) (by rfl) ?_))
    refine (HD.out _ (hE.below (hbm.alloc (by omega) _) hlo)).mono ?_
    rintro e w2 ⟨rfl, b2⟩
    have bl2 := bstep (hbm.alloc (by omega) _) b2
    go_wp2_with fail
    go_ret
    exact ⟨rfl, bl2⟩
end Go.Proofs.YtmfffmipnbdpjaaGreatDoor
