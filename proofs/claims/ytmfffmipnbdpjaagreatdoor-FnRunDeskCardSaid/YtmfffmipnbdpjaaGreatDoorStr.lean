/-
  Texts and lists of texts.
-/
import Derived.Test.YtmfffmipnbdpjaaGreatDoorEq
import Derived.Test.YtmfffmipnbdpjaaGreatDoorMatch
import Derived.Lib.ItoaNum
namespace Go.Proofs.YtmfffmipnbdpjaaGreatDoor
open Go.RowKit

/-- The text of some bytes. -/
def bs (l : List UInt8) : ByteArray := ⟨l.toArray⟩
theorem bs_data (l : List UInt8) : (bs l).data.toList = l := by simp [bs]
theorem bs_eq (s : ByteArray) : s = bs s.data.toList := by obtain ⟨⟨l⟩⟩ := s; rfl
theorem bs_app (a b : List UInt8) : bs a ++ bs b = bs (a ++ b) := by
  rw [bs_eq (bs a ++ bs b), ByteArray.data_append, Array.toList_append, bs_data, bs_data]
theorem bs_size (l : List UInt8) : (bs l).size = l.length := rfl
theorem bs_inj {a b : List UInt8} (h : bs a = bs b) : a = b := by
  have := congrArg (fun s => s.data.toList) h
  simpa [bs_data] using this
theorem bs_toList (l : List UInt8) : (bs l).toList = l := by rw [ByteArray.toList_eq, bs_data]

/-- The j-th text of a list. Not reducible. -/
def st (ss : List ByteArray) (j : Nat) : ByteArray := ss.getD j ByteArray.empty
theorem st_mk {ss : List ByteArray} {i : Nat} (h : i < ss.length) : st ss i = ss[i] := by simp [st, h]

/-- A list of texts in memory. -/
structure RowS (w : World) (a : Option Addr) (n c : Nat) (ss : List ByteArray) : Prop where
  len : ss.length = n
  cell : ∀ i, i < n → ∃ b off, a = some ⟨b, off, none⟩ ∧ b < w.heap.size ∧ ∀ j, j < n → w.cell? ⟨b, off + j, none⟩ = some (.string (st ss j))
theorem RowS.below {w w' : World} {a : Option Addr} {n c : Nat} {ss : List ByteArray} (h : RowS w a n c ss) (hb : Below w.heap.size w w') : RowS w' a n c ss :=
  ⟨h.len, fun i hi => by
    obtain ⟨b, off, ha, hlt, hc⟩ := h.cell i hi
    have := hb.size
    exact ⟨b, off, ha, by omega, fun j hj => by rw [hb.cell hlt]; exact hc j hj⟩⟩
/-- A list of texts of the call's own. -/
def OwnS (w : World) (B : Nat) (a : Option Addr) (n c : Nat) (ss : List ByteArray) : Prop :=
  w.ownsRow B 9 1 (.slice a n c) n (ss.map Value.string)
theorem OwnS.len {w : World} {B : Nat} {a : Option Addr} {n c : Nat} {ss : List ByteArray} (h : OwnS w B a n c ss) : ss.length = n := by
  have := h.1; simpa using this
theorem OwnS.row {w : World} {B : Nat} {a : Option Addr} {n c : Nat} {ss : List ByteArray} (h : OwnS w B a n c ss) : RowS w a n c ss := by
  have hl := h.len
  have hlt := World.ownsRow.lt h
  rcases h.2 with ⟨h1, h2⟩ | ⟨g, cap, cur, hv, hg, hh, hn, hc, hz, ht⟩
  · exact ⟨hl, fun i hi => by omega⟩
  · have ha : a = some ⟨g, 0, none⟩ := by injection hv
    have hcc : c = cap := by injection hv
    subst ha; subst hcc
    refine ⟨hl, fun i hi => ⟨g, 0, rfl, (hlt g rfl).2, fun j hj => ?_⟩⟩
    rw [Nat.zero_add, World.ownsRow.cellAt h j (by omega)]
    have hj' : j < ss.length := by omega
    rw [List.getElem?_map, List.getElem?_eq_getElem hj', st_mk hj']; rfl
theorem OwnS.below {w w' : World} {B : Nat} {a : Option Addr} {n c : Nat} {ss : List ByteArray} (h : OwnS w B a n c ss) (hb : Below w.heap.size w w') : OwnS w' B a n c ss :=
  ownsRow_below h hb fun k hk => (World.ownsRow.lt h k hk).2
theorem OwnS.alloc {w : World} {B : Nat} {a : Option Addr} {n c : Nat} {ss : List ByteArray} (h : OwnS w B a n c ss) (o : Obj) : OwnS (w.alloc o) B a n c ss := World.ownsRow.alloc h o
theorem OwnS.mono {w : World} {B B' : Nat} {a : Option Addr} {n c : Nat} {ss : List ByteArray} (h : OwnS w B a n c ss) (hB : B' ≤ B) : OwnS w B' a n c ss := ownsRow_mono h hB
theorem OwnS.blk {w : World} {B : Nat} {a : Option Addr} {n c : Nat} {ss : List ByteArray} (h : OwnS w B a n c ss) : ∀ k, (Value.slice a n c).ownBlock = some k → B ≤ k ∧ k < w.heap.size := World.ownsRow.lt h
theorem ownS_empty (w : World) : OwnS (w.alloc (.cells #[] 9)) w.heap.size (some ⟨w.heap.size, 0, none⟩) 0 0 [] :=
  World.ownsRow_made w #[] 0 (Nat.le_refl _) (by simp [maxLen]) rfl
/-- What a call returns that makes a list of texts. -/
def FreshS (w w' : World) (e : Ending) (ss : List ByteArray) : Prop :=
  ∃ a c, e = .returned (.slice a ss.length c) ∧ OwnS w' w.heap.size a ss.length c ss ∧ Below w.heap.size w w'

theorem Tryz.infoStr : (Tryz.prog.info? 9).map (fun i => (i.zero, i.size, i.bytes)) = some (some (.string ⟨#[]⟩), 1, 16) := by kernel_rfl
theorem strs_oneCell (ss : List ByteArray) : ∀ v ∈ ss.map Value.string, v.oneCell' = true := by
  intro v hv
  obtain ⟨s, _, rfl⟩ := List.mem_map.1 hv
  rfl
/-- 'append(ss, y)', y one text, ss a list of the call's own. -/
theorem app_str {ops : Array Oper} {rest : List Oper} {o : Oper} {a : Act} {Q : Exit → Act → World → Prop} (w : World) (hg : o.guard = none) (s x : Operand)
    (ho : o.op = .call { callee := .builtin .append, args := #[s, x], argTypes := #[22, 22] })
    (B : Nat) (a1 : Option Addr) (n c : Nat) (xs : List ByteArray) (y : ByteArray) (hs : a.eval s = .slice a1 n c) (hown : OwnS w B a1 n c xs)
    (hx : a.eval x = .slice (some ⟨w.heap.size, 0, none⟩) 1 1) (hn : n ≤ 1125899906842) (hB : B ≤ w.heap.size)
    (h : ∀ a2 c2 w2, OwnS w2 B a2 (n + 1) c2 (xs ++ [y]) → w.grownBy w2 (Value.slice a1 n c).ownBlock → w.heap.size + 1 ≤ w2.heap.size → wpList Tryz.prog ops Q rest (a.put o.dst (.slice a2 (n + 1) c2)) w2) :
    wpList Tryz.prog ops Q (o :: rest) a (w.alloc (.cells #[.string y] 9)) := by
  obtain ⟨i0, hi, hz0, hz1, hz2⟩ := info_parts Tryz.infoStr
  refine wpList_append_own (w.alloc (.cells #[.string y] 9)) hg s x 22 ho B 9 i0 (.string ⟨#[]⟩) 1 16 Tryz.underlying22 hi hz0 hz1 hz2 rfl (by decide) (.slice a1 n c) n (xs.map Value.string) hs (World.ownsRow.alloc hown _)
    ⟨w.heap.size, 0, none⟩ 1 1 ([y].map Value.string) hx (by simp) ?_ (strs_oneCell _) ?_ ?_ ?_ ?_
  · intro j u hu
    rw [Addr.add_lit, Nat.zero_add, World.cell?_alloc_at _ _ _ _ rfl]
    simpa using hu
  · unfold maxLen; omega
  · omega
  · simp; omega
  · intro v' w' hown' hgrow hnil
    have hv : ∃ a2 c2, v' = .slice a2 (n + 1) c2 := by
      rcases hown'.2 with ⟨_, h2⟩ | ⟨g, cap, cur, hv, _⟩
      · omega
      · exact ⟨_, _, hv⟩
    obtain ⟨a2, c2, rfl⟩ := hv
    have hgr : w.grownBy w' (Value.slice a1 n c).ownBlock := by
      have h0 : w.grownBy (w.alloc (.cells #[.string y] 9)) (Value.slice a1 n c).ownBlock := World.grownBy_alloc w _ _
      refine ⟨hgrow.os.trans h0.os, hgrow.tape.trans h0.tape, hgrow.output.trans h0.output, Nat.le_trans h0.size hgrow.size, fun k hk hne => ?_⟩
      rw [hgrow.block k (by simp; omega) hne, h0.block k hk hne]
    refine h a2 c2 w' ?_ hgr ?_
    · show w'.ownsRow B 9 1 (.slice a2 (n + 1) c2) (n + 1) ((xs ++ [y]).map Value.string)
      rw [List.map_append]; exact hown'
    · have := hgrow.size; simp at this; exact this
theorem below_appS {H B : Nat} {W0 w w' : World} {a : Option Addr} {n c : Nat} {ss : List ByteArray} (h : Below H W0 w) (hg : w.grownBy w' (Value.slice a n c).ownBlock) (hown : OwnS w B a n c ss) (hB : H ≤ B) (hH : H ≤ w.heap.size) : Below H W0 w' :=
  h.grown hg hH fun j hj => by have := hown.blk j hj; omega

/-- The digits of a number in decimal. Not reducible. -/
def numL (n : Int) : List UInt8 := Lib.itoa n
theorem decDigits_lt {u : Nat} (h : u < 10) : Lib.decDigits u = [UInt8.ofNat (48 + u)] := by rw [Lib.decDigits, dif_pos h]
theorem decDigits_ge {u : Nat} (h : ¬ u < 10) : Lib.decDigits u = Lib.decDigits (u / 10) ++ [UInt8.ofNat (48 + u % 10)] := by rw [Lib.decDigits, dif_neg h]
/-- The digits of a natural number. Not reducible. -/
def decB (u : Nat) : ByteArray := bs (Lib.decDigits u)
def numB (n : Int) : ByteArray := bs (Lib.itoa n)
theorem decB_lt : ∀ u, u < 10 → (⟨#[48, 49, 50, 51, 52, 53, 54, 55, 56, 57]⟩ : ByteArray).extract u (u + 1) = decB u := by
  intro u hu
  rw [decB, decDigits_lt hu]
  revert hu; revert u
  decide
theorem decB_ge {u : Nat} (h : ¬ u < 10) : decB (u / 10) ++ decB (u % 10) = decB u := by
  rw [decB, decB, decB, bs_app, decDigits_lt (show u % 10 < 10 by omega), decDigits_ge h]
theorem numB_neg {n : Nat} (h : 0 < n) : (⟨#[45]⟩ : ByteArray) ++ decB n = numB (-(n : Int)) := by
  rw [numB, Lib.itoa, if_pos (by omega), Int.natAbs_neg, Int.natAbs_natCast, decB]
  exact bs_app [45] _
theorem numB_nat (n : Nat) : decB n = numB (n : Int) := by
  rw [numB, Lib.itoa, if_neg (by omega), Int.toNat_natCast, decB]
theorem decDigits_len {k : Nat} : ∀ {u : Nat}, u < 10 ^ (k + 1) → (Lib.decDigits u).length ≤ k + 1 := by
  induction k with
  | zero => intro u h; rw [decDigits_lt (by simpa using h)]; simp
  | succ k ih =>
    intro u h
    by_cases h2 : u < 10
    · rw [decDigits_lt h2]; simp
    · have : u / 10 < 10 ^ (k + 1) := by rw [Nat.pow_succ] at h; omega
      rw [decDigits_ge h2, List.length_append, List.length_singleton]
      have := ih this
      omega
theorem decB_size {u : Nat} (h : u < 10000000000) : (decB u).size ≤ 10 := by rw [decB, bs_size]; exact decDigits_len h

set_option maxHeartbeats 800000 in
theorem number_nat : ∀ (k u : Nat) (w : World), u < 10 ^ (k + 1) → u < 10000000000 →
    Calls Tryz.prog 43 #[.int .i64 u] w fun e w' => e = .returned (.string (decB u)) ∧ w = w' := by
  intro k
  induction k with
  | zero =>
    intro u w h _
    have hu : u < 10 := by simpa using h
    have hd := decB_lt u hu
    have HD := Lib.hid hd
    clear hd h
    go_enter Tryz.func43, Tryz.ntmps43
    go_wp2_with fail
    go_ret
    exact ⟨congrArg (fun x => Ending.returned (.string x)) (by simpa using HD.out), rfl⟩
  | succ k ih =>
    intro u w h hbig
    by_cases hu : u < 10
    · have hd := decB_lt u hu
      have HD := Lib.hid hd
      clear hd h ih
      go_enter Tryz.func43, Tryz.ntmps43
      go_wp2_with fail
      go_ret
      exact ⟨congrArg (fun x => Ending.returned (.string x)) (by simpa using HD.out), rfl⟩
    · have h1 : u / 10 < 10 ^ (k + 1) := by rw [Nat.pow_succ] at h; omega
      have h2 : u % 10 < 10 ^ (k + 1) := by
        have : 10 ^ 1 ≤ 10 ^ (k + 1) := Nat.pow_le_pow_right (by decide) (by omega)
        omega
      have H1 := Lib.hid (ih (u / 10) w h1 (by omega))
      have H2 := Lib.hid (ih (u % 10) w h2 (by omega))
      have HB := Lib.hid (decB_ge hu)
      have s1 := decB_size (show u / 10 < 10000000000 by omega)
      have s2 := decB_size (show u % 10 < 10000000000 by omega)
      clear h ih h1 h2
      go_enter Tryz.func43, Tryz.ntmps43
      go_wp2_with fail
      refine H1.out.mono ?_
      rintro e w' ⟨rfl, rfl⟩
      go_wp2_with fail
      refine H2.out.mono ?_
      rintro e w' ⟨rfl, rfl⟩
      go_wp2_with fail
      go_ret
      exact ⟨congrArg (fun x => Ending.returned (.string x)) HB.out, rfl⟩
set_option maxHeartbeats 800000 in
theorem number_any (w : World) (n : Int) (h1 : -4000000000 ≤ n) (h2 : n ≤ 4000000000) :
    Calls Tryz.prog 43 #[.int .i64 n] w fun e w' => e = .returned (.string (numB n)) ∧ w = w' := by
  by_cases h0 : 0 ≤ n
  · obtain ⟨u, rfl⟩ := Int.eq_ofNat_of_zero_le h0
    refine (number_nat 9 u w (by omega) (by omega)).mono ?_
    rintro e w' ⟨rfl, rfl⟩
    exact ⟨by rw [numB_nat], rfl⟩
  · obtain ⟨u, hu⟩ := Int.eq_ofNat_of_zero_le (show 0 ≤ -n by omega)
    have HB := Lib.hid (numB_neg (n := u) (by omega))
    have H1 := Lib.hid (number_nat 9 u w (by omega) (by omega))
    have hs := decB_size (show u < 10000000000 by omega)
    obtain rfl : n = -(u : Int) := by omega
    clear hu
    go_enter Tryz.func43, Tryz.ntmps43
    go_wp2_with fail
    refine H1.out.mono ?_
    rintro e w' ⟨rfl, rfl⟩
    go_wp2_with fail
    go_ret
    exact ⟨congrArg (fun x => Ending.returned (.string x)) HB.out, rfl⟩
end Go.Proofs.YtmfffmipnbdpjaaGreatDoor
