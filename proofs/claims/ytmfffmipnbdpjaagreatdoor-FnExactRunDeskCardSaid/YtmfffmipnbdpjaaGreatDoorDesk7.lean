/-
  The helpers of the exact law: copies of lists of texts, their equality, their size.
-/
import Derived.Test.YtmfffmipnbdpjaaGreatDoorDesk6
namespace Go.Proofs.YtmfffmipnbdpjaaGreatDoor
open Go.RowKit

theorem st_append_left {xs ys : List ByteArray} {i : Nat} (h : i < xs.length) : st (xs ++ ys) i = st xs i := by
  unfold st; simp [List.getD, List.getElem?_append_left h]
theorem st_append_at {xs : List ByteArray} {y : ByteArray} : st (xs ++ [y]) xs.length = y := by
  unfold st; simp [List.getD]
theorem st_ext {xs ys : List ByteArray} (hl : xs.length = ys.length) (h : ∀ i, i < xs.length → st xs i = st ys i) : xs = ys := by
  apply List.ext_getElem hl
  intro i h1 h2
  have := h i h1
  rw [st_mk h1, st_mk h2] at this
  exact this
def tbS (f : Nat → ByteArray) : Nat → List ByteArray
  | 0 => []
  | k + 1 => tbS f k ++ [f k]
theorem tbS_len (f : Nat → ByteArray) (n : Nat) : (tbS f n).length = n := by
  induction n with
  | zero => rfl
  | succ k ih => rw [tbS, List.length_append, ih]; rfl
theorem st_tbS {f : Nat → ByteArray} {n i : Nat} (h : i < n) : st (tbS f n) i = f i := by
  induction n with
  | zero => omega
  | succ k ih =>
    by_cases hk : i < k
    · rw [tbS, st_append_left (by rw [tbS_len]; exact hk)]; exact ih hk
    · obtain rfl : i = k := by omega
      have : st (tbS f i ++ [f i]) (tbS f i).length = f i := st_append_at
      rw [tbS_len] at this
      exact this
theorem tbS_congr {f g : Nat → ByteArray} {n : Nat} (h : ∀ i, i < n → f i = g i) : tbS f n = tbS g n :=
  st_ext (by rw [tbS_len, tbS_len]) fun i hi => by rw [tbS_len] at hi; rw [st_tbS hi, st_tbS hi]; exact h i hi
theorem tbS_st (ss : List ByteArray) : tbS (st ss) ss.length = ss :=
  st_ext (tbS_len _ _) fun i hi => by rw [tbS_len] at hi; rw [st_tbS hi]
theorem tbS_set {f : Nat → ByteArray} {n i : Nat} {y : ByteArray} (hi : i < n) : (tbS f n).set i y = tbS (fun x => if x = i then y else f x) n := by
  apply st_ext
  · rw [List.length_set, tbS_len, tbS_len]
  · intro k hk
    rw [List.length_set, tbS_len] at hk
    rw [st_tbS hk]
    unfold st
    by_cases e : k = i
    · subst e; rw [if_pos rfl]; simp [List.getD, tbS_len, hi]
    · rw [if_neg e]
      have := st_tbS (f := f) hk
      unfold st at this
      rw [← this]
      simp [List.getD, List.getElem?_set, Ne.symm e]
theorem tbS_rep (n : Nat) : tbS (fun _ => ByteArray.empty) n = List.replicate n ByteArray.empty := by
  induction n with
  | zero => rfl
  | succ k ih => rw [tbS, ih, List.replicate_succ']
theorem OwnS.store {w : World} {B g n c : Nat} {xs : List ByteArray} (h : OwnS w B (some ⟨g, 0, none⟩) n c xs) (i : Nat) (y : ByteArray) :
    OwnS (w.setCell ⟨g, i, none⟩ (.string y)) B (some ⟨g, 0, none⟩) n c (xs.set i y) := by
  have := (World.ownsRow.stored h i (.string y)).1
  simpa [OwnS, List.map_set] using this
theorem OwnS.frozen {w : World} {B g n c : Nat} {xs : List ByteArray} (h : OwnS w B (some ⟨g, 0, none⟩) n c xs) (i : Nat) : w.frozen? ⟨g, i, none⟩ = false := World.ownsRow.frozenAt h i
theorem make_str {ops : Array Oper} {rest : List Oper} {o : Oper} {a : Act} {Q : Exit → Act → World → Prop} (w : World) (hg : o.guard = none) (l c : Operand)
    (hop : o.op = Op.makeSlice 22 l c) (kl kc : IntKind) (L C : Int) (n : Nat) (hl : a.eval l = .int kl L) (hc : a.eval c = .int kc C) (hL : L = (n : Int)) (hC : C = (n : Int)) (hn : n ≤ 2000000)
    (h : ∀ w2, OwnS w2 w.heap.size (some ⟨w.heap.size, 0, none⟩) n n (tbS (fun _ => ByteArray.empty) n) → Below w.heap.size w w2 → w.heap.size + 1 ≤ w2.heap.size → wpList Tryz.prog ops Q rest (a.put o.dst (.slice (some ⟨w.heap.size, 0, none⟩) n n)) w2) :
    wpList Tryz.prog ops Q (o :: rest) a w := by
  obtain ⟨i0, hi, hz0, hz1, hz2⟩ := info_parts Tryz.infoStr
  refine wpList_make_full w hg l c 22 hop w.heap.size 9 i0 (.string ⟨#[]⟩) 1 Tryz.underlying22 hi hz0 hz1 kl kc L C n hl hc hL hC (by rw [hz2]; omega) (by unfold maxLen; omega) (Nat.le_refl _) fun w2 h1 h2 => ?_
  have e : (madeCells (Value.string ⟨#[]⟩).cells (n * 1)).toList = (tbS (fun _ => ByteArray.empty) n).map Value.string := by
    rw [tbS_rep, Nat.mul_one]
    show (madeCells #[Value.string ⟨#[]⟩] n).toList = _
    rw [toList_madeCells_one]; simp; exact Or.inr rfl
  rw [e] at h1
  have hb : Below w.heap.size w w2 := (Below.refl _ _).grown h2 (Nat.le_refl _) (fun k hk => by cases hk)
  refine h w2 h1 hb ?_
  have := (World.ownsRow.lt h1 w.heap.size rfl).2
  omega
set_option maxHeartbeats 800000 in
theorem toStringS_any (w : World) (a : Option Addr) (n c : Nat) (ss : List ByteArray) (h : RowS w a n c ss) (hn : n ≤ 1048576) :
    Calls Tryz.prog 7 #[.slice a n c] w fun e w' => ∃ a2 c2, e = .returned (.slice a2 n c2) ∧ OwnS w' w.heap.size a2 n c2 ss ∧ Below w.heap.size w w' := by
  have hlen : Hid (ss.length = n) := h.len
  go_enter Tryz.func7, Tryz.ntmps7
  go_wp2_with (at_make; go_must (refine make_str w rfl _ _ rfl .i64 .i64 _ _ n rfl rfl rfl rfl (by omega) ?_); intro w0 hown0 hb0 hsz0)
  have hst : tbS (fun _ => ByteArray.empty) n = tbS (fun i => if i < 0 then st ss i else ByteArray.empty) n := tbS_congr fun i _ => by rw [if_neg (by omega)]
  rw [hst] at hown0
  clear hst
  go_loopw [4] (fun u wr => ∃ k : Nat, k ≤ n ∧ u = .int .i64 k ∧ OwnS wr w.heap.size (some ⟨w.heap.size, 0, none⟩) n n (tbS (fun i => if i < k then st ss i else ByteArray.empty) n) ∧ Below w.heap.size w wr) (fun u _ => n - (intOf u).toNat)
  case atStart => exact ⟨0, Nat.zero_le _, rfl, hown0, hb0⟩
  case round =>
    obtain ⟨k, hk, rfl, hown, hbl⟩ := hrel
    clear hown0 hb0
    by_cases hlt : k < n
    · obtain ⟨b, off, rfl, hbb, hcell⟩ := (h.below hbl).cell k hlt
      have hc := hcell k hlt
      clear hcell
      obtain ⟨g, hg, hBg, hgl, hcg⟩ := hown.at (by omega)
      injection hg with hg; injection hg with hg; subst hg
      have hcell := hcg wr rfl k hlt
      have hfr := hown.frozen k
      have HST := hown.store k (st ss k)
      have hset : (tbS (fun i => if i < k then st ss i else ByteArray.empty) n).set k (st ss k) = tbS (fun i => if i < k + 1 then st ss i else ByteArray.empty) n := by
        rw [tbS_set hlt]
        apply tbS_congr
        intro i hi
        by_cases e : i = k
        · subst e; simp
        · by_cases e2 : i < k
          · rw [if_neg e, if_pos e2, if_pos (by omega)]
          · rw [if_neg e, if_neg e2, if_neg (by omega)]
      rw [hset] at HST
      clear hset hcg
      go_wp2_with fail
      go_roundw
      case rel => exact ⟨k + 1, by omega, by go_num, HST, hbl.setCell hBg _⟩
      case measure => simp [intOf]; omega
    · obtain rfl : k = n := by omega
      have he : tbS (fun i => if i < k then st ss i else ByteArray.empty) k = ss := by
        rw [tbS_congr (g := st ss) fun i hi => if_pos hi]
        have := tbS_st ss
        rw [hlen.out] at this
        exact this
      rw [he] at hown
      clear he
      go_wp2_with fail
      go_ret
      exact ⟨_, _, rfl, hown, hbl⟩
set_option maxHeartbeats 800000 in
theorem eqStringS_same (w : World) (a b : Option Addr) (n c d : Nat) (ss : List ByteArray) (h : RowS w a n c ss) (h2 : RowS w b n d ss) (hn : n ≤ 1048576) :
    Calls Tryz.prog 9 #[.slice a n c, .slice b n d] w fun e w' => Says w w' e true := by
  go_enter Tryz.func9, Tryz.ntmps9
  go_wp2_with fail
  go_loopw [5] (fun u wr => ∃ k : Nat, k ≤ n ∧ u = .int .i64 k ∧ Below w.heap.size w wr) (fun u _ => n - (intOf u).toNat)
  case atStart => exact ⟨0, Nat.zero_le _, rfl, Below.refl _ _⟩
  case round =>
    obtain ⟨k, hk, rfl, hbl⟩ := hrel
    by_cases hlt : k < n
    · obtain ⟨b1, off1, rfl, hbb1, hcell1⟩ := (h.below hbl).cell k hlt
      obtain ⟨b2, off2, rfl, hbb2, hcell2⟩ := (h2.below hbl).cell k hlt
      have hc1 := hcell1 k hlt
      have hc2 := hcell2 k hlt
      clear hcell1 hcell2
      have htb : ((st ss k).toList == (st ss k).toList) = true := by simp
      go_wp2_with fail
      go_quiet (fail)
      go_wp2_with fail
      go_roundw
      case rel => exact ⟨k + 1, by omega, by go_num, bdrewN hbl _⟩
      case measure => simp [intOf]; omega
    · go_wp2_with fail
      go_ret
      exact ⟨rfl, hbl⟩
set_option maxHeartbeats 800000 in
theorem szStringS_any (w : World) (a : Option Addr) (n c : Nat) (ss : List ByteArray) (h : RowS w a n c ss) (hn : n ≤ 9223372036854775807) (hs : ∀ i, i < n → (st ss i).size ≤ 9223372036854775807) :
    Calls Tryz.prog 5 #[.slice a n c, .int .i64 1048576] w fun e w' => ∃ v : Int, e = .returned (.int .i64 v) ∧ w = w' ∧ -1 ≤ v ∧ v ≤ 1048576 ∧ (0 ≤ v → n ≤ 1048576 ∧ ∀ i, i < n → (st ss i).size ≤ 1048576) := by
  have HS := Lib.hid hs
  clear hs
  by_cases hbig : 1048576 < n
  · go_enter Tryz.func5, Tryz.ntmps5
    go_wp2_with fail
    go_ret
    exact ⟨-1, rfl, rfl, by omega, by omega, fun h => by omega⟩
  · go_enter Tryz.func5, Tryz.ntmps5
    go_wp2_with fail
    go_loop [1, 5] (fun v u => ∃ (k : Nat) (l : Int), k ≤ n ∧ u = .int .i64 k ∧ v = .int .i64 l ∧ 0 ≤ l ∧ l ≤ 1048576 ∧ Hid (∀ i, i < k → (st ss i).size ≤ 1048576)) (fun _ u => n - (intOf u).toNat)
    case atStart => exact ⟨0, _, Nat.zero_le _, rfl, rfl, by omega, by omega, fun i hi => by omega⟩
    case round =>
      obtain ⟨k, l, hk, rfl, rfl, hl0, hl1, HA⟩ := hrel
      by_cases hlt : k < n
      · obtain ⟨b, off, rfl, hbb, hcell⟩ := h.cell k hlt
        have hc := hcell k hlt
        have hz := HS.out k hlt
        clear hcell
        by_cases hlt2 : l < ((st ss k).size : Int)
        · go_wp2_with fail
          go_ret
          exact ⟨-1, rfl, rfl, by omega, by omega, fun h => by omega⟩
        · have HA2 : Hid (∀ i, i < k + 1 → (st ss i).size ≤ 1048576) := by
            intro i hi
            by_cases e : i = k
            · subst e; omega
            · exact HA.out i (by omega)
          go_wp2_with fail
          go_round
          case rel => exact ⟨k + 1, l - (st ss k).size, by omega, by go_num, by go_num, by omega, by omega, HA2⟩
          case measure => simp [intOf]; omega
      · obtain rfl : k = n := by omega
        go_wp2_with fail
        go_ret
        exact ⟨l, rfl, rfl, by omega, hl1, fun _ => ⟨by omega, HA.out⟩⟩
set_option maxHeartbeats 3200000 in
theorem law_ExactRunDesk (w : World) (a : Option Addr) (n c : Nat) (ss : List ByteArray) (hE : Env w) (h : RowS w a n c ss) (hn : n ≤ 9223372036854775807) (hs : ∀ i, i < n → (st ss i).size ≤ 9223372036854775807) :
    Calls Tryz.prog 3 #[.slice a n c] w fun e w' => Says w w' e true := by
  have hlo := hE.lo
  go_enter Tryz.func3, Tryz.ntmps3
  go_wp2_with fail
  refine (szStringS_any w a n c ss h hn hs).mono ?_
  rintro e w' ⟨v, rfl, rfl, hv1, hv2, hv3⟩
  by_cases hv : 0 ≤ v
  · obtain ⟨hn2, hsz⟩ := hv3 hv
    obtain ⟨f, hf⟩ : ∃ f : Nat → ByteArray, ∀ i, i < n → Line (st ss i) (f i) :=
      ⟨fun i => if hi : (st ss i).size ≤ 1048576 then Classical.choose (line_any (st ss i) hi) else bs [], fun i hi => by
        have h1 := hsz i hi
        show Line (st ss i) (if hi : (st ss i).size ≤ 1048576 then Classical.choose (line_any (st ss i) hi) else bs [])
        rw [dif_pos h1]; exact Classical.choose_spec (line_any (st ss i) h1)⟩
    have HF := Lib.hid hf
    clear hf hs hsz hv3
    have htb : ((deskR f n).toList == (deskR f n).toList) = true := by simp
    go_wp2_with fail
    refine (toStringS_any w a n c ss h hn2).mono ?_
    rintro e w2 ⟨a2, c2, rfl, own2, b2⟩
    have r2 := own2.row
    go_wp2_with fail
    refine (sRunDesk_any w2 a2 n c2 ss f r2 hn2 HF.out).mono ?_
    rintro e w3 ⟨rfl, b3⟩
    have l3 := bstep b2 b3
    have h3 := h.below l3
    clear own2 r2 b2 b3
    go_wp2_with fail
    refine (toStringS_any w3 a n c ss h3 hn2).mono ?_
    rintro e w4 ⟨a4, c4, rfl, own4, b4⟩
    have l4 := bstep l3 b4
    have h4 := h3.below b4
    have r4 := own4.row
    clear own4 b4
    go_wp2_with fail
    refine (RunDesk_any w4 a4 n c4 ss f (hE.below l4 hlo) r4 hn2 HF.out).mono ?_
    rintro e w5 ⟨rfl, b5⟩
    have l5 := bstep l4 b5
    have h5 := h4.below b5
    have r5 := r4.below b5
    clear b5
    go_wp2_with fail
    refine (toStringS_any w5 a n c ss h5 hn2).mono ?_
    rintro e w6 ⟨a6, c6, rfl, own6, b6⟩
    have l6 := bstep l5 b6
    have r6 := r5.below b6
    have q6 := own6.row
    clear own6 b6
    go_wp2_with fail
    refine (eqStringS_same w6 a4 a6 n c4 c6 ss r6 q6 hn2).mono ?_
    rintro e w7 ⟨rfl, b7⟩
    go_wp2_with fail
    go_ret
    exact ⟨rfl, bstep l6 b7⟩
  · go_wp2_with fail
    go_ret
    exact ⟨rfl, Below.refl _ _⟩
end Go.Proofs.YtmfffmipnbdpjaaGreatDoor
