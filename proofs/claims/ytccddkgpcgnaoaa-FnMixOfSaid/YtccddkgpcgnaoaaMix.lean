/-
  Mixed rows: sums of products of all pairs with an index that they give.
-/
import Derived.Test.YtccddkgpcgnaoaaSigns
import Derived.Test.YtccddkgpcgnaoaaMk
import Derived.Test.YtccddkgpcgnaoaaTwo
import Derived.StillTailTactics
import Derived.Lib.Hide
namespace Go.Proofs.Ytccddkgpcgnaoaa
open Go.RowKit

/-- The index that two indices give: 1 or, 2 and, else xor. -/
def opK (K x y : Nat) : Nat := if K = 1 then x ||| y else if K = 2 then x &&& y else x ^^^ y
theorem opK_lt {K x y kk : Nat} (hx : x < p2 kk) (hy : y < p2 kk) : opK K x y < p2 kk := by
  unfold opK p2 at *
  split
  · exact Nat.or_lt_two_pow hx hy
  · split
    · exact Nat.and_lt_two_pow _ hy
    · exact Nat.xor_lt_two_pow hx hy
/-- The kind of a word: 1 or, 2 and, 3 xor, 0 another. -/
def kd (s : ByteArray) : Nat := if s.toList = [111, 114] then 1 else if s.toList = [97, 110, 100] then 2 else if s.toList = [120, 111, 114] then 3 else 0

def mrow (K : Nat) (f g : Nat → Int) (x k r : Nat) : Int := sm (fun j => if opK K x j = r then f x * g j else 0) k
def mst (K : Nat) (f g : Nat → Int) (n x k r : Nat) : Int := sm (fun i => mrow K f g i n r) x + mrow K f g x k r
def mxL (K : Nat) (xs ys : List Int) (n : Nat) : List Int := tab (mst K (el xs) (el ys) n n 0) n

theorem mst_zero (K : Nat) (f g : Nat → Int) (n N : Nat) : tab (fun _ => 0) N = tab (mst K f g n 0 0) N := tab_congr fun r _ => by simp [mst, mrow, sm]
theorem mst_end (K : Nat) (f g : Nat → Int) (n x r : Nat) : mst K f g n x n r = mst K f g n (x + 1) 0 r := by simp [mst, mrow, sm]
theorem mst_step (K : Nat) (f g : Nat → Int) (n x k r : Nat) : mst K f g n x (k + 1) r = if r = opK K x k then mst K f g n x k r + f x * g k else mst K f g n x k r := by
  rw [mst, mst, mrow, sm, ← mrow]
  split
  · rename_i h; subst h; simp; omega
  · rename_i h; rw [if_neg (Ne.symm h)]; omega
theorem mst_set (K : Nat) (f g : Nat → Int) (n x k N : Nat) (h : opK K x k < N) : (tab (mst K f g n x k) N).set (opK K x k) (mst K f g n x k (opK K x k) + f x * g k) = tab (mst K f g n x (k + 1)) N := by
  apply el_ext
  · simp [tab_length]
  · intro i hi
    have hi' : i < N := by simpa [tab_length] using hi
    have e : el ((tab (mst K f g n x k) N).set (opK K x k) (mst K f g n x k (opK K x k) + f x * g k)) i = if i = opK K x k then mst K f g n x k (opK K x k) + f x * g k else el (tab (mst K f g n x k) N) i := by
      unfold el
      by_cases e : i = opK K x k
      · subst e; simp [List.getD, tab_length, h]
      · rw [if_neg e]; simp [List.getD, List.getElem?_set, Ne.symm e]
    rw [e, el_tab hi', el_tab hi', mst_step]
    split
    · rename_i h; rw [h]
    · rfl
theorem mul_bdM {a b : Int} (h1 : -1000 ≤ a ∧ a ≤ 1000) (h2 : -1000 ≤ b ∧ b ≤ 1000) : -1000000 ≤ a * b ∧ a * b ≤ 1000000 := by
  have e : (a * b).natAbs ≤ 1000 * 1000 := by
    rw [Int.natAbs_mul]
    exact Nat.mul_le_mul (by omega) (by omega)
  omega
theorem mrow_bd {K : Nat} {f g : Nat → Int} {n x k r : Nat} (hf : ∀ i, i < n → -1000 ≤ f i ∧ f i ≤ 1000) (hg : ∀ i, i < n → -1000 ≤ g i ∧ g i ≤ 1000) (hx : x < n) (hk : k ≤ n) : -(1000000 * (k : Int)) ≤ mrow K f g x k r ∧ mrow K f g x k r ≤ 1000000 * (k : Int) :=
  sm_bd fun j hj => by
    have := mul_bdM (hf x hx) (hg j (by omega))
    split <;> omega
theorem mst_bd {K : Nat} {f g : Nat → Int} {n x k r : Nat} (hf : ∀ i, i < n → -1000 ≤ f i ∧ f i ≤ 1000) (hg : ∀ i, i < n → -1000 ≤ g i ∧ g i ≤ 1000) (hn : n ≤ 16) (hx : x < n) (hk : k ≤ n) : -1000000000 ≤ mst K f g n x k r ∧ mst K f g n x k r ≤ 1000000000 := by
  have h1 := @mrow_bd K f g n x k r hf hg hx hk
  have h2 : -(16000000 * (x : Int)) ≤ sm (fun i => mrow K f g i n r) x ∧ sm (fun i => mrow K f g i n r) x ≤ 16000000 * (x : Int) := sm_bd fun i hi => by
    have := @mrow_bd K f g n i n r hf hg (by omega) (Nat.le_refl _); omega
  rw [mst]; omega

/-- Rows of as many numbers, both of 2 to some power. -/
def twoC (xs ys : List Int) : Bool := cube xs && cube ys && decide (xs.length = ys.length)

set_option maxHeartbeats 1600000 in
theorem MixOf_or (w : World) (a b : Option Addr) (n c d kk : Nat) (xs ys : List Int) (s : ByteArray) (h : Row w a n c xs) (h2 : Row w b n d ys) (hk4 : kk ≤ 4) (hnk : n = p2 kk) (hx : cube xs = true) (hy : cube ys = true) (hs : s.toList = [111, 114]) :
    Calls Try.prog 15 #[.slice a n c, .slice b n d, .string s] w fun e w' => Fresh w w' e n (mxL 1 xs ys n) := by
  have hlen : Hid (xs.length = n) := h.len
  have hlen2 : Hid (ys.length = n) := h2.len
  have hn16 : n ≤ 16 := by rw [hnk]; exact p2_le hk4
  have HN := Lib.hid hnk
  have hbx : Hid (∀ i, i < n → -1000 ≤ el xs i ∧ el xs i ≤ 1000) := fun i hi => valid_bd (cube_iff.1 hx).1 (by rw [hlen.out]; exact hi)
  have hby : Hid (∀ i, i < n → -1000 ≤ el ys i ∧ el ys i ≤ 1000) := fun i hi => valid_bd (cube_iff.1 hy).1 (by rw [hlen2.out]; exact hi)
  have HLT : Hid (∀ x y, x < n → y < n → opK 1 x y < n) := fun x y h1 h2 => by rw [HN.out] at h1 h2 ⊢; exact opK_lt h1 h2
  clear hnk
  go_enter Try.func15, Try.ntmps15
  go_wp2_with fail
  refine (whole_is w a n c xs true h hx).mono ?_
  rintro e w' ⟨rfl, rfl⟩
  go_wp2_with fail
  refine (whole_is w b n d ys true h2 hy).mono ?_
  rintro e w' ⟨rfl, rfl⟩
  go_wp2_with (at_make; go_must (refine make_int w rfl _ _ rfl .i64 .i64 _ _ n rfl rfl rfl rfl (by omega) ?_); intro w0 hown0 hb0 hsz0)
  rw [mst_zero 1 (el xs) (el ys) n n] at hown0
  go_loopw [45] (fun u wr => ∃ x : Nat, x ≤ n ∧ u = .int .i64 x ∧ Own wr w.heap.size (some ⟨w.heap.size, 0, none⟩) n n (tab (mst 1 (el xs) (el ys) n x 0) n) ∧ Below w.heap.size w wr) (fun u _ => n - (intOf u).toNat)
  case atStart => exact ⟨0, Nat.zero_le _, rfl, hown0, hb0⟩
  case round =>
    obtain ⟨x, hx0, rfl, hown, hbl⟩ := hrel
    clear hown0 hb0
    by_cases hlt : x < n
    · obtain ⟨bx, ox, rfl, hbbx, hcx⟩ := h.at (by omega)
      obtain ⟨bY, oY, rfl, hbbY, hcY⟩ := h2.at (by omega)
      have HX := Lib.hid hcx
      have HY := Lib.hid hcY
      clear hcx hcY
      have hc := HX.out wr hbl x hlt
      go_wp2_with fail
      obtain ⟨wo, rfl⟩ : ∃ wo : World, wo = wr := ⟨_, rfl⟩
      go_loopw [52] (fun u wr => ∃ y : Nat, y ≤ n ∧ u = .int .i64 y ∧ Own wr w.heap.size (some ⟨w.heap.size, 0, none⟩) n n (tab (mst 1 (el xs) (el ys) n x y) n) ∧ Below w.heap.size w wr) (fun u _ => n - (intOf u).toNat)
      case atStart => exact ⟨0, Nat.zero_le _, rfl, hown, hbl⟩
      case round =>
        obtain ⟨y, hy0, rfl, hown2, hbl2⟩ := hrel
        clear hown hbl hc
        by_cases hyn : y < n
        · have hcx := HX.out wr hbl2 x hlt
          have hcy := HY.out wr hbl2 y hyn
          have hol := HLT.out x y hlt hyn
          have hop : opK 1 x y = x ||| y := rfl
          have hxor : bits .xor .i64 (x : Int) (y : Int) = ((x ^^^ y : Nat) : Int) := i64_xor x y (by omega) (by omega)
          have hand : bits .and .i64 (x : Int) (y : Int) = ((x &&& y : Nat) : Int) := i64_and x y (by omega) (by omega)
          have hor : bits .or .i64 (x : Int) (y : Int) = ((x ||| y : Nat) : Int) := i64_or x y (by omega) (by omega)
          have hset := mst_set 1 (el xs) (el ys) n x y n hol
          have hmb := @mst_bd 1 (el xs) (el ys) n x y (opK 1 x y) hbx.out hby.out hn16 hlt (by omega)
          have hpb := mul_bdM (hbx.out x hlt) (hby.out y hyn)
          have hcl := el_tab (f := mst 1 (el xs) (el ys) n x y) hol
          rw [hop] at hol hset hmb hcl
          clear hop
          generalize x ||| y = z at hol hset hmb hcl hxor hand hor
          obtain ⟨hcell, hfr, hBg, hgl⟩ := hown2.cellK z hol
          rw [hcl] at hcell
          have HST := hown2.store z (mst 1 (el xs) (el ys) n x y z + el xs x * el ys y)
          rw [hset] at HST
          have HB := hbl2.setCell (p := ⟨w.heap.size, z, none⟩) hBg (.int .i64 (mst 1 (el xs) (el ys) n x y z + el xs x * el ys y))
          clear hset hcl
          generalize mst 1 (el xs) (el ys) n x y z = S at *
          go_wp2_with fail
          go_roundw
          case rel => exact ⟨y + 1, by omega, by go_num, HST, HB⟩
          case measure => simp [intOf]; omega
        · obtain rfl : y = n := by omega
          have he : tab (mst 1 (el xs) (el ys) y x y) y = tab (mst 1 (el xs) (el ys) y (x + 1) 0) y := tab_congr fun r _ => mst_end _ _ _ _ _ _
          rw [he] at hown2
          clear he
          go_wp2_with fail
          go_roundw
          case rel => exact ⟨x + 1, by omega, by go_num, hown2, hbl2⟩
          case measure => simp [intOf]; omega
    · obtain rfl : x = n := by omega
      go_wp2_with fail
      go_ret
      exact Fresh.mk hown hbl
set_option maxHeartbeats 1600000 in
theorem MixOf_and (w : World) (a b : Option Addr) (n c d kk : Nat) (xs ys : List Int) (s : ByteArray) (h : Row w a n c xs) (h2 : Row w b n d ys) (hk4 : kk ≤ 4) (hnk : n = p2 kk) (hx : cube xs = true) (hy : cube ys = true) (hs : s.toList = [97, 110, 100]) :
    Calls Try.prog 15 #[.slice a n c, .slice b n d, .string s] w fun e w' => Fresh w w' e n (mxL 2 xs ys n) := by
  have hlen : Hid (xs.length = n) := h.len
  have hlen2 : Hid (ys.length = n) := h2.len
  have hn16 : n ≤ 16 := by rw [hnk]; exact p2_le hk4
  have HN := Lib.hid hnk
  have hbx : Hid (∀ i, i < n → -1000 ≤ el xs i ∧ el xs i ≤ 1000) := fun i hi => valid_bd (cube_iff.1 hx).1 (by rw [hlen.out]; exact hi)
  have hby : Hid (∀ i, i < n → -1000 ≤ el ys i ∧ el ys i ≤ 1000) := fun i hi => valid_bd (cube_iff.1 hy).1 (by rw [hlen2.out]; exact hi)
  have HLT : Hid (∀ x y, x < n → y < n → opK 2 x y < n) := fun x y h1 h2 => by rw [HN.out] at h1 h2 ⊢; exact opK_lt h1 h2
  clear hnk
  go_enter Try.func15, Try.ntmps15
  go_wp2_with fail
  refine (whole_is w a n c xs true h hx).mono ?_
  rintro e w' ⟨rfl, rfl⟩
  go_wp2_with fail
  refine (whole_is w b n d ys true h2 hy).mono ?_
  rintro e w' ⟨rfl, rfl⟩
  go_wp2_with (at_make; go_must (refine make_int w rfl _ _ rfl .i64 .i64 _ _ n rfl rfl rfl rfl (by omega) ?_); intro w0 hown0 hb0 hsz0)
  rw [mst_zero 2 (el xs) (el ys) n n] at hown0
  go_loopw [45] (fun u wr => ∃ x : Nat, x ≤ n ∧ u = .int .i64 x ∧ Own wr w.heap.size (some ⟨w.heap.size, 0, none⟩) n n (tab (mst 2 (el xs) (el ys) n x 0) n) ∧ Below w.heap.size w wr) (fun u _ => n - (intOf u).toNat)
  case atStart => exact ⟨0, Nat.zero_le _, rfl, hown0, hb0⟩
  case round =>
    obtain ⟨x, hx0, rfl, hown, hbl⟩ := hrel
    clear hown0 hb0
    by_cases hlt : x < n
    · obtain ⟨bx, ox, rfl, hbbx, hcx⟩ := h.at (by omega)
      obtain ⟨bY, oY, rfl, hbbY, hcY⟩ := h2.at (by omega)
      have HX := Lib.hid hcx
      have HY := Lib.hid hcY
      clear hcx hcY
      have hc := HX.out wr hbl x hlt
      go_wp2_with fail
      obtain ⟨wo, rfl⟩ : ∃ wo : World, wo = wr := ⟨_, rfl⟩
      go_loopw [52] (fun u wr => ∃ y : Nat, y ≤ n ∧ u = .int .i64 y ∧ Own wr w.heap.size (some ⟨w.heap.size, 0, none⟩) n n (tab (mst 2 (el xs) (el ys) n x y) n) ∧ Below w.heap.size w wr) (fun u _ => n - (intOf u).toNat)
      case atStart => exact ⟨0, Nat.zero_le _, rfl, hown, hbl⟩
      case round =>
        obtain ⟨y, hy0, rfl, hown2, hbl2⟩ := hrel
        clear hown hbl hc
        by_cases hyn : y < n
        · have hcx := HX.out wr hbl2 x hlt
          have hcy := HY.out wr hbl2 y hyn
          have hol := HLT.out x y hlt hyn
          have hop : opK 2 x y = x &&& y := rfl
          have hxor : bits .xor .i64 (x : Int) (y : Int) = ((x ^^^ y : Nat) : Int) := i64_xor x y (by omega) (by omega)
          have hand : bits .and .i64 (x : Int) (y : Int) = ((x &&& y : Nat) : Int) := i64_and x y (by omega) (by omega)
          have hor : bits .or .i64 (x : Int) (y : Int) = ((x ||| y : Nat) : Int) := i64_or x y (by omega) (by omega)
          have hset := mst_set 2 (el xs) (el ys) n x y n hol
          have hmb := @mst_bd 2 (el xs) (el ys) n x y (opK 2 x y) hbx.out hby.out hn16 hlt (by omega)
          have hpb := mul_bdM (hbx.out x hlt) (hby.out y hyn)
          have hcl := el_tab (f := mst 2 (el xs) (el ys) n x y) hol
          rw [hop] at hol hset hmb hcl
          clear hop
          generalize x &&& y = z at hol hset hmb hcl hxor hand hor
          obtain ⟨hcell, hfr, hBg, hgl⟩ := hown2.cellK z hol
          rw [hcl] at hcell
          have HST := hown2.store z (mst 2 (el xs) (el ys) n x y z + el xs x * el ys y)
          rw [hset] at HST
          have HB := hbl2.setCell (p := ⟨w.heap.size, z, none⟩) hBg (.int .i64 (mst 2 (el xs) (el ys) n x y z + el xs x * el ys y))
          clear hset hcl
          generalize mst 2 (el xs) (el ys) n x y z = S at *
          go_wp2_with fail
          go_roundw
          case rel => exact ⟨y + 1, by omega, by go_num, HST, HB⟩
          case measure => simp [intOf]; omega
        · obtain rfl : y = n := by omega
          have he : tab (mst 2 (el xs) (el ys) y x y) y = tab (mst 2 (el xs) (el ys) y (x + 1) 0) y := tab_congr fun r _ => mst_end _ _ _ _ _ _
          rw [he] at hown2
          clear he
          go_wp2_with fail
          go_roundw
          case rel => exact ⟨x + 1, by omega, by go_num, hown2, hbl2⟩
          case measure => simp [intOf]; omega
    · obtain rfl : x = n := by omega
      go_wp2_with fail
      go_ret
      exact Fresh.mk hown hbl
set_option maxHeartbeats 1600000 in
theorem MixOf_xor (w : World) (a b : Option Addr) (n c d kk : Nat) (xs ys : List Int) (s : ByteArray) (h : Row w a n c xs) (h2 : Row w b n d ys) (hk4 : kk ≤ 4) (hnk : n = p2 kk) (hx : cube xs = true) (hy : cube ys = true) (hs : s.toList = [120, 111, 114]) :
    Calls Try.prog 15 #[.slice a n c, .slice b n d, .string s] w fun e w' => Fresh w w' e n (mxL 3 xs ys n) := by
  have hlen : Hid (xs.length = n) := h.len
  have hlen2 : Hid (ys.length = n) := h2.len
  have hn16 : n ≤ 16 := by rw [hnk]; exact p2_le hk4
  have HN := Lib.hid hnk
  have hbx : Hid (∀ i, i < n → -1000 ≤ el xs i ∧ el xs i ≤ 1000) := fun i hi => valid_bd (cube_iff.1 hx).1 (by rw [hlen.out]; exact hi)
  have hby : Hid (∀ i, i < n → -1000 ≤ el ys i ∧ el ys i ≤ 1000) := fun i hi => valid_bd (cube_iff.1 hy).1 (by rw [hlen2.out]; exact hi)
  have HLT : Hid (∀ x y, x < n → y < n → opK 3 x y < n) := fun x y h1 h2 => by rw [HN.out] at h1 h2 ⊢; exact opK_lt h1 h2
  clear hnk
  go_enter Try.func15, Try.ntmps15
  go_wp2_with fail
  refine (whole_is w a n c xs true h hx).mono ?_
  rintro e w' ⟨rfl, rfl⟩
  go_wp2_with fail
  refine (whole_is w b n d ys true h2 hy).mono ?_
  rintro e w' ⟨rfl, rfl⟩
  go_wp2_with (at_make; go_must (refine make_int w rfl _ _ rfl .i64 .i64 _ _ n rfl rfl rfl rfl (by omega) ?_); intro w0 hown0 hb0 hsz0)
  rw [mst_zero 3 (el xs) (el ys) n n] at hown0
  go_loopw [45] (fun u wr => ∃ x : Nat, x ≤ n ∧ u = .int .i64 x ∧ Own wr w.heap.size (some ⟨w.heap.size, 0, none⟩) n n (tab (mst 3 (el xs) (el ys) n x 0) n) ∧ Below w.heap.size w wr) (fun u _ => n - (intOf u).toNat)
  case atStart => exact ⟨0, Nat.zero_le _, rfl, hown0, hb0⟩
  case round =>
    obtain ⟨x, hx0, rfl, hown, hbl⟩ := hrel
    clear hown0 hb0
    by_cases hlt : x < n
    · obtain ⟨bx, ox, rfl, hbbx, hcx⟩ := h.at (by omega)
      obtain ⟨bY, oY, rfl, hbbY, hcY⟩ := h2.at (by omega)
      have HX := Lib.hid hcx
      have HY := Lib.hid hcY
      clear hcx hcY
      have hc := HX.out wr hbl x hlt
      go_wp2_with fail
      obtain ⟨wo, rfl⟩ : ∃ wo : World, wo = wr := ⟨_, rfl⟩
      go_loopw [52] (fun u wr => ∃ y : Nat, y ≤ n ∧ u = .int .i64 y ∧ Own wr w.heap.size (some ⟨w.heap.size, 0, none⟩) n n (tab (mst 3 (el xs) (el ys) n x y) n) ∧ Below w.heap.size w wr) (fun u _ => n - (intOf u).toNat)
      case atStart => exact ⟨0, Nat.zero_le _, rfl, hown, hbl⟩
      case round =>
        obtain ⟨y, hy0, rfl, hown2, hbl2⟩ := hrel
        clear hown hbl hc
        by_cases hyn : y < n
        · have hcx := HX.out wr hbl2 x hlt
          have hcy := HY.out wr hbl2 y hyn
          have hol := HLT.out x y hlt hyn
          have hop : opK 3 x y = x ^^^ y := rfl
          have hxor : bits .xor .i64 (x : Int) (y : Int) = ((x ^^^ y : Nat) : Int) := i64_xor x y (by omega) (by omega)
          have hand : bits .and .i64 (x : Int) (y : Int) = ((x &&& y : Nat) : Int) := i64_and x y (by omega) (by omega)
          have hor : bits .or .i64 (x : Int) (y : Int) = ((x ||| y : Nat) : Int) := i64_or x y (by omega) (by omega)
          have hset := mst_set 3 (el xs) (el ys) n x y n hol
          have hmb := @mst_bd 3 (el xs) (el ys) n x y (opK 3 x y) hbx.out hby.out hn16 hlt (by omega)
          have hpb := mul_bdM (hbx.out x hlt) (hby.out y hyn)
          have hcl := el_tab (f := mst 3 (el xs) (el ys) n x y) hol
          rw [hop] at hol hset hmb hcl
          clear hop
          generalize x ^^^ y = z at hol hset hmb hcl hxor hand hor
          obtain ⟨hcell, hfr, hBg, hgl⟩ := hown2.cellK z hol
          rw [hcl] at hcell
          have HST := hown2.store z (mst 3 (el xs) (el ys) n x y z + el xs x * el ys y)
          rw [hset] at HST
          have HB := hbl2.setCell (p := ⟨w.heap.size, z, none⟩) hBg (.int .i64 (mst 3 (el xs) (el ys) n x y z + el xs x * el ys y))
          clear hset hcl
          generalize mst 3 (el xs) (el ys) n x y z = S at *
          go_wp2_with fail
          go_roundw
          case rel => exact ⟨y + 1, by omega, by go_num, HST, HB⟩
          case measure => simp [intOf]; omega
        · obtain rfl : y = n := by omega
          have he : tab (mst 3 (el xs) (el ys) y x y) y = tab (mst 3 (el xs) (el ys) y (x + 1) 0) y := tab_congr fun r _ => mst_end _ _ _ _ _ _
          rw [he] at hown2
          clear he
          go_wp2_with fail
          go_roundw
          case rel => exact ⟨x + 1, by omega, by go_num, hown2, hbl2⟩
          case measure => simp [intOf]; omega
    · obtain rfl : x = n := by omega
      go_wp2_with fail
      go_ret
      exact Fresh.mk hown hbl
set_option maxHeartbeats 1600000 in
theorem mix_or (w : World) (a b : Option Addr) (n c d kk : Nat) (xs ys : List Int) (s : ByteArray) (h : Row w a n c xs) (h2 : Row w b n d ys) (hk4 : kk ≤ 4) (hnk : n = p2 kk) (hx : cube xs = true) (hy : cube ys = true) (hs : s.toList = [111, 114]) :
    Calls Try.prog 42 #[.slice a n c, .slice b n d, .string s] w fun e w' => Fresh w w' e n (mxL 1 xs ys n) := by
  have hlen : Hid (xs.length = n) := h.len
  have hlen2 : Hid (ys.length = n) := h2.len
  have hn16 : n ≤ 16 := by rw [hnk]; exact p2_le hk4
  have HN := Lib.hid hnk
  have hbx : Hid (∀ i, i < n → -1000 ≤ el xs i ∧ el xs i ≤ 1000) := fun i hi => valid_bd (cube_iff.1 hx).1 (by rw [hlen.out]; exact hi)
  have hby : Hid (∀ i, i < n → -1000 ≤ el ys i ∧ el ys i ≤ 1000) := fun i hi => valid_bd (cube_iff.1 hy).1 (by rw [hlen2.out]; exact hi)
  have HLT : Hid (∀ x y, x < n → y < n → opK 1 x y < n) := fun x y h1 h2 => by rw [HN.out] at h1 h2 ⊢; exact opK_lt h1 h2
  clear hnk
  go_enter Try.func42, Try.ntmps42
  go_wp2_with (at_make; go_must (refine make_int w rfl _ _ rfl .i64 .i64 _ _ n rfl rfl rfl rfl (by omega) ?_); intro w0 hown0 hb0 hsz0)
  rw [mst_zero 1 (el xs) (el ys) n n] at hown0
  go_loopw [8] (fun u wr => ∃ x : Nat, x ≤ n ∧ u = .int .i64 x ∧ Own wr w.heap.size (some ⟨w.heap.size, 0, none⟩) n n (tab (mst 1 (el xs) (el ys) n x 0) n) ∧ Below w.heap.size w wr) (fun u _ => n - (intOf u).toNat)
  case atStart => exact ⟨0, Nat.zero_le _, rfl, hown0, hb0⟩
  case round =>
    obtain ⟨x, hx0, rfl, hown, hbl⟩ := hrel
    clear hown0 hb0
    by_cases hlt : x < n
    · obtain ⟨bx, ox, rfl, hbbx, hcx⟩ := h.at (by omega)
      obtain ⟨bY, oY, rfl, hbbY, hcY⟩ := h2.at (by omega)
      have HX := Lib.hid hcx
      have HY := Lib.hid hcY
      clear hcx hcY
      have hc := HX.out wr hbl x hlt
      go_wp2_with fail
      obtain ⟨wo, rfl⟩ : ∃ wo : World, wo = wr := ⟨_, rfl⟩
      go_loopw [9] (fun u wr => ∃ y : Nat, y ≤ n ∧ u = .int .i64 y ∧ Own wr w.heap.size (some ⟨w.heap.size, 0, none⟩) n n (tab (mst 1 (el xs) (el ys) n x y) n) ∧ Below w.heap.size w wr) (fun u _ => n - (intOf u).toNat)
      case atStart => exact ⟨0, Nat.zero_le _, rfl, hown, hbl⟩
      case round =>
        obtain ⟨y, hy0, rfl, hown2, hbl2⟩ := hrel
        clear hown hbl hc
        by_cases hyn : y < n
        · have hcx := HX.out wr hbl2 x hlt
          have hcy := HY.out wr hbl2 y hyn
          have hol := HLT.out x y hlt hyn
          have hop : opK 1 x y = x ||| y := rfl
          have hxor : bits .xor .i64 (x : Int) (y : Int) = ((x ^^^ y : Nat) : Int) := i64_xor x y (by omega) (by omega)
          have hand : bits .and .i64 (x : Int) (y : Int) = ((x &&& y : Nat) : Int) := i64_and x y (by omega) (by omega)
          have hor : bits .or .i64 (x : Int) (y : Int) = ((x ||| y : Nat) : Int) := i64_or x y (by omega) (by omega)
          have hset := mst_set 1 (el xs) (el ys) n x y n hol
          have hmb := @mst_bd 1 (el xs) (el ys) n x y (opK 1 x y) hbx.out hby.out hn16 hlt (by omega)
          have hpb := mul_bdM (hbx.out x hlt) (hby.out y hyn)
          have hcl := el_tab (f := mst 1 (el xs) (el ys) n x y) hol
          rw [hop] at hol hset hmb hcl
          clear hop
          generalize x ||| y = z at hol hset hmb hcl hxor hand hor
          obtain ⟨hcell, hfr, hBg, hgl⟩ := hown2.cellK z hol
          rw [hcl] at hcell
          have HST := hown2.store z (mst 1 (el xs) (el ys) n x y z + el xs x * el ys y)
          rw [hset] at HST
          have HB := hbl2.setCell (p := ⟨w.heap.size, z, none⟩) hBg (.int .i64 (mst 1 (el xs) (el ys) n x y z + el xs x * el ys y))
          clear hset hcl
          generalize mst 1 (el xs) (el ys) n x y z = S at *
          have i1 : (0 : Int) ≤ (x : Int) := by omega
          have i2 : (x : Int) < n := by omega
          have i3 : (0 : Int) ≤ (y : Int) := by omega
          have i4 : (y : Int) < n := by omega
          have i5 : (0 : Int) ≤ (z : Int) := by omega
          have i6 : (z : Int) < n := by omega
          have j2 : IntKind.i64.wrap (el xs x * el ys y) = el xs x * el ys y := IntWalk.i64_in _ (by omega)
          have j3 : IntKind.i64.wrap (S + el xs x * el ys y) = S + el xs x * el ys y := IntWalk.i64_in _ (by omega)
          go_wp2_with fail
          go_still_tail 17, (by kernel_rfl)
          change wpList _ _ _ _ _ wr.drew
          clear j2 j3
          go_wp2_with fail
          go_roundw
          case rel => exact ⟨y + 1, by omega, by go_num, HST.drew, HB.drew⟩
          case measure => simp [intOf]; omega
        · obtain rfl : y = n := by omega
          have he : tab (mst 1 (el xs) (el ys) y x y) y = tab (mst 1 (el xs) (el ys) y (x + 1) 0) y := tab_congr fun r _ => mst_end _ _ _ _ _ _
          rw [he] at hown2
          clear he
          go_wp2_with fail
          go_roundw
          case rel => exact ⟨x + 1, by omega, by go_num, hown2, hbl2⟩
          case measure => simp [intOf]; omega
    · obtain rfl : x = n := by omega
      go_wp2_with fail
      go_ret
      exact Fresh.mk hown hbl
set_option maxHeartbeats 1600000 in
theorem mix_and (w : World) (a b : Option Addr) (n c d kk : Nat) (xs ys : List Int) (s : ByteArray) (h : Row w a n c xs) (h2 : Row w b n d ys) (hk4 : kk ≤ 4) (hnk : n = p2 kk) (hx : cube xs = true) (hy : cube ys = true) (hs : s.toList = [97, 110, 100]) :
    Calls Try.prog 42 #[.slice a n c, .slice b n d, .string s] w fun e w' => Fresh w w' e n (mxL 2 xs ys n) := by
  have hlen : Hid (xs.length = n) := h.len
  have hlen2 : Hid (ys.length = n) := h2.len
  have hn16 : n ≤ 16 := by rw [hnk]; exact p2_le hk4
  have HN := Lib.hid hnk
  have hbx : Hid (∀ i, i < n → -1000 ≤ el xs i ∧ el xs i ≤ 1000) := fun i hi => valid_bd (cube_iff.1 hx).1 (by rw [hlen.out]; exact hi)
  have hby : Hid (∀ i, i < n → -1000 ≤ el ys i ∧ el ys i ≤ 1000) := fun i hi => valid_bd (cube_iff.1 hy).1 (by rw [hlen2.out]; exact hi)
  have HLT : Hid (∀ x y, x < n → y < n → opK 2 x y < n) := fun x y h1 h2 => by rw [HN.out] at h1 h2 ⊢; exact opK_lt h1 h2
  clear hnk
  go_enter Try.func42, Try.ntmps42
  go_wp2_with (at_make; go_must (refine make_int w rfl _ _ rfl .i64 .i64 _ _ n rfl rfl rfl rfl (by omega) ?_); intro w0 hown0 hb0 hsz0)
  rw [mst_zero 2 (el xs) (el ys) n n] at hown0
  go_loopw [8] (fun u wr => ∃ x : Nat, x ≤ n ∧ u = .int .i64 x ∧ Own wr w.heap.size (some ⟨w.heap.size, 0, none⟩) n n (tab (mst 2 (el xs) (el ys) n x 0) n) ∧ Below w.heap.size w wr) (fun u _ => n - (intOf u).toNat)
  case atStart => exact ⟨0, Nat.zero_le _, rfl, hown0, hb0⟩
  case round =>
    obtain ⟨x, hx0, rfl, hown, hbl⟩ := hrel
    clear hown0 hb0
    by_cases hlt : x < n
    · obtain ⟨bx, ox, rfl, hbbx, hcx⟩ := h.at (by omega)
      obtain ⟨bY, oY, rfl, hbbY, hcY⟩ := h2.at (by omega)
      have HX := Lib.hid hcx
      have HY := Lib.hid hcY
      clear hcx hcY
      have hc := HX.out wr hbl x hlt
      go_wp2_with fail
      obtain ⟨wo, rfl⟩ : ∃ wo : World, wo = wr := ⟨_, rfl⟩
      go_loopw [9] (fun u wr => ∃ y : Nat, y ≤ n ∧ u = .int .i64 y ∧ Own wr w.heap.size (some ⟨w.heap.size, 0, none⟩) n n (tab (mst 2 (el xs) (el ys) n x y) n) ∧ Below w.heap.size w wr) (fun u _ => n - (intOf u).toNat)
      case atStart => exact ⟨0, Nat.zero_le _, rfl, hown, hbl⟩
      case round =>
        obtain ⟨y, hy0, rfl, hown2, hbl2⟩ := hrel
        clear hown hbl hc
        by_cases hyn : y < n
        · have hcx := HX.out wr hbl2 x hlt
          have hcy := HY.out wr hbl2 y hyn
          have hol := HLT.out x y hlt hyn
          have hop : opK 2 x y = x &&& y := rfl
          have hxor : bits .xor .i64 (x : Int) (y : Int) = ((x ^^^ y : Nat) : Int) := i64_xor x y (by omega) (by omega)
          have hand : bits .and .i64 (x : Int) (y : Int) = ((x &&& y : Nat) : Int) := i64_and x y (by omega) (by omega)
          have hor : bits .or .i64 (x : Int) (y : Int) = ((x ||| y : Nat) : Int) := i64_or x y (by omega) (by omega)
          have hset := mst_set 2 (el xs) (el ys) n x y n hol
          have hmb := @mst_bd 2 (el xs) (el ys) n x y (opK 2 x y) hbx.out hby.out hn16 hlt (by omega)
          have hpb := mul_bdM (hbx.out x hlt) (hby.out y hyn)
          have hcl := el_tab (f := mst 2 (el xs) (el ys) n x y) hol
          rw [hop] at hol hset hmb hcl
          clear hop
          generalize x &&& y = z at hol hset hmb hcl hxor hand hor
          obtain ⟨hcell, hfr, hBg, hgl⟩ := hown2.cellK z hol
          rw [hcl] at hcell
          have HST := hown2.store z (mst 2 (el xs) (el ys) n x y z + el xs x * el ys y)
          rw [hset] at HST
          have HB := hbl2.setCell (p := ⟨w.heap.size, z, none⟩) hBg (.int .i64 (mst 2 (el xs) (el ys) n x y z + el xs x * el ys y))
          clear hset hcl
          generalize mst 2 (el xs) (el ys) n x y z = S at *
          have i1 : (0 : Int) ≤ (x : Int) := by omega
          have i2 : (x : Int) < n := by omega
          have i3 : (0 : Int) ≤ (y : Int) := by omega
          have i4 : (y : Int) < n := by omega
          have i5 : (0 : Int) ≤ (z : Int) := by omega
          have i6 : (z : Int) < n := by omega
          have j2 : IntKind.i64.wrap (el xs x * el ys y) = el xs x * el ys y := IntWalk.i64_in _ (by omega)
          have j3 : IntKind.i64.wrap (S + el xs x * el ys y) = S + el xs x * el ys y := IntWalk.i64_in _ (by omega)
          go_wp2_with fail
          go_still_tail 17, (by kernel_rfl)
          change wpList _ _ _ _ _ wr.drew
          clear j2 j3
          go_wp2_with fail
          go_roundw
          case rel => exact ⟨y + 1, by omega, by go_num, HST.drew, HB.drew⟩
          case measure => simp [intOf]; omega
        · obtain rfl : y = n := by omega
          have he : tab (mst 2 (el xs) (el ys) y x y) y = tab (mst 2 (el xs) (el ys) y (x + 1) 0) y := tab_congr fun r _ => mst_end _ _ _ _ _ _
          rw [he] at hown2
          clear he
          go_wp2_with fail
          go_roundw
          case rel => exact ⟨x + 1, by omega, by go_num, hown2, hbl2⟩
          case measure => simp [intOf]; omega
    · obtain rfl : x = n := by omega
      go_wp2_with fail
      go_ret
      exact Fresh.mk hown hbl
set_option maxHeartbeats 1600000 in
theorem mix_xor (w : World) (a b : Option Addr) (n c d kk : Nat) (xs ys : List Int) (s : ByteArray) (h : Row w a n c xs) (h2 : Row w b n d ys) (hk4 : kk ≤ 4) (hnk : n = p2 kk) (hx : cube xs = true) (hy : cube ys = true) (hs : s.toList = [120, 111, 114]) :
    Calls Try.prog 42 #[.slice a n c, .slice b n d, .string s] w fun e w' => Fresh w w' e n (mxL 3 xs ys n) := by
  have hlen : Hid (xs.length = n) := h.len
  have hlen2 : Hid (ys.length = n) := h2.len
  have hn16 : n ≤ 16 := by rw [hnk]; exact p2_le hk4
  have HN := Lib.hid hnk
  have hbx : Hid (∀ i, i < n → -1000 ≤ el xs i ∧ el xs i ≤ 1000) := fun i hi => valid_bd (cube_iff.1 hx).1 (by rw [hlen.out]; exact hi)
  have hby : Hid (∀ i, i < n → -1000 ≤ el ys i ∧ el ys i ≤ 1000) := fun i hi => valid_bd (cube_iff.1 hy).1 (by rw [hlen2.out]; exact hi)
  have HLT : Hid (∀ x y, x < n → y < n → opK 3 x y < n) := fun x y h1 h2 => by rw [HN.out] at h1 h2 ⊢; exact opK_lt h1 h2
  clear hnk
  go_enter Try.func42, Try.ntmps42
  go_wp2_with (at_make; go_must (refine make_int w rfl _ _ rfl .i64 .i64 _ _ n rfl rfl rfl rfl (by omega) ?_); intro w0 hown0 hb0 hsz0)
  rw [mst_zero 3 (el xs) (el ys) n n] at hown0
  go_loopw [8] (fun u wr => ∃ x : Nat, x ≤ n ∧ u = .int .i64 x ∧ Own wr w.heap.size (some ⟨w.heap.size, 0, none⟩) n n (tab (mst 3 (el xs) (el ys) n x 0) n) ∧ Below w.heap.size w wr) (fun u _ => n - (intOf u).toNat)
  case atStart => exact ⟨0, Nat.zero_le _, rfl, hown0, hb0⟩
  case round =>
    obtain ⟨x, hx0, rfl, hown, hbl⟩ := hrel
    clear hown0 hb0
    by_cases hlt : x < n
    · obtain ⟨bx, ox, rfl, hbbx, hcx⟩ := h.at (by omega)
      obtain ⟨bY, oY, rfl, hbbY, hcY⟩ := h2.at (by omega)
      have HX := Lib.hid hcx
      have HY := Lib.hid hcY
      clear hcx hcY
      have hc := HX.out wr hbl x hlt
      go_wp2_with fail
      obtain ⟨wo, rfl⟩ : ∃ wo : World, wo = wr := ⟨_, rfl⟩
      go_loopw [9] (fun u wr => ∃ y : Nat, y ≤ n ∧ u = .int .i64 y ∧ Own wr w.heap.size (some ⟨w.heap.size, 0, none⟩) n n (tab (mst 3 (el xs) (el ys) n x y) n) ∧ Below w.heap.size w wr) (fun u _ => n - (intOf u).toNat)
      case atStart => exact ⟨0, Nat.zero_le _, rfl, hown, hbl⟩
      case round =>
        obtain ⟨y, hy0, rfl, hown2, hbl2⟩ := hrel
        clear hown hbl hc
        by_cases hyn : y < n
        · have hcx := HX.out wr hbl2 x hlt
          have hcy := HY.out wr hbl2 y hyn
          have hol := HLT.out x y hlt hyn
          have hop : opK 3 x y = x ^^^ y := rfl
          have hxor : bits .xor .i64 (x : Int) (y : Int) = ((x ^^^ y : Nat) : Int) := i64_xor x y (by omega) (by omega)
          have hand : bits .and .i64 (x : Int) (y : Int) = ((x &&& y : Nat) : Int) := i64_and x y (by omega) (by omega)
          have hor : bits .or .i64 (x : Int) (y : Int) = ((x ||| y : Nat) : Int) := i64_or x y (by omega) (by omega)
          have hset := mst_set 3 (el xs) (el ys) n x y n hol
          have hmb := @mst_bd 3 (el xs) (el ys) n x y (opK 3 x y) hbx.out hby.out hn16 hlt (by omega)
          have hpb := mul_bdM (hbx.out x hlt) (hby.out y hyn)
          have hcl := el_tab (f := mst 3 (el xs) (el ys) n x y) hol
          rw [hop] at hol hset hmb hcl
          clear hop
          generalize x ^^^ y = z at hol hset hmb hcl hxor hand hor
          obtain ⟨hcell, hfr, hBg, hgl⟩ := hown2.cellK z hol
          rw [hcl] at hcell
          have HST := hown2.store z (mst 3 (el xs) (el ys) n x y z + el xs x * el ys y)
          rw [hset] at HST
          have HB := hbl2.setCell (p := ⟨w.heap.size, z, none⟩) hBg (.int .i64 (mst 3 (el xs) (el ys) n x y z + el xs x * el ys y))
          clear hset hcl
          generalize mst 3 (el xs) (el ys) n x y z = S at *
          have i1 : (0 : Int) ≤ (x : Int) := by omega
          have i2 : (x : Int) < n := by omega
          have i3 : (0 : Int) ≤ (y : Int) := by omega
          have i4 : (y : Int) < n := by omega
          have i5 : (0 : Int) ≤ (z : Int) := by omega
          have i6 : (z : Int) < n := by omega
          have j2 : IntKind.i64.wrap (el xs x * el ys y) = el xs x * el ys y := IntWalk.i64_in _ (by omega)
          have j3 : IntKind.i64.wrap (S + el xs x * el ys y) = S + el xs x * el ys y := IntWalk.i64_in _ (by omega)
          go_wp2_with fail
          go_still_tail 17, (by kernel_rfl)
          change wpList _ _ _ _ _ wr.drew
          clear j2 j3
          go_wp2_with fail
          go_roundw
          case rel => exact ⟨y + 1, by omega, by go_num, HST.drew, HB.drew⟩
          case measure => simp [intOf]; omega
        · obtain rfl : y = n := by omega
          have he : tab (mst 3 (el xs) (el ys) y x y) y = tab (mst 3 (el xs) (el ys) y (x + 1) 0) y := tab_congr fun r _ => mst_end _ _ _ _ _ _
          rw [he] at hown2
          clear he
          go_wp2_with fail
          go_roundw
          case rel => exact ⟨x + 1, by omega, by go_num, hown2, hbl2⟩
          case measure => simp [intOf]; omega
    · obtain rfl : x = n := by omega
      go_wp2_with fail
      go_ret
      exact Fresh.mk hown hbl
end Go.Proofs.Ytccddkgpcgnaoaa
