/-
  Plain notions for the walks of this seat: lists of integers read by index, running sums, rows of integers in memory.
-/
import Derived.WalkKit
import Derived.WalkSpells
import Derived.WalkLawsBesides
namespace Go.Proofs.YtmfffmipnbdpjaaGreatDoor
open Go.RowKit

/-- The number at an index, 0 beyond the end. Not reducible: the walk takes it for an atom. -/
def el (xs : List Int) (i : Nat) : Int := xs.getD i 0

theorem el_mk {xs : List Int} {i : Nat} (h : i < xs.length) : el xs i = xs[i] := by simp [el, h]
theorem el_out {xs : List Int} {i : Nat} (h : xs.length ≤ i) : el xs i = 0 := by simp [el, h]
theorem el_nil (i : Nat) : el [] i = 0 := by simp [el]

theorem el_append_left {xs ys : List Int} {i : Nat} (h : i < xs.length) : el (xs ++ ys) i = el xs i := by
  unfold el; simp [List.getD, List.getElem?_append_left h]
theorem el_append_at {xs : List Int} {y : Int} : el (xs ++ [y]) xs.length = y := by
  unfold el; simp [List.getD]

theorem el_ext {xs ys : List Int} (hl : xs.length = ys.length) (h : ∀ i, i < xs.length → el xs i = el ys i) : xs = ys := by
  apply List.ext_getElem hl
  intro i h1 h2
  have := h i h1
  rw [el_mk h1, el_mk h2] at this
  exact this

/-- The list of the values of a function at 0 .. n-1. -/
def tab (f : Nat → Int) : Nat → List Int
  | 0 => []
  | k + 1 => tab f k ++ [f k]

theorem tab_length (f : Nat → Int) (n : Nat) : (tab f n).length = n := by
  induction n with
  | zero => rfl
  | succ k ih => simp [tab, ih]
theorem el_tab {f : Nat → Int} {n i : Nat} (h : i < n) : el (tab f n) i = f i := by
  induction n with
  | zero => omega
  | succ k ih =>
    by_cases hk : i < k
    · rw [tab, el_append_left (by rw [tab_length]; exact hk)]; exact ih hk
    · obtain rfl : i = k := by omega
      have : el (tab f i ++ [f i]) (tab f i).length = f i := el_append_at
      rw [tab_length] at this
      exact this
theorem tab_congr {f g : Nat → Int} {n : Nat} (h : ∀ i, i < n → f i = g i) : tab f n = tab g n :=
  el_ext (by simp [tab_length]) fun i hi => by rw [tab_length] at hi; rw [el_tab hi, el_tab hi]; exact h i hi
theorem tab_el (xs : List Int) : tab (el xs) xs.length = xs :=
  el_ext (by simp [tab_length]) fun i hi => by rw [tab_length] at hi; rw [el_tab hi]

/-- The sum of the values of a function at 0 .. n-1. -/
def sm (f : Nat → Int) : Nat → Int
  | 0 => 0
  | k + 1 => sm f k + f k

theorem sm_succ (f : Nat → Int) (k : Nat) : sm f (k + 1) = sm f k + f k := rfl
theorem sm_zero (f : Nat → Int) : sm f 0 = 0 := rfl
theorem sm_bd {f : Nat → Int} {M : Int} {n : Nat} (h : ∀ i, i < n → -M ≤ f i ∧ f i ≤ M) : -(M * n) ≤ sm f n ∧ sm f n ≤ M * n := by
  induction n with
  | zero => simp [sm]
  | succ k ih =>
    have h1 := ih fun i hi => h i (by omega)
    have h2 := h k (by omega)
    have e : M * ((k + 1 : Nat) : Int) = M * k + M := by rw [Int.natCast_add, Int.mul_add]; simp
    rw [e, sm]; omega
theorem sm_congr {f g : Nat → Int} {n : Nat} (h : ∀ i, i < n → f i = g i) : sm f n = sm g n := by
  induction n with
  | zero => rfl
  | succ k ih => rw [sm, sm, ih fun i hi => h i (by omega), h k (by omega)]

theorem bstep {w w1 w2 : World} (h : Below w.heap.size w w1) (k : Below w1.heap.size w1 w2) : Below w.heap.size w w2 := h.trans (k.mono h.size)

/-- A step from a world that parts from w in its draws alone. -/
theorem bheq {v w w' : World} (h : Below v.heap.size v w') (e1 : v.heap = w.heap) (e2 : v.os = w.os) (e3 : v.tape = w.tape) (e4 : v.output = w.output) : Below w.heap.size w w' :=
  ⟨h.os.trans e2, h.tape.trans e3, h.output.trans e4, by rw [← e1]; exact h.size, fun k hk => by rw [← e1] at hk ⊢; exact h.block k hk⟩

/-- A row of integers in memory: what a slice value with n elements at the address a reads as. -/
structure Row (w : World) (a : Option Addr) (n c : Nat) (xs : List Int) : Prop where
  len : xs.length = n
  small : n ≤ 1125899906842624
  cap : n ≤ c
  nil : a = none → c = 0
  cell : ∀ i, i < n → ∃ b off, a = some ⟨b, off, none⟩ ∧ b < w.heap.size ∧ ∀ j, j < n → w.cell? ⟨b, off + j, none⟩ = some (.int .i64 (el xs j))

theorem Row.below {w w' : World} {a : Option Addr} {n c : Nat} {xs : List Int} (h : Row w a n c xs) (hb : Below w.heap.size w w') : Row w' a n c xs :=
  ⟨h.len, h.small, h.cap, h.nil, fun i hi => by
    obtain ⟨b, off, ha, hlt, hc⟩ := h.cell i hi
    have := hb.size
    exact ⟨b, off, ha, by omega, fun j hj => by rw [hb.cell hlt]; exact hc j hj⟩⟩

theorem Row.heap {w w' : World} {a : Option Addr} {n c : Nat} {xs : List Int} (h : Row w a n c xs) (e : w'.heap = w.heap) : Row w' a n c xs :=
  ⟨h.len, h.small, h.cap, h.nil, fun i hi => by
    obtain ⟨b, off, ha, hlt, hc⟩ := h.cell i hi
    exact ⟨b, off, ha, by rw [e]; exact hlt, fun j hj => by rw [World.cell?_of_block (w := w) (by rw [e])]; exact hc j hj⟩⟩

/-- n bytes at the address a, in a block below H. -/
def Bts (w : World) (a : Option Addr) (n H : Nat) : Prop :=
  ∀ i, i < n → ∃ b off, a = some ⟨b, off, none⟩ ∧ b < H ∧ ∀ j, j < n → ∃ x : Int, 0 ≤ x ∧ x ≤ 255 ∧ w.cell? ⟨b, off + j, none⟩ = some (.int .u8 x)

/-- Where a row lies that is not empty; it reads so as long as nothing of it is written. -/
theorem Row.at {w : World} {a : Option Addr} {n c : Nat} {xs : List Int} (h : Row w a n c xs) (hn : 0 < n) :
    ∃ b off, a = some ⟨b, off, none⟩ ∧ b < w.heap.size ∧ ∀ w', Below w.heap.size w w' → ∀ j, j < n → w'.cell? ⟨b, off + j, none⟩ = some (.int .i64 (el xs j)) := by
  obtain ⟨b, off, ha, hlt, hc⟩ := h.cell 0 hn
  exact ⟨b, off, ha, hlt, fun w' hb j hj => (hb.cell hlt).trans (hc j hj)⟩

/-- A row of integers that lies in a block of its own, from block B on. -/
def Own (w : World) (B : Nat) (a : Option Addr) (n c : Nat) (xs : List Int) : Prop :=
  w.ownsRow B 3 1 (.slice a n c) n (xs.map (Value.int .i64))

theorem Own.len {w : World} {B : Nat} {a : Option Addr} {n c : Nat} {xs : List Int} (h : Own w B a n c xs) : xs.length = n := by
  have := h.1; simpa using this

theorem Own.row {w : World} {B : Nat} {a : Option Addr} {n c : Nat} {xs : List Int} (h : Own w B a n c xs) (hs : n ≤ 1125899906842624) : Row w a n c xs := by
  have hl := h.len
  have hlt := World.ownsRow.lt h
  rcases h.2 with ⟨h1, h2⟩ | ⟨g, cap, cur, hv, hg, hh, hn, hc, hz, ht⟩
  · have e1 : c = 0 := by injection h1
    exact ⟨hl, hs, by omega, fun _ => e1, fun i hi => by omega⟩
  · have ha : a = some ⟨g, 0, none⟩ := by injection hv
    have hcc : c = cap := by injection hv
    subst ha; subst hcc
    refine ⟨hl, hs, hn, (fun e => by cases e), fun i hi => ⟨g, 0, rfl, (hlt g rfl).2, fun j hj => ?_⟩⟩
    rw [Nat.zero_add, World.ownsRow.cellAt h j (by omega)]
    have hj' : j < xs.length := by omega
    rw [List.getElem?_map, List.getElem?_eq_getElem hj', el_mk hj']; rfl

theorem ownsRow_below {w w' : World} {B H e size : Nat} {v : Value} {n : Nat} {xs : List Value} (h : w.ownsRow B e size v n xs) (hb : Below H w w') (hH : ∀ k, v.ownBlock = some k → k < H) : w'.ownsRow B e size v n xs := by
  obtain ⟨h1, h2⟩ := h
  refine ⟨h1, ?_⟩
  rcases h2 with h2 | ⟨g, cap, cur, hv, hg, hh, r⟩
  · exact Or.inl h2
  · exact Or.inr ⟨g, cap, cur, hv, hg, by rw [hb.block g (hH g (by rw [hv]; rfl))]; exact hh, r⟩

theorem Own.below {w w' : World} {B : Nat} {a : Option Addr} {n c : Nat} {xs : List Int} (h : Own w B a n c xs) (hb : Below w.heap.size w w') : Own w' B a n c xs :=
  ownsRow_below h hb fun k hk => (World.ownsRow.lt h k hk).2

theorem ownsRow_mono {w : World} {B B' e size : Nat} {v : Value} {n : Nat} {xs : List Value} (h : w.ownsRow B e size v n xs) (hB : B' ≤ B) : w.ownsRow B' e size v n xs := by
  obtain ⟨h1, h2⟩ := h
  refine ⟨h1, ?_⟩
  rcases h2 with h2 | ⟨g, cap, cur, hv, hg, r⟩
  · exact Or.inl h2
  · exact Or.inr ⟨g, cap, cur, hv, by omega, r⟩

theorem Own.mono {w : World} {B B' : Nat} {a : Option Addr} {n c : Nat} {xs : List Int} (h : Own w B a n c xs) (hB : B' ≤ B) : Own w B' a n c xs := ownsRow_mono h hB

/-- What a call hands back that makes a new list of n integers. -/
def Fresh (w w' : World) (e : Ending) (n : Nat) (ys : List Int) : Prop :=
  ∃ a c, e = .returned (.slice a n c) ∧ Own w' w.heap.size a n c ys ∧ Below w.heap.size w w'

theorem Fresh.mk {w w' : World} {a : Option Addr} {n c : Nat} {ys : List Int} (h : Own w' w.heap.size a n c ys) (hb : Below w.heap.size w w') : Fresh w w' (.returned (.slice a n c)) n ys :=
  ⟨a, c, rfl, h, hb⟩

theorem Fresh.mk' {w w' : World} {a : Option Addr} {n m c : Nat} {ys zs : List Int} (h : Own w' w.heap.size a m c zs) (hb : Below w.heap.size w w') (hm : m = n) (he : zs = ys) : Fresh w w' (.returned (.slice a m c)) n ys := by
  subst hm; subst he; exact ⟨a, c, rfl, h, hb⟩

theorem own_nil (w : World) (B : Nat) : Own w B none 0 0 [] := World.ownsRow_nil w B _ _
theorem row_nil (w : World) : Row w none 0 0 [] := ⟨rfl, by omega, by omega, fun _ => rfl, fun i hi => by omega⟩

/-- A call that answers a truth and leaves all that was there as it was. -/
def Says (w w' : World) (e : Ending) (b : Bool) : Prop := e = .returned (.bool b) ∧ Below w.heap.size w w'

/-- A call that answers a number and leaves all that was there as it was. -/
def Counts (w w' : World) (e : Ending) (x : Int) : Prop := e = .returned (.int .i64 x) ∧ Below w.heap.size w w'

/-- The length in a slot. -/
def lenOf : Value → Nat | .slice _ k _ => k | _ => 0

theorem ret_int {k : IntKind} {a b : Int} (h : a = b) : Ending.returned (.int k a) = .returned (.int k b) := by rw [h]
theorem ret_bool {a b : Bool} (h : a = b) : Ending.returned (.bool a) = .returned (.bool b) := by rw [h]

end Go.Proofs.YtmfffmipnbdpjaaGreatDoor
