/-
  A text cut at a byte: the library's way and the reference's give the same pieces.
-/
import Derived.Test.YtmfffmipnbdpjaaGreatDoorStr2
import Derived.Lib.SplitLaws
namespace Go.Proofs.YtmfffmipnbdpjaaGreatDoor
open Go.RowKit

def pre (h : List UInt8) : List (List UInt8) → List (List UInt8)
  | [] => [h]
  | x :: t => (h ++ x) :: t
theorem pre_pre (a b : List UInt8) (z : List (List UInt8)) : pre a (pre b z) = pre (a ++ b) z := by
  cases z with
  | nil => rfl
  | cons x t => show (a ++ (b ++ x)) :: t = (a ++ b ++ x) :: t; rw [List.append_assoc]
def spl (c : UInt8) : List UInt8 → List (List UInt8)
  | [] => [[]]
  | x :: r => if x = c then [] :: spl c r else pre [x] (spl c r)

theorem index_eq (c : UInt8) (r : List UInt8) : Lib.index (c :: r) [c] = 0 := by
  unfold Lib.index
  rw [if_pos (by simp [List.isPrefixOf])]
theorem index_ne {x c : UInt8} (r : List UInt8) (h : x ≠ c) : Lib.index (x :: r) [c] = if (Lib.index r [c] == -1) = true then -1 else Lib.index r [c] + 1 := by
  rw [Lib.index, if_neg (by simp [List.isPrefixOf]; exact fun e => h e.symm)]
theorem splitK_spl (c : UInt8) : ∀ s : List UInt8, Lib.splitK [c] 0 (Lib.count s [c]) s = spl c s := by
  intro s
  induction s with
  | nil =>
    have e : Lib.count [] [c] = 0 := by rw [Lib.count_one]; rfl
    rw [e]; rfl
  | cons x r ih =>
    by_cases h : x = c
    · subst h
      rw [Lib.count_cons_eq, Nat.add_comm, Lib.splitK, index_eq, spl, if_pos rfl]
      rw [if_neg (by decide)]
      show [] :: Lib.splitK [x] 0 (Lib.count r [x]) r = _
      rw [ih]
    · rw [Lib.count_cons_ne x c r h, spl, if_neg h, ← ih]
      cases hk : Lib.count r [c] with
      | zero => rfl
      | succ k =>
        rw [Lib.splitK, Lib.splitK, index_ne r h]
        by_cases hi : (Lib.index r [c] == -1) = true
        · rw [if_pos hi, if_pos hi, if_pos (by decide)]; rfl
        · have hg := Lib.index_ge r [c]
          have hi2 : Lib.index r [c] ≠ -1 := fun e => hi (by rw [e]; rfl)
          obtain ⟨i, hii⟩ := Int.eq_ofNat_of_zero_le (show 0 ≤ Lib.index r [c] by omega)
          rw [if_neg hi, if_neg hi, hii, if_neg (by intro e; have := beq_iff_eq.1 e; omega)]
          show _ = ([x] ++ _) :: _
          congr 1

theorem byt_list (s : ByteArray) (i : Nat) (x : UInt8) (r : List UInt8) (h : s.data.toList.drop i = x :: r) : byt s i = x.toNat ∧ s.data.toList.drop (i + 1) = r ∧ s.data.toList[i]? = some x := by
  have h1 : s.data.toList[i]? = some x := by
    have := congrArg (fun l => l[0]?) h
    simpa using this
  refine ⟨by unfold byt; rw [List.getD_eq_getElem?_getD, h1]; rfl, ?_, h1⟩
  have := congrArg (fun l => l.drop 1) h
  simpa [List.drop_drop] using this
theorem extract_seg (s : ByteArray) (q i : Nat) : (s.extract q i).data.toList = (s.data.toList.drop q).take (i - q) := Lib.extract_data s q i
theorem cutO_spl (s : ByteArray) (c : UInt8) : ∀ i, i ≤ s.data.toList.length →
    ((cutO s c.toNat i).1.map (·.data.toList)) ++ pre ((s.data.toList.drop (cutO s c.toNat i).2).take (i - (cutO s c.toNat i).2)) (spl c (s.data.toList.drop i)) = spl c s.data.toList := by
  intro i
  induction i with
  | zero =>
    intro _
    show [] ++ pre _ _ = _
    rw [List.nil_append, List.drop_zero, Nat.zero_sub, List.take_zero]
    cases hz : spl c s.data.toList with
    | nil =>
      exfalso
      revert hz
      cases s.data.toList with
      | nil => intro e; cases e
      | cons x r =>
        rw [spl]
        split
        · intro e; cases e
        · cases spl c r <;> (intro e; cases e)
    | cons x t => rfl
  | succ i ih =>
    intro hi
    have ih := ih (by omega)
    obtain ⟨hq, _⟩ := cutO_bd s c.toNat i
    cases hd : s.data.toList.drop i with
    | nil =>
      have := congrArg List.length hd
      rw [List.length_drop, List.length_nil] at this
      omega
    | cons x r =>
      obtain ⟨hb, hr, hx⟩ := byt_list s i x r hd
      rw [hd] at ih
      rw [hr]
      by_cases h : x = c
      · subst h
        rw [spl, if_pos rfl] at ih
        rw [cutO, if_pos hb]
        rw [Nat.sub_self, List.take_zero, List.map_append, List.map_singleton, extract_seg]
        rw [← ih]
        show _ ++ pre [] (spl x r) = _ ++ ((_ ++ []) :: _)
        rw [List.append_nil, List.append_assoc]
        congr 1
        cases hz : spl x r with
        | nil =>
          exfalso
          revert hz
          cases r with
          | nil => intro e; cases e
          | cons y t =>
            rw [spl]
            split
            · intro e; cases e
            · cases spl x t <;> (intro e; cases e)
        | cons y t => rfl
      · have hne : ¬ byt s i = c.toNat := by rw [hb]; intro e; exact h (UInt8.toNat_inj.1 e)
        rw [spl, if_neg h, pre_pre] at ih
        rw [cutO, if_neg hne, ← ih]
        congr 2
        have e : i + 1 - (cutO s c.toNat i).2 = (i - (cutO s c.toNat i).2) + 1 := by omega
        rw [e, List.take_add_one, List.getElem?_drop, show (cutO s c.toNat i).2 + (i - (cutO s c.toNat i).2) = i by omega, hx]
        rfl
theorem splS_spl (s : ByteArray) (c : UInt8) : (splS s c.toNat).map (·.data.toList) = spl c s.data.toList := by
  have hn : s.size = s.data.toList.length := Lib.size_eq s
  have h := cutO_spl s c s.size (by omega)
  rw [← h, splS, List.map_append, List.map_singleton, extract_seg, show s.data.toList.drop s.size = [] from List.drop_eq_nil_of_le (by omega)]
  show _ = _ ++ [_ ++ []]
  rw [List.append_nil]
theorem map_data_inj {a b : List ByteArray} (h : a.map (·.data.toList) = b.map (·.data.toList)) : a = b := by
  have e : ∀ l : List ByteArray, (l.map (·.data.toList)).map bs = l := by
    intro l
    rw [List.map_map]
    induction l with
    | nil => rfl
    | cons x t ih => rw [List.map_cons, ih]; exact congrArg (· :: t) (bs_eq x).symm
  rw [← e a, ← e b, h]
/-- The library's pieces are the reference's. -/
theorem split_same (s : ByteArray) (c : UInt8) : Lib.splitB ⟨#[c]⟩ 0 (Lib.countB s ⟨#[c]⟩) s = splS s c.toNat := by
  apply map_data_inj
  rw [splS_spl, Lib.splitB_data]
  exact splitK_spl c _
theorem split_len (s : ByteArray) (c : UInt8) : Lib.countB s ⟨#[c]⟩ + 1 = (splS s c.toNat).length := by
  rw [← split_same, Lib.splitB_all ⟨#[c]⟩ (Nat.le_refl 1) 0 _ s rfl]
end Go.Proofs.YtmfffmipnbdpjaaGreatDoor
