/-
  Texts and patterns: what the program and the reference compute.
-/
import Derived.Test.YtahnfjolidenfaaMk
import Derived.Test.YtahnfjolidenfaaNum
import Derived.Test.YtahnfjolidenfaaDraw
import Derived.Lib.Hide
namespace Go.Proofs.Ytahnfjolidenfaa
open Go.RowKit

/-- The i-th byte of a text (0 beyond). Not reducible: the walk takes it for an atom. -/
def byt (s : ByteArray) (i : Nat) : Nat := (s.data.toList.getD i 0).toNat
theorem byt_get (s : ByteArray) (i : Nat) (h : i < s.size) : (s[i]'h).toNat = byt s i := by
  obtain ⟨⟨l⟩⟩ := s
  have hl : i < l.length := h
  have e : (ByteArray.mk ⟨l⟩)[i]'h = l.getD i 0 := by
    simp only [List.getD, List.getElem?_eq_getElem hl, Option.getD_some]
    rfl
  rw [e]; rfl
theorem byt_lt (s : ByteArray) (i : Nat) : byt s i ≤ 255 := by
  have := (s.data.toList.getD i 0).toNat_lt
  unfold byt; omega

/-- Whether all of the first n bytes pass. -/
def allF (f : Nat → Bool) : Nat → Bool
  | 0 => true
  | k + 1 => allF f k && f k
theorem allF_iff {f : Nat → Bool} {n : Nat} : allF f n = true ↔ ∀ i, i < n → f i = true := by
  induction n with
  | zero => exact ⟨fun _ i hi => by omega, fun _ => rfl⟩
  | succ k ih =>
    rw [allF, Bool.and_eq_true, ih]
    constructor
    · intro h i hi
      by_cases e : i = k
      · subst e; exact h.2
      · exact h.1 i (by omega)
    · intro h
      exact ⟨fun i hi => h i (by omega), h k (by omega)⟩
theorem allF_no {f : Nat → Bool} {n i : Nat} (hi : i < n) (h : f i = false) : allF f n = false := by
  cases hb : allF f n with
  | false => rfl
  | true => rw [allF_iff.1 hb i hi] at h; cases h
def okc (c : Nat) : Bool := decide (97 ≤ c ∧ c ≤ 100)
def okp (c : Nat) : Bool := decide (c = 63 ∨ (97 ≤ c ∧ c ≤ 100))
theorem okc_yes {c : Nat} (h1 : 97 ≤ c) (h2 : c ≤ 100) : okc c = true := decide_eq_true ⟨h1, h2⟩
theorem okc_no {c : Nat} (h : c < 97 ∨ 100 < c) : okc c = false := decide_eq_false (by omega)
theorem okp_yes {c : Nat} (h : c = 63 ∨ (97 ≤ c ∧ c ≤ 100)) : okp c = true := decide_eq_true h
theorem okp_no {c : Nat} (h : ¬ (c = 63 ∨ (97 ≤ c ∧ c ≤ 100))) : okp c = false := decide_eq_false h
def textF (s : ByteArray) : Bool := allF (fun i => okc (byt s i)) s.size
def patF (s : ByteArray) : Bool := allF (fun i => okp (byt s i)) s.size
/-- Whether a text and a pattern are ones. -/
def textB (s p : ByteArray) : Bool := decide (s.size ≤ 20 ∧ 1 ≤ p.size ∧ p.size ≤ 20) && (textF s && patF p)
theorem textB_iff {s p : ByteArray} : textB s p = true ↔ (s.size ≤ 20 ∧ 1 ≤ p.size ∧ p.size ≤ 20) ∧ textF s = true ∧ patF p = true := by
  simp [textB, and_assoc]
theorem textB_no {s p : ByteArray} (h : ¬ ((s.size ≤ 20 ∧ 1 ≤ p.size ∧ p.size ≤ 20) ∧ textF s = true ∧ patF p = true)) : textB s p = false := by
  cases hb : textB s p with
  | false => rfl
  | true => exact absurd (textB_iff.1 hb) h

set_option maxHeartbeats 1600000 in
theorem textsOk_any (w : World) (s p : ByteArray) (hs : s.size ≤ 1000) (hp : p.size ≤ 1000) :
    Calls Try.prog 20 #[.string s, .string p] w fun e w' => Tells w w' e (textB s p) := by
  have hby := byt_get
  by_cases h1 : s.size ≤ 20
  · by_cases h2 : 1 ≤ p.size
    · by_cases h3 : p.size ≤ 20
      · go_enter Try.func20, Try.ntmps20
        go_wp2_with fail
        go_loop [22] (fun u => ∃ k : Nat, k ≤ s.size ∧ u = .int .i64 k ∧ Hid (∀ i, i < k → okc (byt s i) = true)) (fun u => s.size - (intOf u).toNat)
        case atStart => exact ⟨0, Nat.zero_le _, rfl, fun i hi => by omega⟩
        case round =>
          obtain ⟨k, hk, rfl, HA⟩ := hrel
          by_cases hlt : k < s.size
          · by_cases c1 : byt s k < 97
            · have HF : Hid (textF s = false) := allF_no hlt (okc_no (.inl c1))
              go_wp2_with fail
              go_ret
              exact ⟨ret_bool (textB_no (by rw [HF.out]; simp)).symm, rfl⟩
            · by_cases c2 : 100 < byt s k
              · have HF : Hid (textF s = false) := allF_no hlt (okc_no (.inr c2))
                go_wp2_with fail
                go_ret
                exact ⟨ret_bool (textB_no (by rw [HF.out]; simp)).symm, rfl⟩
              · have HA2 : Hid (∀ i, i < k + 1 → okc (byt s i) = true) := by
                  intro i hi
                  by_cases e : i = k
                  · subst e; exact okc_yes (by omega) (by omega)
                  · exact HA.out i (by omega)
                go_wp2_with fail
                go_round
                case rel => exact ⟨k + 1, by omega, by go_num, HA2⟩
                case measure => simp [intOf]; omega
          · obtain rfl : k = s.size := by omega
            have HT : Hid (textF s = true) := allF_iff.2 HA.out
            clear HA
            go_wp2_with fail
            go_loop [38] (fun u => ∃ k : Nat, k ≤ p.size ∧ u = .int .i64 k ∧ Hid (∀ i, i < k → okp (byt p i) = true)) (fun u => p.size - (intOf u).toNat)
            case atStart => exact ⟨0, Nat.zero_le _, rfl, fun i hi => by omega⟩
            case round =>
              obtain ⟨k, hk, rfl, HA⟩ := hrel
              by_cases hlt : k < p.size
              · by_cases c0 : byt p k = 63
                · have HA2 : Hid (∀ i, i < k + 1 → okp (byt p i) = true) := by
                    intro i hi
                    by_cases e : i = k
                    · subst e; exact okp_yes (.inl c0)
                    · exact HA.out i (by omega)
                  go_wp2_with fail
                  go_round
                  case rel => exact ⟨k + 1, by omega, by go_num, HA2⟩
                  case measure => simp [intOf]; omega
                · have c0b : ((byt p k : Int) != 63) = true := by simp; omega
                  by_cases c1 : byt p k < 97
                  · have HF : Hid (patF p = false) := allF_no hlt (okp_no (by omega))
                    clear c0
                    go_wp2_with fail
                    go_ret
                    exact ⟨ret_bool (textB_no (by rw [HF.out]; simp)).symm, rfl⟩
                  · by_cases c2 : 100 < byt p k
                    · have HF : Hid (patF p = false) := allF_no hlt (okp_no (by omega))
                      clear c0
                      go_wp2_with fail
                      go_ret
                      exact ⟨ret_bool (textB_no (by rw [HF.out]; simp)).symm, rfl⟩
                    · have HA2 : Hid (∀ i, i < k + 1 → okp (byt p i) = true) := by
                        intro i hi
                        by_cases e : i = k
                        · subst e; exact okp_yes (by omega)
                        · exact HA.out i (by omega)
                      clear c0
                      go_wp2_with fail
                      go_round
                      case rel => exact ⟨k + 1, by omega, by go_num, HA2⟩
                      case measure => simp [intOf]; omega
              · obtain rfl : k = p.size := by omega
                have HP : Hid (patF p = true) := allF_iff.2 HA.out
                clear HA
                go_wp2_with fail
                go_ret
                exact ⟨ret_bool (textB_iff.2 ⟨⟨h1, h2, h3⟩, HT.out, HP.out⟩).symm, rfl⟩
      · go_enter Try.func20, Try.ntmps20
        go_wp2_with fail
        go_ret
        exact ⟨ret_bool (textB_no (by omega)).symm, rfl⟩
    · go_enter Try.func20, Try.ntmps20
      go_wp2_with fail
      go_ret
      exact ⟨ret_bool (textB_no (by omega)).symm, rfl⟩
  · go_enter Try.func20, Try.ntmps20
    go_wp2_with fail
    go_ret
    exact ⟨ret_bool (textB_no (by omega)).symm, rfl⟩
theorem textsOk_is (w : World) (s p : ByteArray) (v : Bool) (hs : s.size ≤ 1000) (hp : p.size ≤ 1000) (hv : textB s p = v) :
    Calls Try.prog 20 #[.string s, .string p] w fun e w' => Tells w w' e v := by subst hv; exact textsOk_any w s p hs hp
/-- What the reference takes for a text, or a pattern. -/
def vpB (s : ByteArray) (o : Bool) : Bool := (if o then patF s else textF s) && decide (s.size ≤ 20)
def VPF (s : ByteArray) (o : Bool) (i : Nat) : Bool := if o then okp (byt s i) else okc (byt s i)
theorem vpB_eq (s : ByteArray) (o : Bool) : vpB s o = (allF (VPF s o) s.size && decide (s.size ≤ 20)) := by
  cases o <;> rfl
set_option maxHeartbeats 1600000 in
theorem validPattern_any (w : World) (s : ByteArray) (o : Bool) (hs : s.size ≤ 1000) :
    Calls Try.prog 21 #[.string s, .bool o] w fun e w' => Tells w w' e (vpB s o) := by
  have hby := byt_get
  go_enter Try.func21, Try.ntmps21
  go_wp2_with fail
  go_loop [5] (fun u => ∃ k : Nat, k ≤ s.size ∧ u = .int .i64 k ∧ Hid (∀ i, i < k → VPF s o i = true)) (fun u => s.size - (intOf u).toNat)
  case atStart => exact ⟨0, Nat.zero_le _, rfl, fun i hi => by omega⟩
  case round =>
    obtain ⟨k, hk, rfl, HA⟩ := hrel
    by_cases hlt : k < s.size
    · have HS : Hid (VPF s o k = true → ∀ i, i < k + 1 → VPF s o i = true) := by
        intro h0 i hi
        by_cases e : i = k
        · subst e; exact h0
        · exact HA.out i (by omega)
      have HN : Hid (VPF s o k = false → allF (VPF s o) s.size = false) := fun h0 => allF_no hlt h0
      by_cases c1 : byt s k < 97
      · cases o
        · have HF : Hid (allF (VPF s false) s.size = false) := HN.out (okc_no (.inl c1))
          go_wp2_with fail
          go_ret
          exact ⟨ret_bool (by rw [vpB_eq, HF.out]; rfl), rfl⟩
        · by_cases c0 : byt s k = 63
          · have HA2 : Hid (∀ i, i < k + 1 → VPF s true i = true) := HS.out (okp_yes (.inl c0))
            go_wp2_with fail
            go_round
            case rel => exact ⟨k + 1, by omega, by go_num, HA2⟩
            case measure => simp [intOf]; omega
          · have c0b : ((byt s k : Int) != 63) = true := by simp; omega
            have HF : Hid (allF (VPF s true) s.size = false) := HN.out (okp_no (by omega))
            clear c0
            go_wp2_with fail
            go_ret
            exact ⟨ret_bool (by rw [vpB_eq, HF.out]; rfl), rfl⟩
      · by_cases c2 : 100 < byt s k
        · cases o
          · have HF : Hid (allF (VPF s false) s.size = false) := HN.out (okc_no (.inr c2))
            go_wp2_with fail
            go_ret
            exact ⟨ret_bool (by rw [vpB_eq, HF.out]; rfl), rfl⟩
          · have c0b : ((byt s k : Int) != 63) = true := by simp; omega
            have HF : Hid (allF (VPF s true) s.size = false) := HN.out (okp_no (by omega))
            go_wp2_with fail
            go_ret
            exact ⟨ret_bool (by rw [vpB_eq, HF.out]; rfl), rfl⟩
        · have HA2 : Hid (∀ i, i < k + 1 → VPF s o i = true) := HS.out (by cases o; exact okc_yes (by omega) (by omega); exact okp_yes (by omega))
          go_wp2_with fail
          go_round
          case rel => exact ⟨k + 1, by omega, by go_num, HA2⟩
          case measure => simp [intOf]; omega
    · obtain rfl : k = s.size := by omega
      have HT : Hid (allF (VPF s o) s.size = true) := allF_iff.2 HA.out
      by_cases h20 : s.size ≤ 20
      · go_wp2_with fail
        go_ret
        exact ⟨ret_bool (by rw [vpB_eq, HT.out]; simp; omega), rfl⟩
      · go_wp2_with fail
        go_ret
        exact ⟨ret_bool (by rw [vpB_eq, HT.out]; simp; omega), rfl⟩
theorem validPattern_is (w : World) (s : ByteArray) (o v : Bool) (hs : s.size ≤ 1000) (hv : vpB s o = v) :
    Calls Try.prog 21 #[.string s, .bool o] w fun e w' => Tells w w' e v := by subst hv; exact validPattern_any w s o hs
end Go.Proofs.Ytahnfjolidenfaa
