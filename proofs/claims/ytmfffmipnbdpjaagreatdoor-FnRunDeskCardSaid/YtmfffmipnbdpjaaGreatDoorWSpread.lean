/-
  What is narrow is spread widely: the places of a row that are not 0, times those of its wave, are at least as many as there are.
-/
import Derived.Test.YtmfffmipnbdpjaaGreatDoorWNum
namespace Go.Proofs.YtmfffmipnbdpjaaGreatDoor
open Go.RowKit

/-- How many numbers are not 0. -/
def nz (f : Nat → Int) (n : Nat) : Int := sm (fun i => if f i = 0 then 0 else 1) n
theorem nz_bd (f : Nat → Int) (n : Nat) : 0 ≤ nz f n ∧ nz f n ≤ n := by
  unfold nz
  induction n with
  | zero => simp [sm]
  | succ k ih => rw [sm]; split <;> omega
theorem nz_congr {f g : Nat → Int} {n : Nat} (h : ∀ i, i < n → f i = g i) : nz f n = nz g n := sm_congr fun i hi => by rw [h i hi]
theorem nz_iff {f g : Nat → Int} {n : Nat} (h : ∀ i, i < n → (f i = 0 ↔ g i = 0)) : nz f n = nz g n := sm_congr fun i hi => by
  by_cases e : f i = 0
  · rw [if_pos e, if_pos ((h i hi).1 e)]
  · rw [if_neg e, if_neg fun e2 => e ((h i hi).2 e2)]

theorem prime0 : ∀ a, a < 97 → ∀ b, b < 97 → a * b % 97 = 0 → a = 0 ∨ b = 0 := by decide +kernel
theorem prime97 {a b : Int} (h : a * b % 97 = 0) : a % 97 = 0 ∨ b % 97 = 0 := by
  obtain ⟨x, hx⟩ := Int.eq_ofNat_of_zero_le (Int.emod_nonneg a (show (97 : Int) ≠ 0 by decide))
  obtain ⟨y, hy⟩ := Int.eq_ofNat_of_zero_le (Int.emod_nonneg b (show (97 : Int) ≠ 0 by decide))
  have hx2 := Int.emod_lt_of_pos a (show (0 : Int) < 97 by decide)
  have hy2 := Int.emod_lt_of_pos b (show (0 : Int) < 97 by decide)
  rw [Int.mul_emod, hx, hy] at h
  have h2 : x * y % 97 = 0 := by
    have e : ((x * y % 97 : Nat) : Int) = 0 := by rw [← h]; simp
    omega
  rcases prime0 x (by omega) y (by omega) h2 with e | e
  · left; omega
  · right; omega
theorem pw_apart0 : ∀ n, n < 97 → dv n = true → ∀ i, i < n → pw (rootN n) i ≠ 0 ∧ ∀ j, j < i → pw (rootN n) i ≠ pw (rootN n) j := by decide +kernel

def prodL (W : Nat) : List Nat → Nat → Int
  | [], _ => 1
  | z :: L, i => (((W ^ i : Nat) : Int) - ((W ^ z : Nat) : Int)) * prodL W L i
def SL (W : Nat) (f : Nat → Int) (n : Nat) (L : List Nat) (k : Nat) : Int := sm (fun i => f i * (((W ^ (i * k) : Nat) : Int) * prodL W L i)) n
theorem SL_cons (W : Nat) (f : Nat → Int) (n z : Nat) (L : List Nat) (k : Nat) : SL W f n L (k + 1) = SL W f n (z :: L) k + ((W ^ z : Nat) : Int) * SL W f n L k := by
  unfold SL
  rw [← sm_mul, ← sm_plus]
  refine sm_congr fun i _ => ?_
  rw [prodL, Nat.mul_succ, Nat.pow_add, Int.natCast_mul]
  generalize ((W ^ (i * k) : Nat) : Int) = X
  generalize ((W ^ i : Nat) : Int) = Y
  generalize ((W ^ z : Nat) : Int) = Z
  generalize prodL W L i = p
  rw [Int.sub_mul, Int.mul_sub, Int.mul_sub]
  have e1 : f i * (X * (Z * p)) = Z * (f i * (X * p)) := by ac_rfl
  have e2 : f i * (X * Y * p) = f i * (X * (Y * p)) := by ac_rfl
  omega
theorem SL_zero (W : Nat) (f : Nat → Int) (n : Nat) (L : List Nat) : ∀ k, (∀ t, t ≤ L.length → SL W f n [] (k + t) % 97 = 0) → SL W f n L k % 97 = 0 := by
  induction L with
  | nil => intro k h; exact h 0 (Nat.le_refl _)
  | cons z L ih =>
    intro k h
    have h1 := ih k fun t ht => h t (by rw [List.length_cons]; omega)
    have h2 := ih (k + 1) fun t ht => by
      have := h (t + 1) (by rw [List.length_cons]; omega)
      rw [show k + 1 + t = k + (t + 1) by omega]; exact this
    have h3 := SL_cons W f n z L k
    have h4 : ((W ^ z : Nat) : Int) * SL W f n L k % 97 = 0 := by rw [Int.mul_emod, h1, Int.mul_zero]; rfl
    omega
theorem prodL_in {W i : Nat} {L : List Nat} (h : i ∈ L) : prodL W L i = 0 := by
  induction L with
  | nil => cases h
  | cons z L ih =>
    rw [prodL]
    rcases List.mem_cons.1 h with e | e
    · rw [e, Int.sub_self, Int.zero_mul]
    · rw [ih e, Int.mul_zero]
theorem prodL_out {n i : Nat} (hn : dv n = true) (hi : i < n) {L : List Nat} (h : ∀ z, z ∈ L → z < n ∧ z ≠ i) : prodL (rootN n) L i % 97 ≠ 0 := by
  induction L with
  | nil => rw [prodL]; decide
  | cons z L ih =>
    intro e
    rw [prodL] at e
    rcases prime97 e with e1 | e1
    · obtain ⟨hz, hne⟩ := h z (List.mem_cons_self ..)
      have a1 := pw_cg (rootN n) i
      have a2 := pw_cg (rootN n) z
      have b1 := pw_lt (rootN n) i
      have b2 := pw_lt (rootN n) z
      have e2 : pw (rootN n) i = pw (rootN n) z := by omega
      have hn2 := (dv_iff.1 hn).2.1
      rcases Nat.lt_or_ge z i with hlt | hge
      · exact (pw_apart0 n hn2 hn i hi).2 z hlt e2
      · exact (pw_apart0 n hn2 hn z hz).2 i (by omega) e2.symm
    · exact ih (fun z hz => h z (List.mem_cons_of_mem _ hz)) e1
def supL (f : Nat → Int) (i0 : Nat) : Nat → List Nat
  | 0 => []
  | k + 1 => if f k ≠ 0 ∧ k ≠ i0 then k :: supL f i0 k else supL f i0 k
theorem supL_mem {f : Nat → Int} {i0 i : Nat} {n : Nat} : i ∈ supL f i0 n ↔ i < n ∧ f i ≠ 0 ∧ i ≠ i0 := by
  induction n with
  | zero => simp [supL]
  | succ k ih =>
    rw [supL]
    split
    · rename_i h
      rw [List.mem_cons, ih]
      constructor
      · rintro (e | ⟨h1, h2⟩)
        · subst e; exact ⟨by omega, h⟩
        · exact ⟨by omega, h2⟩
      · rintro ⟨h1, h2⟩
        by_cases e : i = k
        · exact .inl e
        · exact .inr ⟨by omega, h2⟩
    · rename_i h
      rw [ih]
      constructor
      · rintro ⟨h1, h2⟩; exact ⟨by omega, h2⟩
      · rintro ⟨h1, h2⟩
        refine ⟨?_, h2⟩
        by_cases e : i = k
        · subst e; exact absurd h2 h
        · omega
theorem supL_len {f : Nat → Int} {i0 : Nat} (h0 : f i0 ≠ 0) (n : Nat) : ((supL f i0 n).length : Int) + (if i0 < n then 1 else 0) = nz f n := by
  induction n with
  | zero => simp [supL, nz, sm]
  | succ k ih =>
    have e : nz f (k + 1) = nz f k + (if f k = 0 then 0 else 1) := rfl
    rw [e, supL]
    by_cases hk : k = i0
    · subst hk
      rw [if_neg (fun h => h.2 rfl), if_pos (by omega), if_neg h0]
      rw [if_neg (by omega)] at ih
      omega
    · by_cases hf : f k = 0
      · rw [if_neg (fun h => h.1 hf), if_pos hf]
        by_cases hlt : i0 < k
        · rw [if_pos (by omega)]; rw [if_pos hlt] at ih; omega
        · rw [if_neg (by omega)]; rw [if_neg hlt] at ih; omega
      · rw [if_pos ⟨hf, hk⟩, if_neg hf, List.length_cons]
        by_cases hlt : i0 < k
        · rw [if_pos (by omega)]; rw [if_pos hlt] at ih; omega
        · rw [if_neg (by omega)]; rw [if_neg hlt] at ih; omega
theorem wv_SL {n : Nat} (h : dv n = true) (f : Nat → Int) (k : Nat) : wvAt (rootN n) f n k = SL (rootN n) f n [] k % 97 := by
  obtain ⟨f1, _⟩ := rinv_facts0 n (dv_iff.1 h).2.1 h
  unfold wvAt SL
  refine sm_cg fun i _ => cg_mul rfl ?_
  rw [prodL, Int.mul_one, pw_period f1, pw_cg]
theorem wv_period (r : Nat) (f : Nat → Int) (n k : Nat) : wvAt r f n (k + n) = wvAt r f n k := by
  unfold wvAt
  exact congrArg (· % 97) (sm_congr fun i _ => by rw [Nat.mul_add, Nat.add_mul_mod_self_right])
theorem sm_cycle {G : Nat → Int} {n : Nat} (h : ∀ k, G (k + n) = G k) (t : Nat) : sm (fun k => G (k + t)) n = sm G n := by
  induction t with
  | zero => rfl
  | succ t ih =>
    rw [← ih]
    have h1 := sm_shift (fun k => G (k + t)) n
    rw [sm] at h1
    have h2 : G (n + t) = G (0 + t) := by rw [Nat.add_comm n t, h, Nat.zero_add]
    have h3 : sm (fun i => G (i + 1 + t)) n = sm (fun k => G (k + (t + 1))) n := sm_congr fun i _ => by rw [Nat.add_assoc, Nat.add_comm 1 t]
    have h4 : sm (fun k => G (k + t)) n + G (n + t) = G (0 + t) + sm (fun i => G (i + 1 + t)) n := h1
    omega
theorem sm_one_le {G : Nat → Int} {n t : Nat} (h : ∀ i, 0 ≤ G i) (ht : t < n) (h1 : 1 ≤ G t) : 1 ≤ sm G n := by
  induction n with
  | zero => omega
  | succ k ih =>
    rw [sm]
    have hk := h k
    by_cases e : t = k
    · subst e
      have : 0 ≤ sm G t := by
        clear ih ht h1 hk
        induction t with
        | zero => exact Int.le_refl _
        | succ t ih => rw [sm]; have := h t; omega
      omega
    · have := ih (by omega); omega
theorem sm_ones_le {G : Nat → Int} {n : Nat} (h : ∀ i, i < n → 1 ≤ G i) : (n : Int) ≤ sm G n := by
  induction n with
  | zero => exact Int.le_refl _
  | succ k ih => rw [sm]; have := ih fun i hi => h i (by omega); have := h k (by omega); omega
theorem sm_const (c : Int) (n : Nat) : sm (fun _ => c) n = n * c := by
  induction n with
  | zero => simp [sm]
  | succ k ih => rw [sm, ih, Int.natCast_add, Int.add_mul]; simp
/-- Narrow and wide. -/
theorem spread {n : Nat} (h : dv n = true) (f : Nat → Int) (hf : ∀ i, i < n → 0 ≤ f i ∧ f i < 97) :
    (nz f n = 0 ∧ nz (wvAt (rootN n) f n) n = 0) ∨ (n : Int) ≤ nz f n * nz (wvAt (rootN n) f n) n := by
  by_cases h0 : ∀ i, i < n → f i = 0
  · left
    constructor
    · exact sm_zeros fun i hi => if_pos (h0 i hi)
    · refine sm_zeros fun k _ => if_pos ?_
      unfold wvAt
      rw [sm_zeros fun i hi => by rw [h0 i hi, Int.zero_mul]]; rfl
  · right
    obtain ⟨i0, hi0, hne⟩ : ∃ i, i < n ∧ f i ≠ 0 := by
      by_cases he : ∃ i, i < n ∧ f i ≠ 0
      · exact he
      · exact absurd (fun i hi => by
          by_cases e : f i = 0
          · exact e
          · exact absurd ⟨i, hi, e⟩ he) h0
    have hlen := supL_len hne n
    rw [if_pos hi0] at hlen
    obtain ⟨a, ha⟩ : ∃ a : Nat, a = (supL f i0 n).length + 1 := ⟨_, rfl⟩
    have hna : nz f n = a := by omega
    -- no window of a places without a number other than 0
    have hwin : ∀ k, ∃ t, t < a ∧ wvAt (rootN n) f n (k + t) ≠ 0 := fun k => by
      by_cases he : ∃ t, t < a ∧ wvAt (rootN n) f n (k + t) ≠ 0
      · exact he
      · exfalso
        have hz : SL (rootN n) f n (supL f i0 n) k % 97 = 0 := SL_zero _ _ _ _ k fun t ht => by
          rw [← wv_SL h]
          by_cases e : wvAt (rootN n) f n (k + t) = 0
          · exact e
          · exact absurd ⟨t, by omega, e⟩ he
        have hs : SL (rootN n) f n (supL f i0 n) k = f i0 * (((rootN n ^ (i0 * k) : Nat) : Int) * prodL (rootN n) (supL f i0 n) i0) := sm_single hi0 fun i hi hii => by
          by_cases e : f i = 0
          · rw [e, Int.zero_mul]
          · rw [prodL_in (supL_mem.2 ⟨hi, e, hii⟩), Int.mul_zero, Int.mul_zero]
        rw [hs] at hz
        rcases prime97 hz with e | e
        · have := hf i0 hi0; omega
        · rcases prime97 e with e | e
          · obtain ⟨f1, _⟩ := rinv_facts0 n (dv_iff.1 h).2.1 h
            have e2 := pw_cg (rootN n) (i0 * k)
            rw [← pw_period f1] at e2
            have e3 := (pw_apart0 n (dv_iff.1 h).2.1 h (i0 * k % n) (Nat.mod_lt _ (by omega))).1
            have e4 := pw_lt (rootN n) (i0 * k % n)
            omega
          · exact prodL_out h hi0 (fun z hz => ⟨(supL_mem.1 hz).1, (supL_mem.1 hz).2.2⟩) e
    have hG : ∀ k, (fun k => if wvAt (rootN n) f n k = 0 then (0 : Int) else 1) (k + n) = (fun k => if wvAt (rootN n) f n k = 0 then (0 : Int) else 1) k := fun k => by
      show (if wvAt (rootN n) f n (k + n) = 0 then (0 : Int) else 1) = _
      rw [wv_period]
    have h1 : (n : Int) ≤ sm (fun k => sm (fun t => if wvAt (rootN n) f n (k + t) = 0 then (0 : Int) else 1) a) n := sm_ones_le fun k _ => by
      obtain ⟨t, ht, hw⟩ := hwin k
      refine sm_one_le (fun i => ?_) ht (by rw [if_neg hw]; exact Int.le_refl _)
      split <;> omega
    rw [sm_swap] at h1
    have h2 : sm (fun t => sm (fun k => if wvAt (rootN n) f n (k + t) = 0 then (0 : Int) else 1) n) a = a * nz (wvAt (rootN n) f n) n := by
      rw [← sm_const]
      exact sm_congr fun t _ => sm_cycle (G := fun k => if wvAt (rootN n) f n k = 0 then (0 : Int) else 1) hG t
    rw [h2] at h1
    rw [hna]; exact h1
end Go.Proofs.YtmfffmipnbdpjaaGreatDoor
