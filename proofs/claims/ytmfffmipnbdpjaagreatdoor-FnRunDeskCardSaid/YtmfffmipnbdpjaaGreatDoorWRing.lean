/-
  Plain facts on turned rests and on products round a row.
-/
import Derived.Test.YtmfffmipnbdpjaaGreatDoorWSpread
namespace Go.Proofs.YtmfffmipnbdpjaaGreatDoor
open Go.RowKit

/-- The row turned by t places. -/
def tnAt (f : Nat → Int) (n t j : Nat) : Int := f ((j + (n - t % n)) % n)
theorem tn_at (f : Nat → Int) {n t i : Nat} (hi : i < n) : tnAt f n t ((i + t) % n) = f i := by
  have h1 : ((i + t) % n + (n - t % n)) % n = i := by
    have ht := Nat.mod_lt t (show 0 < n by omega)
    rw [Nat.add_mod, Nat.mod_mod, ← Nat.add_mod]
    have h2 : i + t + (n - t % n) = i + n + (t - t % n) := by have := Nat.mod_le t n; omega
    have h3 : t - t % n = n * (t / n) := by have := Nat.div_add_mod t n; omega
    rw [h2, h3, Nat.add_mul_mod_self_left, Nat.add_mod_right, Nat.mod_eq_of_lt hi]
  rw [tnAt, h1]
theorem tn_idx {n t : Nat} (j : Nat) (hj : j < n) : ∃ i, i < n ∧ (i + t) % n = j ∧ (j + (n - t % n)) % n = i := by
  refine ⟨(j + (n - t % n)) % n, Nat.mod_lt _ (by omega), ?_, rfl⟩
  have ht := Nat.mod_lt t (show 0 < n by omega)
  rw [Nat.add_mod, Nat.mod_mod, ← Nat.add_mod]
  have h2 : j + (n - t % n) + t = j + n + (t - t % n) := by have := Nat.mod_le t n; omega
  have h3 : t - t % n = n * (t / n) := by have := Nat.div_add_mod t n; omega
  rw [h2, h3, Nat.add_mul_mod_self_left, Nat.add_mod_right, Nat.mod_eq_of_lt hj]
theorem tn_bd {f : Nat → Int} {n t j : Nat} {lo hi : Int} (h : ∀ i, i < n → lo ≤ f i ∧ f i < hi) (hj : j < n) : lo ≤ tnAt f n t j ∧ tnAt f n t j < hi := h _ (Nat.mod_lt _ (by omega))
theorem tn_period (f : Nat → Int) (n t k : Nat) : tnAt f n t (k + n) = tnAt f n t k := by
  unfold tnAt; rw [show k + n + (n - t % n) = k + (n - t % n) + n by omega, Nat.add_mod_right]
theorem tn_shift (f : Nat → Int) {n t i : Nat} (hi : i < n) : tnAt f n t (i + t) = f i := by
  have h := tn_at f (t := t) hi
  unfold tnAt at *
  rw [Nat.add_mod, Nat.mod_mod, ← Nat.add_mod] at h
  exact h
theorem tn_nz (f : Nat → Int) (n t : Nat) : nz (tnAt f n t) n = nz f n := by
  unfold nz
  rw [← sm_cycle (G := fun i => if tnAt f n t i = 0 then (0 : Int) else 1) (n := n) (fun k => by show (if tnAt f n t (k + n) = 0 then (0 : Int) else 1) = _; rw [tn_period]) t]
  exact sm_congr fun i hi => by rw [tn_shift f hi]
theorem tn_wave (f : Nat → Int) {n t k : Nat} (h : dv n = true) : wvAt (rootN n) (tnAt f n t) n k = wvAt (rootN n) f n k * (pw (rootN n) (t * k) : Int) % 97 := by
  obtain ⟨f1, _⟩ := rinv_facts0 n (dv_iff.1 h).2.1 h
  have h1 : sm (fun j => tnAt f n t j * (pw (rootN n) (j * k % n) : Int)) n = sm (fun i => f i * (pw (rootN n) ((i + t) * k % n) : Int)) n := by
    rw [← sm_cycle (G := fun j => tnAt f n t j * (pw (rootN n) (j * k % n) : Int)) (n := n) (fun j => by
      show tnAt f n t (j + n) * (pw (rootN n) ((j + n) * k % n) : Int) = _
      rw [tn_period, Nat.add_mul, Nat.mul_comm n k, Nat.add_mul_mod_self_right]) t]
    exact sm_congr fun i hi => by rw [tn_shift f hi]
  have h2 : wvAt (rootN n) (tnAt f n t) n k = sm (fun i => (pw (rootN n) (t * k) : Int) * (f i * (pw (rootN n) (i * k % n) : Int))) n % 97 := by
    unfold wvAt
    rw [h1]
    refine sm_cg fun i _ => ?_
    rw [pw_period f1, pw_period f1, Nat.add_mul, Int.mul_left_comm]
    refine cg_mul rfl ?_
    rw [Nat.add_comm, pow_add_cg]
  rw [h2, sm_mul, Int.mul_comm]
  unfold wvAt
  exact (cg_mul (cg_self _) rfl).symm
theorem tn_wave_zero (f : Nat → Int) {n t k : Nat} (h : dv n = true) : wvAt (rootN n) (tnAt f n t) n k = 0 ↔ wvAt (rootN n) f n k = 0 := by
  obtain ⟨f1, _⟩ := rinv_facts0 n (dv_iff.1 h).2.1 h
  rw [tn_wave f h]
  constructor
  · intro e
    rcases prime97 e with e | e
    · have := wvAt_bd (rootN n) f n k; omega
    · rw [← pw_period f1] at e
      have e3 := (pw_apart0 n (dv_iff.1 h).2.1 h (t * k % n) (Nat.mod_lt _ (by have := (dv_iff.1 h).1; omega))).1
      have e4 := pw_lt (rootN n) (t * k % n)
      omega
  · intro e; rw [e, Int.zero_mul]; rfl
theorem tn_wave_nz (f : Nat → Int) {n t : Nat} (h : dv n = true) : nz (wvAt (rootN n) (tnAt f n t) n) n = nz (wvAt (rootN n) f n) n := nz_iff fun _ _ => tn_wave_zero f h
theorem tn_add (f : Nat → Int) {n t j : Nat} (hj : j < n) : tnAt (tnAt f n t) n 1 j = tnAt f n (t + 1) j := by
  obtain ⟨i, hi, e1, _⟩ := tn_idx (t := t + 1) j hj
  rw [← e1, tn_at f hi]
  have e2 : (i + (t + 1)) % n = ((i + t) % n + 1) % n := by rw [← Nat.add_assoc, Nat.mod_add_mod]
  rw [e2, tn_at _ (Nat.mod_lt _ (by omega)), tn_at f hi]

/-- Products round a row. -/
def rrow (n : Nat) (f g : Nat → Int) (x k r : Nat) : Int := sm (fun j => if (x + j) % n = r then f x * g j else 0) k
def rgAt (n : Nat) (f g : Nat → Int) (x k r : Nat) : Int := (sm (fun i => rrow n f g i n r) x + rrow n f g x k r) % 97
theorem rg_zero (f g : Nat → Int) (n N : Nat) : tab (fun _ => 0) N = tab (rgAt n f g 0 0) N := tab_congr fun r _ => by simp [rgAt, rrow, sm]
theorem rg_end (f g : Nat → Int) (n x r : Nat) : rgAt n f g x n r = rgAt n f g (x + 1) 0 r := by simp [rgAt, rrow, sm]
theorem rg_step (f g : Nat → Int) (n x k r : Nat) : rgAt n f g x (k + 1) r = if r = (x + k) % n then (rgAt n f g x k r + f x * g k) % 97 else rgAt n f g x k r := by
  rw [rgAt, rgAt, rrow, sm, ← rrow]
  split
  · rename_i h; rw [if_pos h.symm, Int.emod_add_emod, Int.add_assoc]
  · rename_i h; rw [if_neg (Ne.symm h), Int.add_zero]
theorem rg_bd (f g : Nat → Int) (n x k r : Nat) : 0 ≤ rgAt n f g x k r ∧ rgAt n f g x k r < 97 := ⟨Int.emod_nonneg _ (by decide), Int.emod_lt_of_pos _ (by decide)⟩
theorem rg_set (f g : Nat → Int) (n x k N : Nat) (h : (x + k) % n < N) : (tab (rgAt n f g x k) N).set ((x + k) % n) ((rgAt n f g x k ((x + k) % n) + f x * g k) % 97) = tab (rgAt n f g x (k + 1)) N := by
  apply el_ext
  · simp [tab_length]
  · intro i hi
    have hi' : i < N := by simpa [tab_length] using hi
    have e : el ((tab (rgAt n f g x k) N).set ((x + k) % n) ((rgAt n f g x k ((x + k) % n) + f x * g k) % 97)) i = if i = (x + k) % n then (rgAt n f g x k ((x + k) % n) + f x * g k) % 97 else el (tab (rgAt n f g x k) N) i := by
      unfold el
      by_cases e : i = (x + k) % n
      · subst e; simp [List.getD, tab_length, h]
      · rw [if_neg e]; simp [List.getD, List.getElem?_set, Ne.symm e]
    rw [e, el_tab hi', el_tab hi', rg_step]
    split
    · rename_i h; rw [h]
    · rfl
/-- The whole product. -/
def ringF (n : Nat) (f g : Nat → Int) (r : Nat) : Int := rgAt n f g n 0 r
theorem ring_cg (n : Nat) (f g : Nat → Int) (r : Nat) : ringF n f g r = sm (fun i => rrow n f g i n r) n % 97 := by rw [ringF, rgAt, rrow, sm, Int.add_zero]
theorem ring_comm (n : Nat) (f g : Nat → Int) (r : Nat) : ringF n f g r = ringF n g f r := by
  rw [ring_cg, ring_cg]
  unfold rrow
  rw [sm_swap]
  exact congrArg (· % 97) (sm_congr fun i _ => sm_congr fun j _ => by rw [Nat.add_comm, Int.mul_comm])
theorem ring_wave (f g : Nat → Int) {n k : Nat} (h : dv n = true) : wvAt (rootN n) (ringF n f g) n k = wvAt (rootN n) f n k * wvAt (rootN n) g n k % 97 := by
  obtain ⟨f1, _⟩ := rinv_facts0 n (dv_iff.1 h).2.1 h
  have hn := (dv_iff.1 h).1
  have h0 : wvAt (rootN n) (ringF n f g) n k = sm (fun r => sm (fun x => (pw (rootN n) (r * k % n) : Int) * rrow n f g x n r) n) n % 97 := by
    unfold wvAt
    refine sm_cg fun r _ => ?_
    rw [sm_mul, Int.mul_comm]
    refine cg_mul rfl ?_
    rw [ring_cg, cg_self]
  have h2 : ∀ x, x < n → sm (fun r => (pw (rootN n) (r * k % n) : Int) * rrow n f g x n r) n % 97 = (f x * (pw (rootN n) (x * k % n) : Int)) * sm (fun j => g j * (pw (rootN n) (j * k % n) : Int)) n % 97 := fun x hx => by
    have a1 : sm (fun r => (pw (rootN n) (r * k % n) : Int) * rrow n f g x n r) n = sm (fun j => sm (fun r => (pw (rootN n) (r * k % n) : Int) * (if (x + j) % n = r then f x * g j else 0)) n) n := by
      rw [← sm_swap]; exact sm_congr fun r _ => (sm_mul _ _ _).symm
    rw [a1, ← sm_mul]
    refine sm_cg fun j hj => ?_
    rw [sm_single (Nat.mod_lt (x + j) (show 0 < n by omega)) fun i _ hi => by rw [if_neg (Ne.symm hi), Int.mul_zero], if_pos rfl]
    have e1 : (pw (rootN n) ((x + j) % n * k % n) : Int) % 97 = (pw (rootN n) (x * k % n) : Int) * (pw (rootN n) (j * k % n) : Int) % 97 := by
      have e2 : (x + j) % n * k % n = (x + j) * k % n := by rw [Nat.mod_mul_mod]
      rw [e2, pw_period f1, pw_period f1, pw_period f1, Nat.add_mul, pow_add_cg]
    have e3 : f x * (pw (rootN n) (x * k % n) : Int) * (g j * (pw (rootN n) (j * k % n) : Int)) = (pw (rootN n) (x * k % n) : Int) * (pw (rootN n) (j * k % n) : Int) * (f x * g j) := by ac_rfl
    rw [e3]
    exact cg_mul e1 rfl
  rw [h0, sm_swap, sm_cg h2]
  have h3 : sm (fun x => f x * (pw (rootN n) (x * k % n) : Int) * sm (fun j => g j * (pw (rootN n) (j * k % n) : Int)) n) n = sm (fun j => g j * (pw (rootN n) (j * k % n) : Int)) n * sm (fun x => f x * (pw (rootN n) (x * k % n) : Int)) n := by
    rw [← sm_mul]; exact sm_congr fun x _ => Int.mul_comm _ _
  rw [h3, Int.mul_comm]
  unfold wvAt
  exact (cg_mul (cg_self _) (cg_self _)).symm
end Go.Proofs.YtmfffmipnbdpjaaGreatDoor
