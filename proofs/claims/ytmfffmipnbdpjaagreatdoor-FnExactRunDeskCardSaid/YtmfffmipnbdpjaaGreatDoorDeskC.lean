/-
  What the row's list gives the walk.
-/
import Derived.Test.YtmfffmipnbdpjaaGreatDoorDesk7
import Derived.Test.YtmfffmipnbdpjaaGreatDoorCards
import Derived.Test.YtmfffmipnbdpjaaGreatDoorTie
import Derived.WalkKit
import Derived.ProofKit
import Derived.OpenShut
import Derived.SliceStrings
import Derived.Deep.DeepHandedRow
import Derived.Lib.LaidTab
import Derived.Stop.LaidErr
import Derived.Shelf.Vars
namespace Go.Proofs.YtmfffmipnbdpjaaGreatDoor
open Go.ChangeShapes Go.WideShapes Go.ChangeAt Go.RowKit

theorem gt1 : (Tryz.prog.globals[1]?).map (·.type) = some 62 := by kernel_rfl
theorem gt2 : (Tryz.prog.globals[2]?).map (·.type) = some 62 := by kernel_rfl
theorem gt3 : (Tryz.prog.globals[3]?).map (·.type) = some 104 := by kernel_rfl
theorem cells5t : Tryz.prog.cellsOf 116 = 1 := by kernel_rfl
theorem cells9t : Tryz.prog.cellsOf 9 = 1 := by kernel_rfl
theorem cells104 : Tryz.prog.cellsOf 104 = 20 := by kernel_rfl
theorem cells88 : Tryz.prog.cellsOf 88 = 1 := by kernel_rfl
theorem starE : "*" ++ "errors.errorString" = "*errors.errorString" := by decide
theorem row114 (u : TypeId) (h : Tryz.prog.typeName? 3 u = some "*errors.errorString") : u = 114 :=
  typeName_ptr_named (nm := "errors.errorString") (by rw [starE]; kernel_rfl) (by kernel_rfl) (by decide) u (by rw [starE]; exact h)
/-- What the row's list and the world's shape give. -/
theorem env_of {W : World} (hL : laidMet Tryz.prog Rows.fnExactRunDeskRow.laid W) (hsh : W.ShapedOpen Tryz.prog) : Env W := by
  have h3 := laidMet.tail (laidMet.tail hL)
  have h5 := laidMet.tail (laidMet.tail h3)
  have h6 := laidMet.tail h5
  have htab : Lib.TabIs Tryz.prog W "internal/strconv.uint64pow10" .u64 Lib.pow10Tab := Lib.tabIs_of_head glob3 gt3 Tryz.underlying104 Tryz.underlying88 cells88 cells104 h3
  obtain ⟨a2, s2, hv2, _⟩ := laid_sentinel h5 glob2 gt2 Tryz.underlying62 row114 Tryz.underlying114 Tryz.underlying116 rfl rfl Tryz.underlying9 cells5t cells9t
  obtain ⟨a1, s1, hv1, _⟩ := laid_sentinel h6 glob1 gt1 Tryz.underlying62 row114 Tryz.underlying114 Tryz.underlying116 rfl rfl Tryz.underlying9 cells5t cells9t
  have hm := cell_of_shapedOpen_int (g := 0) (t := 3) (zero := #[.int .i64 0]) (k := .i64) hsh (by decide +kernel) (by kernel_rfl) rfl (by kernel_rfl) (by kernel_rfl) Tryz.underlying3
  refine ⟨hm, ⟨_, _, hv1⟩, ⟨_, _, hv2⟩, htab, ?_⟩
  obtain ⟨ps, ⟨g', t', cs, fuel, p, q, hg', ht', hvar, _⟩, _⟩ := laidMet.tail hL
  have hg7 : Tryz.prog.globalNamed "math/bits.deBruijn64tab" = some 7 := by kernel_rfl
  unfold World.var? at hvar
  simp only [hg7, Option.bind_some] at hvar
  rcases Nat.lt_or_ge 7 W.heap.size with h | h
  · omega
  · rw [Array.getElem?_eq_none h] at hvar; cases hvar
open Go.ChangeMaps (open_string shut_string)

theorem laidOutE : laidOutB Tryz.prog = true := by kernel_rfl
/-- A list of texts that came in, as the walk wants it. -/
theorem open_rowS {H : Type} {enc : TypeId × Value → H} {W : World} {a0 : Option Addr} {len cap fuel : Nat} {x : DataW H × List MemPlace}
    (hf : DataW.trod enc Tryz.prog W 0 (fun _ => true) true fuel 22 [.slice a0 len cap] = some x) :
    ∃ ss, RowS W a0 len cap ss ∧ len ≤ maxLen ∧ ∀ i, i < len → (st ss i).size ≤ maxLen := by
  rcases open_strings Tryz.underlying22 Tryz.underlying9 cells9t hf with ⟨hcs, _⟩ | ⟨a, l, c, ss, hcs, _, hl, hm, hz, _, hcell, hsz⟩
  · simp at hcs
    obtain ⟨rfl, rfl, rfl⟩ := hcs
    exact ⟨[], ⟨rfl, fun i hi => by omega⟩, Nat.zero_le _, fun i hi => by omega⟩
  · simp at hcs
    obtain ⟨rfl, rfl, rfl⟩ := hcs
    simp only [if_true] at hz
    have hst : ∀ i, i < len → st (ss.take len) i = ss.getD i ByteArray.empty := by
      intro i hi
      unfold st
      simp [List.getD, List.getElem?_take, hi]
    obtain ⟨b, off, spot⟩ := a
    refine ⟨ss.take len, ⟨by simp; omega, fun i hi => ?_⟩, by omega, fun i hi => ?_⟩
    · have hspot : spot = none := by simpa [Addr.add] using World.cell?_spot (hcell 0 (by omega))
      subst hspot
      have hlt : b < W.heap.size := by
        have h0 := hcell 0 (by omega)
        rcases Nat.lt_or_ge b W.heap.size with h | h
        · exact h
        · simp [World.cell?, Addr.add, Array.getElem?_eq_none h] at h0
      exact ⟨b, off, rfl, hlt, fun j hj => by rw [hst j hj]; have h9 := hcell j (by omega); rw [Addr.add_lit] at h9; exact h9⟩
    · rw [hst i hi]
      have hi2 : i < ss.length := by omega
      have : ss.getD i ByteArray.empty = ss[i] := by simp [List.getD, hi2]
      rw [this]; exact hsz _ (List.getElem_mem hi2)
set_option maxRecDepth 100000 in
theorem contractE (H : Type) (enc : TypeId × Value → H) (W : World) (base : Nat) (args : Array Value) (ds gs : List (DataW H)) (before : List MemPlace)
    (hval0 : ∀ (j : Nat) t v, Tryz.f3.params[j]? = some t → args[j]? = some v → Value.okWide Tryz.prog W .any base t v)
    (hW : DataW.Whole enc Tryz.prog Tryz.f3.params.toList Rows.fnExactRunDeskSpec.vars false W args.toList ds gs before) (hL : laidMet Tryz.prog Rows.fnExactRunDeskRow.laid W) (hsh : W.ShapedOpen Tryz.prog) :
    Calls Tryz.prog 3 args W fun e W' => ∃ v, e = .returned v ∧ Rows.fnExactRunDeskSpec.post enc Tryz.prog Tryz.f3 false true false false W args v W' := by
  have hval : ∀ (j : Nat) t v, Tryz.f3.params[j]? = some t → args[j]? = some v → Value.okWide Tryz.prog W .any base t v := hval0
  have hW' := hW
  obtain ⟨p, q, hA0, hV, rfl, hfz, hnd⟩ := hW
  have hA : DataW.TrodAll enc Tryz.prog W 0 (fun _ => true) true Tryz.f3.params.toList args.toList ds p := hA0
  rw [Tryz.params3] at hA hval
  obtain ⟨v0, vs0, d0, ds0, p0, q0, hargs, rfl, rfl, h0, r0⟩ := trodAll_cons hA
  obtain ⟨rfl, rfl, rfl⟩ := trodAll_nil r0
  obtain rfl : args = #[v0] := by cases args; simp_all
  obtain ⟨rfl, rfl⟩ := trodVars_none hV
  obtain ⟨a0, len0, cap0, rfl⟩ := okWide_slice Tryz.underlying22 (hval 0 22 v0 rfl rfl)
  have k0 := h0
  have lt0 : ∀ x ∈ p0, x.block < W.heap.size := by obtain ⟨m, hm⟩ := k0; exact DataW.trod_lt m _ _ _ hm
  obtain ⟨fuel, hf⟩ := h0
  obtain ⟨ss, hrow, hlen, hsz⟩ := open_rowS hf
  clear hA0 hval0
  refine (law_ExactRunDesk W a0 len0 cap0 ss (env_of hL hsh) hrow (by unfold maxLen at hlen; omega) fun i hi => by have := hsz i hi; unfold maxLen at this; omega).mono fun e W' ⟨he, bel⟩ => ?_
  subst he
  exact ⟨_, rfl, _, _, _, [], _, [], hW', trodAll_mk1 (shut_bool Tryz.underlying4 _), (trodAll_cons_mk (Below.trod laidOutE (by kernel_rfl) (of_decide_eq_true (by kernel_rfl)) k0 bel lt0) trodAll_mk0), rfl, bel.frame _, fun h => by cases h⟩
end Go.Proofs.YtmfffmipnbdpjaaGreatDoor
