/-
  Lists of texts joined; a map of named functions written out and looked into.
-/
import Derived.Test.YtmfffmipnbdpjaaGreatDoorDesk
import Derived.Lib.Join
import Derived.WideMake
namespace Go.Proofs.YtmfffmipnbdpjaaGreatDoor
open Go.RowKit

theorem ownS_head {w : World} {B : Nat} {a : Option Addr} {n c : Nat} {xs : List ByteArray} (h : OwnS w B a n c xs) {p : Addr} (hp : a = some p) : (Value.slice a n c).ownBlock = some p.block := by
  subst hp
  rcases h.2 with ⟨h1, _⟩ | ⟨g, cap, cur, hv, hg, hh, _⟩
  · cases h1
  · injection hv with e1 e2 e3; injection e1 with e1; subst e1; rfl
/-- 'append(ss, y)' of one text, block b left alone. -/
theorem app_str_away {ops : Array Oper} {rest : List Oper} {o : Oper} {a : Act} {Q : Exit → Act → World → Prop} (w : World) (hg : o.guard = none) (s x : Operand)
    (ho : o.op = .call { callee := .builtin .append, args := #[s, x], argTypes := #[22, 22] })
    (B : Nat) (a1 : Option Addr) (n c : Nat) (xs : List ByteArray) (y : ByteArray) (hs : a.eval s = .slice a1 n c) (hown : OwnS w B a1 n c xs)
    (b : Nat) (hb : b < w.heap.size) (hne : ∀ p, a1 = some p → p.block ≠ b)
    (hx : a.eval x = .slice (some ⟨w.heap.size, 0, none⟩) 1 1) (hn : n ≤ 1125899906) (hB : B ≤ w.heap.size)
    (h : ∀ a2 c2 w2, OwnS w2 B a2 (n + 1) c2 (xs ++ [y]) → w2.heap[b]? = w.heap[b]? → (∀ p, a2 = some p → p.block ≠ b) → w.grownBy w2 (Value.slice a1 n c).ownBlock → w.heap.size + 1 ≤ w2.heap.size → wpList Tryz.prog ops Q rest (a.put o.dst (.slice a2 (n + 1) c2)) w2) :
    wpList Tryz.prog ops Q (o :: rest) a (w.alloc (.cells #[.string y] 9)) := by
  obtain ⟨i0, hi, hz0, hz1, hz2⟩ := info_parts Tryz.infoStr
  have hA : w.grownBy (w.alloc (.cells #[.string y] 9)) (Value.slice a1 n c).ownBlock := World.grownBy_alloc w _ _
  refine wpList_plain hg fun _ hK => ?_
  refine wp_append_lies (w.alloc (.cells #[.string y] 9)) s x 22 ho B 9 i0 (.string ⟨#[]⟩) 1 16 Tryz.underlying22 hi hz0 hz1 hz2 rfl (by decide) (.slice a1 n c) n (xs.map Value.string) hs (hown.alloc _)
    ⟨w.heap.size, 0, none⟩ 1 1 ([y].map Value.string) hx (by simp) ?_ (strs_oneCell _) (by omega) (by unfold maxLen; omega) (by omega) (by simp; omega) (w.heap.size + 1) (by simp) ?_
  · intro j u hu
    rw [Addr.add_lit, Nat.zero_add, World.cell?_alloc_at _ _ _ _ rfl]
    simpa using hu
  · intro g cap w' hown' hgrow hat hlt
    have hgr : w.grownBy w' (Value.slice a1 n c).ownBlock :=
      ⟨hgrow.os.trans hA.os, hgrow.tape.trans hA.tape, hgrow.output.trans hA.output, Nat.le_trans hA.size hgrow.size, fun k hk hne => (hgrow.block k (Nat.lt_of_lt_of_le hk hA.size) hne).trans (hA.block k hk hne)⟩
    have hob : ∀ p, a1 = some p → (Value.slice a1 n c).ownBlock = some p.block := fun p hp => ownS_head hown hp
    refine hK _ _ (h (some ⟨g, 0, none⟩) cap w' ?_ ?_ ?_ hgr ?_)
    · show w'.ownsRow B 9 1 (.slice (some ⟨g, 0, none⟩) (n + 1) cap) (n + 1) ((xs ++ [y]).map Value.string)
      rw [List.map_append]; exact hown'
    · refine hgr.block b hb ?_
      cases a1 with
      | none => intro e; cases e
      | some p => rw [hob p rfl]; intro e; injection e with e; exact hne p rfl e.symm
    · intro p hp
      injection hp with hp; subst hp
      show g ≠ b
      rcases hat with hat | hat
      · cases a1 with
        | none => cases hat
        | some p1 =>
          rw [hob p1 rfl] at hat
          injection hat with hat
          rw [← hat]; exact hne p1 rfl
      · omega
    · have := hgrow.size; simp at this; exact this

/-- The texts of the first k numbers. -/
def tlB (xs : List Int) : Nat → List ByteArray
  | 0 => []
  | k + 1 => tlB xs k ++ [numB (el xs k)]
theorem tlB_len (xs : List Int) (k : Nat) : (tlB xs k).length = k := by
  induction k with
  | zero => rfl
  | succ k ih => rw [tlB, List.length_append, ih]; rfl
theorem join_snoc (l : List (List UInt8)) (y sep : List UInt8) (h : l ≠ []) : Lib.join (l ++ [y]) sep = Lib.join l sep ++ sep ++ y := by
  cases l with
  | nil => exact absurd rfl h
  | cons x r =>
    rw [List.cons_append, Lib.join_cons, Lib.join_cons, Lib.joinTail, Lib.joinTail]
    simp [List.append_assoc]
theorem join_tlB (xs : List Int) (k : Nat) : Lib.join ((tlB xs k).map (·.data.toList)) [44] = (ltx xs k).data.toList := by
  induction k with
  | zero => exact (bs_data []).symm
  | succ k ih =>
    rw [tlB, List.map_append, List.map_singleton]
    by_cases h : 0 < k
    · rw [join_snoc _ _ _ (by intro e; have := congrArg List.length e; rw [List.length_map, tlB_len] at this; simp at this; omega), ih, ltx_more xs h]
      rw [ByteArray.data_append, Array.toList_append, ByteArray.data_append, Array.toList_append, bs_data]
    · obtain rfl : k = 0 := by omega
      rw [ltx_one, ByteArray.data_append, Array.toList_append, bs_data]
      exact Lib.join_one _ _
theorem join_size (xs : List Int) (k : Nat) : (Lib.join ((tlB xs k).map (·.data.toList)) [44]).length = (ltx xs k).size := by
  rw [join_tlB, Lib.size_eq]

theorem push_set {α : Type} (l : Array α) (a b : α) : (l.push a).setIfInBounds l.size b = l.push b := by
  apply Array.ext_getElem?
  intro i
  rw [Array.getElem?_setIfInBounds, Array.getElem?_push, Array.getElem?_push]
  by_cases hi : l.size = i
  · subst hi; simp
  · have h2 : ¬ i = l.size := fun e => hi e.symm
    simp [hi, h2]
/-- A map written out: one more entry, its key not there yet. -/
theorem wpList_put {ops : Array Oper} {rest : List Oper} {o : Oper} {a : Act} {Q : Exit → Act → World → Prop} (w : World) (hg : o.guard = none) (m x v : Operand) (t kt et : TypeId) (hop : o.op = Op.insert t m x v)
    (ht : Tryz.prog.underlying t = some (.map kt et)) (hk : Tryz.prog.underlying kt = some .string) (es : Array MapEntry) (clock : Nat) (s : ByteArray) (val : Value)
    (hm : a.eval m = .map (some w.heap.size)) (hx : a.eval x = .string s) (hv : a.eval v = val) (hf : Instr.findNow .string (.string s) es.toList 0 = some none)
    (hK : wpList Tryz.prog ops Q rest (a.put o.dst undef) (w.alloc (.map (es.push { key := .string s, val := val, born := clock }) (clock + 1)))) :
    wpList Tryz.prog ops Q (o :: rest) a (w.alloc (.map es clock)) := by
  refine wpList_plain hg fun K' hK' => ?_
  have hb : (w.alloc (.map es clock)).heap[w.heap.size]? = some (.map es clock) := heap_alloc_new w _
  have hc : (Instr.checkKey false 10000 kt (.string s)).run Tryz.prog (w.alloc (.map es clock)) = .ok () (w.alloc (.map es clock)) := MapKept.run_checkKey (k := .string s) hk (by simp [MapKept.IsKey]) false 9999
  have hrun : (Instr.mapUpdate t (.map (some w.heap.size)) (.string s) val).run Tryz.prog (w.alloc (.map es clock)) = .ok () { w.alloc (.map es clock) with heap := (w.alloc (.map es clock)).heap.setIfInBounds w.heap.size (.map (es.push { key := .string s, val := val, born := clock }) (clock + 1)) } := by
    simp [Instr.mapUpdate, run_underlying ht, MapKept.run_getObj_map hb, hc, MapKept.run_findKey hk hf, MapKept.run_setObj_map _ hb, Result.andThen]
  have e : ({ w.alloc (.map es clock) with heap := (w.alloc (.map es clock)).heap.setIfInBounds w.heap.size (.map (es.push { key := .string s, val := val, born := clock }) (clock + 1)) } : World) = w.alloc (.map (es.push { key := .string s, val := val, born := clock }) (clock + 1)) :=
    congrArg (fun h => ({ w with heap := h } : World)) (push_set w.heap _ _)
  rw [e] at hrun
  unfold Oper.wp
  simp [execOp, hop, hm, hx, hv, hrun, Result.andThen]
  exact hK' _ _ hK
theorem run_look (w : World) (t kt et : TypeId) (ht : Tryz.prog.underlying t = some (.map kt et)) (hk : Tryz.prog.underlying kt = some .string) (r clock : Nat) (es : Array MapEntry) (s : ByteArray) (i : Nat) (v : Value)
    (hb : w.heap[r]? = some (.map es clock)) (hf : Instr.findNow .string (.string s) es.toList 0 = some (some (i, v))) :
    (Instr.lookup t (.map (some r)) (.string s) true).run Tryz.prog w = .ok (.tuple #[v, .bool true]) w := by
  have hc : (Instr.checkKey es.isEmpty 10000 kt (.string s)).run Tryz.prog w = .ok () w := MapKept.run_checkKey (k := .string s) hk (by simp [MapKept.IsKey]) _ 9999
  simp [Instr.lookup, run_underlying ht, MapKept.run_getObj_map hb, hc, MapKept.run_findKey hk hf, Result.andThen]
theorem run_look_no (w : World) (t kt et : TypeId) (ht : Tryz.prog.underlying t = some (.map kt et)) (hk : Tryz.prog.underlying kt = some .string) (r clock : Nat) (es : Array MapEntry) (s : ByteArray) (z : Value)
    (hb : w.heap[r]? = some (.map es clock)) (hz : (zeroValue et).run Tryz.prog w = .ok z w) (hf : Instr.findNow .string (.string s) es.toList 0 = some none) :
    (Instr.lookup t (.map (some r)) (.string s) true).run Tryz.prog w = .ok (.tuple #[z, .bool false]) w := by
  have hc : (Instr.checkKey es.isEmpty 10000 kt (.string s)).run Tryz.prog w = .ok () w := MapKept.run_checkKey (k := .string s) hk (by simp [MapKept.IsKey]) _ 9999
  simp [Instr.lookup, run_underlying ht, MapKept.run_getObj_map hb, hc, MapKept.run_findKey hk hf, hz, Result.andThen]
theorem zero_fn (w : World) : (zeroValue 44).run Tryz.prog w = .ok .nilFunc w := by kernel_rfl
end Go.Proofs.YtmfffmipnbdpjaaGreatDoor
