/- The reader of a text: the kinds by their first bytes; a node is put to the others. -/
import Derived.Test.YtcddfpcapbdphaaGreatDoorJr9
import Derived.Test.YtcddfpcapbdphaaGreatDoorPartT
import Derived.Maps.OwnSet
import Derived.Maps.OwnOps
import Derived.Deep.RegionHeld3
import Derived.Deep.RegionLaw
namespace Go.Proofs.YtcddfpcapbdphaaGreatDoor
open Go.RowKit

/-- the kind of what begins with a byte, but for numbers -/
def kindB (c : UInt8) : Int := if c.toNat = 34 then 5 else if c.toNat = 91 then 6 else if c.toNat = 102 then 2 else if c.toNat = 110 then 1 else if c.toNat = 116 then 3 else if c.toNat = 123 then 7 else 0
def dKind : DataW Unit := .map [(.int .u8 34, .lit (.int .i64 5)), (.int .u8 91, .lit (.int .i64 6)), (.int .u8 102, .lit (.int .i64 2)), (.int .u8 110, .lit (.int .i64 1)), (.int .u8 116, .lit (.int .i64 3)), (.int .u8 123, .lit (.int .i64 7))]
theorem dKind_at (n : Nat) : dKind.atKey (.int .u8 (n : Int)) (.lit (.int .i64 0)) = .lit (.int .i64 (if n = 34 then 5 else if n = 91 then 6 else if n = 102 then 2 else if n = 110 then 1 else if n = 116 then 3 else if n = 123 then 7 else 0)) := by
  repeat' split
  all_goals first | (subst_vars; rfl) | skip
  unfold dKind
  simp only [DataW.atKey, List.find?_cons, Lit.sameKey]
  have e : ∀ k : Int, k ≠ (n : Int) → decide (k = (n : Int)) = false := fun k hk => by simpa using hk
  simp [e 34 (by omega), e 91 (by omega), e 102 (by omega), e 110 (by omega), e 116 (by omega), e 123 (by omega)]
abbrev MapKind (b : Nat) (w : World) : Prop := w.ownsMap (H := Unit) Tryz.prog 5 (plainElem Tryz.prog 3) b 6 dKind
theorem MapKind.same {b : Nat} {w w' : World} (h : MapKind b w) (e : ∀ o, w.heap[b]? = some o → w'.heap[b]? = some o) : MapKind b w' := by
  obtain ⟨es, clock, hb, F, hs, hD⟩ := h
  exact ⟨es, clock, e _ hb, F, hs, hD⟩
/-- the kind that a byte has in the map -/
theorem wpList_kind {ops : Array Oper} {rest : List Oper} {o : Oper} {a : Act} {Q : Exit → Act → World → Prop} (w : World) (hg : o.guard = none) (m x : Operand) (hop : o.op = Op.lookup 87 m x false)
    (b : Nat) (hm : a.eval m = .map (some b)) (hk : MapKind b w) (c : UInt8) (hx : a.eval x = .int .u8 (c.toNat : Int)) (K : Int) (hK0 : kindB c = K)
    (hK : wpList Tryz.prog ops Q rest (a.put o.dst (.int .i64 K)) w) : wpList Tryz.prog ops Q (o :: rest) a w := by
  refine wpList_lookup_own_int w hg m x _ hop 5 3 .i64 (Maps.int_keyed Tryz.underlying5) Tryz.underlying87 Tryz.underlying3 (zeroInt w) b 6 dKind hm hk (.int .u8 (c.toNat : Int)) (.int .u8 (c.toNat : Int)) hx
    (Maps.keyOf_int_mk Tryz.underlying5 (a := (c.toNat : Int)) (by have := c.toNat_lt; exact WalkArith.wf_u8 (by omega))) ?_
  intro k hk2 _
  rw [dKind_at] at hk2
  injection hk2 with hk2
  injection hk2 with _ hk2
  have e : K = k := by rw [← hK0, ← hk2]; rfl
  subst e
  exact hK
/-- the map of the kinds is made -/
theorem kinds_made (w : World) : ∃ w1 w2 w3 w4 w5 w6,
    (Instr.mapUpdate 87 (.map (some w.heap.size)) (.int .u8 110) (.int .i64 1)).run Tryz.prog (w.alloc (.map #[] 0)) = .ok () w1 ∧ (Instr.mapUpdate 87 (.map (some w.heap.size)) (.int .u8 102) (.int .i64 2)).run Tryz.prog w1 = .ok () w2 ∧
    (Instr.mapUpdate 87 (.map (some w.heap.size)) (.int .u8 116) (.int .i64 3)).run Tryz.prog w2 = .ok () w3 ∧ (Instr.mapUpdate 87 (.map (some w.heap.size)) (.int .u8 34) (.int .i64 5)).run Tryz.prog w3 = .ok () w4 ∧
    (Instr.mapUpdate 87 (.map (some w.heap.size)) (.int .u8 91) (.int .i64 6)).run Tryz.prog w4 = .ok () w5 ∧ (Instr.mapUpdate 87 (.map (some w.heap.size)) (.int .u8 123) (.int .i64 7)).run Tryz.prog w5 = .ok () w6 ∧ MapKind w.heap.size w6 ∧ Old w w6 := by
  have K := Maps.int_keyed Tryz.underlying5
  have O0 : Old w (w.alloc (.map #[] 0)) := Old.alloc (Old.refl _) _
  have own0 := World.ownsMap_made (H := Unit) w Tryz.prog 5 (plainElem Tryz.prog 3)
  obtain ⟨w1, r1, own1, g1⟩ := own0.update K Tryz.underlying87 (by unfold maxLen; omega) (key := .int .u8 110) (Maps.keyOf_int_mk Tryz.underlying5 (a := 110) (by decide)) (val := .int .i64 1) (plainElem_int Tryz.underlying3 (a := 1) (by decide))
  obtain ⟨w2, r2, own2, g2⟩ := own1.update K Tryz.underlying87 (by unfold maxLen; omega) (key := .int .u8 102) (Maps.keyOf_int_mk Tryz.underlying5 (a := 102) (by decide)) (val := .int .i64 2) (plainElem_int Tryz.underlying3 (a := 2) (by decide))
  obtain ⟨w3, r3, own3, g3⟩ := own2.update K Tryz.underlying87 (by unfold maxLen; omega) (key := .int .u8 116) (Maps.keyOf_int_mk Tryz.underlying5 (a := 116) (by decide)) (val := .int .i64 3) (plainElem_int Tryz.underlying3 (a := 3) (by decide))
  obtain ⟨w4, r4, own4, g4⟩ := own3.update K Tryz.underlying87 (by unfold maxLen; omega) (key := .int .u8 34) (Maps.keyOf_int_mk Tryz.underlying5 (a := 34) (by decide)) (val := .int .i64 5) (plainElem_int Tryz.underlying3 (a := 5) (by decide))
  obtain ⟨w5, r5, own5, g5⟩ := own4.update K Tryz.underlying87 (by unfold maxLen; omega) (key := .int .u8 91) (Maps.keyOf_int_mk Tryz.underlying5 (a := 91) (by decide)) (val := .int .i64 6) (plainElem_int Tryz.underlying3 (a := 6) (by decide))
  obtain ⟨w6, r6, own6, g6⟩ := own5.update K Tryz.underlying87 (by unfold maxLen; omega) (key := .int .u8 123) (Maps.keyOf_int_mk Tryz.underlying5 (a := 123) (by decide)) (val := .int .i64 7) (plainElem_int Tryz.underlying3 (a := 7) (by decide))
  have st : ∀ {a b : World}, Old w a → a.grownBy b (some w.heap.size) → Old w b := fun ho hg => Below.grown ho hg ho.size fun k hk => by cases hk; exact Nat.le_refl _
  exact ⟨w1, w2, w3, w4, w5, w6, r1, r2, r3, r4, r5, r6, own6, st (st (st (st (st (st O0 g1) g2) g3) g4) g5) g6⟩
/-- a node is put to the others -/
theorem step_push_nd {o : Oper} {a : Act} {K : Act → World → Prop} {Q : Exit → Act → World → Prop} (w : World) (s x : Operand)
    (ho : o.op = .call { callee := .builtin .append, args := #[s, x], argTypes := #[25, 25] })
    (base : Nat) (v : Value) (r : List Nd) (hs : a.eval s = v) (hown : NodesOwn base w v r)
    (xv : Value) (q : List Nd) (hev : a.eval x = xv) (hx : NodesIs w xv q) (hlen : r.length + q.length ≤ 4194304) (hbase : base ≤ w.heap.size)
    (h : ∀ v' w', NodesOwn base w' v' (r ++ q) → KeptJ 41 base w w' → K (a.put o.dst v') w') : o.wp Tryz.prog a w K Q := by
  obtain ⟨i0, hi, hz0, hz1, hz2⟩ := info_parts nodeInfo
  refine wp_append_sl w s x 25 ho base 41 i0 _ 5 56 Tryz.underlying25 hi hz0 hz1 hz2 rfl (by omega) v r.length (ndVals r) hs hown
    xv q.length (ndVals q) hev hx (ndVals_length q) (ndVals_cell q) (by unfold maxLen; omega) (by omega) hbase ?_
  intro v' w' own' hg
  refine h v' w' ?_ (KeptJ.of_grown hown hg hbase)
  unfold NodesOwn
  rw [ndVals_append, List.length_append]
  exact own'
theorem nd_one (w : World) (kind size : Int) (key : ByteArray) (g : Nat) (hg : w.heap.size = g) : NodesIs (w.alloc (.cells #[.int .i64 kind, .string key, .int .i64 0, .string ⟨#[]⟩, .int .i64 size] 41)) (.slice (some ⟨g, 0, none⟩) 1 1) [⟨kind, key, 0, none_, size⟩] := by
  subst hg
  refine ⟨_, _, rfl, Nat.le_refl _, by unfold maxLen; omega, fun _ => ⟨w.heap.size, 0, rfl, fun j u hu => ?_⟩⟩
  rw [Nat.zero_add, cell_of_heap (heap_alloc_new w _)]
  rw [ndVals_one] at hu
  match j, hu with
  | 0, hu => exact hu
  | 1, hu => exact hu
  | 2, hu => exact hu
  | 3, hu => exact hu
  | 4, hu => exact hu
  | j + 5, hu => simp [Nd.vals] at hu
/-- a reader, but for what an append to its nodes leaves open -/
theorem JR.push {base rb n : Nat} {s key : ByteArray} {out out' : List Nd} {H : List Jh} {e bad : Int} {w w' : World} {v : Value} (h : JR base rb s n out H key e bad w) (k : KeptJ 41 base w w') (hv : NodesOwn base w' v out') :
    JR base rb s n out' H key e bad (w'.setCell ⟨rb, 2, none⟩ v) := by
  obtain ⟨h1, ov, hh, h2, h3, h4⟩ := h
  have e2 := k.kept.other _ _ _ _ h2 (by decide)
  exact ⟨h1, v, hh, set_heap e2 _, own_set_else hv e2 (by decide), (h4.keptJ k (by decide)).set_else e2 (by decide)⟩
/-- the reader's own block, as an append to its nodes keeps it -/
structure JMid (base rb : Nat) (cs : Array Value) (w w' : World) : Prop where
  low : RowKit.Below base w w'
  blk : w'.heap[rb]? = some (.cells cs 48 (0, 0))
theorem JMid.drew {base rb : Nat} {cs : Array Value} {w w' : World} (h : JMid base rb cs w w') : JMid base rb cs w w'.drew := ⟨h.low.drew, h.blk⟩
theorem JMid.alloc {base rb : Nat} {cs : Array Value} {w w' : World} (h : JMid base rb cs w w') (hb : base ≤ w.heap.size) (o : Obj) : JMid base rb cs w (w'.alloc o) := ⟨h.low.alloc (Nat.le_trans hb h.low.size) o, (Old.alloc (Old.refl w') o).heap h.blk⟩
theorem JMid.push {base rb : Nat} {cs : Array Value} {w w1 w2 : World} (h : JMid base rb cs w w1) (k : KeptJ 41 base w1 w2) : JMid base rb cs w w2 := ⟨h.low.trans k.kept.low, k.kept.other _ _ _ _ h.blk (by decide)⟩
end Go.Proofs.YtcddfpcapbdphaaGreatDoor

