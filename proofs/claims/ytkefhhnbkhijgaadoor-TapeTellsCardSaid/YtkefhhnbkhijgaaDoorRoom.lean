/- Nodes appended to a row that has room for them; worlds that differ in a box and in a row alone. -/
import Derived.Test.YtkefhhnbkhijgaaDoorSortK
namespace Go.Proofs.YtkefhhnbkhijgaaDoor
open Go.RowKit

/-- all but the blocks p and q as it was -/
structure Two (p q : Nat) (w w' : World) : Prop where
  os : w'.os = w.os
  tape : w'.tape = w.tape
  output : w'.output = w.output
  size : w.heap.size ≤ w'.heap.size
  block : ∀ k, k < w.heap.size → k ≠ p → k ≠ q → w'.heap[k]? = w.heap[k]?
namespace Two
variable {p q : Nat} {a b c : World}
theorem refl (p q : Nat) (w : World) : Two p q w w := ⟨rfl, rfl, rfl, Nat.le_refl _, fun _ _ _ _ => rfl⟩
theorem trans (h : Two p q a b) (k : Two p q b c) : Two p q a c :=
  ⟨k.os.trans h.os, k.tape.trans h.tape, k.output.trans h.output, Nat.le_trans h.size k.size, fun i h1 h2 h3 => (k.block i (Nat.lt_of_lt_of_le h1 h.size) h2 h3).trans (h.block i h1 h2 h3)⟩
theorem old (h : Two p q a b) (k : Old b c) : Two p q a c :=
  ⟨k.os.trans h.os, k.tape.trans h.tape, k.output.trans h.output, Nat.le_trans h.size k.size, fun i h1 h2 h3 => (k.block i (Nat.lt_of_lt_of_le h1 h.size)).trans (h.block i h1 h2 h3)⟩
theorem grown (h : Two p q a b) (k : b.grownBy c (some q)) : Two p q a c :=
  ⟨k.os.trans h.os, k.tape.trans h.tape, k.output.trans h.output, Nat.le_trans h.size k.size, fun i h1 h2 h3 => (k.block i (Nat.lt_of_lt_of_le h1 h.size) (fun e => h3 (by injection e))).trans (h.block i h1 h2 h3)⟩
theorem grownNew (h : Two p q a b) {g : Nat} (hg : a.heap.size ≤ g) (k : b.grownBy c (some g)) : Two p q a c :=
  ⟨k.os.trans h.os, k.tape.trans h.tape, k.output.trans h.output, Nat.le_trans h.size k.size, fun i h1 h2 h3 => (k.block i (Nat.lt_of_lt_of_le h1 h.size) (fun e => by injection e with e; omega)).trans (h.block i h1 h2 h3)⟩
theorem drewN (h : Two p q a b) (n : Nat) : Two p q a (b.drewN n) := ⟨h.os, h.tape, h.output, h.size, h.block⟩
theorem setBox (h : Two p q a b) (i : Nat) (u : Value) : Two p q a (b.setCell ⟨p, i, none⟩ u) := by
  have hB : RowKit.Below b.heap.size b b := Below.refl _ _
  refine ⟨h.os, h.tape, h.output, by simpa using h.size, fun k h1 h2 h3 => ?_⟩
  rw [← h.block k h1 h2 h3]
  simp [World.setCell, Array.getElem?_modify, Ne.symm h2]
theorem below (h : Two p q a b) {B : Nat} (hB : B ≤ a.heap.size) (hp : B ≤ p) (hq : B ≤ q) : Below B a b :=
  ⟨h.os, h.tape, h.output, h.size, fun k hk => h.block k (by omega) (by omega) (by omega)⟩
theorem cell (h : Two p q a b) {x : Addr} {v : Value} (hc : a.cell? x = some v) (hp : x.block ≠ p) (hq : x.block ≠ q) : b.cell? x = some v :=
  (World.cell?_of_block (w := a) (h.block x.block (World.block_lt_of_cell? a x hc) hp hq)).trans hc
end Two

theorem step_push_room {o : Oper} {a : Act} {K : Act → World → Prop} {Q : Exit → Act → World → Prop} (w : World) (s x : Operand)
    (ho : o.op = .call { callee := .builtin .append, args := #[s, x], argTypes := #[25, 25] })
    (base g C : Nat) (acc : List Nd) (hs : a.eval s = .slice (some ⟨g, 0, none⟩) acc.length C) (hown : NodesOwn base w (.slice (some ⟨g, 0, none⟩) acc.length C) acc)
    (b cap : Nat) (y : Nd) (hx : a.eval x = .slice (some ⟨b, 0, none⟩) 1 cap) (h0 : ∀ j u, y.vals[j]? = some u → w.cell? ((⟨b, 0, none⟩ : Addr).add j) = some u)
    (hroom : acc.length + 1 ≤ C) (hlen : acc.length + 1 ≤ 4194304) (hbase : base ≤ w.heap.size)
    (h : ∀ w', NodesOwn base w' (.slice (some ⟨g, 0, none⟩) (acc.length + 1) C) (acc ++ [y]) → w.grownBy w' (some g) → K (a.put o.dst (.slice (some ⟨g, 0, none⟩) (acc.length + 1) C)) w') : o.wp Tryd.prog a w K Q := by
  obtain ⟨i0, hi, hz0, hz1, hz2⟩ := info_parts nodeInfo
  have hvc : ∀ u ∈ y.vals, u.oneCell' = true := by rw [← ndVals_one]; exact ndVals_cell _
  obtain ⟨v', w', hr, h2, h3, _⟩ := run_append_own (P := Tryd.prog) w base 25 o.type 57 i0 _ 5 56 Tryd.underlying25 hi hz0 hz1 hz2 rfl (by omega) _ acc.length (ndVals acc) hown ⟨b, 0, none⟩ 1 cap y.vals rfl h0 hvc (by unfold maxLen; omega) (by omega) hbase
  obtain ⟨_, ⟨hv, _⟩ | ⟨g', c', cur, hv, _, hgg, hn, hm, hsz, htk⟩⟩ := hown
  · cases hv
  · injection hv with hv1 hv2 hv3
    injection hv1 with hv1
    injection hv1 with hv1
    subst hv1 hv3
    have hr2 := run_append_room (P := Tryd.prog) w 25 o.type 57 i0 Tryd.underlying25 hi g acc.length C cur hgg ⟨b, 0, none⟩ 1 cap y.vals (by rw [hz1]; rfl) h0 hvc hroom (by rw [hz1, hsz]; show acc.length * 5 + 5 ≤ C * 5; omega)
    rw [hr] at hr2
    injection hr2 with e1 e2
    subst e1
    unfold Oper.wp execOp
    simp only [ho, resolve, invoke, builtin, Sem.run_bind, Sem.run_pure, Result.andThen_ok, List.map_toArray, List.map_cons, List.map_nil, hs, hx, hr]
    refine h w' ?_ h3
    unfold NodesOwn
    rw [ndVals_append, ndVals_one, List.length_append]
    exact h2
end Go.Proofs.YtkefhhnbkhijgaaDoor
