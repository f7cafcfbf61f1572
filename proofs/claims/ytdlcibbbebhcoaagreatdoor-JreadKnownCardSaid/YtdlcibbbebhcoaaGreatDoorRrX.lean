/- The document's reader of a text: what calls leave of the memory; the nodes that grow; the keys that were there. -/
import Derived.Test.YtdlcibbbebhcoaaGreatDoorRr4
import Derived.Test.YtdlcibbbebhcoaaGreatDoorMayL
import Derived.Maps.AppendAt
/-! ### The document's reader of a text: what calls leave of the memory; the nodes that grow; the keys that were there. -/
namespace Go.Proofs.YtdlcibbbebhcoaaGreatDoor
open Go.RowKit

/-- the reader's nodes, as a value -/
def ovAt (rb : Nat) (w : World) : Value := (w.cell? ⟨rb, 2, none⟩).getD undef
/-- what is elder stands, but for the reader's block and its nodes' row -/
structure RKeep (base rb : Nat) (w w' : World) : Prop where
  low : RowKit.Below base w w'
  other : ∀ b, b < w.heap.size → b ≠ rb → some b ≠ (ovAt rb w).ownBlock → w'.heap[b]? = w.heap[b]?
  own : (ovAt rb w').ownBlock = (ovAt rb w).ownBlock ∨ ∀ b, (ovAt rb w').ownBlock = some b → w.heap.size ≤ b
section
variable {base rb n : Nat} {s : ByteArray} {out : List Nd} {X : RX} {wh e : Int} {a b c w w' : World}
theorem RKeep.size (h : RKeep base rb a b) : a.heap.size ≤ b.heap.size := h.low.size
theorem RKeep.refl (base rb : Nat) (w : World) : RKeep base rb w w := ⟨Below.refl _ _, fun _ _ _ _ => rfl, .inl rfl⟩
theorem RKeep.trans (h : RKeep base rb a b) (k : RKeep base rb b c) : RKeep base rb a c := by
  refine ⟨h.low.trans k.low, fun i h1 h2 h3 => ?_, ?_⟩
  · rw [k.other i (Nat.lt_of_lt_of_le h1 h.size) h2 ?_, h.other i h1 h2 h3]
    rcases h.own with e | e
    · rw [e]; exact h3
    · intro e2
      have := e i e2.symm
      omega
  · rcases k.own with e | e
    · rcases h.own with e2 | e2
      · exact .inl (e.trans e2)
      · exact .inr fun i hi => e2 i (e ▸ hi)
    · exact .inr fun i hi => Nat.le_trans h.size (e i hi)
theorem ovAt_cell {v : Value} (h : w.cell? ⟨rb, 2, none⟩ = some v) : ovAt rb w = v := by unfold ovAt; rw [h]; rfl
theorem RR.ov (h : RR base rb s n out wh e w) : w.heap[rb]? = some (.cells (rrCells s n (ovAt rb w) wh e) 61 (0, 0)) ∧ NodesOwn base w (ovAt rb w) out := by
  obtain ⟨h1, ov, h2, h3⟩ := h
  have : ovAt rb w = ov := ovAt_cell ((cell_of_heap (i := 2) h2).trans rfl)
  rw [this]
  exact ⟨h2, h3⟩
theorem RKeep.ofBel (h : Bel base rb a b) (hr : RS base rb s out X a) : RKeep base rb a b := by
  obtain ⟨n, wh, e, hR, _⟩ := hr.open_
  obtain ⟨ov, ⟨_, _, x2, _, _⟩, _, _⟩ := hR.cells
  refine ⟨h.low, fun i h1 h2 _ => h.one.block i h1 h2, .inl ?_⟩
  rw [ovAt_cell x2, ovAt_cell (h.row ov x2)]
theorem RKeep.ofOld (o : Old a b) (hr : RS base rb s out X a) : RKeep base rb a b := RKeep.ofBel (Bel.ofOld o hr.bw) hr
/-- a block that is neither the reader's nor its nodes' -/
theorem RKeep.block {i : Nat} {o : Obj} (h : RKeep base rb a b) (hi : a.heap[i]? = some o) (h1 : i ≠ rb) (h2 : some i ≠ (ovAt rb a).ownBlock) : b.heap[i]? = some o := (h.other i (block_lt hi) h1 h2).trans hi
theorem RKeep.apart {i : Nat} (h : RKeep base rb a b) (hi : i < a.heap.size) (h2 : some i ≠ (ovAt rb a).ownBlock) : some i ≠ (ovAt rb b).ownBlock := by
  rcases h.own with e | e
  · rw [e]; exact h2
  · intro e2
    have := e i e2.symm
    omega
/-- a cell of a block of the call's own is set -/
theorem RKeep.setNew {i k : Nat} (h : RKeep base rb a b) (hi : a.heap.size ≤ i) (hr : i ≠ rb) (hb : base ≤ i) (v : Value) : RKeep base rb a (b.setCell ⟨i, k, none⟩ v) := by
  refine ⟨h.low.setCell (p := ⟨i, k, none⟩) hb v, fun j h1 h2 h3 => ?_, ?_⟩
  · rw [Below.heap_setCell b ⟨i, k, none⟩ v j (show j ≠ i by omega)]
    exact h.other j h1 h2 h3
  · have : ovAt rb (b.setCell ⟨i, k, none⟩ v) = ovAt rb b := by
      unfold ovAt
      rw [World.cell?_setCell_other b _ _ _ (fun e => hr (congrArg Addr.block e))]
    rw [this]
    exact h.own
/-- a cell of the nodes' row is set -/
theorem RKeep.setRow {i k : Nat} (h : RKeep base rb a b) (hi : (ovAt rb b).ownBlock = some i) (hr : i ≠ rb) (hb : base ≤ i) (v : Value) : RKeep base rb a (b.setCell ⟨i, k, none⟩ v) := by
  refine ⟨h.low.setCell (p := ⟨i, k, none⟩) hb v, fun j h1 h2 h3 => ?_, ?_⟩
  · rw [Below.heap_setCell b ⟨i, k, none⟩ v j ?_]
    · exact h.other j h1 h2 h3
    · rintro rfl
      exact h.apart h1 h3 hi.symm
  · have : ovAt rb (b.setCell ⟨i, k, none⟩ v) = ovAt rb b := by
      unfold ovAt
      rw [World.cell?_setCell_other b _ _ _ (fun e => hr (congrArg Addr.block e))]
    rw [this]
    exact h.own
/-- the nodes' row grows, and is put back into the reader -/
theorem RR.grow {v' : Value} {out' : List Nd} (h : RR base rb s n out wh e w) (hg : w.grownBy w' (ovAt rb w).ownBlock) (hv : NodesOwn base w' v' out') (hown : v'.ownBlock = (ovAt rb w).ownBlock ∨ v'.ownBlock = some w.heap.size) :
    RR base rb s n out' wh e (w'.setCell ⟨rb, 2, none⟩ v') ∧ RKeep base rb w (w'.setCell ⟨rb, 2, none⟩ v') ∧ ∃ u, w'.cell? ⟨rb, 2, none⟩ = some u ∧ w'.frozen? ⟨rb, 2, none⟩ = false := by
  obtain ⟨g1, g2⟩ := h.ov
  have hne : some rb ≠ (ovAt rb w).ownBlock := by
    intro e2
    obtain ⟨cs', T', f', hh, hT⟩ := own_block g2 rb e2.symm
    rw [g1] at hh
    injection hh with hh
    injection hh with _ hT2 _
    exact absurd (hT2.trans hT) (by decide)
  have g3 : w'.heap[rb]? = some (.cells (rrCells s n (ovAt rb w) wh e) 61 (0, 0)) := by
    rw [hg.block rb (block_lt g1) hne]; exact g1
  have hc : w'.cell? ⟨rb, 2, none⟩ = some (ovAt rb w) := (cell_of_heap (i := 2) g3).trans rfl
  have hov : ovAt rb (w'.setCell ⟨rb, 2, none⟩ v') = v' := ovAt_cell (World.cell?_setCell_same' w' ⟨rb, 2, none⟩ v' (by rw [hc]; rfl))
  refine ⟨⟨h.low, v', set_heap g3 _, own_set_else hv g3 (by decide)⟩, ⟨?_, fun j h1 h2 h3 => ?_, ?_⟩, _, hc, free_of_heap g3⟩
  · refine (Below.grown (Below.refl base w) hg h.bw fun k hk => (g2.lt k hk).1).setCell (p := ⟨rb, 2, none⟩) h.low v'
  · rw [Below.heap_setCell w' ⟨rb, 2, none⟩ v' j h2]
    exact hg.block j h1 h3
  · rw [hov]
    rcases hown with e2 | e2
    · exact .inl e2
    · exact .inr fun i hi => by rw [e2] at hi; injection hi with hi; omega
end
/-- a node is put to the others: where the row lies -/
theorem step_push_rd {o : Oper} {a : Act} {K : Act → World → Prop} {Q : Exit → Act → World → Prop} (w : World) (s x : Operand)
    (ho : o.op = .call { callee := .builtin .append, args := #[s, x], argTypes := #[25, 25] })
    (base : Nat) (v : Value) (r : List Nd) (hs : a.eval s = v) (hown : NodesOwn base w v r)
    (g c : Nat) (q : Nd) (hev : a.eval x = .slice (some ⟨g, 0, none⟩) 1 c) (hx : ∀ j u, q.vals[j]? = some u → w.cell? ⟨g, j, none⟩ = some u) (hlen : r.length + 1 ≤ 4194304) (hbase : base ≤ w.heap.size)
    (h : ∀ v' w', NodesOwn base w' v' (r ++ [q]) → w.grownBy w' v.ownBlock → (v'.ownBlock = v.ownBlock ∨ v'.ownBlock = some w.heap.size) → K (a.put o.dst v') w') : o.wp Tryz.prog a w K Q := by
  obtain ⟨i0, hi, hz0, hz1, hz2⟩ := info_parts nodeInfo
  obtain ⟨v', w', hr, h2, h3, _, h5⟩ := run_append_own_at (P := Tryz.prog) w base 25 o.type 33 i0 _ 5 56 Tryz.underlying25 hi hz0 hz1 hz2 rfl (by omega) v r.length (ndVals r) hown
    ⟨g, 0, none⟩ 1 c q.vals rfl (fun j u hu => by
      have := hx j u hu
      unfold Addr.add
      split
      · rename_i h0; subst h0; exact this
      · simpa using this) (by rw [← ndVals_one]; exact ndVals_cell [q]) (by unfold maxLen; omega) (by omega) hbase
  unfold Oper.wp execOp
  simp only [ho, resolve, invoke, builtin, Sem.run_bind, Sem.run_pure, Result.andThen_ok, List.map_toArray, List.map_cons, List.map_nil, hs, hev, hr]
  refine h v' w' ?_ h3 h5
  unfold NodesOwn
  rw [ndVals_append, List.length_append, ndVals_one]
  exact h2
/-- a node is stored over another one -/
theorem ndVals_put : ∀ (l : List Nd) (k : Nat) (x : Nd), k < l.length →
    ndVals (l.set k x) = (((((ndVals l).set (k * 5) (.int .i64 x.kind)).set (k * 5 + 1) (.string x.key)).set (k * 5 + 2) (.int .i64 x.n)).set (k * 5 + 3) (.string x.s)).set (k * 5 + 4) (.int .i64 x.size)
  | [], k, x, h => absurd h (by simp)
  | c :: l, 0, x, _ => by
    have e1 : ndVals (c :: l) = c.vals ++ ndVals l := by simp [ndVals]
    have e2 : ndVals ((c :: l).set 0 x) = x.vals ++ ndVals l := by simp [ndVals]
    rw [e1, e2]
    rfl
  | c :: l, k + 1, x, h => by
    have e1 : ndVals (c :: l) = c.vals ++ ndVals l := by simp [ndVals]
    have e2 : ndVals ((c :: l).set (k + 1) x) = c.vals ++ ndVals (l.set k x) := by simp [ndVals]
    have hc : c.vals.length = 5 := rfl
    rw [e1, e2, ndVals_put l k x (by simpa using h)]
    have hs : ∀ (j : Nat) (v : Value) (m : List Value), (c.vals ++ m).set ((k + 1) * 5 + j) v = c.vals ++ m.set (k * 5 + j) v := fun j v m => by
      rw [List.set_append_right _ _ (by omega)]
      congr 2
      omega
    have h0 := hs 0
    simp only [Nat.add_zero] at h0
    rw [h0, hs 1, hs 2, hs 3, hs 4]
end Go.Proofs.YtdlcibbbebhcoaaGreatDoor

/-! ### The document's reader of a text: the keys that were there, beside the reader; what a value, and parts, leave. -/
namespace Go.Proofs.YtdlcibbbebhcoaaGreatDoor
open Go.RowKit

abbrev HadR (B : Nat) (w : World) (v : Value) (l : List ByteArray) : Prop := w.ownsRow B 9 1 v l.length (l.map Value.string)
theorem textInfoR : (Tryz.prog.info? 9).map (fun i => (i.zero, i.size, i.bytes)) = some (some (.string ⟨#[]⟩), 1, 16) := by kernel_rfl
theorem HadR.nil_ (B : Nat) (w : World) : HadR B w (.slice none 0 0) [] := World.ownsRow_nil w B 9 1
theorem HadR.form {B : Nat} {w : World} {v : Value} {l : List ByteArray} (h : HadR B w v l) : ∃ A c, v = .slice A l.length c ∧ l.length ≤ c ∧ c ≤ maxLen := by
  obtain ⟨A, c, rfl, h1, h2, _⟩ := SlT.of_own h
  exact ⟨A, c, rfl, h1, h2⟩
theorem HadR.at_ {B : Nat} {w : World} {v : Value} {l : List ByteArray} (h : HadR B w v l) (hne : 0 < l.length) : ∃ g c, v = .slice (some ⟨g, 0, none⟩) l.length c ∧ l.length ≤ c ∧ c ≤ maxLen ∧ ∀ i, (hi : i < l.length) → w.cell? ⟨g, i, none⟩ = some (.string l[i]) := by
  obtain ⟨g, c, e, h1, h2, _, h4, _⟩ := own_set h hne
  refine ⟨g, c, e, h1, h2, fun i hi => h4 i _ ?_⟩
  rw [List.getElem?_map, List.getElem?_eq_getElem hi]
  rfl
theorem own_apart2 {B B' T T' size size' n n' : Nat} {w : World} {v v' : Value} {xs xs' : List Value} (h : w.ownsRow B T size v n xs) (h' : w.ownsRow B' T' size' v' n' xs') (hne : T ≠ T') : v.ownBlock = none ∨ v.ownBlock ≠ v'.ownBlock := by
  cases e : v.ownBlock with
  | none => exact .inl rfl
  | some g =>
    right
    intro e2
    obtain ⟨cs, T1, f, h1, h2⟩ := own_block h g e
    obtain ⟨cs', T2, f', h3, h4⟩ := own_block h' g e2.symm
    rw [h1] at h3
    injection h3 with h3
    injection h3 with _ h5 _
    exact hne (h2.symm.trans (h5.trans h4))
section
variable {base rb B n : Nat} {s : ByteArray} {out : List Nd} {X : RX} {wh e : Int} {w w0 w' : World} {v : Value} {l : List ByteArray}
theorem HadR.keep (h : HadR B w v l) (k : RKeep base rb w w') (hS : RS base rb s out X w) : HadR B w' v l := by
  obtain ⟨n, wh, e, hR, _⟩ := hS.open_
  obtain ⟨g1, g2⟩ := hR.ov
  have hap := own_apart2 h g2 (by decide)
  obtain ⟨hl, h2⟩ := id h
  refine ⟨hl, ?_⟩
  rcases h2 with h2 | ⟨g, cap, cur, rfl, hb, hh, r⟩
  · exact .inl h2
  · refine .inr ⟨g, cap, cur, rfl, hb, k.block hh ?_ ?_, r⟩
    · rintro rfl
      rw [g1] at hh
      injection hh with hh
      injection hh with _ hT _
      exact absurd hT (by decide)
    · rcases hap with e2 | e2
      · simp [Value.ownBlock] at e2
      · simpa [Value.ownBlock] using e2
theorem RR.grownElse (h : RR base rb s n out wh e w) (hv : HadR B w v l) (hg : w.grownBy w' v.ownBlock) : RR base rb s n out wh e w' := by
  obtain ⟨g1, g2⟩ := h.ov
  have hne : some rb ≠ v.ownBlock := by
    intro e2
    obtain ⟨cs', T', f', hh, hT⟩ := own_block hv rb e2.symm
    rw [g1] at hh
    injection hh with hh
    injection hh with _ hT2 _
    exact absurd (hT2.trans hT) (by decide)
  refine ⟨h.low, ovAt rb w, ?_, g2.kept hg ?_⟩
  · rw [hg.block rb (block_lt g1) hne]; exact g1
  · exact own_apart2 g2 hv (by decide)
theorem RS.grownElse (h : RS base rb s out X w) (hv : HadR B w v l) (hg : w.grownBy w' v.ownBlock) : RS base rb s out X w' := by
  cases X with
  | ok l => obtain ⟨n, h1, h2⟩ := h; exact ⟨n, h1, h2.grownElse hv hg⟩
  | error b => obtain ⟨h0, h3, n, h2⟩ := h; exact ⟨h0, h3, n, h2.grownElse hv hg⟩
theorem RKeep.grownElse (k : RKeep base rb w0 w) (h : RS base rb s out X w) (hv : HadR w0.heap.size w v l) (hg : w.grownBy w' v.ownBlock) (hb : base ≤ w0.heap.size) : RKeep base rb w0 w' := by
  have hlow : ∀ i, v.ownBlock = some i → w0.heap.size ≤ i := fun i hi => (hv.lt i hi).1
  obtain ⟨n, wh, e, hR, _⟩ := h.open_
  have hR2 := hR.grownElse hv hg
  have hov : ovAt rb w' = ovAt rb w := by
    obtain ⟨g1, g2⟩ := hR.ov
    have hne : some rb ≠ v.ownBlock := by
      intro e2
      obtain ⟨cs', T', f', hh, hT⟩ := own_block hv rb e2.symm
      rw [g1] at hh
      injection hh with hh
      injection hh with _ hT2 _
      exact absurd (hT2.trans hT) (by decide)
    have g3 : w'.heap[rb]? = some (.cells (rrCells s n (ovAt rb w) wh e) 61 (0, 0)) := by rw [hg.block rb (block_lt g1) hne]; exact g1
    exact ovAt_cell ((cell_of_heap (i := 2) g3).trans rfl)
  refine ⟨Below.grown k.low hg (Nat.le_trans hb k.size) fun i hi => Nat.le_trans hb (hlow i hi), fun j h1 h2 h3 => ?_, by rw [hov]; exact k.own⟩
  rw [hg.block j (Nat.lt_of_lt_of_le h1 k.size) fun e => by have := hlow j e.symm; omega]
  exact k.other j h1 h2 h3
end
/-- a key is put to those that were there -/
theorem step_push_had {o : Oper} {a : Act} {K : Act → World → Prop} {Q : Exit → Act → World → Prop} (w : World) (s x : Operand)
    (ho : o.op = .call { callee := .builtin .append, args := #[s, x], argTypes := #[22, 22] })
    (B : Nat) (v : Value) (l : List ByteArray) (hs : a.eval s = v) (hown : HadR B w v l) (g c : Nat) (k : ByteArray) (hx : a.eval x = .slice (some ⟨g, 0, none⟩) 1 c) (h0 : w.cell? ⟨g, 0, none⟩ = some (.string k))
    (hlen : l.length + 1 ≤ 4194304) (hbase : B ≤ w.heap.size)
    (h : ∀ v' w', HadR B w' v' (l ++ [k]) → w.grownBy w' v.ownBlock → K (a.put o.dst v') w') : o.wp Tryz.prog a w K Q := by
  obtain ⟨i0, hi, hz0, hz1, hz2⟩ := info_parts textInfoR
  refine wp_append_own w s x 22 ho B 9 i0 (.string ⟨#[]⟩) 1 16 Tryz.underlying22 hi hz0 hz1 hz2 rfl (by omega) v l.length (l.map Value.string) hs hown ⟨g, 0, none⟩ 1 c [.string k] hx rfl ?_ ?_ (by unfold maxLen; omega) (by omega) hbase ?_
  · intro j u hu
    match j, hu with
    | 0, hu => simp at hu; subst hu; exact h0
    | j + 1, hu => simp at hu
  · intro u hu
    simp at hu
    subst hu
    rfl
  · intro v' w' own' hg _
    refine h v' w' ?_ hg
    unfold HadR
    rw [List.length_append, List.map_append]
    exact own'
/-! what a value, and parts, come to -/
def valX (f : Nat) (key : ByteArray) (n deep : Nat) : RX → Except Bad (List Nd × List UInt8)
  | .error b => .error b
  | .ok l => match pv f n deep (skipB l) with
    | .error b => .error b
    | .ok (j, r) => .ok ((j.rekey key).flat, r)
def partX (f : Nat) (obj : Bool) (n deep : Nat) (r : List UInt8) : Except Bad (List Nd × List UInt8) :=
  match endV obj r with
  | (true, r1) => .ok ([], r1)
  | (false, r1) => match pp f obj n (deep + 1) [] r1 with
    | .error b => .error b
    | .ok (js, r2) => .ok (J.flats js, r2)
/-- the reader behind a value, or parts -/
def RV (base rb : Nat) (s : ByteArray) (out : List Nd) : Except Bad (List Nd × List UInt8) → World → Prop
  | .error b, w => ∃ out', out.length ≤ out'.length ∧ out'.length ≤ 4000 ∧ RS base rb s out' (.error b) w
  | .ok (t, r), w => (out ++ t).length ≤ 4000 ∧ RS base rb s (out ++ t) (.ok r) w
def ValC (base rb : Nat) (s : ByteArray) (f : Nat) : Prop := ∀ (out : List Nd) (X : RX) (key : ByteArray) (deep : Nat) (w : World), RS base rb s out X w → out.length ≤ 4000 → (∀ l, X = .ok l → 2 * (skipB l).length + 2 ≤ f) → deep ≤ 64 →
  Calls Tryz.prog 26 #[.pointer (some ⟨rb, 0, none⟩), .string key, .int .i64 (deep : Int)] w fun x w' => x = .returned (.tuple #[]) ∧ RV base rb s out (valX f key out.length deep X) w' ∧ RKeep base rb w w'
def PartC (base rb : Nat) (s : ByteArray) (f : Nat) : Prop := ∀ (out : List Nd) (obj : Bool) (deep : Nat) (c0 : UInt8) (r : List UInt8) (w : World), RS base rb s out (.ok (c0 :: r)) w → out.length ≤ 4000 → 2 * r.length + 3 ≤ f → deep ≤ 63 →
  Calls Tryz.prog 43 #[.pointer (some ⟨rb, 0, none⟩), .int .i64 (kindOf obj), .int .u8 ((lastOf obj).toNat : Int), .int .i64 (deep : Int)] w fun x w' => x = .returned (.tuple #[]) ∧ RV base rb s out (partX f obj out.length deep r) w' ∧ RKeep base rb w w'
end Go.Proofs.YtdlcibbbebhcoaaGreatDoor

/-! ### The document's reader of a text: a node that is made beside the reader. -/
namespace Go.Proofs.YtdlcibbbebhcoaaGreatDoor
open Go.RowKit

/-- the reader, and a node in a block of the call's own -/
structure XS (base rb gx : Nat) (s : ByteArray) (w0 : World) (out : List Nd) (X : RX) (cs : Array Value) (w : World) : Prop where
  rs : RS base rb s out X w
  keep : RKeep base rb w0 w
  blk : w.heap[gx]? = some (.cells cs 33 (0, 0))
  ne : gx ≠ rb
  apart : some gx ≠ (ovAt rb w).ownBlock
  new : w0.heap.size ≤ gx
  bw : base ≤ gx
section
variable {base rb gx k : Nat} {s : ByteArray} {w0 w w' : World} {out out' : List Nd} {X X' : RX} {cs : Array Value}
theorem ovAt_set (h : gx ≠ rb) (v : Value) : ovAt rb (w.setCell ⟨gx, k, none⟩ v) = ovAt rb w := by
  unfold ovAt
  rw [World.cell?_setCell_other w _ _ _ (fun e => h (congrArg Addr.block e))]
theorem RS.setElse (h : RS base rb s out X w) (h1 : gx ≠ rb) (h2 : some gx ≠ (ovAt rb w).ownBlock) (v : Value) : RS base rb s out X (w.setCell ⟨gx, k, none⟩ v) := by
  have hR : ∀ {n wh e}, RR base rb s n out wh e w → RR base rb s n out wh e (w.setCell ⟨gx, k, none⟩ v) := fun {n wh e} hr => by
    obtain ⟨g1, g2⟩ := hr.ov
    refine ⟨hr.low, ovAt rb w, ?_, own_set_low g2 (Ne.symm h2)⟩
    rw [Below.heap_setCell w ⟨gx, k, none⟩ v rb (Ne.symm h1)]
    exact g1
  cases X with
  | ok l => obtain ⟨n, a, b⟩ := h; exact ⟨n, a, hR b⟩
  | error b => obtain ⟨a, b, n, c⟩ := h; exact ⟨a, b, n, hR c⟩
theorem XS.old (h : XS base rb gx s w0 out X cs w) (o : Old w w') : XS base rb gx s w0 out X cs w' :=
  ⟨h.rs.old o, h.keep.trans (RKeep.ofOld o h.rs), o.heap h.blk, h.ne, (RKeep.ofOld o h.rs).apart (block_lt h.blk) h.apart, h.new, h.bw⟩
theorem XS.next (h : XS base rb gx s w0 out X cs w) (k : RKeep base rb w w') (r : RS base rb s out' X' w') : XS base rb gx s w0 out' X' cs w' :=
  ⟨r, h.keep.trans k, k.block h.blk h.ne h.apart, h.ne, k.apart (block_lt h.blk) h.apart, h.new, h.bw⟩
theorem XS.bel (h : XS base rb gx s w0 out X cs w) (b : Bel base rb w w') (r : RS base rb s out' X' w') : XS base rb gx s w0 out' X' cs w' := h.next (RKeep.ofBel b h.rs) r
theorem XS.set (h : XS base rb gx s w0 out X cs w) (k : Nat) (v : Value) : XS base rb gx s w0 out X (cs.setIfInBounds k v) (w.setCell ⟨gx, k, none⟩ v) :=
  ⟨h.rs.setElse h.ne h.apart v, h.keep.setNew h.new h.ne h.bw v, set_heap h.blk v, h.ne, by rw [ovAt_set h.ne]; exact h.apart, h.new, h.bw⟩
theorem XS.cell (h : XS base rb gx s w0 out X cs w) (k : Nat) : w.cell? ⟨gx, k, none⟩ = cs[k]? := cell_of_heap h.blk
theorem XS.free (h : XS base rb gx s w0 out X cs w) (k : Nat) : w.frozen? ⟨gx, k, none⟩ = false := free_of_heap h.blk
/-- the node is stored over one of the reader's -/
theorem XS.put {K n5 sz : Int} {key s5 : ByteArray} {N : Nat} (h : XS base rb gx s w0 out X cs w) (hN : N < out.length) :
    ∃ g cap, w.cell? ⟨rb, 2, none⟩ = some (.slice (some ⟨g, 0, none⟩) out.length cap) ∧ out.length ≤ cap ∧ cap ≤ maxLen ∧ (∀ j, j < 5 → ∃ u, w.cell? ⟨g, N * 5 + j, none⟩ = some u) ∧ (∀ j, w.frozen? ⟨g, j, none⟩ = false) ∧
      RS base rb s (out.set N ⟨K, key, n5, s5, sz⟩) X (((((w.setCell ⟨g, N * 5, none⟩ (.int .i64 K)).setCell ⟨g, N * 5 + 1, none⟩ (.string key)).setCell ⟨g, N * 5 + 2, none⟩ (.int .i64 n5)).setCell ⟨g, N * 5 + 3, none⟩ (.string s5)).setCell ⟨g, N * 5 + 4, none⟩ (.int .i64 sz)) ∧
      RKeep base rb w0 (((((w.setCell ⟨g, N * 5, none⟩ (.int .i64 K)).setCell ⟨g, N * 5 + 1, none⟩ (.string key)).setCell ⟨g, N * 5 + 2, none⟩ (.int .i64 n5)).setCell ⟨g, N * 5 + 3, none⟩ (.string s5)).setCell ⟨g, N * 5 + 4, none⟩ (.int .i64 sz)) := by
  have hk := h.keep
  obtain ⟨n, wh, e, hR, _⟩ := h.rs.open_
  obtain ⟨g1, g2⟩ := hR.ov
  obtain ⟨g, cap, hv, a1, a2, a3, a4, a5, a6⟩ := own_set g2 (by omega)
  have hgb : (ovAt rb w).ownBlock = some g := by rw [hv]; rfl
  have hne : g ≠ rb := by
    rintro rfl
    obtain ⟨cs', T', f', hh, hT⟩ := own_block g2 g hgb
    rw [g1] at hh
    injection hh with hh
    injection hh with _ hT2 _
    exact absurd (hT2.trans hT) (by decide)
  have hc2 : w.cell? ⟨rb, 2, none⟩ = some (ovAt rb w) := (cell_of_heap (i := 2) g1).trans rfl
  have hO : ∀ {w1 : World} {xs : List Value}, w1.ownsRow base 33 5 (ovAt rb w) out.length xs → ∀ j u, (w1.setCell ⟨g, j, none⟩ u).ownsRow base 33 5 (ovAt rb w) out.length (xs.set j u) := fun {w1 xs} hw j u => by
    obtain ⟨g', cap', hv', _, _, _, _, _, b6⟩ := own_set hw (by omega)
    rw [hv] at hv'
    injection hv' with e1 _ _
    injection e1 with e1
    injection e1 with e1
    subst e1
    exact b6 j u
  have hB : ∀ {w1 : World}, w1.heap[rb]? = some (.cells (rrCells s n (ovAt rb w) wh e) 61 (0, 0)) → ∀ j u, (w1.setCell ⟨g, j, none⟩ u).heap[rb]? = some (.cells (rrCells s n (ovAt rb w) wh e) 61 (0, 0)) := fun {w1} hw j u => by
    rw [Below.heap_setCell w1 ⟨g, j, none⟩ u rb (Ne.symm hne)]
    exact hw
  have hK : ∀ {w1 : World}, RKeep base rb w0 w1 → (ovAt rb w1).ownBlock = some g → ∀ j u, RKeep base rb w0 (w1.setCell ⟨g, j, none⟩ u) ∧ (ovAt rb (w1.setCell ⟨g, j, none⟩ u)).ownBlock = some g := fun {w1} hw hg j u =>
    ⟨hw.setRow hg hne a3 u, by rw [ovAt_set hne]; exact hg⟩
  have fO := hO (hO (hO (hO (hO g2 (N * 5) (.int .i64 K)) (N * 5 + 1) (.string key)) (N * 5 + 2) (.int .i64 n5)) (N * 5 + 3) (.string s5)) (N * 5 + 4) (.int .i64 sz)
  have fB := hB (hB (hB (hB (hB g1 (N * 5) (.int .i64 K)) (N * 5 + 1) (.string key)) (N * 5 + 2) (.int .i64 n5)) (N * 5 + 3) (.string s5)) (N * 5 + 4) (.int .i64 sz)
  have k1 := hK hk hgb (N * 5) (.int .i64 K)
  have k2 := hK k1.1 k1.2 (N * 5 + 1) (.string key)
  have k3 := hK k2.1 k2.2 (N * 5 + 2) (.int .i64 n5)
  have k4 := hK k3.1 k3.2 (N * 5 + 3) (.string s5)
  have k5 := hK k4.1 k4.2 (N * 5 + 4) (.int .i64 sz)
  have e1 := ndVals_put out N ⟨K, key, n5, s5, sz⟩ hN
  simp only at e1
  rw [← e1] at fO
  have fR : ∀ {n' wh' e'}, n' = n → wh' = wh → e' = e → RR base rb s n' (out.set N ⟨K, key, n5, s5, sz⟩) wh' e' (((((w.setCell ⟨g, N * 5, none⟩ (.int .i64 K)).setCell ⟨g, N * 5 + 1, none⟩ (.string key)).setCell ⟨g, N * 5 + 2, none⟩ (.int .i64 n5)).setCell ⟨g, N * 5 + 3, none⟩ (.string s5)).setCell ⟨g, N * 5 + 4, none⟩ (.int .i64 sz)) := by
    rintro n' wh' e' rfl rfl rfl
    exact ⟨hR.low, ovAt rb w, fB, by unfold NodesOwn; rw [List.length_set]; exact fO⟩
  refine ⟨g, cap, by rw [hc2, hv], a1, a2, fun j hj => ?_, a5, ?_, k5.1⟩
  · have hl : N * 5 + j < (ndVals out).length := by rw [ndVals_length]; omega
    exact ⟨_, a4 _ _ (List.getElem?_eq_getElem hl)⟩
  · have hrs := h.rs
    cases X with
    | ok l =>
      obtain ⟨n', b1, b2⟩ := hrs
      obtain ⟨_, ⟨_, x1, _, x3, x4⟩, _⟩ := b2.cells
      obtain ⟨_, ⟨_, z1, _, z3, z4⟩, _⟩ := hR.cells
      rw [x1] at z1
      rw [x3] at z3
      rw [x4] at z4
      injection z1 with z1
      injection z1 with _ z1
      injection z3 with z3
      injection z3 with _ z3
      injection z4 with z4
      injection z4 with _ z4
      exact ⟨n', b1, fR (by omega) z3 z4⟩
    | error b =>
      obtain ⟨b1, b0, n', b2⟩ := hrs
      obtain ⟨_, ⟨_, x1, _, x3, x4⟩, _⟩ := b2.cells
      obtain ⟨_, ⟨_, z1, _, z3, z4⟩, _⟩ := hR.cells
      rw [x1] at z1
      rw [x3] at z3
      rw [x4] at z4
      injection z1 with z1
      injection z1 with _ z1
      injection z3 with z3
      injection z3 with _ z3
      injection z4 with z4
      injection z4 with _ z4
      exact ⟨b1, b0, n', fR (by omega) z3 z4⟩
end
/-- what a value's node and its reader come to, ahead of its size -/
def Spec5 (key : ByteArray) (out : List Nd) (K n5 : Int) (s5 : ByteArray) (out2 : List Nd) (X : RX) (VX : Except Bad (List Nd × List UInt8)) : Prop :=
  match X with
  | .error b => VX = .error b
  | .ok r5 => ∃ rest, out2 = out ++ ⟨0, key, 0, none_, 0⟩ :: rest ∧ VX = .ok (⟨K, key, n5, s5, (rest.length : Int) + 1⟩ :: rest, r5)
end Go.Proofs.YtdlcibbbebhcoaaGreatDoor

/-! ### The document's reader of a text: the parts of a list, or of an object: plain laws. -/
namespace Go.Proofs.YtdlcibbbebhcoaaGreatDoor
open Go.RowKit

/-- the state behind a look at some of the keys that were there -/
def dupX (had : List ByteArray) (K : ByteArray) (p : List UInt8) (X : RX) (i : Nat) : RX :=
  match X with
  | .error b => .error b
  | .ok l => if hasKey (had.take i) K = true then .error (p, 71) else .ok l
/-- what a member's key comes to -/
def KeyX (obj : Bool) (had : List ByteArray) (l : List UInt8) (K : ByteArray) (X : RX) : Prop :=
  match X with
  | .error b => keyV obj had l = .error b
  | .ok l1 => keyV obj had l = .ok (K, l1)
theorem dup_0 (had : List ByteArray) (K : ByteArray) (p : List UInt8) (X : RX) : dupX had K p X 0 = X := by
  cases X with
  | error b => rfl
  | ok l => simp [dupX, hasKey]
theorem dup_err {had : List ByteArray} {K : ByteArray} {p : List UInt8} {X : RX} {i : Nat} {b : Bad} (h : dupX had K p X i = .error b) : dupX had K p X had.length = .error b := by
  cases X with
  | error b' => exact h
  | ok l =>
    simp only [dupX] at h ⊢
    split at h
    · rename_i hk
      rw [if_pos]
      · exact h
      · rw [hasKey_iff] at hk ⊢
        rw [List.take_length]
        exact List.mem_of_mem_take hk
    · cases h
theorem dup_ok {had : List ByteArray} {K : ByteArray} {p : List UInt8} {X : RX} {i : Nat} {l : List UInt8} (h : dupX had K p X i = .ok l) (hi : i < had.length) :
    (had[i] = K → dupX had K p X (i + 1) = .error (p, 71)) ∧ (¬ had[i] = K → dupX had K p X (i + 1) = .ok l) := by
  cases X with
  | error b' => cases h
  | ok l' =>
    simp only [dupX] at h ⊢
    split at h
    · cases h
    · rename_i hk
      have hk2 : hasKey (had.take i) K = false := by simpa using hk
      rw [hasKey_not] at hk2
      injection h with h
      subst h
      refine ⟨fun e => ?_, fun e => ?_⟩
      · rw [if_pos]
        rw [hasKey_iff, List.take_succ_eq_append_getElem hi]
        simp [e]
      · rw [if_neg]
        rw [hasKey_iff, List.take_succ_eq_append_getElem hi, List.mem_append, List.mem_singleton]
        rintro (h | h)
        · exact hk2 h
        · exact e h.symm
theorem key_list (had : List ByteArray) (l : List UInt8) : KeyX false had l none_ (.ok l) := by
  simp [KeyX, keyV]
theorem key_obj (had : List ByteArray) (l : List UInt8) : KeyX true had l (bT (litT (.ok (skipB l)))) (mustX 58 (blanksX (dupX had (bT (litT (.ok (skipB l)))) (skipB l) (litX (.ok (skipB l))) had.length))) := by
  cases h : litV (skipB l) with
  | error b =>
    have e : litX (.ok (skipB l)) = .error b := by simp only [litX, h]
    rw [e]
    simp only [dupX, blanksX, mustX, KeyX]
    unfold keyV
    rw [if_neg (by decide), h]
  | ok y =>
    obtain ⟨t, r⟩ := y
    have e : litX (.ok (skipB l)) = .ok r := by simp only [litX, h]
    have e2 : litT (.ok (skipB l)) = t := by simp only [litT, h]
    rw [e, e2]
    simp only [dupX, List.take_length]
    by_cases hk : hasKey had (bT t) = true
    · rw [if_pos hk]
      simp only [blanksX, mustX, KeyX]
      unfold keyV
      rw [if_neg (by decide), h]
      simp only
      rw [if_pos hk]
    · rw [if_neg hk]
      simp only [blanksX]
      cases hs : skipB r with
      | nil =>
        simp only [mustX, KeyX]
        unfold keyV
        rw [if_neg (by decide), h]
        simp only
        rw [if_neg hk, hs]
      | cons c r2 =>
        by_cases hc : c = 58
        · simp only [mustX, hc, if_true, KeyX]
          unfold keyV
          rw [if_neg (by decide), h]
          simp only
          rw [if_neg hk, hs]
          simp only
          rw [if_pos hc]
        · simp only [mustX, if_neg hc, KeyX]
          unfold keyV
          rw [if_neg (by decide), h]
          simp only
          rw [if_neg hk, hs]
          simp only
          rw [if_neg hc]
/-- what is left to be read of parts, behind some -/
def contX (obj : Bool) (out : List Nd) (deep g : Nat) (had : List ByteArray) (done : List J) (l : List UInt8) : Except Bad (List Nd × List UInt8) :=
  match pp g obj (out ++ J.flats done).length (deep + 1) had l with
  | .error b => .error b
  | .ok (js, r) => .ok (J.flats (done ++ js), r)
theorem pp_step (g : Nat) (obj : Bool) (n d : Nat) (had : List ByteArray) (l : List UInt8) : pp (g + 1) obj n d had l = match keyV obj had l with
  | .error b => .error b
  | .ok (k, l1) => match pv g n d (skipB l1) with
    | .error b => .error b
    | .ok (j, l2) => match moreV obj l2 with
      | .error b => .error b
      | .ok (false, l3) => .ok ([j.rekey k], l3)
      | .ok (true, l3) => match pp g obj (n + j.flat.length) d (hadOf obj had k) l3 with
        | .error b => .error b
        | .ok (js, l4) => .ok (j.rekey k :: js, l4) := by
  first | (rw [pp]; done) | (rw [pp]; rfl)
theorem rrekey_len (j : J) (k : ByteArray) : (j.rekey k).flat.length = j.flat.length := by
  cases j with
  | mk h l => simp [J.rekey, flat_mk]
theorem cont_key {obj : Bool} {out : List Nd} {deep g : Nat} {had : List ByteArray} {done : List J} {l : List UInt8} {K : ByteArray} {b : Bad} (h : KeyX obj had l K (.error b)) : contX obj out deep (g + 1) had done l = .error b := by
  unfold contX
  rw [pp_step]
  have h' : keyV obj had l = .error b := h
  rw [h']
theorem cont_val {obj : Bool} {out : List Nd} {deep g : Nat} {had : List ByteArray} {done : List J} {l l1 : List UInt8} {K : ByteArray} {b : Bad} (h : KeyX obj had l K (.ok l1)) (hv : valX g K (out ++ J.flats done).length (deep + 1) (.ok l1) = .error b) : contX obj out deep (g + 1) had done l = .error b := by
  unfold contX
  rw [pp_step]
  have h' : keyV obj had l = .ok (K, l1) := h
  rw [h']
  simp only
  simp only [valX] at hv
  cases hp : pv g (out ++ J.flats done).length (deep + 1) (skipB l1) with
  | error b' =>
    rw [hp] at hv
    injection hv with hv
    subst hv
    rfl
  | ok y => rw [hp] at hv; cases hv
/-- a part more -/
theorem cont_more {obj : Bool} {out : List Nd} {deep g : Nat} {had : List ByteArray} {done : List J} {l l1 r5 : List UInt8} {K : ByteArray} {t : List Nd} (h : KeyX obj had l K (.ok l1)) (hv : valX g K (out ++ J.flats done).length (deep + 1) (.ok l1) = .ok (t, r5)) :
    (skipB r5 = [] → contX obj out deep (g + 1) had done l = .error ([], 70)) ∧
    (∀ c r6, skipB r5 = c :: r6 → c ≠ 44 → c ≠ lastOf obj → contX obj out deep (g + 1) had done l = .error (c :: r6, 70)) ∧
    (∀ c r6, skipB r5 = c :: r6 → c ≠ 44 → c = lastOf obj → contX obj out deep (g + 1) had done l = .ok (J.flats done ++ t, r6)) ∧
    (∀ r6, skipB r5 = 44 :: r6 → ∃ j : J, t = j.flat ∧ r6.length < l.length ∧ contX obj out deep (g + 1) had done l = contX obj out deep g (hadOf obj had K) (done ++ [j]) r6) := by
  unfold contX
  have h' : keyV obj had l = .ok (K, l1) := h
  simp only [valX] at hv
  cases hp : pv g (out ++ J.flats done).length (deep + 1) (skipB l1) with
  | error b' => rw [hp] at hv; cases hv
  | ok y =>
    obtain ⟨j, r⟩ := y
    rw [hp] at hv
    injection hv with hv
    injection hv with h1 h2
    subst h1 h2
    refine ⟨fun hs => ?_, fun c r6 hs h1 h2 => ?_, fun c r6 hs h1 h2 => ?_, fun r6 hs => ?_⟩
    · rw [pp_step, h']
      simp only
      rw [hp]
      simp only [moreV, hs]
    · rw [pp_step, h']
      simp only
      rw [hp]
      simp only [moreV, hs]
      rw [if_neg h1, if_neg h2]
    · rw [pp_step, h']
      simp only
      rw [hp]
      simp only [moreV, hs]
      rw [if_neg h1, if_pos h2]
      simp only
      rw [flats_append, flats_one]
    · refine ⟨j.rekey K, rfl, ?_, ?_⟩
      · have a1 := keyV_len h'
        have a2 := skipB_len l1
        have a3 := ((short_both _).1 (skipB l1).length _ _ _ _ _ hp (Nat.le_refl _)).2
        have a4 := skipB_len r
        rw [hs] at a4
        simp only [List.length_cons] at a4
        omega
      · rw [pp_step, h']
        simp only
        rw [hp]
        simp only [moreV, hs]
        rw [if_pos trivial]
        simp only
        have e : (out ++ J.flats (done ++ [j.rekey K])).length = (out ++ J.flats done).length + j.flat.length := by
          rw [flats_append, flats_one, ← List.append_assoc, List.length_append, rrekey_len]
        rw [e]
        cases pp g obj ((out ++ J.flats done).length + j.flat.length) (deep + 1) (hadOf obj had K) r6 with
        | error b => rfl
        | ok z =>
          obtain ⟨js, l4⟩ := z
          simp only [List.append_assoc, List.singleton_append]
end Go.Proofs.YtdlcibbbebhcoaaGreatDoor
