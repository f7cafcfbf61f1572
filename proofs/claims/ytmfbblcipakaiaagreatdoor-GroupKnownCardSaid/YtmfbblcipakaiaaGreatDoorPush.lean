/- append of one item, or of a row's cells, to memory that the call owns. -/
import Derived.Test.YtmfbblcipakaiaaGreatDoorProg
import Derived.Test.YtmfbblcipakaiaaGreatDoorItems
namespace Go.Proofs.YtmfbblcipakaiaaGreatDoor
open Go.RowKit

theorem itemInfo : (Tryz.prog.info? 60).map (fun i => (i.zero, i.size, i.bytes)) = some (some (.agg #[.slice none 0 0, .int .i64 0]), 2, 32) := by kernel_rfl
theorem cellInfo : (Tryz.prog.info? 65).map (fun i => (i.zero, i.size, i.bytes)) = some (some (.agg #[.bool false, .int .i64 0, .string ⟨#[]⟩]), 3, 32) := by kernel_rfl

/-- what an append to memory of the call's own leaves of the rest: blocks of other types, and all below base, stand -/
structure Kept (T base : Nat) (w w' : World) : Prop where
  low : Below base w w'
  other : ∀ (b : Nat) (cs : Array Value) (T' : TypeId) (f : Nat × Nat), w.heap[b]? = some (.cells cs T' f) → T' ≠ T → w'.heap[b]? = some (.cells cs T' f)
theorem Kept.of_grown {T base size n : Nat} {w w' : World} {v : Value} {xs : List Value} (h : w.ownsRow base T size v n xs) (hg : w.grownBy w' v.ownBlock) (hb : base ≤ w.heap.size) : Kept T base w w' where
  low := (Below.refl base w).grown hg hb fun k hk => (h.lt k hk).1
  other := by
    intro b cs T' f hh hne
    rw [hg.block b (block_lt hh) ?_]
    · exact hh
    · intro e
      obtain ⟨cs', T'', f', hh', hT⟩ := own_block h b e.symm
      rw [hh] at hh'
      injection hh' with hh'
      injection hh' with _ hT' _
      exact hne (hT'.trans hT)
theorem Kept.slT {T T' base lo n : Nat} {w w' : World} {v : Value} {xs : List Value} (k : Kept T base w w') (h : SlT T' lo w v n xs) (hne : T' ≠ T) : SlT T' lo w' v n xs := by
  obtain ⟨A, cap, rfl, h1, h2, h3⟩ := h
  refine ⟨A, cap, rfl, h1, h2, fun hx => ?_⟩
  obtain ⟨b, off, cs, rfl, hl, hh, hc⟩ := h3 hx
  exact ⟨b, off, cs, rfl, hl, k.other _ _ _ _ hh hne, hc⟩
theorem Kept.old {T base : Nat} {w0 w w' : World} (k : Kept T base w w') (h : Old w0 w) (hb : w0.heap.size ≤ base) : Old w0 w' := Below.trans h (k.low.mono hb)

/-- append of a slice that reads, nil or not, to a row of the call's own -/
theorem run_append_sl {P : Program} (w : World) (base : Nat) (t ty e : TypeId) (i : TypeInfo) (z : Value) (size bytes : Nat) (ht : P.underlying t = some (.slice e)) (hi : P.info? e = some i) (hz : i.zero = some z)
    (hsize : i.size = size) (hby : i.bytes = bytes) (hzs : z.cells.size = size) (hsz : 0 < size) (v : Value) (n : Nat) (xs : List Value) (hown : w.ownsRow base e size v n xs)
    (x : Value) (m : Nat) (ys : List Value) (hx : Sl w x m ys) (hy : ys.length = m * size) (h1 : ∀ u ∈ ys, u.oneCell' = true) (h63 : n + m ≤ maxLen) (hbytes : (n + m) * bytes ≤ 140737488355328) (hbase : base ≤ w.heap.size) :
    ∃ v' w', (Builtin.append_ #[t, t] ty #[v, x]).run P w = .ok v' w' ∧ w'.ownsRow base e size v' (n + m) (xs ++ ys) ∧ w.grownBy w' v.ownBlock := by
  obtain ⟨A, c, rfl, hc1, hc2, hc3⟩ := hx
  rcases A with _ | ad
  · have hys : ys = [] := Classical.byContradiction fun hne => by
      obtain ⟨b, off, hb, _⟩ := hc3 hne
      cases hb
    subst hys
    have hm : m = 0 := by
      rcases Nat.eq_zero_or_pos m with h | h
      · exact h
      · have := Nat.mul_pos h hsz
        simp at hy
        omega
    subst hm
    refine ⟨v, w, ?_, by simpa using hown, World.grownBy.refl w _⟩
    rcases hown.2 with ⟨rfl, rfl⟩ | ⟨g, cap, cur, rfl, _, _, hnc, _⟩
    · simp [Builtin.append_, run_underlying ht, sizeOf, typeInfo, hi, Builtin.lenOf, Builtin.firstCells]
    · simp [Builtin.append_, run_underlying ht, sizeOf, typeInfo, hi, Builtin.lenOf, Builtin.firstCells, hnc, storeCells]
  · obtain ⟨v', w', hrun, h2, h3, _⟩ := run_append_own (P := P) w base t ty e i z size bytes ht hi hz hsize hby hzs hsz v n xs hown ad m c ys hy (fun j u hu => by
      have hne : ys ≠ [] := by rintro rfl; simp at hu
      obtain ⟨b, off, hb, hcell⟩ := hc3 hne
      injection hb with hb
      subst hb
      have := hcell j u hu
      unfold Addr.add
      split
      · rename_i h0; subst h0; simpa using this
      · exact this) h1 h63 hbytes hbase
    exact ⟨v', w', hrun, h2, h3⟩
theorem wp_append_sl {P : Program} {o : Oper} {a : Act} {K : Act → World → Prop} {Q : Exit → Act → World → Prop} (w : World) (s x : Operand) (t : TypeId)
    (ho : o.op = .call { callee := .builtin .append, args := #[s, x], argTypes := #[t, t] })
    (base : Nat) (e : TypeId) (i : TypeInfo) (z : Value) (size bytes : Nat) (ht : P.underlying t = some (.slice e)) (hi : P.info? e = some i) (hz : i.zero = some z)
    (hsize : i.size = size) (hby : i.bytes = bytes) (hzs : z.cells.size = size) (hsz : 0 < size) (v : Value) (n : Nat) (xs : List Value) (hs : a.eval s = v) (hown : w.ownsRow base e size v n xs)
    (xv : Value) (m : Nat) (ys : List Value) (hev : a.eval x = xv) (hx : Sl w xv m ys) (hy : ys.length = m * size) (h1 : ∀ u ∈ ys, u.oneCell' = true) (h63 : n + m ≤ maxLen) (hbytes : (n + m) * bytes ≤ 140737488355328) (hbase : base ≤ w.heap.size)
    (h : ∀ v' w', w'.ownsRow base e size v' (n + m) (xs ++ ys) → w.grownBy w' v.ownBlock → K (a.put o.dst v') w') : o.wp P a w K Q := by
  obtain ⟨v', w', hr, h2, h3⟩ := run_append_sl (P := P) w base t o.type e i z size bytes ht hi hz hsize hby hzs hsz v n xs hown xv m ys hx hy h1 h63 hbytes hbase
  unfold Oper.wp execOp
  simp only [ho, resolve, invoke, builtin, Sem.run_bind, Sem.run_pure, Result.andThen_ok, List.map_toArray, List.map_cons, List.map_nil, hs, hev, hr]
  exact h v' w' h2 h3
/-- append of a row's cells -/
theorem step_push_row {o : Oper} {a : Act} {K : Act → World → Prop} {Q : Exit → Act → World → Prop} (w : World) (s x : Operand)
    (ho : o.op = .call { callee := .builtin .append, args := #[s, x], argTypes := #[49, 49] })
    (base : Nat) (v : Value) (r : List Cell) (hs : a.eval s = v) (hown : w.ownsRow base 65 3 v r.length (rowVals r))
    (xv : Value) (q : List Cell) (hev : a.eval x = xv) (hx : RowIs w xv q) (hlen : r.length + q.length ≤ 4194304) (hbase : base ≤ w.heap.size)
    (h : ∀ v' w', w'.ownsRow base 65 3 v' (r ++ q).length (rowVals (r ++ q)) → Kept 65 base w w' → K (a.put o.dst v') w') : o.wp Tryz.prog a w K Q := by
  obtain ⟨i0, hi, hz0, hz1, hz2⟩ := info_parts cellInfo
  refine wp_append_sl w s x 49 ho base 65 i0 _ 3 32 Tryz.underlying49 hi hz0 hz1 hz2 rfl (by omega) v r.length (rowVals r) hs hown
    xv q.length (rowVals q) hev hx (rowVals_length q) (rowVals_cell q) (by unfold maxLen; omega) (by omega) hbase ?_
  intro v' w' own' hg
  refine h v' w' ?_ (Kept.of_grown hown hg hbase)
  rw [rowVals_append, List.length_append]
  exact own'

theorem step_push_item {o : Oper} {a : Act} {K : Act → World → Prop} {Q : Exit → Act → World → Prop} (w : World) (s x : Operand)
    (ho : o.op = .call { callee := .builtin .append, args := #[s, x], argTypes := #[33, 33] })
    (base : Nat) (v : Value) (l : List Item) (hs : a.eval s = v) (hown : ItemsOwn 60 65 base w v l)
    (g cap : Nat) (rv : Value) (r : List Cell) (wt : Int) (hx : a.eval x = .slice (some ⟨g, 0, none⟩) 1 cap)
    (h0 : w.cell? ⟨g, 0, none⟩ = some rv) (h1 : w.cell? ⟨g, 1, none⟩ = some (.int .i64 wt)) (hr : SlT 65 base w rv r.length (rowVals r))
    (hlen : l.length + 1 ≤ 4194304) (hbase : base ≤ w.heap.size)
    (h : ∀ v' w', ItemsOwn 60 65 base w' v' (l ++ [⟨r, wt⟩]) → Kept 60 base w w' → K (a.put o.dst v') w') : o.wp Tryz.prog a w K Q := by
  obtain ⟨i0, hi, hz0, hz1, hz2⟩ := info_parts itemInfo
  obtain ⟨vs, e1, e2, e3⟩ := hown
  obtain ⟨A, cp, rfl, _⟩ := id hr
  refine wp_append_own w s x 33 ho base 60 i0 (.agg #[.slice none 0 0, .int .i64 0]) 2 32 Tryz.underlying33 hi hz0 hz1 hz2 rfl (by omega) v l.length (itemVals vs l) hs e2
    ⟨g, 0, none⟩ 1 cap [.slice A r.length cp, .int .i64 wt] hx rfl ?_ ?_ (by unfold maxLen; omega) (by omega) hbase ?_
  · intro j u hu
    match j, hu with
    | 0, hu => simp at hu; subst hu; exact h0
    | 1, hu => simp at hu; subst hu; simpa [Addr.add] using h1
    | j + 2, hu => simp at hu
  · intro u hu
    simp at hu
    rcases hu with rfl | rfl <;> rfl
  · intro v' w' own' hg _
    have hk := Kept.of_grown e2 hg hbase
    refine h v' w' ⟨vs ++ [.slice A r.length cp], by simp [e1], ?_, ?_⟩ hk
    · rw [itemVals_append vs l _ _ e1, itemVals_one, List.length_append]
      exact own'
    · intro i hi hi'
      rcases Nat.lt_or_ge i l.length with hlt | hge
      · have : i < vs.length := by omega
        have hrow := e3 i hlt this
        rw [List.getElem_append_left this]
        simp only [List.getElem_append_left hlt]
        exact hk.slT hrow (by decide)
      · have hi2 : i = l.length := by simp at hi; omega
        subst hi2
        rw [List.getElem_append_right (by omega)]
        simp only [List.getElem_append_right (Nat.le_refl _), Nat.sub_self, List.getElem_cons_zero, e1]
        exact hk.slT hr (by decide)
end Go.Proofs.YtmfbblcipakaiaaGreatDoor

