/- Appends to memory that the call owns: what they leave of the rest. No type of the program is named here. -/
import Derived.Test.YtkefhhnbkhijgaaDoorMem
namespace Go.Proofs.YtkefhhnbkhijgaaDoor
open Go.RowKit

theorem hide {p : Prop} (h : p) : Hid p := h
theorem ret_bool {a b : Bool} (h : a = b) : Ending.returned (.bool a) = .returned (.bool b) := by rw [h]
theorem ret_int {k : IntKind} {a b : Int} (h : a = b) : Ending.returned (.int k a) = .returned (.int k b) := by rw [h]
/-- what an append to memory of the call's own leaves of the rest: blocks of other types, and all below base, stand -/
structure Kept (T base : Nat) (w w' : World) : Prop where
  low : Below base w w'
  other : ∀ (b : Nat) (cs : Array Value) (T' : TypeId) (f : Nat × Nat), w.heap[b]? = some (.cells cs T' f) → T' ≠ T → w'.heap[b]? = some (.cells cs T' f)
theorem Kept.of_grown {T base size n : Nat} {w w' : World} {v : Value} {xs : List Value} (h : w.ownsRow base T size v n xs) (hg : w.grownBy w' v.ownBlock) (hb : base ≤ w.heap.size) : Kept T base w w' where
  low := (Below.refl base w).grown hg hb fun k hk => (h.lt k hk).1
  other := by
    intro b cs T' f hh hne
    rw [hg.block b (block_lt hh) ?_]
    · exact hh
    · intro e
      obtain ⟨cs', T'', f', hh', hT⟩ := own_block h b e.symm
      rw [hh] at hh'
      injection hh' with hh'
      injection hh' with _ hT' _
      exact hne (hT'.trans hT)
theorem Kept.slT {T T' base lo n : Nat} {w w' : World} {v : Value} {xs : List Value} (k : Kept T base w w') (h : SlT T' lo w v n xs) (hne : T' ≠ T) : SlT T' lo w' v n xs := by
  obtain ⟨A, cap, rfl, h1, h2, h3⟩ := h
  refine ⟨A, cap, rfl, h1, h2, fun hx => ?_⟩
  obtain ⟨b, off, cs, rfl, hl, hh, hc⟩ := h3 hx
  exact ⟨b, off, cs, rfl, hl, k.other _ _ _ _ hh hne, hc⟩
theorem Kept.old {T base : Nat} {w0 w w' : World} (k : Kept T base w w') (h : Old w0 w) (hb : w0.heap.size ≤ base) : Old w0 w' := Below.trans h (k.low.mono hb)

/-- append of a slice that reads, nil or not, to a row of the call's own -/
theorem run_append_sl {P : Program} (w : World) (base : Nat) (t ty e : TypeId) (i : TypeInfo) (z : Value) (size bytes : Nat) (ht : P.underlying t = some (.slice e)) (hi : P.info? e = some i) (hz : i.zero = some z)
    (hsize : i.size = size) (hby : i.bytes = bytes) (hzs : z.cells.size = size) (hsz : 0 < size) (v : Value) (n : Nat) (xs : List Value) (hown : w.ownsRow base e size v n xs)
    (x : Value) (m : Nat) (ys : List Value) (hx : Sl w x m ys) (hy : ys.length = m * size) (h1 : ∀ u ∈ ys, u.oneCell' = true) (h63 : n + m ≤ maxLen) (hbytes : (n + m) * bytes ≤ 140737488355328) (hbase : base ≤ w.heap.size) :
    ∃ v' w', (Builtin.append_ #[t, t] ty #[v, x]).run P w = .ok v' w' ∧ w'.ownsRow base e size v' (n + m) (xs ++ ys) ∧ w.grownBy w' v.ownBlock := by
  obtain ⟨A, c, rfl, hc1, hc2, hc3⟩ := hx
  rcases A with _ | ad
  · have hys : ys = [] := Classical.byContradiction fun hne => by
      obtain ⟨b, off, hb, _⟩ := hc3 hne
      cases hb
    subst hys
    have hm : m = 0 := by
      rcases Nat.eq_zero_or_pos m with h | h
      · exact h
      · have := Nat.mul_pos h hsz
        simp at hy
        omega
    subst hm
    refine ⟨v, w, ?_, by simpa using hown, World.grownBy.refl w _⟩
    rcases hown.2 with ⟨rfl, rfl⟩ | ⟨g, cap, cur, rfl, _, _, hnc, _⟩
    · simp [Builtin.append_, run_underlying ht, sizeOf, typeInfo, hi, Builtin.lenOf, Builtin.firstCells]
    · simp [Builtin.append_, run_underlying ht, sizeOf, typeInfo, hi, Builtin.lenOf, Builtin.firstCells, hnc, storeCells]
  · obtain ⟨v', w', hrun, h2, h3, _⟩ := run_append_own (P := P) w base t ty e i z size bytes ht hi hz hsize hby hzs hsz v n xs hown ad m c ys hy (fun j u hu => by
      have hne : ys ≠ [] := by rintro rfl; simp at hu
      obtain ⟨b, off, hb, hcell⟩ := hc3 hne
      injection hb with hb
      subst hb
      have := hcell j u hu
      unfold Addr.add
      split
      · rename_i h0; subst h0; simpa using this
      · exact this) h1 h63 hbytes hbase
    exact ⟨v', w', hrun, h2, h3⟩
theorem wp_append_sl {P : Program} {o : Oper} {a : Act} {K : Act → World → Prop} {Q : Exit → Act → World → Prop} (w : World) (s x : Operand) (t : TypeId)
    (ho : o.op = .call { callee := .builtin .append, args := #[s, x], argTypes := #[t, t] })
    (base : Nat) (e : TypeId) (i : TypeInfo) (z : Value) (size bytes : Nat) (ht : P.underlying t = some (.slice e)) (hi : P.info? e = some i) (hz : i.zero = some z)
    (hsize : i.size = size) (hby : i.bytes = bytes) (hzs : z.cells.size = size) (hsz : 0 < size) (v : Value) (n : Nat) (xs : List Value) (hs : a.eval s = v) (hown : w.ownsRow base e size v n xs)
    (xv : Value) (m : Nat) (ys : List Value) (hev : a.eval x = xv) (hx : Sl w xv m ys) (hy : ys.length = m * size) (h1 : ∀ u ∈ ys, u.oneCell' = true) (h63 : n + m ≤ maxLen) (hbytes : (n + m) * bytes ≤ 140737488355328) (hbase : base ≤ w.heap.size)
    (h : ∀ v' w', w'.ownsRow base e size v' (n + m) (xs ++ ys) → w.grownBy w' v.ownBlock → K (a.put o.dst v') w') : o.wp P a w K Q := by
  obtain ⟨v', w', hr, h2, h3⟩ := run_append_sl (P := P) w base t o.type e i z size bytes ht hi hz hsize hby hzs hsz v n xs hown xv m ys hx hy h1 h63 hbytes hbase
  unfold Oper.wp execOp
  simp only [ho, resolve, invoke, builtin, Sem.run_bind, Sem.run_pure, Result.andThen_ok, List.map_toArray, List.map_cons, List.map_nil, hs, hev, hr]
  exact h v' w' h2 h3
end Go.Proofs.YtkefhhnbkhijgaaDoor
