/- Two rows of rows of nodes that grow side by side. -/
import Derived.Test.YtkefhhnbkhijgaaDoorGrow
import Derived.Maps.AppendAt
namespace Go.Proofs.YtkefhhnbkhijgaaDoor
open Go.RowKit

/-! ### two rows of rows of nodes that grow side by side -/
def TwoRows (v u : Value) : Prop := ∀ g, v.ownBlock = some g → u.ownBlock ≠ some g
theorem TwoRows.symm {v u : Value} (h : TwoRows v u) : TwoRows u v := fun g hg hv => h g hv hg
theorem own_else {base T size n : Nat} {w w' : World} {v u : Value} {xs : List Value} (h : w.ownsRow base T size u n xs) (hg : w.grownBy w' v.ownBlock) (ha : TwoRows u v) : w'.ownsRow base T size u n xs := by
  obtain ⟨hl, h2⟩ := h
  refine ⟨hl, ?_⟩
  rcases h2 with h2 | ⟨g, cap, cur, rfl, hb, hh, r⟩
  · exact .inl h2
  · refine .inr ⟨g, cap, cur, rfl, hb, ?_, r⟩
    rw [hg.block g (block_lt hh) (fun e => ha g rfl e.symm)]
    exact hh
theorem step_push_two {o : Oper} {a : Act} {K : Act → World → Prop} {Q : Exit → Act → World → Prop} (w : World) (s x : Operand)
    (ho : o.op = .call { callee := .builtin .append, args := #[s, x], argTypes := #[23, 23] })
    (base : Nat) (v u : Value) (ps qs : List (List Nd)) (hs : a.eval s = v) (hown : PartsOwn base w v ps) (hother : PartsOwn base w u qs) (hap : TwoRows v u) (g cap : Nat) (pv : Value) (p : List Nd) (hx : a.eval x = .slice (some ⟨g, 0, none⟩) 1 cap) (h0 : w.cell? ⟨g, 0, none⟩ = some pv)
    (hp : NodesT base w pv p) (hlen : ps.length + 1 ≤ 4194304) (hbase : base ≤ w.heap.size)
    (h : ∀ v' w', PartsOwn base w' v' (ps ++ [p]) → PartsOwn base w' u qs → TwoRows v' u → Kept 25 base w w' → K (a.put o.dst v') w') : o.wp Tryd.prog a w K Q := by
  obtain ⟨i0, hi, hz0, hz1, hz2⟩ := info_parts partInfo
  obtain ⟨vs, g1, g2, g3⟩ := hown
  have hone : ∀ y ∈ [pv], y.oneCell' = true := by
    intro y hy
    simp at hy
    subst hy
    obtain ⟨A, c, rfl, _⟩ := hp
    rfl
  obtain ⟨v', w', hr, own', hg, _, hblk⟩ := run_append_own_at (P := Tryd.prog) (w := w) base 23 o.type 25 i0 (.slice none 0 0) 1 24 Tryd.underlying23 hi hz0 hz1 hz2 rfl (by omega) v ps.length vs g2 ⟨g, 0, none⟩ 1 cap [pv] rfl (fun j y hy => by
    match j, hy with
    | 0, hy => simp at hy; subst hy; exact h0
    | j + 1, hy => simp at hy) hone (by unfold maxLen; omega) (by omega) hbase
  have k := Kept.of_grown g2 hg hbase
  unfold Oper.wp execOp
  simp only [ho, resolve, invoke, builtin, Sem.run_bind, Sem.run_pure, Result.andThen_ok, List.map_toArray, List.map_cons, List.map_nil, hs, hx, hr]
  refine h v' w' ⟨vs ++ [pv], by simp [g1], ?_, fun i hi hi' => ?_⟩ ?_ ?_ k
  · rw [List.length_append]; exact own'
  · rcases Nat.lt_or_ge i ps.length with hl | hl
    · rw [List.getElem_append_left (by omega), List.getElem_append_left hl]
      exact k.slT (g3 i hl (by omega)) (by decide)
    · have e1 : (ps ++ [p])[i] = p := by
        rw [List.getElem_append_right hl]
        simp
      have e2 : (vs ++ [pv])[i] = pv := by
        rw [List.getElem_append_right (by omega)]
        simp
      rw [e1, e2]
      exact k.slT hp (by decide)
  · obtain ⟨us, k1, k2, k3⟩ := hother
    exact ⟨us, k1, own_else k2 hg hap.symm, fun i hi hi' => k.slT (k3 i hi hi') (by decide)⟩
  · intro g' hg' hu
    rcases hblk with hb | hb
    · exact hap g' (hb.symm.trans hg') hu
    · rw [hb] at hg'
      injection hg' with hg'
      obtain ⟨us, k1, k2, k3⟩ := hother
      have := (k2.lt g' hu).2
      omega
end Go.Proofs.YtkefhhnbkhijgaaDoor
