/- Rows of texts, and of rows of nodes, that a call grows. -/
import Derived.Test.YtcddfpcapbdphaaGreatDoorObj
namespace Go.Proofs.YtcddfpcapbdphaaGreatDoor
open Go.RowKit

def PartsOwn (base : Nat) (w : World) (v : Value) (ps : List (List Nd)) : Prop :=
  ∃ vs : List Value, vs.length = ps.length ∧ w.ownsRow base 25 1 v ps.length vs ∧ ∀ i, (h : i < ps.length) → (h' : i < vs.length) → NodesT base w vs[i] ps[i]
abbrev TextsOwn (base : Nat) (w : World) (v : Value) (l : List ByteArray) : Prop := w.ownsRow base 9 1 v l.length (l.map Value.string)
theorem PartsOwn.old {base : Nat} {w w' : World} {v : Value} {ps : List (List Nd)} (h : PartsOwn base w v ps) (k : Old w w') : PartsOwn base w' v ps := by
  obtain ⟨vs, h1, h2, h3⟩ := h
  exact ⟨vs, h1, own_old h2 k, fun i hi hi' => (h3 i hi hi').old k⟩
theorem PartsOwn.is {base : Nat} {w : World} {v : Value} {ps : List (List Nd)} (h : PartsOwn base w v ps) : PartsIs w v ps := by
  obtain ⟨vs, h1, h2, h3⟩ := h
  exact ⟨vs, h1, (SlT.of_own h2).sl, fun i hi hi' => (h3 i hi hi').sl⟩
theorem own_nil (base T size : Nat) (w : World) : w.ownsRow base T size (.slice none 0 0) 0 [] := ⟨by simp, .inl ⟨rfl, rfl⟩⟩
theorem PartsOwn.nil_ (base : Nat) (w : World) : PartsOwn base w (.slice none 0 0) [] := ⟨[], rfl, own_nil _ _ _ _, fun i hi => absurd hi (by simp)⟩
theorem TextsOwn.is {base : Nat} {w : World} {v : Value} {l : List ByteArray} (h : TextsOwn base w v l) : TextsIs w v l := (SlT.of_own h).sl
theorem Kept.own {T T' base base' size n : Nat} {w w' : World} {v : Value} {xs : List Value} (k : Kept T base w w') (h : w.ownsRow base' T' size v n xs) (hne : T' ≠ T) : w'.ownsRow base' T' size v n xs := by
  obtain ⟨hl, h2⟩ := h
  refine ⟨hl, ?_⟩
  rcases h2 with h2 | ⟨g, cap, cur, rfl, hb, hh, r⟩
  · exact .inl h2
  · exact .inr ⟨g, cap, cur, rfl, hb, k.other _ _ _ _ hh hne, r⟩
theorem PartsOwn.kept {T base base' : Nat} {w w' : World} {v : Value} {ps : List (List Nd)} (h : PartsOwn base' w v ps) (k : Kept T base w w') (h1 : 25 ≠ T) (h2 : 41 ≠ T) : PartsOwn base' w' v ps := by
  obtain ⟨vs, g1, g2, g3⟩ := h
  exact ⟨vs, g1, k.own g2 h1, fun i hi hi' => k.slT (g3 i hi hi') h2⟩
theorem partInfo : (Tryz.prog.info? 25).map (fun i => (i.zero, i.size, i.bytes)) = some (some (.slice none 0 0), 1, 24) := by kernel_rfl
theorem textInfo : (Tryz.prog.info? 9).map (fun i => (i.zero, i.size, i.bytes)) = some (some (.string ⟨#[]⟩), 1, 16) := by kernel_rfl
theorem step_push_part {o : Oper} {a : Act} {K : Act → World → Prop} {Q : Exit → Act → World → Prop} (w : World) (s x : Operand)
    (ho : o.op = .call { callee := .builtin .append, args := #[s, x], argTypes := #[108, 108] })
    (base : Nat) (v : Value) (ps : List (List Nd)) (hs : a.eval s = v) (hown : PartsOwn base w v ps) (g cap : Nat) (pv : Value) (p : List Nd) (hx : a.eval x = .slice (some ⟨g, 0, none⟩) 1 cap) (h0 : w.cell? ⟨g, 0, none⟩ = some pv)
    (hp : NodesT base w pv p) (hlen : ps.length + 1 ≤ 4194304) (hbase : base ≤ w.heap.size)
    (h : ∀ v' w', PartsOwn base w' v' (ps ++ [p]) → Kept 25 base w w' → K (a.put o.dst v') w') : o.wp Tryz.prog a w K Q := by
  obtain ⟨i0, hi, hz0, hz1, hz2⟩ := info_parts partInfo
  obtain ⟨vs, g1, g2, g3⟩ := hown
  refine wp_append_own w s x 108 ho base 25 i0 (.slice none 0 0) 1 24 Tryz.underlying108 hi hz0 hz1 hz2 rfl (by omega) v ps.length vs hs g2 ⟨g, 0, none⟩ 1 cap [pv] hx rfl ?_ ?_ (by unfold maxLen; omega) (by omega) hbase ?_
  · intro j u hu
    match j, hu with
    | 0, hu => simp at hu; subst hu; exact h0
    | j + 1, hu => simp at hu
  · intro u hu
    simp at hu
    subst hu
    obtain ⟨A, c, rfl, _⟩ := hp
    rfl
  · intro v' w' own' hg _
    have k := Kept.of_grown g2 hg hbase
    refine h v' w' ⟨vs ++ [pv], by simp [g1], ?_, fun i hi hi' => ?_⟩ k
    · rw [List.length_append]; exact own'
    · rcases Nat.lt_or_ge i ps.length with hl | hl
      · rw [List.getElem_append_left (by omega), List.getElem_append_left hl]
        exact k.slT (g3 i hl (by omega)) (by decide)
      · have e1 : (ps ++ [p])[i] = p := by
          rw [List.getElem_append_right hl]
          simp
        have e2 : (vs ++ [pv])[i] = pv := by
          rw [List.getElem_append_right (by omega)]
          simp
        rw [e1, e2]
        exact k.slT hp (by decide)
theorem step_push_text {o : Oper} {a : Act} {K : Act → World → Prop} {Q : Exit → Act → World → Prop} (w : World) (s x : Operand)
    (ho : o.op = .call { callee := .builtin .append, args := #[s, x], argTypes := #[22, 22] })
    (base : Nat) (v : Value) (l : List ByteArray) (hs : a.eval s = v) (hown : TextsOwn base w v l) (g cap : Nat) (k : ByteArray) (hx : a.eval x = .slice (some ⟨g, 0, none⟩) 1 cap) (h0 : w.cell? ⟨g, 0, none⟩ = some (.string k))
    (hlen : l.length + 1 ≤ 4194304) (hbase : base ≤ w.heap.size)
    (h : ∀ v' w', TextsOwn base w' v' (l ++ [k]) → Kept 9 base w w' → K (a.put o.dst v') w') : o.wp Tryz.prog a w K Q := by
  obtain ⟨i0, hi, hz0, hz1, hz2⟩ := info_parts textInfo
  refine wp_append_own w s x 22 ho base 9 i0 (.string ⟨#[]⟩) 1 16 Tryz.underlying22 hi hz0 hz1 hz2 rfl (by omega) v l.length (l.map Value.string) hs hown ⟨g, 0, none⟩ 1 cap [.string k] hx rfl ?_ ?_ (by unfold maxLen; omega) (by omega) hbase ?_
  · intro j u hu
    match j, hu with
    | 0, hu => simp at hu; subst hu; exact h0
    | j + 1, hu => simp at hu
  · intro u hu
    simp at hu
    subst hu
    rfl
  · intro v' w' own' hg _
    refine h v' w' ?_ (Kept.of_grown hown hg hbase)
    unfold TextsOwn
    rw [List.length_append, List.map_append]
    exact own'
end Go.Proofs.YtcddfpcapbdphaaGreatDoor


