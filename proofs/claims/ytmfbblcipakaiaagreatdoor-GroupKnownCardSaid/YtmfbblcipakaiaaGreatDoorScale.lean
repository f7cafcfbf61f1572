/- The walks of zset.Scale, Neg, Copy and Same, and of the document's Spoil and Bring. -/
import Derived.Test.YtmfbblcipakaiaaGreatDoorAdd
import Derived.Test.YtmfbblcipakaiaaGreatDoorGet
namespace Go.Proofs.YtmfbblcipakaiaaGreatDoor
open Go.RowKit

theorem times_next {c : Int} {a : List Item} {k : Nat} (h : k < a.length) : timesW c (a.take (k + 1)) = timesW c (a.take k) ++ [⟨a[k].row, c * a[k].w⟩] := by
  unfold timesW
  rw [List.take_succ_eq_append_getElem h, List.map_append]
  rfl
theorem noZero_skip {a : List Item} {x : Item} (h : x.w = 0) : noZero (a ++ [x]) = noZero a := by simp [noZero, h]
theorem noZero_push {a : List Item} {x : Item} (h : ¬ x.w = 0) : noZero (a ++ [x]) = noZero a ++ [x] := by simp [noZero, h]
theorem scale_end {c : Int} {a : List Item} (hc : chk a = 0) (h : ∀ j : Nat, j < a.length → ∀ (hj : j < a.length), fit (c * a[j].w)) : scaleErr c a = 0 ∧ scaleOut c a = noZero (timesW c a) := by
  have ht : allTimes c a = true := List.all_eq_true.2 fun x hx => by
    obtain ⟨j, hj, rfl⟩ := List.getElem_of_mem hx
    exact decide_eq_true (h j hj hj)
  unfold scaleErr scaleOut
  rw [if_pos hc, if_pos hc, if_pos ht, if_pos ht]
  exact ⟨rfl, rfl⟩
theorem scale_stop {c : Int} {a : List Item} (hc : chk a = 0) {k : Nat} (hk : k < a.length) (h : ¬ fit (c * a[k].w)) : scaleErr c a = 50 ∧ scaleOut c a = [] := by
  have ht : ¬ allTimes c a = true := fun hh => h (of_decide_eq_true (List.all_eq_true.1 hh a[k] (List.getElem_mem hk)))
  unfold scaleErr scaleOut
  rw [if_pos hc, if_pos hc, if_neg ht, if_neg ht]
  exact ⟨rfl, rfl⟩
theorem scale_arg {c : Int} {a : List Item} (hc : ¬ chk a = 0) : scaleErr c a = 2 ∧ scaleOut c a = [] := by
  unfold scaleErr scaleOut
  rw [if_neg hc, if_neg hc]
  exact ⟨rfl, rfl⟩
theorem noZero_len (a : List Item) : (noZero a).length ≤ a.length := List.length_filter_le _ _
theorem timesW_len (c : Int) (a : List Item) : (timesW c a).length = a.length := by simp [timesW]
theorem ItemsT.nil_ {tI tC lo : Nat} (w : World) : ItemsT tI tC lo w (.slice none 0 0) [] := ⟨[], rfl, SlT.nil_ _, fun i h => absurd h (by simp)⟩

theorem step_push_item_g {o : Oper} {a : Act} {K : Act → World → Prop} {Q : Exit → Act → World → Prop} (w : World) (s x : Operand)
    (ho : o.op = .call { callee := .builtin .append, args := #[s, x], argTypes := #[33, 33] })
    (base : Nat) (v : Value) (l : List Item) (hs : a.eval s = v) (hown : ItemsOwn 60 65 base w v l)
    (g cap : Nat) (rv : Value) (r : List Cell) (wt : Int) (hx : a.eval x = .slice (some ⟨g, 0, none⟩) 1 cap)
    (h0 : w.cell? ⟨g, 0, none⟩ = some rv) (h1 : w.cell? ⟨g, 1, none⟩ = some (.int .i64 wt)) (hr : SlT 65 base w rv r.length (rowVals r))
    (hlen : l.length + 1 ≤ 4194304) (hbase : base ≤ w.heap.size)
    (h : ∀ v' w', ItemsOwn 60 65 base w' v' (l ++ [⟨r, wt⟩]) → Kept 60 base w w' → w.grownBy w' v.ownBlock → K (a.put o.dst v') w') : o.wp Tryz.prog a w K Q := by
  obtain ⟨i0, hi, hz0, hz1, hz2⟩ := info_parts itemInfo
  obtain ⟨vs, e1, e2, e3⟩ := hown
  obtain ⟨A, cp, rfl, _⟩ := id hr
  refine wp_append_own w s x 33 ho base 60 i0 (.agg #[.slice none 0 0, .int .i64 0]) 2 32 Tryz.underlying33 hi hz0 hz1 hz2 rfl (by omega) v l.length (itemVals vs l) hs e2
    ⟨g, 0, none⟩ 1 cap [.slice A r.length cp, .int .i64 wt] hx rfl ?_ ?_ (by unfold maxLen; omega) (by omega) hbase ?_
  · intro j u hu
    match j, hu with
    | 0, hu => simp at hu; subst hu; exact h0
    | 1, hu => simp at hu; subst hu; simpa [Addr.add] using h1
    | j + 2, hu => simp at hu
  · intro u hu
    simp at hu
    rcases hu with rfl | rfl <;> rfl
  · intro v' w' own' hg _
    have hk := Kept.of_grown e2 hg hbase
    refine h v' w' ⟨vs ++ [.slice A r.length cp], by simp [e1], ?_, ?_⟩ hk hg
    · rw [itemVals_append vs l _ _ e1, itemVals_one, List.length_append]
      exact own'
    · intro i hi hi'
      rcases Nat.lt_or_ge i l.length with hlt | hge
      · have : i < vs.length := by omega
        have hrow := e3 i hlt this
        rw [List.getElem_append_left this]
        simp only [List.getElem_append_left hlt]
        exact hk.slT hrow (by decide)
      · have hi2 : i = l.length := by simp at hi; omega
        subst hi2
        rw [List.getElem_append_right (by omega)]
        simp only [List.getElem_append_right (Nat.le_refl _), Nat.sub_self, List.getElem_cons_zero, e1]
        exact hk.slT hr (by decide)

/-- later worlds of w in which the box q of an item stands -/
structure BoxS (w : World) (q : Nat) (u : Value) (i : Int) (w' : World) : Prop where
  old : Old w w'
  c0 : w'.cell? ⟨q, 0, none⟩ = some u
  c1 : w'.cell? ⟨q, 1, none⟩ = some (.int .i64 i)
theorem BoxS.later {w w' w'' : World} {q : Nat} {u : Value} {i : Int} (h : BoxS w q u i w') (ho : Old w' w'') : BoxS w q u i w'' := ⟨Old.trans h.old ho, ho.cell h.c0, ho.cell h.c1⟩
theorem BoxS.push {w wx w' : World} {q : Nat} {u : Value} {i : Int} {T : TypeId} {v : Value} (h : BoxS w q u i wx) (k : Kept T w.heap.size wx w') (hg : wx.grownBy w' v.ownBlock) (hne : some q ≠ v.ownBlock) : BoxS w q u i w' :=
  ⟨k.old h.old (Nat.le_refl _), hg.cell h.c0 hne, hg.cell h.c1 hne⟩
theorem ItemsOwn.block {tI tC base : Nat} {w : World} {v : Value} {l : List Item} (h : ItemsOwn tI tC base w v l) : some w.heap.size ≠ v.ownBlock := fun e => by
  obtain ⟨vs, _, h2, _⟩ := h
  obtain ⟨cs, T', f, hh, _⟩ := own_block h2 _ e.symm
  have := block_lt hh
  omega

end Go.Proofs.YtmfbblcipakaiaaGreatDoor

