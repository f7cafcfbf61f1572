/- The walks that copy rows and items. -/
import Derived.Test.YtmfbblcipakaiaaGreatDoorPush
import Derived.Test.YtmfbblcipakaiaaGreatDoorEq
import Derived.Deep.RegionHeld3
namespace Go.Proofs.YtmfbblcipakaiaaGreatDoor
open Go.RowKit

/-- a new row is handed back -/
def NewRow (w0 : World) (r : List Cell) (e : Ending) (w' : World) : Prop :=
  ∃ v, e = .returned v ∧ SlT 65 w0.heap.size w' v r.length (rowVals r) ∧ Old w0 w'

theorem NewRow.form {w0 w' : World} {r : List Cell} {e : Ending} {lo : Nat} (h : NewRow w0 r e w') (hl : lo ≤ w0.heap.size) :
    ∃ A cp, e = .returned (.slice A r.length cp) ∧ SlT 65 lo w' (.slice A r.length cp) r.length (rowVals r) ∧ Old w0 w' := by
  obtain ⟨v, rfl, h1, h2⟩ := h
  obtain ⟨A, cp, rfl, _⟩ := id h1
  exact ⟨A, cp, rfl, h1.mono hl, h2⟩
set_option maxRecDepth 100000 in
theorem copyRow (v : Value) (r : List Cell) (w : World) (h : RowIs w v r) (hlen : r.length ≤ 1048576) : Calls Tryz.prog 42 #[v] w (NewRow w r) := by
  have H := Lib.hid h
  obtain ⟨A, cap, rfl, rest⟩ := h
  clear rest
  go_enter Tryz.func42, Tryz.ntmps42
  go_wp2_with (at_builtin; refine wpList_plain rfl (fun K hK => ?_); refine step_push_row _ _ _ rfl w.heap.size (.slice none 0 0) [] rfl (World.ownsRow_nil _ _ _ _) _ r rfl H.out (by simp; omega) (Nat.le_refl _) ?_; intro v' w' own hk; refine hK _ _ ?_; clear hK)
  go_ret
  exact ⟨_, rfl, SlT.of_own own, hk.old (Old.refl _) (Nat.le_refl _)⟩

set_option maxRecDepth 100000 in
theorem clone_row (v : Value) (r : List Cell) (w : World) (h : RowIs w v r) (hlen : r.length ≤ 1048576) : Calls Tryz.prog 76 #[v] w (NewRow w r) := by
  have H := Lib.hid h
  obtain ⟨A, cap, rfl, h1, h2, h3⟩ := h
  rcases A with _ | ad
  · have h0 : r.length = 0 := by
      rcases Nat.eq_zero_or_pos r.length with h | h
      · exact h
      · obtain ⟨b, off, hb, _⟩ := h3 (rowVals_ne h)
        cases hb
    have H0 := Lib.hid h0
    clear h3 h0
    have kn : ∀ w, (binOp .eql 49 (.slice none r.length cap) (.slice none 0 0)).run Tryz.prog w = .ok (.bool true) w := fun w => Lib.run_eql_slice_nil w _ _ _ _ _ _ _ Tryz.underlying49
    go_enter Tryz.func76, Tryz.ntmps76
    go_wp2
    go_ret
    refine ⟨_, rfl, ?_, Old.refl _⟩
    rw [H0.out, rowVals_nil H0.out]
    exact SlT.nil_ _
  · clear h3
    have kn : ∀ w, (binOp .eql 49 (.slice (some ad) r.length cap) (.slice none 0 0)).run Tryz.prog w = .ok (.bool false) w := fun w => Lib.run_eql_slice_nil w _ _ _ _ _ _ _ Tryz.underlying49
    go_enter Tryz.func76, Tryz.ntmps76
    go_wp2_with (at_builtin; refine wpList_plain rfl (fun K hK => ?_); refine step_push_row _ _ _ rfl w.heap.size _ [] rfl (World.ownsRow_lit w #[] 0 (Nat.le_refl _) (by unfold maxLen; omega) rfl) _ r rfl (Sl.old H.out (Old.alloc (Old.refl w) _)) (by simp; omega) (by simp) ?_; intro v' w' own hk; refine hK _ _ ?_; clear hK)
    go_ret
    exact ⟨_, rfl, SlT.of_own own, hk.old (Old.alloc (Old.refl _) _) (Nat.le_refl _)⟩

theorem row_Copy (v : Value) (r : List Cell) (w : World) (h : RowIs w v r) (hlen : r.length ≤ 1048576) : Calls Tryz.prog 55 #[v] w (NewRow w r) := by
  have c := clone_row v r w h hlen
  have C := Lib.hid c
  clear c h
  go_enter Tryz.func55, Tryz.ntmps55
  go_wp2_with fail
  refine C.out.mono ?_
  rintro e w1 ⟨u, rfl, h1, h2⟩
  go_wp2_with fail
  go_ret
  exact ⟨_, rfl, h1, h2⟩
/-- new items are handed back -/
def NewItems (w0 : World) (l : List Item) (e : Ending) (w' : World) : Prop :=
  ∃ v, e = .returned v ∧ ItemsT 60 65 w0.heap.size w' v l ∧ Old w0 w'
/-- short rows -/
def Short (l : List Item) : Prop := ∀ i, (h : i < l.length) → l[i].row.length ≤ 1048576

theorem take_next {l : List Item} {k : Nat} (h : k < l.length) : l.take (k + 1) = l.take k ++ [⟨l[k].row, l[k].w⟩] := by
  rw [List.take_succ_eq_append_getElem h]

end Go.Proofs.YtmfbblcipakaiaaGreatDoor

