/- The walks that copy rows and items. -/
import Derived.Test.YtggknmagpcnkoaaPush
import Derived.Test.YtggknmagpcnkoaaEq
import Derived.Deep.RegionHeld3
namespace Go.Proofs.Ytggknmagpcnkoaa
open Go.RowKit

/-- a new row is handed back -/
def NewRow (w0 : World) (r : List Cell) (e : Ending) (w' : World) : Prop :=
  ∃ v, e = .returned v ∧ SlT 49 w0.heap.size w' v r.length (rowVals r) ∧ Old w0 w'

theorem NewRow.form {w0 w' : World} {r : List Cell} {e : Ending} {lo : Nat} (h : NewRow w0 r e w') (hl : lo ≤ w0.heap.size) :
    ∃ A cp, e = .returned (.slice A r.length cp) ∧ SlT 49 lo w' (.slice A r.length cp) r.length (rowVals r) ∧ Old w0 w' := by
  obtain ⟨v, rfl, h1, h2⟩ := h
  obtain ⟨A, cp, rfl, _⟩ := id h1
  exact ⟨A, cp, rfl, h1.mono hl, h2⟩
set_option maxRecDepth 100000 in
theorem copyRow (v : Value) (r : List Cell) (w : World) (h : RowIs w v r) (hlen : r.length ≤ 1048576) : Calls Try.prog 36 #[v] w (NewRow w r) := by
  have H := Lib.hid h
  obtain ⟨A, cap, rfl, rest⟩ := h
  clear rest
  go_enter Try.func36, Try.ntmps36
  go_wp2_with (at_builtin; refine wpList_plain rfl (fun K hK => ?_); refine step_push_row _ _ _ rfl w.heap.size (.slice none 0 0) [] rfl (World.ownsRow_nil _ _ _ _) _ r rfl H.out (by simp; omega) (Nat.le_refl _) ?_; intro v' w' own hk; refine hK _ _ ?_; clear hK)
  go_ret
  exact ⟨_, rfl, SlT.of_own own, hk.old (Old.refl _) (Nat.le_refl _)⟩

set_option maxRecDepth 100000 in
theorem clone_row (v : Value) (r : List Cell) (w : World) (h : RowIs w v r) (hlen : r.length ≤ 1048576) : Calls Try.prog 58 #[v] w (NewRow w r) := by
  have H := Lib.hid h
  obtain ⟨A, cap, rfl, h1, h2, h3⟩ := h
  rcases A with _ | ad
  · have h0 : r.length = 0 := by
      rcases Nat.eq_zero_or_pos r.length with h | h
      · exact h
      · obtain ⟨b, off, hb, _⟩ := h3 (rowVals_ne h)
        cases hb
    have H0 := Lib.hid h0
    clear h3 h0
    have kn : ∀ w, (binOp .eql 34 (.slice none r.length cap) (.slice none 0 0)).run Try.prog w = .ok (.bool true) w := fun w => Lib.run_eql_slice_nil w _ _ _ _ _ _ _ Try.underlying34
    go_enter Try.func58, Try.ntmps58
    go_wp2
    go_ret
    refine ⟨_, rfl, ?_, Old.refl _⟩
    rw [H0.out, rowVals_nil H0.out]
    exact SlT.nil_ _
  · clear h3
    have kn : ∀ w, (binOp .eql 34 (.slice (some ad) r.length cap) (.slice none 0 0)).run Try.prog w = .ok (.bool false) w := fun w => Lib.run_eql_slice_nil w _ _ _ _ _ _ _ Try.underlying34
    go_enter Try.func58, Try.ntmps58
    go_wp2_with (at_builtin; refine wpList_plain rfl (fun K hK => ?_); refine step_push_row _ _ _ rfl w.heap.size _ [] rfl (World.ownsRow_lit w #[] 0 (Nat.le_refl _) (by unfold maxLen; omega) rfl) _ r rfl (Sl.old H.out (Old.alloc (Old.refl w) _)) (by simp; omega) (by simp) ?_; intro v' w' own hk; refine hK _ _ ?_; clear hK)
    go_ret
    exact ⟨_, rfl, SlT.of_own own, hk.old (Old.alloc (Old.refl _) _) (Nat.le_refl _)⟩

theorem row_Copy (v : Value) (r : List Cell) (w : World) (h : RowIs w v r) (hlen : r.length ≤ 1048576) : Calls Try.prog 38 #[v] w (NewRow w r) := by
  have c := clone_row v r w h hlen
  have C := Lib.hid c
  clear c h
  go_enter Try.func38, Try.ntmps38
  go_wp2_with fail
  refine C.out.mono ?_
  rintro e w1 ⟨u, rfl, h1, h2⟩
  go_wp2_with fail
  go_ret
  exact ⟨_, rfl, h1, h2⟩
/-- new items are handed back -/
def NewItems (w0 : World) (l : List Item) (e : Ending) (w' : World) : Prop :=
  ∃ v, e = .returned v ∧ ItemsT 37 49 w0.heap.size w' v l ∧ Old w0 w'
/-- short rows -/
def Short (l : List Item) : Prop := ∀ i, (h : i < l.length) → l[i].row.length ≤ 1048576

theorem take_next {l : List Item} {k : Nat} (h : k < l.length) : l.take (k + 1) = l.take k ++ [⟨l[k].row, l[k].w⟩] := by
  rw [List.take_succ_eq_append_getElem h]

set_option maxRecDepth 100000 in
set_option maxHeartbeats 1000000 in
theorem copyItems (v : Value) (l : List Item) (w : World) (hl : ItemsIs w v l) (hlen : l.length ≤ 1048576) (hs : Short l) : Calls Try.prog 12 #[v] w (NewItems w l) := by
  obtain ⟨A, ca, us, rfl, hla, hma, hul, hur, ha⟩ := hl.open_
  unfold maxLen at hma
  have HUR := Lib.hid hur
  have HS := Lib.hid hs
  clear hur hs
  go_enter Try.func12, Try.ntmps12
  go_wp2_with fail
  go_loopw [3, 4] (fun o i wr => ∃ k : Nat, i = .int .i64 k ∧ k ≤ l.length ∧ ItemsOwn 37 49 w.heap.size wr o (l.take k) ∧ Old w wr) (fun _ i _ => l.length - (intOf i).toNat)
  case atStart => exact ⟨0, rfl, by omega, ItemsOwn.nil_ _, Old.refl _⟩
  case round =>
    obtain ⟨k, rfl, hk, hown, hbl⟩ := hrel
    by_cases hlt : k < l.length
    · have hku : k < us.length := by omega
      obtain ⟨b1, o1, rfl, hc1⟩ := ha.resolve_left (by omega)
      obtain ⟨x0, x1⟩ := hc1 k hlt hku
      have hx0 : ∀ w', Old w w' → w'.cell? ⟨b1, o1 + k * 2, none⟩ = some us[k] := fun w' h => h.cell x0
      have hx1 : ∀ w', Old w w' → w'.cell? ⟨b1, o1 + k * 2 + 1, none⟩ = some (.int .i64 l[k].w) := fun w' h => h.cell x1
      have hrow := HUR.out k hlt hku
      have hcall : ∀ w', Old w w' → Calls Try.prog 36 #[us[k]] w' fun e w2 => ∃ A cp, e = .returned (.slice A l[k].row.length cp) ∧ SlT 49 w.heap.size w2 (.slice A l[k].row.length cp) l[k].row.length (rowVals l[k].row) ∧ Old w' w2 := fun w' h =>
        (copyRow _ _ _ (hrow.old h) (HS.out k hlt)).mono fun _ _ hn => hn.form h.size
      have HC := Lib.hid hcall
      have HO := Lib.hid hown
      have hpush : (l.take k).length + 1 ≤ 4194304 := by simp; omega
      clear ha hc1 x0 x1 hrow hcall hown
      go_wp2_with fail
      go_region_held3 (fun w' => Old w w')
        (first | (exact Old.drew hbl) | (exact Old.alloc (by assumption) _) | (exact Old.trans (by assumption) (by assumption)) | (exact Kept.old (by assumption) (by assumption) (Nat.le_refl _)))
        (first
          | (go_at_call 36; refine (HC.out _ (by assumption)).mono ?_; rintro e w1 ⟨A1, c1, rfl, hr1, hb1⟩)
          | (refine step_push_item _ _ _ rfl w.heap.size _ (l.take k) rfl (HO.out.old (Old.trans (Old.trans (Old.drew (Old.refl _)) hb1) (Old.alloc (Old.refl _) _))) _ _ (.slice A1 l[k].row.length c1) l[k].row l[k].w rfl (by go_simp) (by go_simp) (SlT.old hr1 (Old.alloc (Old.refl _) _)) hpush (Below.size (w := w) (by assumption)) ?_; intro v' w2 own2 kept2))
      go_wp2_with fail
      go_roundw
      case rel => exact ⟨k + 1, by go_num, by omega, by rw [take_next hlt]; exact own2, by assumption⟩
      case measure => simp [intOf]; omega
    · have hkl : k = l.length := by omega
      go_wp2_with fail
      go_ret
      refine ⟨_, rfl, ?_, hbl⟩
      have h := hown.t
      rwa [hkl, List.take_length] at h
end Go.Proofs.Ytggknmagpcnkoaa
