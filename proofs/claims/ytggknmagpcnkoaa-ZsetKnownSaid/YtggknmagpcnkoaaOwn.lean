/- Items cut short, and copied, in rows that the caller may append to. -/
import Derived.Test.YtggknmagpcnkoaaCut
namespace Go.Proofs.Ytggknmagpcnkoaa
open Go.RowKit

/-- new items are handed back, in a row that may be appended to -/
def OwnItems (w0 : World) (l : List Item) (e : Ending) (w' : World) : Prop :=
  ∃ v, e = .returned v ∧ ItemsOwn 37 49 w0.heap.size w' v l ∧ Old w0 w'

set_option maxRecDepth 100000 in
set_option maxHeartbeats 1000000 in
theorem cut_own (v : Value) (l : List Item) (w : World) (hl : ItemsIs w v l) : Calls Try.prog 10 #[v] w (OwnItems w (cutItems l)) := by
  obtain ⟨A, ca, us, rfl, hla, hma, hul, hur, ha⟩ := hl.open_
  unfold maxLen at hma
  have HUR := Lib.hid hur
  clear hur hl
  go_enter Try.func10, Try.ntmps10
  go_wp2_with fail
  go_loopw [3, 4] (fun o i wr => ∃ k : Nat, i = .int .i64 k ∧ k ≤ l.length ∧ k ≤ 40 ∧ Hid (ItemsOwn 37 49 w.heap.size wr o ((l.take k).map fun x => ⟨shortRow x.row, x.w⟩)) ∧ Old w wr) (fun _ i _ => l.length - (intOf i).toNat)
  case atStart => exact ⟨0, rfl, by omega, by omega, hide (ItemsOwn.nil_ _), Old.refl _⟩
  case round =>
    obtain ⟨k, rfl, hk, hk40, HO, hbl⟩ := hrel
    by_cases hlt : k < l.length
    · by_cases h40 : k < 40
      · have hku : k < us.length := by omega
        obtain ⟨b1, o1, rfl, hc1⟩ := ha.resolve_left (by omega)
        obtain ⟨x0, x1⟩ := hc1 k hlt hku
        have hx0 : ∀ w', Old w w' → w'.cell? ⟨b1, o1 + k * 2, none⟩ = some us[k] := fun w' h => h.cell x0
        have hx1 : ∀ w', Old w w' → w'.cell? ⟨b1, o1 + k * 2 + 1, none⟩ = some (.int .i64 l[k].w) := fun w' h => h.cell x1
        have hrow := HUR.out k hlt hku
        obtain ⟨q, hq⟩ : ∃ q, Hid (shortRow l[k].row = q) := ⟨shortRow l[k].row, hide rfl⟩
        have HC := hide (show ∀ w', Old w w' → Calls Try.prog 23 #[us[k]] w' fun e w2 => ∃ A cp, e = .returned (.slice A q.length cp) ∧ SlT 49 w.heap.size w2 (.slice A q.length cp) q.length (rowVals q) ∧ Old w' w2 from fun w' h => by
          have := (short_run _ _ _ (hrow.old h)).mono fun _ _ hn => NewRow.form hn h.size
          rw [hq.out] at this
          exact this)
        have HN := hide (cut_next hlt)
        rw [hq.out] at HN
        have hpush : ((l.take k).map fun x => (⟨shortRow x.row, x.w⟩ : Item)).length + 1 ≤ 4194304 := by simp; omega
        clear ha hc1 x0 x1 hrow hq
        go_wp2_with fail
        go_region_held3 (fun w' => Old w w')
          (first | (exact Old.drew hbl) | (exact Old.alloc (by assumption) _) | (exact Old.trans (by assumption) (by assumption)) | (exact Kept.old (by assumption) (by assumption) (Nat.le_refl _)))
          (first
            | (go_at_call 23; refine (HC.out _ (by assumption)).mono ?_; rintro e w1 ⟨A1, c1, rfl, hr1, hb1⟩)
            | (refine step_push_item _ _ _ rfl w.heap.size _ ((l.take k).map fun x => (⟨shortRow x.row, x.w⟩ : Item)) rfl (HO.out.old (Old.trans (Old.trans (Old.drew (Old.refl _)) hb1) (Old.alloc (Old.refl _) _))) _ _ (.slice A1 q.length c1) q l[k].w rfl (by go_simp) (by go_simp) (SlT.old hr1 (Old.alloc (Old.refl _) _)) hpush (Below.size (w := w) (by assumption)) ?_; intro v' w2 own2 kept2))
        go_wp2_with fail
        go_roundw
        case rel => exact ⟨k + 1, by go_num, by omega, by omega, hide (by rw [HN.out]; exact own2), by assumption⟩
        case measure => simp [intOf]; omega
      · have HS := HO.out
        rw [show l.take k = l.take 40 by rw [show k = 40 by omega]] at HS
        have H3 := hide HS
        clear HS
        go_wp2_with fail
        go_ret
        exact ⟨_, rfl, H3.out, hbl⟩
    · have HS := HO.out
      rw [show l.take k = l.take 40 by rw [List.take_of_length_le (by omega), List.take_of_length_le (by omega)]] at HS
      have H3 := hide HS
      clear HS
      go_wp2_with fail
      go_ret
      exact ⟨_, rfl, H3.out, hbl⟩

set_option maxRecDepth 100000 in
set_option maxHeartbeats 1000000 in
theorem copy_own (v : Value) (l : List Item) (w : World) (hl : ItemsIs w v l) (hlen : l.length ≤ 1048576) (hs : Short l) : Calls Try.prog 12 #[v] w (OwnItems w l) := by
  obtain ⟨A, ca, us, rfl, hla, hma, hul, hur, ha⟩ := hl.open_
  unfold maxLen at hma
  have HUR := Lib.hid hur
  have HS := Lib.hid hs
  clear hur hs
  go_enter Try.func12, Try.ntmps12
  go_wp2_with fail
  go_loopw [3, 4] (fun o i wr => ∃ k : Nat, i = .int .i64 k ∧ k ≤ l.length ∧ ItemsOwn 37 49 w.heap.size wr o (l.take k) ∧ Old w wr) (fun _ i _ => l.length - (intOf i).toNat)
  case atStart => exact ⟨0, rfl, by omega, ItemsOwn.nil_ _, Old.refl _⟩
  case round =>
    obtain ⟨k, rfl, hk, hown, hbl⟩ := hrel
    by_cases hlt : k < l.length
    · have hku : k < us.length := by omega
      obtain ⟨b1, o1, rfl, hc1⟩ := ha.resolve_left (by omega)
      obtain ⟨x0, x1⟩ := hc1 k hlt hku
      have hx0 : ∀ w', Old w w' → w'.cell? ⟨b1, o1 + k * 2, none⟩ = some us[k] := fun w' h => h.cell x0
      have hx1 : ∀ w', Old w w' → w'.cell? ⟨b1, o1 + k * 2 + 1, none⟩ = some (.int .i64 l[k].w) := fun w' h => h.cell x1
      have hrow := HUR.out k hlt hku
      have hcall : ∀ w', Old w w' → Calls Try.prog 36 #[us[k]] w' fun e w2 => ∃ A cp, e = .returned (.slice A l[k].row.length cp) ∧ SlT 49 w.heap.size w2 (.slice A l[k].row.length cp) l[k].row.length (rowVals l[k].row) ∧ Old w' w2 := fun w' h =>
        (copyRow _ _ _ (hrow.old h) (HS.out k hlt)).mono fun _ _ hn => hn.form h.size
      have HC := Lib.hid hcall
      have HO := Lib.hid hown
      have hpush : (l.take k).length + 1 ≤ 4194304 := by simp; omega
      clear ha hc1 x0 x1 hrow hcall hown
      go_wp2_with fail
      go_region_held3 (fun w' => Old w w')
        (first | (exact Old.drew hbl) | (exact Old.alloc (by assumption) _) | (exact Old.trans (by assumption) (by assumption)) | (exact Kept.old (by assumption) (by assumption) (Nat.le_refl _)))
        (first
          | (go_at_call 36; refine (HC.out _ (by assumption)).mono ?_; rintro e w1 ⟨A1, c1, rfl, hr1, hb1⟩)
          | (refine step_push_item _ _ _ rfl w.heap.size _ (l.take k) rfl (HO.out.old (Old.trans (Old.trans (Old.drew (Old.refl _)) hb1) (Old.alloc (Old.refl _) _))) _ _ (.slice A1 l[k].row.length c1) l[k].row l[k].w rfl (by go_simp) (by go_simp) (SlT.old hr1 (Old.alloc (Old.refl _) _)) hpush (Below.size (w := w) (by assumption)) ?_; intro v' w2 own2 kept2))
      go_wp2_with fail
      go_roundw
      case rel => exact ⟨k + 1, by go_num, by omega, by rw [take_next hlt]; exact own2, by assumption⟩
      case measure => simp [intOf]; omega
    · have hkl : k = l.length := by omega
      go_wp2_with fail
      go_ret
      refine ⟨_, rfl, ?_, hbl⟩
      have h := hown
      rwa [hkl, List.take_length] at h
end Go.Proofs.Ytggknmagpcnkoaa
