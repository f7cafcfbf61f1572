/- slices.Equal of nodes, and the order by keys that tape.Sorted hands to slices.SortFunc. -/
import Derived.Test.YtkefhhnbkhijgaaDoorHelp
import Derived.Shelf.SlSortCmp.NoneTotal
namespace Go.Proofs.YtkefhhnbkhijgaaDoor
open Go.RowKit Go.Shelf

set_option maxRecDepth 100000 in
set_option maxHeartbeats 400000 in
theorem slices_Equal (va vb : Value) (a b : List Nd) (w : World) (ha : NodesIs w va a) (hb : NodesIs w vb b) :
    Calls Tryd.prog 60 #[va, vb] w fun e w' => e = .returned (.bool (sameNds a b)) ∧ Old w w' := by
  have hG := nodeGuard
  obtain ⟨A, ca, rfl, hla, hma, ha⟩ := ha.nodes
  obtain ⟨B, cb, rfl, hlb, hmb, hb⟩ := hb.nodes
  unfold maxLen at hma hmb
  go_enter Tryd.func60, Tryd.ntmps60
  by_cases hl : a.length = b.length
  · have hl' : ((a.length : Int) != (b.length : Int)) = false := by simp [hl]
    have HL := hide hl
    have hl1 : a.length ≤ b.length := by omega
    have hl2 : b.length ≤ a.length := by omega
    clear hl
    go_wp2_with fail
    go_loopw [13] (fun i wr => ∃ k : Nat, i = .int .i64 k ∧ k ≤ a.length ∧ Hid (∀ j : Nat, j < k → a[j]? = b[j]?) ∧ Old w wr) (fun i _ => a.length - (intOf i).toNat)
    case atStart => exact ⟨0, rfl, by omega, hide (by intro j hj; omega), Old.refl _⟩
    case round =>
      obtain ⟨k, rfl, hk, HQ, hbl⟩ := hrel
      by_cases hlt : k < a.length
      · have hlt' : k < b.length := by omega
        obtain ⟨b1, o1, rfl, hc1⟩ := ha.resolve_left (by omega)
        obtain ⟨b2, o2, rfl, hc2⟩ := hb.resolve_left (by omega)
        obtain ⟨x0, x1, x2, x3, x4⟩ := hc1 k hlt
        obtain ⟨y0, y1, y2, y3, y4⟩ := hc2 k hlt'
        have hx0 := hbl.cell x0
        have hx1 := hbl.cell x1
        have hx2 := hbl.cell x2
        have hx3 := hbl.cell x3
        have hx4 := hbl.cell x4
        have hy0 := hbl.cell y0
        have hy1 := hbl.cell y1
        have hy2 := hbl.cell y2
        have hy3 := hbl.cell y3
        have hy4 := hbl.cell y4
        have hq := neq_node a[k] b[k]
        obtain ⟨C, hC⟩ : ∃ C, Hid ((!sameNd a[k] b[k]) = C) := ⟨_, hide rfl⟩
        rw [hC.out] at hq
        clear ha hb hc1 hc2 x0 x1 x2 x3 x4 y0 y1 y2 y3 y4
        go_wp2_with fail
        go_quiet (fail)
        clear hx0 hx1 hx2 hx3 hx4 hy0 hy1 hy2 hy3 hy4 hq
        cases C
        · go_wp2_with fail
          go_roundw
          case rel => exact ⟨k + 1, by go_num, by omega, hide (same_next hlt hlt' HQ.out (sameNd_true hC.out)), Old.drewN hbl _⟩
          case measure => simp [intOf]; omega
        · go_wp2_with fail
          go_ret
          exact ⟨ret_bool (same_at hlt hlt' (sameNd_false hC.out)).symm, Old.drewN hbl _⟩
      · go_wp2_with fail
        go_ret
        exact ⟨ret_bool (same_end HL.out (fun j hj => HQ.out j (by omega))).symm, hbl⟩
  · have hl' : ((a.length : Int) != (b.length : Int)) = true := by simp; omega
    go_wp2_with fail
    go_ret
    exact ⟨ret_bool (same_len hl).symm, Old.refl _⟩


/-- What the order answers at two keys: never 0. -/
def keyOrd (a b : ByteArray) : Int := bif Op.bytesLess a.toList b.toList then -1 else 1
set_option maxRecDepth 100000 in
set_option maxHeartbeats 400000 in
theorem key_order (i j kb : Nat) (kv : Value) (l : List Nd) (w : World) (hi : i < l.length) (hj : j < l.length) (hkb : w.cell? ⟨kb, 0, none⟩ = some kv) (hkv : NodesIs w kv l) :
    Calls Tryd.prog 63 #[.int .i64 i, .int .i64 j, .pointer (some ⟨kb, 0, none⟩)] w fun e w' => e = .returned (.int .i64 (keyOrd l[i].key l[j].key)) ∧ ∃ q, w' = w.drewN q := by
  obtain ⟨A, ca, rfl, hla, hma, ha⟩ := hkv.nodes
  unfold maxLen at hma
  obtain ⟨b1, o1, rfl, hc1⟩ := ha.resolve_left (by omega)
  obtain ⟨_, x1, _, _, _⟩ := hc1 i hi
  obtain ⟨_, y1, _, _, _⟩ := hc1 j hj
  obtain ⟨K1, hK1⟩ : ∃ K, Hid (l[i].key = K) := ⟨_, hide rfl⟩
  obtain ⟨K2, hK2⟩ : ∃ K, Hid (l[j].key = K) := ⟨_, hide rfl⟩
  rw [hK1.out] at x1 ⊢
  rw [hK2.out] at y1 ⊢
  obtain ⟨n, hn⟩ : ∃ n, l.length = n := ⟨_, rfl⟩
  rw [hn] at hla hkb
  have hi' : i < n := by omega
  have hj' : j < n := by omega
  clear ha hc1 hkv
  go_enter Tryd.func63, Tryd.ntmps63
  go_wp2_with fail
  go_quiet (fail)
  obtain ⟨B, hB⟩ : ∃ B, Hid (Op.bytesLess K1.toList K2.toList = B) := ⟨_, hide rfl⟩
  rw [hB.out]
  cases B
  · go_wp2_with fail
    go_ret
    exact ⟨by rw [keyOrd, hB.out]; rfl, _, rfl⟩
  · go_wp2_with fail
    go_ret
    exact ⟨by rw [keyOrd, hB.out]; rfl, _, rfl⟩
end Go.Proofs.YtkefhhnbkhijgaaDoor
