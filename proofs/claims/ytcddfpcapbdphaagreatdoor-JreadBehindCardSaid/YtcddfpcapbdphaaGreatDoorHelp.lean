/- Small helpers of the statements and of the document: eq, Eq, EqInts, Copy, spoil. -/
import Derived.Test.YtcddfpcapbdphaaGreatDoorGetT
import Derived.Deep.RegionHeld3
namespace Go.Proofs.YtcddfpcapbdphaaGreatDoor
open Go.RowKit

def sameNds (a b : List Nd) : Bool := decide (a = b)
theorem same_len {α : Type} [DecidableEq α] {a b : List α} (h : a.length ≠ b.length) : decide (a = b) = false := by
  simp only [decide_eq_false_iff_not]; intro e; exact h (by rw [e])
theorem same_at {α : Type} [DecidableEq α] {a b : List α} {k : Nat} (ha : k < a.length) (hb : k < b.length) (h : a[k] ≠ b[k]) : decide (a = b) = false := by
  simp only [decide_eq_false_iff_not]
  rintro rfl
  exact h rfl
theorem same_end {α : Type} [DecidableEq α] {a b : List α} (hl : a.length = b.length) (h : ∀ j : Nat, j < a.length → a[j]? = b[j]?) : decide (a = b) = true := by
  simp only [decide_eq_true_eq]
  apply List.ext_getElem?
  intro j
  rcases Nat.lt_or_ge j a.length with h1 | h1
  · exact h j h1
  · rw [List.getElem?_eq_none h1, List.getElem?_eq_none (by omega)]
theorem same_next {α : Type} {a b : List α} {k : Nat} (ha : k < a.length) (hb : k < b.length) (h : ∀ j : Nat, j < k → a[j]? = b[j]?) (hc : a[k] = b[k]) : ∀ j : Nat, j < k + 1 → a[j]? = b[j]? := by
  intro j hj
  rcases Nat.lt_or_ge j k with h1 | h1
  · exact h j h1
  · have : j = k := by omega
    subst this
    rw [List.getElem?_eq_getElem ha, List.getElem?_eq_getElem hb, hc]
theorem sameNd_false {a b : Nd} (h : (!sameNd a b) = true) : a ≠ b := by simpa [sameNd] using h
theorem sameNd_true {a b : Nd} (h : (!sameNd a b) = false) : a = b := by simpa [sameNd] using h

set_option maxRecDepth 100000 in
set_option maxHeartbeats 400000 in
theorem ref_Eq (va vb : Value) (a b : List Nd) (w : World) (ha : NodesIs w va a) (hb : NodesIs w vb b) :
    Calls Tryz.prog 16 #[va, vb] w fun e w' => e = .returned (.bool (sameNds a b)) ∧ Old w w' := by
  have hG := nodeGuard
  obtain ⟨A, ca, rfl, hla, hma, ha⟩ := ha.nodes
  obtain ⟨B, cb, rfl, hlb, hmb, hb⟩ := hb.nodes
  unfold maxLen at hma hmb
  go_enter Tryz.func16, Tryz.ntmps16
  by_cases hl : a.length = b.length
  · have hl' : ((a.length : Int) != (b.length : Int)) = false := by simp [hl]
    have HL := hide hl
    have hl1 : a.length ≤ b.length := by omega
    have hl2 : b.length ≤ a.length := by omega
    clear hl
    go_wp2_with fail
    go_loopw [5] (fun i wr => ∃ k : Nat, i = .int .i64 k ∧ k ≤ a.length ∧ Hid (∀ j : Nat, j < k → a[j]? = b[j]?) ∧ Old w wr) (fun i _ => a.length - (intOf i).toNat)
    case atStart => exact ⟨0, rfl, by omega, hide (by intro j hj; omega), Old.refl _⟩
    case round =>
      obtain ⟨k, rfl, hk, HQ, hbl⟩ := hrel
      by_cases hlt : k < a.length
      · have hlt' : k < b.length := by omega
        obtain ⟨b1, o1, rfl, hc1⟩ := ha.resolve_left (by omega)
        obtain ⟨b2, o2, rfl, hc2⟩ := hb.resolve_left (by omega)
        obtain ⟨x0, x1, x2, x3, x4⟩ := hc1 k hlt
        obtain ⟨y0, y1, y2, y3, y4⟩ := hc2 k hlt'
        have hx0 := hbl.cell x0
        have hx1 := hbl.cell x1
        have hx2 := hbl.cell x2
        have hx3 := hbl.cell x3
        have hx4 := hbl.cell x4
        have hy0 := hbl.cell y0
        have hy1 := hbl.cell y1
        have hy2 := hbl.cell y2
        have hy3 := hbl.cell y3
        have hy4 := hbl.cell y4
        have hq := neq_node a[k] b[k]
        obtain ⟨C, hC⟩ : ∃ C, Hid ((!sameNd a[k] b[k]) = C) := ⟨_, hide rfl⟩
        rw [hC.out] at hq
        clear ha hb hc1 hc2 x0 x1 x2 x3 x4 y0 y1 y2 y3 y4
        go_wp2_with fail
        go_quiet (fail)
        clear hx0 hx1 hx2 hx3 hx4 hy0 hy1 hy2 hy3 hy4 hq
        cases C
        · go_wp2_with fail
          go_roundw
          case rel => exact ⟨k + 1, by go_num, by omega, hide (same_next hlt hlt' HQ.out (sameNd_true hC.out)), Old.drewN hbl _⟩
          case measure => simp [intOf]; omega
        · go_wp2_with fail
          go_ret
          exact ⟨ret_bool (same_at hlt hlt' (sameNd_false hC.out)).symm, Old.drewN hbl _⟩
      · go_wp2_with fail
        go_ret
        exact ⟨ret_bool (same_end HL.out (fun j hj => HQ.out j (by omega))).symm, hbl⟩
  · have hl' : ((a.length : Int) != (b.length : Int)) = true := by simp; omega
    go_wp2_with fail
    go_ret
    exact ⟨ret_bool (same_len hl).symm, Old.refl _⟩

set_option maxRecDepth 100000 in
set_option maxHeartbeats 400000 in
theorem law_eq (va vb : Value) (a b : List Nd) (w : World) (ha : NodesIs w va a) (hb : NodesIs w vb b) :
    Calls Tryz.prog 32 #[va, vb] w fun e w' => e = .returned (.bool (sameNds a b)) ∧ Old w w' := by
  have hG := nodeGuard
  obtain ⟨A, ca, rfl, hla, hma, ha⟩ := ha.nodes
  obtain ⟨B, cb, rfl, hlb, hmb, hb⟩ := hb.nodes
  unfold maxLen at hma hmb
  go_enter Tryz.func32, Tryz.ntmps32
  by_cases hl : a.length = b.length
  · have hl' : ((a.length : Int) != (b.length : Int)) = false := by simp [hl]
    have HL := hide hl
    have hl1 : a.length ≤ b.length := by omega
    have hl2 : b.length ≤ a.length := by omega
    clear hl
    go_wp2_with fail
    go_loopw [5] (fun i wr => ∃ k : Nat, i = .int .i64 k ∧ k ≤ a.length ∧ Hid (∀ j : Nat, j < k → a[j]? = b[j]?) ∧ Old w wr) (fun i _ => a.length - (intOf i).toNat)
    case atStart => exact ⟨0, rfl, by omega, hide (by intro j hj; omega), Old.refl _⟩
    case round =>
      obtain ⟨k, rfl, hk, HQ, hbl⟩ := hrel
      by_cases hlt : k < a.length
      · have hlt' : k < b.length := by omega
        obtain ⟨b1, o1, rfl, hc1⟩ := ha.resolve_left (by omega)
        obtain ⟨b2, o2, rfl, hc2⟩ := hb.resolve_left (by omega)
        obtain ⟨x0, x1, x2, x3, x4⟩ := hc1 k hlt
        obtain ⟨y0, y1, y2, y3, y4⟩ := hc2 k hlt'
        have hx0 := hbl.cell x0
        have hx1 := hbl.cell x1
        have hx2 := hbl.cell x2
        have hx3 := hbl.cell x3
        have hx4 := hbl.cell x4
        have hy0 := hbl.cell y0
        have hy1 := hbl.cell y1
        have hy2 := hbl.cell y2
        have hy3 := hbl.cell y3
        have hy4 := hbl.cell y4
        have hq := neq_node a[k] b[k]
        obtain ⟨C, hC⟩ : ∃ C, Hid ((!sameNd a[k] b[k]) = C) := ⟨_, hide rfl⟩
        rw [hC.out] at hq
        clear ha hb hc1 hc2 x0 x1 x2 x3 x4 y0 y1 y2 y3 y4
        go_wp2_with fail
        go_quiet (fail)
        clear hx0 hx1 hx2 hx3 hx4 hy0 hy1 hy2 hy3 hy4 hq
        cases C
        · go_wp2_with fail
          go_roundw
          case rel => exact ⟨k + 1, by go_num, by omega, hide (same_next hlt hlt' HQ.out (sameNd_true hC.out)), Old.drewN hbl _⟩
          case measure => simp [intOf]; omega
        · go_wp2_with fail
          go_ret
          exact ⟨ret_bool (same_at hlt hlt' (sameNd_false hC.out)).symm, Old.drewN hbl _⟩
      · go_wp2_with fail
        go_ret
        exact ⟨ret_bool (same_end HL.out (fun j hj => HQ.out j (by omega))).symm, hbl⟩
  · have hl' : ((a.length : Int) != (b.length : Int)) = true := by simp; omega
    go_wp2_with fail
    go_ret
    exact ⟨ret_bool (same_len hl).symm, Old.refl _⟩

theorem Sl.ints {w : World} {v : Value} {l : List Nat} (h : IntsIs w v l) : ∃ A cap, v = .slice A l.length cap ∧ l.length ≤ cap ∧ cap ≤ maxLen ∧ (l.length = 0 ∨ ∃ b off, A = some ⟨b, off, none⟩ ∧ ∀ i, (hi : i < l.length) → w.cell? ⟨b, off + i, none⟩ = some (.int .i64 (l[i] : Int))) := by
  obtain ⟨A, cap, rfl, h1, h2, h3⟩ := h
  refine ⟨A, cap, rfl, h1, h2, ?_⟩
  rcases Nat.eq_zero_or_pos l.length with h0 | h0
  · exact .inl h0
  · obtain ⟨b, off, rfl, hc⟩ := h3 (by intro e; have := intVals_length l; rw [e] at this; simp at this; omega)
    exact .inr ⟨b, off, rfl, fun i hi => hc i _ (by simp [intVals, List.getElem?_eq_getElem hi])⟩
/-- worlds in which what lies from block lo on may have been spoilt -/
structure Spo (lo : Nat) (w wr : World) : Prop where
  low : Below lo w wr
  cells : ∀ (b : Nat) (cs : Array Value) (T : TypeId) (f : Nat × Nat), w.heap[b]? = some (.cells cs T f) → ∃ cs' : Array Value, wr.heap[b]? = some (.cells cs' T f) ∧ cs'.size = cs.size
theorem Spo.refl (lo : Nat) (w : World) : Spo lo w w := ⟨Below.refl _ _, fun _ cs _ _ h => ⟨cs, h, rfl⟩⟩
theorem Spo.set {lo : Nat} {w wr : World} (h : Spo lo w wr) {p i : Nat} (hp : lo ≤ p) (u : Value) : Spo lo w (wr.setCell ⟨p, i, none⟩ u) where
  low := h.low.setCell hp u
  cells := by
    intro b cs1 T1 f1 hb1
    obtain ⟨cs', h1, h2⟩ := h.cells b cs1 T1 f1 hb1
    by_cases e : p = b
    · subst e
      exact ⟨cs'.setIfInBounds i u, by simp [World.setCell, Array.getElem?_modify, h1], by simpa using h2⟩
    · exact ⟨cs', by simp [World.setCell, Array.getElem?_modify, h1, e], h2⟩
theorem Spo.some {lo : Nat} {w wr : World} (h : Spo lo w wr) {p i : Nat} {cs : Array Value} {T : TypeId} (hb : w.heap[p]? = some (.cells cs T (0, 0))) (hi : i < cs.size) : (∃ x, wr.cell? ⟨p, i, none⟩ = some x) ∧ wr.frozen? ⟨p, i, none⟩ = false := by
  obtain ⟨cs', h1, h2⟩ := h.cells p cs T _ hb
  exact ⟨⟨cs'[i], by rw [cell_of_heap h1]; exact Array.getElem?_eq_getElem (by omega)⟩, free_of_heap h1⟩

end Go.Proofs.YtcddfpcapbdphaaGreatDoor


