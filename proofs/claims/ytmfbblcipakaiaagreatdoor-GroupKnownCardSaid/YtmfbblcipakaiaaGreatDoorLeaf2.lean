/- cells and rows are compared -/
import Derived.Test.YtmfbblcipakaiaaGreatDoorLeaf
namespace Go.Proofs.YtmfbblcipakaiaaGreatDoor
open Go.RowKit

theorem cellCmp_same {a b : Cell} (hn : (a.null == b.null) = true) : cellCmp a b = orI (Lib.compareInt a.n b.n) (Lib.compareBytes a.s.data.toList b.s.data.toList) := by
  unfold cellCmp orI
  rw [if_pos (by simpa using hn)]
set_option maxRecDepth 100000 in
theorem cell_Compare_same (a b : Cell) (w : World) (hn : (a.null == b.null) = true) : Calls Tryz.prog 93 #[a.val, b.val] w fun e w' => e = .returned (.int .i64 (cellCmp a b)) ∧ Grew w w' := by
  go_enter Tryz.func93, Tryz.ntmps93
  go_wp2_with fail
  refine region_tail 10 (by kernel_rfl) (by kernel_rfl) ?_
  simp only [List.take_succ_cons, List.take_zero, List.drop_succ_cons, List.drop_zero]
  still_step
  still_step
  still_step
  still_step
  still_call ((compare_int64 _ _ _).mono fun _ _ h => ⟨h.1, h.2.symm⟩)
  still_step
  still_step
  still_step
  still_step
  still_call ((strings_Compare _ _ _).mono fun _ _ h => ⟨h.1, h.2.symm⟩)
  refine wpStill_nil ?_
  go_wp2_with (go_at_call 113; refine (or_two (Lib.compareInt a.n b.n) (Lib.compareBytes a.s.data.toList b.s.data.toList) _ _ _ (by go_simp) (by go_simp)).mono ?_; rintro e w' ⟨rfl, rfl⟩)
  go_ret
  exact ⟨ret_int (cellCmp_same hn).symm, ((((Grew.refl w).alloc _).alloc _).alloc _).drew⟩
set_option maxRecDepth 100000 in
theorem cell_Compare_no (ai bi : Int) (aS bS : ByteArray) (w : World) : Calls Tryz.prog 93 #[.agg #[.bool true, .int .i64 ai, .string aS], .agg #[.bool false, .int .i64 bi, .string bS]] w fun e w' => e = .returned (.int .i64 (-1)) ∧ Grew w w' := by
  go_enter Tryz.func93, Tryz.ntmps93
  go_wp2
  go_ret
  exact ⟨rfl, (((Grew.refl w).alloc _).alloc _)⟩
set_option maxRecDepth 100000 in
theorem cell_Compare_yes (ai bi : Int) (aS bS : ByteArray) (w : World) : Calls Tryz.prog 93 #[.agg #[.bool false, .int .i64 ai, .string aS], .agg #[.bool true, .int .i64 bi, .string bS]] w fun e w' => e = .returned (.int .i64 1) ∧ Grew w w' := by
  go_enter Tryz.func93, Tryz.ntmps93
  go_wp2
  go_ret
  exact ⟨rfl, (((Grew.refl w).alloc _).alloc _)⟩
theorem cell_Compare (a b : Cell) (w : World) : Calls Tryz.prog 93 #[a.val, b.val] w fun e w' => e = .returned (.int .i64 (cellCmp a b)) ∧ Grew w w' := by
  cases hn : (a.null == b.null)
  · obtain ⟨an, ai, aS⟩ := a
    obtain ⟨bn, bi, bS⟩ := b
    cases an <;> cases bn
    · simp at hn
    · exact cell_Compare_yes ai bi aS bS w
    · exact cell_Compare_no ai bi aS bS w
    · simp at hn
  · exact cell_Compare_same a b w hn

theorem rowCmp_drop (a b : List Cell) : ∀ k, k ≤ a.length → k ≤ b.length → (∀ j, j < k → a[j]? = b[j]?) → rowCmp a b = rowCmp (a.drop k) (b.drop k) := by
  intro k
  induction k generalizing a b with
  | zero => intro _ _ _; simp
  | succ k ih =>
    intro ha hb h
    cases a with
    | nil => simp at ha
    | cons x a =>
      cases b with
      | nil => simp at hb
      | cons y b =>
        have h0 := h 0 (by omega)
        simp only [List.getElem?_cons_zero, Option.some.injEq] at h0
        subst h0
        simp only [rowCmp, cellCmp_zero.2, if_true, List.drop_succ_cons]
        exact ih a b (by simpa using ha) (by simpa using hb) fun j hj => by simpa using h (j + 1) (by omega)
theorem rowCmp_at {a b : List Cell} {k : Nat} (ha : k < a.length) (hb : k < b.length) (h : ∀ j, j < k → a[j]? = b[j]?) (hc : cellCmp a[k] b[k] ≠ 0) : rowCmp a b = cellCmp a[k] b[k] := by
  rw [rowCmp_drop a b k (by omega) (by omega) h, List.drop_eq_getElem_cons ha, List.drop_eq_getElem_cons hb, rowCmp, if_neg hc]
theorem rowCmp_end {a b : List Cell} {k : Nat} (ha : k ≤ a.length) (hb : k ≤ b.length) (he : ¬ (k < a.length ∧ k < b.length)) (h : ∀ j, j < k → a[j]? = b[j]?) : rowCmp a b = Lib.compareInt a.length b.length := by
  rw [rowCmp_drop a b k ha hb h]
  have e0 : rowCmp [] [] = 0 := by simp [rowCmp]
  have e1 : ∀ x (l : List Cell), rowCmp (x :: l) [] = 1 := fun _ _ => by simp [rowCmp]
  have e2 : ∀ x (l : List Cell), rowCmp [] (x :: l) = -1 := fun _ _ => by simp [rowCmp]
  unfold Lib.compareInt
  rcases Nat.lt_or_ge k a.length with h1 | h1
  · rw [List.drop_eq_getElem_cons h1, show b.drop k = [] from List.drop_eq_nil_of_le (by omega), e1, if_neg (by omega), if_pos (by omega)]
  · rw [List.drop_eq_nil_of_le h1]
    rcases Nat.lt_or_ge k b.length with h2 | h2
    · rw [List.drop_eq_getElem_cons h2, e2, if_pos (by omega)]
    · rw [List.drop_eq_nil_of_le h2, e0, if_neg (by omega), if_neg (by omega)]
theorem pre_next {a b : List Cell} {k : Nat} (ha : k < a.length) (hb : k < b.length) (h : ∀ j, j < k → a[j]? = b[j]?) (hc : cellCmp a[k] b[k] = 0) : ∀ j, j < k + 1 → a[j]? = b[j]? := by
  intro j hj
  rcases Nat.lt_or_ge j k with h1 | h1
  · exact h j h1
  · have : j = k := by omega
    subst this
    rw [List.getElem?_eq_getElem ha, List.getElem?_eq_getElem hb, cellCmp_zero.1 hc]

set_option maxRecDepth 100000 in
set_option maxHeartbeats 400000 in
theorem row_Compare (va vb : Value) (a b : List Cell) (w : World) (ha : RowIs w va a) (hb : RowIs w vb b) :
    Calls Tryz.prog 73 #[va, vb] w fun e w' => e = .returned (.int .i64 (rowCmp a b)) ∧ Grew w w' := by
  obtain ⟨A, ca, rfl, hla, hma, ha⟩ := ha.row
  obtain ⟨B, cb, rfl, hlb, hmb, hb⟩ := hb.row
  unfold maxLen at hma hmb
  go_enter Tryz.func73, Tryz.ntmps73
  go_wp2_with fail
  all_goals
    go_loopw [12] (fun i wr => ∃ k : Nat, i = .int .i64 k ∧ k ≤ a.length ∧ k ≤ b.length ∧ (∀ j : Nat, j < k → a[j]? = b[j]?) ∧ Grew w wr) (fun i _ => a.length - (intOf i).toNat)
    case atStart => exact ⟨0, rfl, by omega, by omega, by intro j hj; omega, Grew.refl _⟩
    case round =>
      obtain ⟨k, rfl, hka, hkb, heq, hbl⟩ := hrel
      have HQ := Lib.hid heq
      clear heq
      by_cases hlt : k < a.length ∧ k < b.length
      · obtain ⟨hlta, hltb⟩ := hlt
        obtain ⟨b1, o1, rfl, hc1⟩ := ha.resolve_left (by omega)
        obtain ⟨b2, o2, rfl, hc2⟩ := hb.resolve_left (by omega)
        obtain ⟨x0, x1, x2⟩ := hc1 k hlta
        obtain ⟨y0, y1, y2⟩ := hc2 k hltb
        have hx0 : ∀ p : LaterG wr, p.world.cell? ⟨b1, o1 + k * 3, none⟩ = some (.bool a[k].null) := fun p => (hbl.trans p.grew).cell x0
        have hx1 : ∀ p : LaterG wr, p.world.cell? ⟨b1, o1 + k * 3 + 1, none⟩ = some (.int .i64 a[k].n) := fun p => (hbl.trans p.grew).cell x1
        have hx2 : ∀ p : LaterG wr, p.world.cell? ⟨b1, o1 + k * 3 + 2, none⟩ = some (.string a[k].s) := fun p => (hbl.trans p.grew).cell x2
        have hy0 : ∀ p : LaterG wr, p.world.cell? ⟨b2, o2 + k * 3, none⟩ = some (.bool b[k].null) := fun p => (hbl.trans p.grew).cell y0
        have hy1 : ∀ p : LaterG wr, p.world.cell? ⟨b2, o2 + k * 3 + 1, none⟩ = some (.int .i64 b[k].n) := fun p => (hbl.trans p.grew).cell y1
        have hy2 : ∀ p : LaterG wr, p.world.cell? ⟨b2, o2 + k * 3 + 2, none⟩ = some (.string b[k].s) := fun p => (hbl.trans p.grew).cell y2
        clear ha hb hc1 hc2 x0 x1 x2 y0 y1 y2
        go_wp2_with fail
        refine region_laterG (by kernel_rfl) (by kernel_rfl) ?_
        repeat (quiet_step ((go_at_call 93; exact LaterG.call (cell_Compare _ _ _))))
        refine wpQuiet_nil ?_
        rintro _ ⟨⟨wq, hwq⟩, rfl⟩
        clear hx0 hx1 hx2 hy0 hy1 hy2
        by_cases hc : cellCmp a[k] b[k] = 0
        · have hc' : (cellCmp a[k] b[k] != 0) = false := by simpa using hc
          have HC := Lib.hid hc
          clear hc
          go_wp2_with fail
          go_roundw
          case rel => exact ⟨k + 1, by go_num, by omega, by omega, pre_next hlta hltb HQ.out HC.out, hbl.trans hwq⟩
          case measure => simp [intOf]; omega
        · have hc' : (cellCmp a[k] b[k] != 0) = true := by simpa using hc
          have HC := Lib.hid hc
          clear hc
          go_wp2_with fail
          go_ret
          exact ⟨ret_int (rowCmp_at hlta hltb HQ.out HC.out).symm, hbl.trans hwq⟩
      · go_wp2_with (go_at_call 94; refine (compare_int _ _ _).mono ?_; rintro e w' ⟨rfl, rfl⟩)
        go_ret
        exact ⟨ret_int (rowCmp_end hka hkb hlt HQ.out).symm, hbl⟩
end Go.Proofs.YtmfbblcipakaiaaGreatDoor

