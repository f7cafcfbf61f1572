/- Cells, rows and items as plain data, how they stand to each other, and the values that they have in memory. No program is named here. -/
import Derived.Test.YtmfbblcipakaiaaGreatDoorMem
import Derived.Lib.Bytealg
import Derived.Lib.Small
namespace Go.Proofs.YtmfbblcipakaiaaGreatDoor
open Go.RowKit

structure Cell where
  null : Bool
  n : Int
  s : ByteArray
deriving DecidableEq

def Cell.vals (c : Cell) : List Value := [.bool c.null, .int .i64 c.n, .string c.s]
@[reducible] def Cell.val (c : Cell) : Value := .agg #[.bool c.null, .int .i64 c.n, .string c.s]
def rowVals (r : List Cell) : List Value := r.flatMap Cell.vals

def cellCmp (a b : Cell) : Int :=
  if a.null = b.null then
    if Lib.compareInt a.n b.n = 0 then Lib.compareBytes a.s.data.toList b.s.data.toList else Lib.compareInt a.n b.n
  else if a.null = true then -1 else 1
def rowCmp : List Cell → List Cell → Int
  | [], [] => 0
  | [], _ :: _ => -1
  | _ :: _, [] => 1
  | a :: as, b :: bs => if cellCmp a b = 0 then rowCmp as bs else cellCmp a b

/-! ### orders -/
theorem cmpI_zero {a b : Int} : Lib.compareInt a b = 0 ↔ a = b := by unfold Lib.compareInt; split <;> (try split) <;> omega
theorem cmpI_neg {a b : Int} : Lib.compareInt a b < 0 ↔ a < b := by unfold Lib.compareInt; split <;> (try split) <;> omega
theorem cmpI_pos {a b : Int} : 0 < Lib.compareInt a b ↔ b < a := by unfold Lib.compareInt; split <;> (try split) <;> omega
theorem cmpB_zero : ∀ {a b : List UInt8}, Lib.compareBytes a b = 0 ↔ a = b
  | [], [] => by simp [Lib.compareBytes]
  | [], _ :: _ => by simp [Lib.compareBytes]
  | _ :: _, [] => by simp [Lib.compareBytes]
  | a :: as, b :: bs => by
    unfold Lib.compareBytes
    by_cases h1 : a < b
    · have : a ≠ b := by rintro rfl; exact absurd h1 (by simp)
      simp [h1, this]
    · by_cases h2 : b < a
      · have : a ≠ b := by rintro rfl; exact absurd h2 (by simp)
        simp [h1, h2, this]
      · have : a = b := by
          rw [UInt8.lt_iff_toNat_lt] at h1 h2
          exact UInt8.toNat.inj (by omega)
        subst this
        simp [cmpB_zero]
theorem cmpB_swap : ∀ (a b : List UInt8), Lib.compareBytes b a = - Lib.compareBytes a b
  | [], [] => by simp [Lib.compareBytes]
  | [], _ :: _ => by simp [Lib.compareBytes]
  | _ :: _, [] => by simp [Lib.compareBytes]
  | a :: as, b :: bs => by
    unfold Lib.compareBytes
    by_cases h1 : a < b
    · have h2 : ¬ b < a := by rw [UInt8.lt_iff_toNat_lt] at *; omega
      simp [h1, h2]
    · by_cases h2 : b < a
      · simp [h1, h2]
      · simp [h1, h2, cmpB_swap as bs]
theorem cmpB_trans : ∀ {a b c : List UInt8}, Lib.compareBytes a b < 0 → Lib.compareBytes b c < 0 → Lib.compareBytes a c < 0
  | [], [], _ => by intro h; simp [Lib.compareBytes] at h
  | [], _ :: _, [] => by intro _ h; simp [Lib.compareBytes] at h
  | [], _ :: _, _ :: _ => by simp [Lib.compareBytes]
  | _ :: _, [], _ => by intro h; simp [Lib.compareBytes] at h
  | _ :: _, _ :: _, [] => by intro _ h; simp [Lib.compareBytes] at h
  | a :: as, b :: bs, c :: cs => by
    unfold Lib.compareBytes
    simp only [UInt8.lt_iff_toNat_lt]
    intro h1 h2
    by_cases hab : a.toNat < b.toNat
    · by_cases hbc : b.toNat < c.toNat
      · rw [if_pos (by omega)]; omega
      · by_cases hcb : c.toNat < b.toNat
        · rw [if_neg hbc, if_pos hcb] at h2; omega
        · rw [if_pos (by omega)]; omega
    · by_cases hba : b.toNat < a.toNat
      · rw [if_neg hab, if_pos hba] at h1; omega
      · rw [if_neg hab, if_neg hba] at h1
        by_cases hbc : b.toNat < c.toNat
        · rw [if_pos (by omega)]; omega
        · by_cases hcb : c.toNat < b.toNat
          · rw [if_neg hbc, if_pos hcb] at h2; omega
          · rw [if_neg hbc, if_neg hcb] at h2
            rw [if_neg (by omega), if_neg (by omega)]
            exact cmpB_trans h1 h2

theorem bytes_ext {a b : ByteArray} (h : a.data.toList = b.data.toList) : a = b := by
  obtain ⟨⟨a⟩⟩ := a
  obtain ⟨⟨b⟩⟩ := b
  simp at h
  rw [h]
theorem cellCmp_zero {a b : Cell} : cellCmp a b = 0 ↔ a = b := by
  obtain ⟨an, ai, as⟩ := a
  obtain ⟨bn, bi, bs⟩ := b
  unfold cellCmp
  by_cases h1 : an = bn
  · by_cases h2 : Lib.compareInt ai bi = 0
    · have h3 := cmpI_zero.1 h2
      simp only [h1, h2, if_true]
      rw [cmpB_zero]
      constructor
      · intro h; rw [h3, bytes_ext h]
      · intro h; cases h; rfl
    · have h3 : ai ≠ bi := fun h => h2 (cmpI_zero.2 h)
      simp [h1, h2, h3]
  · simp only [h1, if_false]
    cases an <;> simp [h1]
theorem cellCmp_swap (a b : Cell) : cellCmp b a = - cellCmp a b := by
  unfold cellCmp
  have hI : Lib.compareInt b.n a.n = - Lib.compareInt a.n b.n := by unfold Lib.compareInt; split <;> split <;> (try split) <;> (try split) <;> omega
  by_cases h1 : a.null = b.null
  · rw [if_pos h1.symm, if_pos h1, hI]
    by_cases h2 : Lib.compareInt a.n b.n = 0
    · rw [if_pos (by omega), if_pos h2, cmpB_swap]
    · rw [if_neg (by omega), if_neg h2]
  · rw [if_neg (Ne.symm h1), if_neg h1]
    cases ha : a.null <;> cases hb : b.null <;> simp_all
theorem cellCmp_trans {a b c : Cell} (h1 : cellCmp a b < 0) (h2 : cellCmp b c < 0) : cellCmp a c < 0 := by
  unfold cellCmp at *
  by_cases e1 : a.null = b.null
  · by_cases e2 : b.null = c.null
    · rw [if_pos e1] at h1
      rw [if_pos e2] at h2
      rw [if_pos (e1.trans e2)]
      by_cases z1 : Lib.compareInt a.n b.n = 0
      · have y1 := cmpI_zero.1 z1
        rw [if_pos z1] at h1
        rw [y1]
        by_cases z2 : Lib.compareInt b.n c.n = 0
        · rw [if_pos z2] at h2 ⊢
          exact cmpB_trans h1 h2
        · rw [if_neg z2] at h2 ⊢
          exact h2
      · rw [if_neg z1] at h1
        have y1 := cmpI_neg.1 h1
        by_cases z2 : Lib.compareInt b.n c.n = 0
        · have y2 := cmpI_zero.1 z2
          rw [← y2, if_neg z1]
          exact h1
        · rw [if_neg z2] at h2
          have y2 := cmpI_neg.1 h2
          have y3 : a.n < c.n := by omega
          have y4 := cmpI_neg.2 y3
          rw [if_neg (by omega)]
          exact y4
    · rw [if_neg e2] at h2
      rw [if_neg (by rw [e1]; exact e2), e1]
      exact h2
  · rw [if_neg e1] at h1
    have ha : a.null = true := by
      cases h : a.null
      · simp [h] at h1
      · rfl
    have hb : b.null = false := by
      cases h : b.null
      · rfl
      · exact absurd (ha.trans h.symm) e1
    have hc : c.null = false := by
      cases h : c.null
      · rfl
      · rw [hb, h] at h2; simp at h2
    rw [ha, hc]
    simp

theorem rowCmp_zero : ∀ {a b : List Cell}, rowCmp a b = 0 ↔ a = b
  | [], [] => by simp [rowCmp]
  | [], _ :: _ => by simp [rowCmp]
  | _ :: _, [] => by simp [rowCmp]
  | a :: as, b :: bs => by
    unfold rowCmp
    by_cases h : cellCmp a b = 0
    · rw [if_pos h, rowCmp_zero, cellCmp_zero.1 h]
      simp
    · have : a ≠ b := fun e => h (cellCmp_zero.2 e)
      simp [h, this]
theorem rowCmp_swap : ∀ (a b : List Cell), rowCmp b a = - rowCmp a b
  | [], [] => by simp [rowCmp]
  | [], _ :: _ => by simp [rowCmp]
  | _ :: _, [] => by simp [rowCmp]
  | a :: as, b :: bs => by
    unfold rowCmp
    have h := cellCmp_swap a b
    by_cases h1 : cellCmp a b = 0
    · rw [if_pos h1, if_pos (by omega)]
      exact rowCmp_swap as bs
    · rw [if_neg h1, if_neg (by omega)]
      exact h
theorem rowCmp_trans : ∀ {a b c : List Cell}, rowCmp a b < 0 → rowCmp b c < 0 → rowCmp a c < 0
  | [], [], _ => by intro h; simp [rowCmp] at h
  | [], _ :: _, [] => by intro _ h; simp [rowCmp] at h
  | [], _ :: _, _ :: _ => by simp [rowCmp]
  | _ :: _, [], _ => by intro h; simp [rowCmp] at h
  | _ :: _, _ :: _, [] => by intro _ h; simp [rowCmp] at h
  | a :: as, b :: bs, c :: cs => by
    unfold rowCmp
    intro h1 h2
    by_cases z1 : cellCmp a b = 0
    · have y1 := cellCmp_zero.1 z1
      rw [if_pos z1] at h1
      subst y1
      by_cases z2 : cellCmp a c = 0
      · rw [if_pos z2] at h2 ⊢
        exact rowCmp_trans h1 h2
      · rw [if_neg z2] at h2 ⊢
        exact h2
    · rw [if_neg z1] at h1
      by_cases z2 : cellCmp b c = 0
      · have y2 := cellCmp_zero.1 z2
        subst y2
        rw [if_neg z1]
        exact h1
      · rw [if_neg z2] at h2
        have y3 := cellCmp_trans h1 h2
        rw [if_neg (by omega)]
        exact y3

/-! ### how they lie in memory -/
theorem rowVals_length (r : List Cell) : (rowVals r).length = r.length * 3 := by
  induction r with
  | nil => rfl
  | cons c r ih => simp [rowVals, Cell.vals] at *; omega
theorem rowVals_ne {r : List Cell} (h : 0 < r.length) : rowVals r ≠ [] := by
  intro e
  have := rowVals_length r
  rw [e] at this
  simp at this
  omega
theorem rowVals_nil {r : List Cell} (h : r.length = 0) : rowVals r = [] := List.eq_nil_of_length_eq_zero (by rw [rowVals_length, h])
theorem rowVals_get (r : List Cell) (i k : Nat) (hk : k < 3) (hi : i < r.length) : (rowVals r)[i * 3 + k]? = (r[i]).vals[k]? := by
  induction r generalizing i with
  | nil => simp at hi
  | cons c r ih =>
    have hc : (Cell.vals c).length = 3 := rfl
    cases i with
    | zero => simp [rowVals, List.flatMap_cons, List.getElem?_append_left, hc, hk]
    | succ i =>
      have h := ih i (by simpa using hi)
      simp only [rowVals, List.flatMap_cons] at *
      rw [List.getElem?_append_right (by omega)]
      simp only [List.getElem_cons_succ]
      rw [← h]
      congr 1
      omega
theorem rowVals_append (a b : List Cell) : rowVals (a ++ b) = rowVals a ++ rowVals b := by simp [rowVals]
theorem rowVals_one (c : Cell) : rowVals [c] = c.vals := by simp [rowVals]
theorem rowVals_cell (r : List Cell) : ∀ u ∈ rowVals r, u.oneCell' = true := by
  intro u hu
  simp only [rowVals, List.mem_flatMap, Cell.vals, List.mem_cons, List.not_mem_nil, or_false] at hu
  obtain ⟨c, _, rfl | rfl | rfl⟩ := hu <;> rfl

/-- a slice value that is the row r -/
abbrev RowIs (w : World) (v : Value) (r : List Cell) : Prop := Sl w v r.length (rowVals r)
theorem Sl.row {w : World} {v : Value} {r : List Cell} (h : RowIs w v r) : ∃ A cap, v = .slice A r.length cap ∧ r.length ≤ cap ∧ cap ≤ maxLen ∧
    (r.length = 0 ∨ ∃ b off, A = some ⟨b, off, none⟩ ∧ ∀ i, (hi : i < r.length) → w.cell? ⟨b, off + i * 3, none⟩ = some (.bool r[i].null) ∧ w.cell? ⟨b, off + i * 3 + 1, none⟩ = some (.int .i64 r[i].n) ∧ w.cell? ⟨b, off + i * 3 + 2, none⟩ = some (.string r[i].s)) := by
  obtain ⟨A, cap, rfl, h1, h2, h3⟩ := h
  refine ⟨A, cap, rfl, h1, h2, ?_⟩
  rcases Nat.eq_zero_or_pos r.length with h0 | h0
  · exact .inl h0
  · obtain ⟨b, off, rfl, hc⟩ := h3 (rowVals_ne h0)
    refine .inr ⟨b, off, rfl, fun i hi => ⟨?_, ?_, ?_⟩⟩
    · have := hc (i * 3 + 0) _ (rowVals_get r i 0 (by omega) hi); simpa using this
    · have := hc (i * 3 + 1) _ (rowVals_get r i 1 (by omega) hi); simpa [Nat.add_assoc] using this
    · have := hc (i * 3 + 2) _ (rowVals_get r i 2 (by omega) hi); simpa [Nat.add_assoc] using this
end Go.Proofs.YtmfbblcipakaiaaGreatDoor

