/- The weight that Get answers of a Z-set, and the sum's. -/
import Derived.Test.YtggknmagpcnkoaaScales
namespace Go.Proofs.Ytggknmagpcnkoaa
open Go.RowKit

theorem getW_cons (x : Item) (z : List Item) (r : List Cell) : getW (x :: z) r = if x.row = r then x.w else getW z r := by
  unfold getW
  rw [List.find?_cons]
  by_cases h : x.row = r
  · have : sameRow x.row r = true := by simp [sameRow, h]
    rw [if_pos h, this]
  · have : sameRow x.row r = false := by simp [sameRow, h]
    rw [if_neg h, this]
theorem getW_wOf : ∀ {z : List Item}, Rising z → ∀ r, getW z r = wOf z r
  | [], _, r => rfl
  | x :: z, h, r => by
    rw [getW_cons, wOf]
    by_cases e : x.row = r
    · subst e
      rw [if_pos rfl, if_pos rfl, wOf_rising_head h]
      omega
    · rw [if_neg e, if_neg e, getW_wOf (rising_tail h) r]
      omega
/-- what Get answers of a sum -/
theorem get_sum {x y : List Item} (hx : ZOk x) (hy : ZOk y) (h : addErr x y = 0) (r : List Cell) : getW (addOut x y) r = getW x r + getW y r ∧ fit (getW x r + getW y r) := by
  obtain ⟨e1, e2⟩ := addErr_ok hx hy
  have hn : normErr (x ++ y) = 0 := e1.symm.trans h
  obtain ⟨h1, h2⟩ := normOut_ok hn
  rw [getW_wOf hx.1, getW_wOf hy.1, e2, getW_wOf h1.1, h2, wOf_append]
  refine ⟨rfl, ?_⟩
  have := normErr_zero.1 hn r
  rwa [wOf_append] at this
theorem add_fine {n m : Nat} {a b : List Item} (ha : Fine n a) (hb : Fine m b) : Fine (n + m) (addOut a b) := by
  unfold addOut
  split
  · exact norm_fine (ha.append hb)
  · exact ⟨by simp, fun i hi => absurd hi (by simp), by simp⟩
theorem addErr_or {a b : List Item} (ha : ZOk a) (hb : ZOk b) : addErr a b = 0 ∨ addErr a b = 50 := by
  rw [(addErr_ok ha hb).1]
  exact normErr_or _
theorem items_nil {tI tC lo : Nat} {w : World} {v : Value} (h : ItemsT tI tC lo w v []) : ∃ A c, v = .slice A 0 c := by
  obtain ⟨vs, h1, ⟨A, c, rfl, _⟩, h2⟩ := h
  exact ⟨A, c, rfl⟩
end Go.Proofs.Ytggknmagpcnkoaa
