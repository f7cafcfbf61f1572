/- Items in memory: slices of a row and a weight. No program is named here. -/
import Derived.Test.YtmfbblcipakaiaaGreatDoorData
namespace Go.Proofs.YtmfbblcipakaiaaGreatDoor
open Go.RowKit

structure Item where
  row : List Cell
  w : Int
deriving DecidableEq

def itemVals : List Value → List Item → List Value
  | v :: vs, x :: xs => v :: .int .i64 x.w :: itemVals vs xs
  | _, _ => []
theorem itemVals_length : ∀ (vs : List Value) (l : List Item), vs.length = l.length → (itemVals vs l).length = l.length * 2
  | [], [], _ => rfl
  | _ :: vs, _ :: l, h => by simp only [itemVals, List.length_cons]; have := itemVals_length vs l (by simpa using h); omega
theorem itemVals_get : ∀ (vs : List Value) (l : List Item) (i : Nat) (h : i < l.length) (h' : i < vs.length), (itemVals vs l)[i * 2]? = some vs[i] ∧ (itemVals vs l)[i * 2 + 1]? = some (.int .i64 l[i].w)
  | [], l, i, h, h' => by simp at h'
  | _ :: _, [], i, h, h' => by simp at h
  | v :: vs, x :: l, 0, _, _ => by simp [itemVals]
  | v :: vs, x :: l, i + 1, h, h' => by
    have := itemVals_get vs l i (by simpa using h) (by simpa using h')
    have e1 : (i + 1) * 2 = i * 2 + 1 + 1 := by omega
    rw [e1]
    simp only [itemVals, List.getElem?_cons_succ, List.getElem_cons_succ]
    exact this
theorem itemVals_append : ∀ (vs : List Value) (l : List Item) (us : List Value) (m : List Item), vs.length = l.length → itemVals (vs ++ us) (l ++ m) = itemVals vs l ++ itemVals us m
  | [], [], us, m, _ => rfl
  | v :: vs, x :: l, us, m, h => by
    simp only [List.cons_append, itemVals]
    rw [itemVals_append vs l us m (by simpa using h)]
theorem itemVals_one (v : Value) (x : Item) : itemVals [v] [x] = [v, .int .i64 x.w] := rfl

/-- a slice value that is the items l: their rows are the values vs -/
def ItemsIs (w : World) (v : Value) (l : List Item) : Prop :=
  ∃ vs : List Value, vs.length = l.length ∧ Sl w v l.length (itemVals vs l) ∧ ∀ i, (h : i < l.length) → (h' : i < vs.length) → RowIs w vs[i] l[i].row
/-- .. in memory from block lo on: the items in blocks of their type, so the rows -/
def ItemsT (tI tC lo : Nat) (w : World) (v : Value) (l : List Item) : Prop :=
  ∃ vs : List Value, vs.length = l.length ∧ SlT tI lo w v l.length (itemVals vs l) ∧ ∀ i, (h : i < l.length) → (h' : i < vs.length) → SlT tC lo w vs[i] l[i].row.length (rowVals l[i].row)
/-- .. that the call owns, and may append to -/
def ItemsOwn (tI tC base : Nat) (w : World) (v : Value) (l : List Item) : Prop :=
  ∃ vs : List Value, vs.length = l.length ∧ w.ownsRow base tI 2 v l.length (itemVals vs l) ∧ ∀ i, (h : i < l.length) → (h' : i < vs.length) → SlT tC base w vs[i] l[i].row.length (rowVals l[i].row)

section
variable {w w' : World} {v : Value} {l : List Item} {tI tC lo base : Nat}
theorem ItemsIs.old (h : ItemsIs w v l) (hb : Old w w') : ItemsIs w' v l := by
  obtain ⟨vs, h1, h2, h3⟩ := h
  exact ⟨vs, h1, h2.old hb, fun i hi hi' => (h3 i hi hi').old hb⟩
theorem ItemsT.old (h : ItemsT tI tC lo w v l) (hb : Old w w') : ItemsT tI tC lo w' v l := by
  obtain ⟨vs, h1, h2, h3⟩ := h
  exact ⟨vs, h1, h2.old hb, fun i hi hi' => (h3 i hi hi').old hb⟩
theorem ItemsT.mono {lo' : Nat} (h : ItemsT tI tC lo w v l) (hl : lo' ≤ lo) : ItemsT tI tC lo' w v l := by
  obtain ⟨vs, h1, h2, h3⟩ := h
  exact ⟨vs, h1, h2.mono hl, fun i hi hi' => (h3 i hi hi').mono hl⟩
theorem ItemsT.is (h : ItemsT tI tC lo w v l) : ItemsIs w v l := by
  obtain ⟨vs, h1, h2, h3⟩ := h
  exact ⟨vs, h1, h2.sl, fun i hi hi' => (h3 i hi hi').sl⟩
theorem ItemsOwn.old (h : ItemsOwn tI tC base w v l) (hb : Old w w') : ItemsOwn tI tC base w' v l := by
  obtain ⟨vs, h1, h2, h3⟩ := h
  exact ⟨vs, h1, own_old h2 hb, fun i hi hi' => (h3 i hi hi').old hb⟩
theorem ItemsOwn.t (h : ItemsOwn tI tC base w v l) : ItemsT tI tC base w v l := by
  obtain ⟨vs, h1, h2, h3⟩ := h
  exact ⟨vs, h1, SlT.of_own h2, h3⟩
theorem ItemsOwn.nil_ (w : World) : ItemsOwn tI tC base w (.slice none 0 0) [] :=
  ⟨[], rfl, World.ownsRow_nil w base tI 2, fun i hi => absurd hi (by simp)⟩
/-- the cells of the items, opened -/
theorem ItemsIs.open_ (h : ItemsIs w v l) : ∃ (A : Option Addr) (cap : Nat) (vs : List Value), v = .slice A l.length cap ∧ l.length ≤ cap ∧ cap ≤ maxLen ∧ l.length ≤ vs.length ∧ (∀ i, (h : i < l.length) → (h' : i < vs.length) → RowIs w vs[i] l[i].row) ∧
    (l.length = 0 ∨ ∃ b off, A = some ⟨b, off, none⟩ ∧ ∀ i, (hi : i < l.length) → (hi' : i < vs.length) → w.cell? ⟨b, off + i * 2, none⟩ = some vs[i] ∧ w.cell? ⟨b, off + i * 2 + 1, none⟩ = some (.int .i64 l[i].w)) := by
  obtain ⟨vs, h1, ⟨A, cap, rfl, h2, h3, h4⟩, h5⟩ := h
  refine ⟨A, cap, vs, rfl, h2, h3, by omega, h5, ?_⟩
  rcases Nat.eq_zero_or_pos l.length with h0 | h0
  · exact .inl h0
  · obtain ⟨b, off, rfl, hc⟩ := h4 (by
      intro e
      have := itemVals_length vs l h1
      rw [e] at this
      simp at this
      omega)
    refine .inr ⟨b, off, rfl, fun i hi hi' => ?_⟩
    obtain ⟨g1, g2⟩ := itemVals_get vs l i hi hi'
    exact ⟨hc _ _ g1, by have := hc _ _ g2; rwa [← Nat.add_assoc] at this⟩
end
end Go.Proofs.YtmfbblcipakaiaaGreatDoor

