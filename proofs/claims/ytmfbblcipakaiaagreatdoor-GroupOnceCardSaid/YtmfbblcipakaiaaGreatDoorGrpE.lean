/- Entries in memory: slices of a key, of values, and a weight. No program is named here. -/
import Derived.Test.YtmfbblcipakaiaaGreatDoorGrpD
namespace Go.Proofs.YtmfbblcipakaiaaGreatDoor
open Go.RowKit

def entVals : List (Value × Value) → List Ent → List Value
  | v :: vs, x :: xs => v.1 :: v.2 :: .int .i64 x.w :: entVals vs xs
  | _, _ => []
theorem entVals_length : ∀ (vs : List (Value × Value)) (l : List Ent), vs.length = l.length → (entVals vs l).length = l.length * 3
  | [], [], _ => rfl
  | _ :: vs, _ :: l, h => by simp only [entVals, List.length_cons]; have := entVals_length vs l (by simpa using h); omega
theorem entVals_get : ∀ (vs : List (Value × Value)) (l : List Ent) (i : Nat) (h : i < l.length) (h' : i < vs.length),
    (entVals vs l)[i * 3]? = some vs[i].1 ∧ (entVals vs l)[i * 3 + 1]? = some vs[i].2 ∧ (entVals vs l)[i * 3 + 2]? = some (.int .i64 l[i].w)
  | [], l, i, h, h' => by simp at h'
  | _ :: _, [], i, h, h' => by simp at h
  | v :: vs, x :: l, 0, _, _ => by simp [entVals]
  | v :: vs, x :: l, i + 1, h, h' => by
    have := entVals_get vs l i (by simpa using h) (by simpa using h')
    have e1 : (i + 1) * 3 = i * 3 + 1 + 1 + 1 := by omega
    rw [e1]
    simp only [entVals, List.getElem?_cons_succ, List.getElem_cons_succ]
    exact this
theorem entVals_append : ∀ (vs : List (Value × Value)) (l : List Ent) (us : List (Value × Value)) (m : List Ent), vs.length = l.length → entVals (vs ++ us) (l ++ m) = entVals vs l ++ entVals us m
  | [], [], us, m, _ => rfl
  | v :: vs, x :: l, us, m, h => by
    simp only [List.cons_append, entVals]
    rw [entVals_append vs l us m (by simpa using h)]
theorem entVals_one (v : Value × Value) (x : Ent) : entVals [v] [x] = [v.1, v.2, .int .i64 x.w] := rfl
theorem entVals_ne {vs : List (Value × Value)} {l : List Ent} (h : vs.length = l.length) (h0 : 0 < l.length) : entVals vs l ≠ [] := by
  intro e
  have := entVals_length vs l h
  rw [e] at this
  simp at this
  omega
/-- a value that is a slice, or leads nowhere: one cell -/
theorem entVals_cell {vs : List (Value × Value)} {l : List Ent} (h : ∀ v ∈ vs, v.1.oneCell' = true ∧ v.2.oneCell' = true) : ∀ u ∈ entVals vs l, u.oneCell' = true := by
  induction vs generalizing l with
  | nil => intro u hu; cases l <;> simp [entVals] at hu
  | cons v vs ih =>
    cases l with
    | nil => intro u hu; simp [entVals] at hu
    | cons x l =>
      intro u hu
      simp only [entVals, List.mem_cons] at hu
      rcases hu with rfl | rfl | rfl | hu
      · exact (h v (by simp)).1
      · exact (h v (by simp)).2
      · rfl
      · exact ih (fun y hy => h y (by simp [hy])) u hu

/-- a slice value that is the entries l: their keys and values are the values vs -/
def EntsIs (w : World) (v : Value) (l : List Ent) : Prop :=
  ∃ vs : List (Value × Value), vs.length = l.length ∧ Sl w v l.length (entVals vs l) ∧ ∀ i, (h : i < l.length) → (h' : i < vs.length) → RowIs w vs[i].1 l[i].key ∧ RowIs w vs[i].2 l[i].vals
/-- .. in memory from block lo on: the entries in blocks of their type, so the rows -/
def EntsT (tE tC lo : Nat) (w : World) (v : Value) (l : List Ent) : Prop :=
  ∃ vs : List (Value × Value), vs.length = l.length ∧ SlT tE lo w v l.length (entVals vs l) ∧
    ∀ i, (h : i < l.length) → (h' : i < vs.length) → SlT tC lo w vs[i].1 l[i].key.length (rowVals l[i].key) ∧ SlT tC lo w vs[i].2 l[i].vals.length (rowVals l[i].vals)
/-- .. that the call owns, and may append to -/
def EntsOwn (tE tC base : Nat) (w : World) (v : Value) (l : List Ent) : Prop :=
  ∃ vs : List (Value × Value), vs.length = l.length ∧ w.ownsRow base tE 3 v l.length (entVals vs l) ∧
    ∀ i, (h : i < l.length) → (h' : i < vs.length) → SlT tC base w vs[i].1 l[i].key.length (rowVals l[i].key) ∧ SlT tC base w vs[i].2 l[i].vals.length (rowVals l[i].vals)
section
variable {w w' : World} {v : Value} {l : List Ent} {tE tC lo base : Nat}
theorem EntsIs.old (h : EntsIs w v l) (hb : Old w w') : EntsIs w' v l := by
  obtain ⟨vs, h1, h2, h3⟩ := h
  exact ⟨vs, h1, h2.old hb, fun i hi hi' => ⟨(h3 i hi hi').1.old hb, (h3 i hi hi').2.old hb⟩⟩
theorem EntsIs.chg {X : Nat → Prop} (h : EntsIs w v l) (c : Chg X w w') (hd : ∀ (b : Nat) cs T f, w.heap[b]? = some (.cells cs T f) → ¬ X b) : EntsIs w' v l := by
  obtain ⟨vs, h1, h2, h3⟩ := h
  exact ⟨vs, h1, h2.chg c hd, fun i hi hi' => ⟨(h3 i hi hi').1.chg c hd, (h3 i hi hi').2.chg c hd⟩⟩
theorem EntsT.old (h : EntsT tE tC lo w v l) (hb : Old w w') : EntsT tE tC lo w' v l := by
  obtain ⟨vs, h1, h2, h3⟩ := h
  exact ⟨vs, h1, h2.old hb, fun i hi hi' => ⟨(h3 i hi hi').1.old hb, (h3 i hi hi').2.old hb⟩⟩
theorem EntsT.mono {lo' : Nat} (h : EntsT tE tC lo w v l) (hl : lo' ≤ lo) : EntsT tE tC lo' w v l := by
  obtain ⟨vs, h1, h2, h3⟩ := h
  exact ⟨vs, h1, h2.mono hl, fun i hi hi' => ⟨(h3 i hi hi').1.mono hl, (h3 i hi hi').2.mono hl⟩⟩
theorem EntsT.is (h : EntsT tE tC lo w v l) : EntsIs w v l := by
  obtain ⟨vs, h1, h2, h3⟩ := h
  exact ⟨vs, h1, h2.sl, fun i hi hi' => ⟨(h3 i hi hi').1.sl, (h3 i hi hi').2.sl⟩⟩
theorem EntsOwn.old (h : EntsOwn tE tC base w v l) (hb : Old w w') : EntsOwn tE tC base w' v l := by
  obtain ⟨vs, h1, h2, h3⟩ := h
  exact ⟨vs, h1, own_old h2 hb, fun i hi hi' => ⟨(h3 i hi hi').1.old hb, (h3 i hi hi').2.old hb⟩⟩
theorem EntsOwn.t (h : EntsOwn tE tC base w v l) : EntsT tE tC base w v l := by
  obtain ⟨vs, h1, h2, h3⟩ := h
  exact ⟨vs, h1, SlT.of_own h2, h3⟩
theorem EntsOwn.nil_ (w : World) : EntsOwn tE tC base w (.slice none 0 0) [] :=
  ⟨[], rfl, World.ownsRow_nil w base tE 3, fun i hi => absurd hi (by simp)⟩
theorem EntsIs.nil_ (w : World) : EntsIs w (.slice none 0 0) [] := ⟨[], rfl, Sl.nil_ w, fun i hi => absurd hi (by simp)⟩
/-- the cells of the entries, opened -/
theorem EntsIs.open_ (h : EntsIs w v l) : ∃ (A : Option Addr) (cap : Nat) (us vs : List Value), v = .slice A l.length cap ∧ l.length ≤ cap ∧ cap ≤ maxLen ∧ l.length ≤ us.length ∧ l.length ≤ vs.length ∧
    (∀ i, (h : i < l.length) → (h' : i < us.length) → RowIs w us[i] l[i].key) ∧ (∀ i, (h : i < l.length) → (h' : i < vs.length) → RowIs w vs[i] l[i].vals) ∧
    (l.length = 0 ∨ ∃ b off, A = some ⟨b, off, none⟩ ∧ ∀ i, (hi : i < l.length) → (hi1 : i < us.length) → (hi2 : i < vs.length) →
      w.cell? ⟨b, off + i * 3, none⟩ = some us[i] ∧ w.cell? ⟨b, off + i * 3 + 1, none⟩ = some vs[i] ∧ w.cell? ⟨b, off + i * 3 + 2, none⟩ = some (.int .i64 l[i].w)) := by
  obtain ⟨vs, h1, ⟨A, cap, rfl, h2, h3, h4⟩, h5⟩ := h
  refine ⟨A, cap, vs.map (·.1), vs.map (·.2), rfl, h2, h3, by simp; omega, by simp; omega, fun i hi hi' => ?_, fun i hi hi' => ?_, ?_⟩
  · have := (h5 i hi (by simpa using hi')).1
    simpa using this
  · have := (h5 i hi (by simpa using hi')).2
    simpa using this
  · rcases Nat.eq_zero_or_pos l.length with h0 | h0
    · exact .inl h0
    · obtain ⟨b, off, rfl, hc⟩ := h4 (entVals_ne h1 h0)
      refine .inr ⟨b, off, rfl, fun i hi hi1 hi2 => ?_⟩
      have hv : i < vs.length := by simpa using hi1
      obtain ⟨g1, g2, g3⟩ := entVals_get vs l i hi hv
      refine ⟨by simpa using hc _ _ g1, ?_, ?_⟩
      · have := hc _ _ g2
        rw [← Nat.add_assoc] at this
        simpa using this
      · have := hc _ _ g3
        rw [← Nat.add_assoc] at this
        exact this
end
theorem ItemsIs.chg {w w' : World} {v : Value} {l : List Item} {X : Nat → Prop} (h : ItemsIs w v l) (c : Chg X w w') (hd : ∀ (b : Nat) cs T f, w.heap[b]? = some (.cells cs T f) → ¬ X b) : ItemsIs w' v l := by
  obtain ⟨vs, h1, h2, h3⟩ := h
  exact ⟨vs, h1, h2.chg c hd, fun i hi hi' => (h3 i hi hi').chg c hd⟩
theorem SlT.chg {T lo n : Nat} {w w' : World} {v : Value} {xs : List Value} {X : Nat → Prop} (h : SlT T lo w v n xs) (c : Chg X w w') (hd : ∀ (b : Nat) cs f, lo ≤ b → w.heap[b]? = some (.cells cs T f) → ¬ X b) : SlT T lo w' v n xs := by
  obtain ⟨A, cap, rfl, h1, h2, h3⟩ := h
  refine ⟨A, cap, rfl, h1, h2, fun hx => ?_⟩
  obtain ⟨b, off, cs, rfl, hl, hh, hc⟩ := h3 hx
  exact ⟨b, off, cs, rfl, hl, (c.block b (block_lt hh) (hd b cs _ hl hh)).trans hh, hc⟩
theorem ItemsT.chg {w w' : World} {v : Value} {l : List Item} {tI tC lo : Nat} {X : Nat → Prop} (h : ItemsT tI tC lo w v l) (c : Chg X w w') (hd : ∀ (b : Nat) cs T f, lo ≤ b → w.heap[b]? = some (.cells cs T f) → ¬ X b) : ItemsT tI tC lo w' v l := by
  obtain ⟨vs, h1, h2, h3⟩ := h
  exact ⟨vs, h1, h2.chg c (fun b cs f hl hh => hd b cs tI f hl hh), fun i hi hi' => (h3 i hi hi').chg c (fun b cs f hl hh => hd b cs tC f hl hh)⟩
theorem EntsT.chg {w w' : World} {v : Value} {l : List Ent} {tE tC lo : Nat} {X : Nat → Prop} (h : EntsT tE tC lo w v l) (c : Chg X w w') (hd : ∀ (b : Nat) cs T f, lo ≤ b → w.heap[b]? = some (.cells cs T f) → ¬ X b) : EntsT tE tC lo w' v l := by
  obtain ⟨vs, h1, h2, h3⟩ := h
  exact ⟨vs, h1, h2.chg c (fun b cs f hl hh => hd b cs tE f hl hh), fun i hi hi' => ⟨(h3 i hi hi').1.chg c (fun b cs f hl hh => hd b cs tC f hl hh), (h3 i hi hi').2.chg c (fun b cs f hl hh => hd b cs tC f hl hh)⟩⟩
end Go.Proofs.YtmfbblcipakaiaaGreatDoor
