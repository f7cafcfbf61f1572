/- Rows of five nodes, each in a block of its own, of which fields are made other ones; rows of zero nodes. -/
import Derived.Test.YtkefhhnbkhijgaaDoorBase
import Derived.Laws.OwnMore
namespace Go.Proofs.YtkefhhnbkhijgaaDoor
open Go.RowKit

/-- a value stored into a node of a row of the call's own -/
theorem set_val {lo m cap : Nat} {w : World} {A : Option Addr} {l1 l2 : List Nd} {x y : Nd} (i k : Nat) (s : Value) (h : NodesT lo w (.slice A m cap) (l1 ++ x :: l2)) (hk : l1.length = k) (hi : i < 5) (hy : y.vals = x.vals.set i s) :
    ∃ g off, A = some ⟨g, off, none⟩ ∧ lo ≤ g ∧ (∀ j u, x.vals[j]? = some u → w.cell? ⟨g, off + k * 5 + j, none⟩ = some u) ∧ (∀ j, w.frozen? ⟨g, j, none⟩ = false) ∧
      NodesT lo (w.setCell ⟨g, off + k * 5 + i, none⟩ s) (.slice A m cap) (l1 ++ y :: l2) := by
  subst hk
  obtain ⟨A', cp, he, h1, h2, h3⟩ := h
  injection he with e1 e2 e3
  subst e1 e3
  obtain ⟨g, off, cs, rfl, hlo, hh, hc⟩ := h3 (ndVals_ne (by simp; omega))
  have e : ndVals (l1 ++ x :: l2) = ndVals l1 ++ (x.vals ++ ndVals l2) := by simp [ndVals]
  have e' : ndVals (l1 ++ y :: l2) = ndVals l1 ++ (y.vals ++ ndVals l2) := by simp [ndVals]
  have hx5 : x.vals.length = 5 := rfl
  have hcx : ∀ j u, x.vals[j]? = some u → cs[off + l1.length * 5 + j]? = some u := fun j u hu => by
    rw [Nat.add_assoc]
    refine hc _ _ ?_
    rw [e, List.getElem?_append_right (by rw [ndVals_length]; omega), ndVals_length, Nat.add_sub_cancel_left, List.getElem?_append_left (by have := (List.getElem?_eq_some_iff.1 hu).1; omega)]
    exact hu
  have e2' : ndVals (l1 ++ y :: l2) = (ndVals (l1 ++ x :: l2)).set (l1.length * 5 + i) s := by
    rw [e, e', hy, List.set_append_right _ _ (by rw [ndVals_length]; omega), ndVals_length, Nat.add_sub_cancel_left, List.set_append_left _ _ (by omega)]
  have hl' : (l1 ++ y :: l2).length = (l1 ++ x :: l2).length := by simp
  refine ⟨g, off, rfl, hlo, fun j u hu => by rw [cell_of_heap hh]; exact hcx j u hu, fun j => free_of_heap hh, ?_⟩
  unfold NodesT
  rw [hl']
  refine ⟨_, cap, by rw [e2], h1, h2, fun _ => ⟨g, off, cs.setIfInBounds (off + l1.length * 5 + i) s, rfl, hlo, by simp [World.setCell, Array.getElem?_modify, hh], fun j u hu => ?_⟩⟩
  rw [e2', List.getElem?_set] at hu
  by_cases hj : l1.length * 5 + i = j
  · subst hj
    rw [if_pos rfl] at hu
    split at hu
    · injection hu with hu
      subst hu
      have hlt : off + l1.length * 5 + i < cs.size := by
        obtain ⟨z, hz⟩ : ∃ z, x.vals[i]? = some z := ⟨_, List.getElem?_eq_getElem (by omega)⟩
        exact (Array.getElem?_eq_some_iff.1 (hcx i z hz)).1
      rw [← Nat.add_assoc, Array.getElem?_setIfInBounds_self_of_lt hlt]
    · cases hu
  · rw [if_neg hj] at hu
    rw [Array.getElem?_setIfInBounds_ne (by omega)]
    exact hc j u hu
theorem set_kind (n : Int) : ∀ x : Nd, ∃ y : Nd, y.vals = x.vals.set 0 (.int .i64 n) := fun x => ⟨⟨n, x.key, x.n, x.s, x.size⟩, rfl⟩
theorem set_size (n : Int) : ∀ x : Nd, ∃ y : Nd, y.vals = x.vals.set 4 (.int .i64 n) := fun x => ⟨⟨x.kind, x.key, x.n, x.s, n⟩, rfl⟩
theorem set_n (n : Int) : ∀ x : Nd, ∃ y : Nd, y.vals = x.vals.set 2 (.int .i64 n) := fun x => ⟨⟨x.kind, x.key, n, x.s, x.size⟩, rfl⟩
theorem set_key (s : ByteArray) : ∀ x : Nd, ∃ y : Nd, y.vals = x.vals.set 1 (.string s) := fun x => ⟨⟨x.kind, s, x.n, x.s, x.size⟩, rfl⟩
theorem set_s (s : ByteArray) : ∀ x : Nd, ∃ y : Nd, y.vals = x.vals.set 3 (.string s) := fun x => ⟨⟨x.kind, x.key, x.n, s, x.size⟩, rfl⟩


/-! rows of five nodes, each in a block of its own -/
/-- five nodes in block g -/
def Five (w : World) (g off c : Nat) (t : List Nd) : Prop := t.length = 5 ∧ g < w.heap.size ∧ NodesT g w (.slice (some ⟨g, off, none⟩) 5 c) t
theorem five_of {w w' : World} {v : Value} {t : List Nd} (h : NodesT w.heap.size w' v t) (ht : t.length = 5) : ∃ g off c, v = .slice (some ⟨g, off, none⟩) 5 c ∧ 5 ≤ c ∧ c ≤ maxLen ∧ w.heap.size ≤ g ∧ Five w' g off c t := by
  obtain ⟨A, c, rfl, h1, h2, h3⟩ := h
  obtain ⟨g, off, cs, rfl, hlo, hh, hc⟩ := h3 (ndVals_ne (by omega))
  refine ⟨g, off, c, by rw [ht], by omega, h2, hlo, ht, block_lt hh, ?_⟩
  exact ⟨_, c, by rw [ht], by omega, h2, fun _ => ⟨g, off, cs, rfl, Nat.le_refl _, hh, hc⟩⟩
theorem Five.old {w w' : World} {g off c : Nat} {t : List Nd} (h : Five w g off c t) (o : Old w w') : Five w' g off c t := ⟨h.1, Nat.lt_of_lt_of_le h.2.1 o.size, SlT.old h.2.2 o⟩
theorem Five.is {w : World} {g off c : Nat} {t : List Nd} (h : Five w g off c t) : NodesIs w (.slice (some ⟨g, off, none⟩) 5 c) t := SlT.sl h.2.2
/-- another block's cells turn -/
theorem Five.other {w : World} {g off c g' j : Nat} {t : List Nd} {u : Value} (h : Five w g off c t) (hne : g ≠ g') : Five (w.setCell ⟨g', j, none⟩ u) g off c t := by
  obtain ⟨h1, h2, h3⟩ := h
  refine ⟨h1, by simpa [World.setCell] using h2, ?_⟩
  obtain ⟨A', c', he, a1, a2, a3⟩ := h3
  refine ⟨A', c', he, a1, a2, fun hn => ?_⟩
  obtain ⟨b, f, cs, e, hlo, hh, hc⟩ := a3 hn
  injection he with e1 e2 e3
  rw [e] at e1
  injection e1 with e1
  injection e1 with e1 e4
  subst e1
  refine ⟨g, f, cs, e, hlo, ?_, hc⟩
  simp only [World.setCell, Array.getElem?_modify]
  rw [if_neg (fun h => hne h.symm)]
  exact hh
/-- a field of the row's own is another one -/
theorem Five.set {w : World} {g off c : Nat} {t : List Nd} (h : Five w g off c t) (i k : Nat) (s : Value) (hk : k < 5) (hi : i < 5) (hs : ∀ x : Nd, ∃ y : Nd, y.vals = x.vals.set i s) :
    (∃ u, w.cell? ⟨g, off + k * 5 + i, none⟩ = some u) ∧ (∀ j, w.frozen? ⟨g, j, none⟩ = false) ∧ ∃ t', Five (w.setCell ⟨g, off + k * 5 + i, none⟩ s) g off c t' := by
  obtain ⟨h1, h2, h3⟩ := h
  obtain ⟨A, c', he, hq, hr, hh⟩ := h3
  have h3' : NodesT g w (.slice (some ⟨g, off, none⟩) 5 c) t := ⟨A, c', he, hq, hr, hh⟩
  have hkl : k < t.length := by omega
  have e : t = t.take k ++ t[k] :: t.drop (k + 1) := by rw [← List.drop_eq_getElem_cons hkl, List.take_append_drop]
  rw [e] at h3'
  obtain ⟨y, hy⟩ := hs t[k]
  obtain ⟨g', off', he', b1, b2, b3, b4⟩ := set_val (y := y) i k s h3' (by simp; omega) hi hy
  injection he' with he'
  injection he' with e1 e2
  subst e1 e2
  obtain ⟨z, hz⟩ : ∃ z, (t[k] : Nd).vals[i]? = some z := ⟨_, List.getElem?_eq_getElem (show i < (t[k] : Nd).vals.length from hi)⟩
  refine ⟨⟨z, b2 i z hz⟩, b3, _, by simp; omega, by simpa [World.setCell] using h2, b4⟩

/-! zeros -/
def zeroNd : Nd := ⟨0, none_, 0, none_, 0⟩
theorem made_nodes (n : Nat) : (madeCells #[.int .i64 0, .string ⟨#[]⟩, .int .i64 0, .string ⟨#[]⟩, .int .i64 0] (n * 5)).toList = ndVals (List.replicate n zeroNd) := by
  apply List.ext_getElem?
  intro j
  rcases Nat.lt_or_ge j (n * 5) with hj | hj
  · have h := ndVals_get (List.replicate n zeroNd) (j / 5) (j % 5) (by omega) (by simp; omega)
    rw [show j / 5 * 5 + j % 5 = j by omega] at h
    have e : (madeCells #[.int .i64 0, .string ⟨#[]⟩, .int .i64 0, .string ⟨#[]⟩, .int .i64 0] (n * 5)).toList[j]? = some ((#[.int .i64 0, .string ⟨#[]⟩, .int .i64 0, .string ⟨#[]⟩, .int .i64 0] : Array Value)[j % 5]!) := by
      simp [madeCells, hj]
    rw [h, e]
    simp only [List.getElem_replicate]
    have h5 : j % 5 < 5 := Nat.mod_lt _ (by omega)
    generalize j % 5 = m at h5
    match m, h5 with
    | 0, _ => rfl
    | 1, _ => rfl
    | 2, _ => rfl
    | 3, _ => rfl
    | 4, _ => rfl
  · rw [List.getElem?_eq_none (by rw [Array.length_toList, size_madeCells]; exact hj), List.getElem?_eq_none (by rw [ndVals_length]; simpa using hj)]

end Go.Proofs.YtkefhhnbkhijgaaDoor
