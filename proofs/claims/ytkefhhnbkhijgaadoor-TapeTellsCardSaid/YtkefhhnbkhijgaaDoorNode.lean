/- Nodes in memory. -/
import Derived.Test.YtkefhhnbkhijgaaDoorProg
import Derived.Test.YtkefhhnbkhijgaaDoorRow
import Derived.Test.YtkefhhnbkhijgaaDoorTree
namespace Go.Proofs.YtkefhhnbkhijgaaDoor
open Go.RowKit

def Nd.vals (x : Nd) : List Value := [.int .i64 x.kind, .string x.key, .int .i64 x.n, .string x.s, .int .i64 x.size]
def ndVals (l : List Nd) : List Value := l.flatMap Nd.vals
def Nd.agg (x : Nd) : Value := .agg #[.int .i64 x.kind, .string x.key, .int .i64 x.n, .string x.s, .int .i64 x.size]
theorem ndVals_length (r : List Nd) : (ndVals r).length = r.length * 5 := by
  induction r with
  | nil => rfl
  | cons c r ih => simp [ndVals, Nd.vals] at *; omega
theorem ndVals_ne {r : List Nd} (h : 0 < r.length) : ndVals r ≠ [] := by
  intro e
  have := ndVals_length r
  rw [e] at this
  simp at this
  omega
theorem ndVals_nil {r : List Nd} (h : r.length = 0) : ndVals r = [] := List.eq_nil_of_length_eq_zero (by rw [ndVals_length, h])
theorem ndVals_get (r : List Nd) (i k : Nat) (hk : k < 5) (hi : i < r.length) : (ndVals r)[i * 5 + k]? = (r[i]).vals[k]? := by
  induction r generalizing i with
  | nil => simp at hi
  | cons c r ih =>
    have hc : (Nd.vals c).length = 5 := rfl
    cases i with
    | zero => simp [ndVals, List.flatMap_cons, List.getElem?_append_left, hc, hk]
    | succ i =>
      have h := ih i (by simpa using hi)
      simp only [ndVals, List.flatMap_cons] at *
      rw [List.getElem?_append_right (by omega)]
      simp only [List.getElem_cons_succ]
      rw [← h]
      congr 1
      omega
theorem ndVals_append (a b : List Nd) : ndVals (a ++ b) = ndVals a ++ ndVals b := by simp [ndVals]
theorem ndVals_one (c : Nd) : ndVals [c] = c.vals := by simp [ndVals]
theorem ndVals_cell (r : List Nd) : ∀ u ∈ ndVals r, u.oneCell' = true := by
  intro u hu
  simp only [ndVals, List.mem_flatMap, Nd.vals, List.mem_cons, List.not_mem_nil, or_false] at hu
  obtain ⟨c, _, rfl | rfl | rfl | rfl | rfl⟩ := hu <;> rfl
theorem ndVals_take (r : List Nd) (m : Nat) : ndVals (r.take m) = (ndVals r).take (m * 5) := by
  rcases Nat.lt_or_ge r.length m with h | h
  · rw [List.take_of_length_le (by omega), List.take_of_length_le (by rw [ndVals_length]; omega)]
  · have e : ndVals r = ndVals (r.take m) ++ ndVals (r.drop m) := by rw [← ndVals_append, List.take_append_drop]
    rw [e, List.take_left' (by rw [ndVals_length, List.length_take]; omega)]
theorem ndVals_drop (r : List Nd) (m : Nat) (h : m ≤ r.length) : ndVals (r.drop m) = (ndVals r).drop (m * 5) := by
  have e : ndVals r = ndVals (r.take m) ++ ndVals (r.drop m) := by rw [← ndVals_append, List.take_append_drop]
  rw [e, List.drop_left' (by rw [ndVals_length, List.length_take]; omega)]

/-- a slice value that is the nodes l -/
abbrev NodesIs (w : World) (v : Value) (l : List Nd) : Prop := Sl w v l.length (ndVals l)
abbrev NodesT (lo : Nat) (w : World) (v : Value) (l : List Nd) : Prop := SlT 57 lo w v l.length (ndVals l)
abbrev NodesOwn (base : Nat) (w : World) (v : Value) (l : List Nd) : Prop := w.ownsRow base 57 5 v l.length (ndVals l)
theorem Sl.nodes {w : World} {v : Value} {l : List Nd} (h : NodesIs w v l) : ∃ A cap, v = .slice A l.length cap ∧ l.length ≤ cap ∧ cap ≤ maxLen ∧
    (l.length = 0 ∨ ∃ b off, A = some ⟨b, off, none⟩ ∧ ∀ i, (hi : i < l.length) → w.cell? ⟨b, off + i * 5, none⟩ = some (.int .i64 l[i].kind) ∧ w.cell? ⟨b, off + i * 5 + 1, none⟩ = some (.string l[i].key) ∧ w.cell? ⟨b, off + i * 5 + 2, none⟩ = some (.int .i64 l[i].n) ∧
      w.cell? ⟨b, off + i * 5 + 3, none⟩ = some (.string l[i].s) ∧ w.cell? ⟨b, off + i * 5 + 4, none⟩ = some (.int .i64 l[i].size)) := by
  obtain ⟨A, cap, rfl, h1, h2, h3⟩ := h
  refine ⟨A, cap, rfl, h1, h2, ?_⟩
  rcases Nat.eq_zero_or_pos l.length with h0 | h0
  · exact .inl h0
  · obtain ⟨b, off, rfl, hc⟩ := h3 (ndVals_ne h0)
    refine .inr ⟨b, off, rfl, fun i hi => ⟨?_, ?_, ?_, ?_, ?_⟩⟩
    · have := hc (i * 5 + 0) _ (ndVals_get l i 0 (by omega) hi); simpa using this
    · have := hc (i * 5 + 1) _ (ndVals_get l i 1 (by omega) hi); simpa [Nat.add_assoc] using this
    · have := hc (i * 5 + 2) _ (ndVals_get l i 2 (by omega) hi); simpa [Nat.add_assoc] using this
    · have := hc (i * 5 + 3) _ (ndVals_get l i 3 (by omega) hi); simpa [Nat.add_assoc] using this
    · have := hc (i * 5 + 4) _ (ndVals_get l i 4 (by omega) hi); simpa [Nat.add_assoc] using this

theorem nodeInfo : (Tryd.prog.info? 57).map (fun i => (i.zero, i.size, i.bytes)) = some (some (.agg #[.int .i64 0, .string ⟨#[]⟩, .int .i64 0, .string ⟨#[]⟩, .int .i64 0]), 5, 56) := by kernel_rfl
theorem nodeGuard : Tryd.prog.eqGuardType Tryd.prog.depth 57 = false := by kernel_rfl
theorem nodeStood : Tryd.prog.stoodInHeld 57 = false := by kernel_rfl
theorem nodeFields : Tryd.prog.underlying 57 = some (.struct (Tryd.prog.fieldsOf 57)) := by kernel_rfl
theorem bytes_ext {a b : ByteArray} (h : a.toList = b.toList) : a = b := by
  rw [ByteArray.toList_eq, ByteArray.toList_eq] at h
  cases a; cases b
  simp only [ByteArray.mk.injEq]
  exact Array.toList_inj.1 h
def sameNd (a b : Nd) : Bool := decide (a = b)
theorem eql_node (a b : Nd) (w : World) : (binOp .eql 57 (.agg #[.int .i64 a.kind, .string a.key, .int .i64 a.n, .string a.s, .int .i64 a.size]) (.agg #[.int .i64 b.kind, .string b.key, .int .i64 b.n, .string b.s, .int .i64 b.size])).run Tryd.prog w = .ok (.bool (sameNd a b)) w := by
  rw [run_eql_struct, run_equalIn_agg _ _ _ _ _ nodeFields nodeStood]
  simp only [Program.fieldsOf, Tryd.underlying57]
  obtain ⟨a1, a2, a3, a4, a5⟩ := a
  obtain ⟨b1, b2, b3, b4, b5⟩ := b
  simp [go_sem, sameNd]
  by_cases h1 : a1 = b1
  · by_cases h2 : a2 = b2
    · by_cases h3 : a3 = b3
      · by_cases h4 : a4 = b4
        · by_cases h5 : a5 = b5
          · subst h4; subst h2; simp [h1, h3, h5]
          · simp [h1, h2, h3, h4, h5]
        · have h6 : ¬ a4.toList = b4.toList := fun h => h4 (bytes_ext h)
          simp [h1, h2, h3, h4, h6]
      · simp [h1, h2, h3]
    · have h6 : ¬ a2.toList = b2.toList := fun h => h2 (bytes_ext h)
      simp [h1, h2, h6]
  · simp [h1]
theorem neq_node (a b : Nd) (w : World) : (binOp .neq 57 (.agg #[.int .i64 a.kind, .string a.key, .int .i64 a.n, .string a.s, .int .i64 a.size]) (.agg #[.int .i64 b.kind, .string b.key, .int .i64 b.n, .string b.s, .int .i64 b.size])).run Tryd.prog w = .ok (.bool (!sameNd a b)) w := by
  rw [run_neq_struct, run_equalIn_agg _ _ _ _ _ nodeFields nodeStood]
  simp only [Program.fieldsOf, Tryd.underlying57]
  obtain ⟨a1, a2, a3, a4, a5⟩ := a
  obtain ⟨b1, b2, b3, b4, b5⟩ := b
  simp [go_sem, sameNd]
  by_cases h1 : a1 = b1
  · by_cases h2 : a2 = b2
    · by_cases h3 : a3 = b3
      · by_cases h4 : a4 = b4
        · by_cases h5 : a5 = b5
          · subst h4; subst h2; simp [h1, h3, h5]
          · simp [h1, h2, h3, h4, h5]
        · have h6 : ¬ a4.toList = b4.toList := fun h => h4 (bytes_ext h)
          simp [h1, h2, h3, h4, h6]
      · simp [h1, h2, h3]
    · have h6 : ¬ a2.toList = b2.toList := fun h => h2 (bytes_ext h)
      simp [h1, h2, h6]
  · simp [h1]
end Go.Proofs.YtkefhhnbkhijgaaDoor
