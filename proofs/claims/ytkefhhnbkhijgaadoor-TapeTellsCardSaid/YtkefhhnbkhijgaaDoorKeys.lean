/- Sets of keys in maps that the call has made. -/
import Derived.Test.YtkefhhnbkhijgaaDoorProg
import Derived.Test.YtkefhhnbkhijgaaDoorRow
import Derived.Test.YtkefhhnbkhijgaaDoorTree
import Derived.Maps.OwnSet
import Derived.StringKeys
namespace Go.Proofs.YtkefhhnbkhijgaaDoor
open Go.RowKit Go.Maps Go.WideMaps

theorem keyLaw : Keyed Tryd.prog 9 := string_keyed Tryd.underlying9
theorem zeroInt (w : World) : (zeroValue 3).run Tryd.prog w = .ok (.int .i64 0) w := by kernel_rfl

/-- block b is a map of numbers, whose keys are these -/
def Keys (w : World) (b : Nat) (had : List ByteArray) : Prop :=
  ∃ D : DataW Unit, w.ownsMap Tryd.prog 9 (plainElem Tryd.prog 3) b had.length D ∧ ∀ s : ByteArray, has D (.string s.data.toList) = hasKey had s
theorem Keys.lt {w : World} {b : Nat} {had : List ByteArray} (h : Keys w b had) : b < w.heap.size := by
  obtain ⟨D, h1, _⟩ := h
  exact h1.lt
theorem Keys.same {w w' : World} {b : Nat} {had : List ByteArray} (h : Keys w b had) (e : w'.heap[b]? = w.heap[b]?) : Keys w' b had := by
  obtain ⟨D, ⟨es, clock, hb, r⟩, h2⟩ := h
  exact ⟨D, ⟨es, clock, e.trans hb, r⟩, h2⟩
theorem Keys.old {w w' : World} {b : Nat} {had : List ByteArray} (h : Keys w b had) (ho : Old w w') : Keys w' b had := h.same (ho.block b h.lt)
theorem Keys.grown {w w' : World} {b : Nat} {had : List ByteArray} {row : Option Nat} (h : Keys w b had) (hg : w.grownBy w' row) (hne : some b ≠ row) : Keys w' b had := h.same (hg.block b h.lt hne)
theorem keys_new (w : World) : Keys (w.alloc (.map #[] 0)) w.heap.size [] :=
  ⟨.map [], World.ownsMap_made _ _ _ _, fun s => by simp [has, hasKey]⟩
theorem keys_put {D : DataW Unit} {had : List ByteArray} {s : ByteArray} {d : DataW Unit} (hm : IsMap D) (h : ∀ t : ByteArray, has D (.string t.data.toList) = hasKey had t) (t : ByteArray) : has (D.put (.string s.data.toList) d) (.string t.data.toList) = hasKey (had ++ [s]) t := by
  by_cases e : t = s
  · subst e
    rw [has_put_same hm (show WideAt.IsKeyLit (.string t.data.toList) from trivial), eq_comm, hasKey_iff]
    simp
  · rw [has_put_other (by
      intro he
      injection he with he
      exact e (by cases t; cases s; simp_all [Array.toList_inj])), h]
    simp [hasKey, Ne.symm e]

section
variable {ops : Array Oper} {rest : List Oper} {o : Oper} {a : Act} {Q : Exit → Act → World → Prop}
theorem wpList_look_keys (w : World) (hg : o.guard = none) (m x : Operand) (t : TypeId) (hop : o.op = Op.lookup t m x true) (ht : Tryd.prog.underlying t = some (.map 9 3))
    (b : Nat) (had : List ByteArray) (hm : a.eval m = .map (some b)) (hk : Keys w b had) (s : ByteArray) (hx : a.eval x = .string s) (hs : s.size ≤ maxLen)
    (hK : ∀ c : Int, wpList Tryd.prog ops Q rest (a.put o.dst (.tuple #[.int .i64 c, .bool (hasKey had s)])) w) : wpList Tryd.prog ops Q (o :: rest) a w := by
  obtain ⟨D, h1, h2⟩ := hk
  refine wpList_lookup_own_ok_int w hg m x t hop 9 3 .i64 keyLaw ht Tryd.underlying3 (zeroInt w) b _ D hm h1 (.string s) (.string s.data.toList) hx (keyOf_string_mk Tryd.underlying9 hs) ?_
  intro c _ _
  rw [h2]
  exact hK c
theorem wpList_look_nil (w : World) (hg : o.guard = none) (m x : Operand) (t : TypeId) (hop : o.op = Op.lookup t m x true) (ht : Tryd.prog.underlying t = some (.map 9 3))
    (hm : a.eval m = .map none) (s : ByteArray) (hx : a.eval x = .string s) (hs : s.size ≤ maxLen)
    (hK : wpList Tryd.prog ops Q rest (a.put o.dst (.tuple #[.int .i64 0, .bool false])) w) : wpList Tryd.prog ops Q (o :: rest) a w := by
  refine wpList_plain hg fun K' hK' => ?_
  have hrun := Maps.look_nil (w := w) true keyLaw ht (zeroInt w) (keyOf_string_mk Tryd.underlying9 hs)
  unfold Oper.wp
  simp [execOp, hop, hm, hx, hrun, Result.andThen]
  exact hK' _ _ hK
theorem wpList_put_keys (w : World) (hg : o.guard = none) (m x v : Operand) (t : TypeId) (hop : o.op = Op.mapUpdate t m x v) (ht : Tryd.prog.underlying t = some (.map 9 3))
    (b : Nat) (had : List ByteArray) (hm : a.eval m = .map (some b)) (hk : Keys w b had) (hn : had.length < maxLen) (s : ByteArray) (hx : a.eval x = .string s) (hs : s.size ≤ maxLen) (n : Int) (hv : a.eval v = .int .i64 n) (hw : (Lit.int .i64 n).wf = true)
    (hK : ∀ w', Keys w' b (had ++ [s]) → w.grownBy w' (some b) → wpList Tryd.prog ops Q rest (a.put o.dst undef) w') : wpList Tryd.prog ops Q (o :: rest) a w := by
  obtain ⟨D, h1, h2⟩ := hk
  refine wpList_mapUpdate_own w hg m x v t hop 9 3 keyLaw ht (plainElem Tryd.prog 3) b _ D hm h1 hn (.string s) (.int .i64 n) (.string s.data.toList) hx hv (keyOf_string_mk Tryd.underlying9 hs) _ [] (plainElem_int Tryd.underlying3 hw) ?_
  intro w' h3 hg'
  exact hK w' ⟨_, by rw [List.length_append]; exact h3, keys_put h1.isMap h2⟩ hg'
end
end Go.Proofs.YtkefhhnbkhijgaaDoor
