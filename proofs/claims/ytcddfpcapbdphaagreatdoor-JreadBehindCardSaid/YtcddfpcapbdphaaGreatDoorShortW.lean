/- utf.short: the map of the runes with an escape of two bytes. -/
import Derived.Test.YtcddfpcapbdphaaGreatDoorQuoteL
import Derived.Maps.OwnSet
import Derived.Maps.RangeWalk
namespace Go.Proofs.YtcddfpcapbdphaaGreatDoor
open Go.RowKit

/-- the runes with an escape of two bytes -/
def dTwo : DataW Unit := .map [(.int .i32 8, .lit (.int .u8 98)), (.int .i32 9, .lit (.int .u8 116)), (.int .i32 10, .lit (.int .u8 110)), (.int .i32 12, .lit (.int .u8 102)), (.int .i32 13, .lit (.int .u8 114)), (.int .i32 34, .lit (.int .u8 34)), (.int .i32 92, .lit (.int .u8 92))]
theorem dTwo_has (r : Nat) : Maps.has dTwo (.int .i32 r) = (twoOf r).isSome := by
  unfold dTwo twoOf
  simp only [Maps.has, List.any_cons, List.any_nil, Lit.sameKey]
  repeat' split
  all_goals first | (subst_vars; rfl) | skip
  simp
  omega
theorem dTwo_at (r c : Nat) (h : twoOf r = some c) : dTwo.atKey (.int .i32 r) (.lit (.int .u8 0)) = .lit (.int .u8 c) := by
  unfold twoOf at h
  repeat' split at h
  all_goals first | (injection h with h; subst_vars; rfl) | cases h
abbrev MapTwo (b : Nat) (w : World) : Prop := w.ownsMap (H := Unit) Tryz.prog 21 (plainElem Tryz.prog 5) b 7 dTwo
theorem MapTwo.same {b : Nat} {w w' : World} (h : MapTwo b w) (e : ∀ o, w.heap[b]? = some o → w'.heap[b]? = some o) : MapTwo b w' := by
  obtain ⟨es, clock, hb, F, hs, hD⟩ := h
  exact ⟨es, clock, e _ hb, F, hs, hD⟩
set_option maxRecDepth 100000 in
set_option maxHeartbeats 1000000 in
theorem short_run (w : World) : Calls Tryz.prog 99 #[] w fun e w' => ∃ b, e = .returned (.map (some b)) ∧ w.heap.size ≤ b ∧ b < w'.heap.size ∧ MapTwo b w' ∧ Old w w' := by
  have hmm := @run_makeMap Tryz.prog
  have K := Maps.int_keyed Tryz.underlying21
  have O0 : Old w (w.alloc (.map #[] 0)) := Old.alloc (Old.refl _) _
  have own0 := World.ownsMap_made (H := Unit) w Tryz.prog 21 (plainElem Tryz.prog 5)
  obtain ⟨w1, r1, own1, g1⟩ := own0.update K Tryz.underlying145 (by unfold maxLen; omega) (key := .int .i32 34) (Maps.keyOf_int_mk Tryz.underlying21 (a := 34) (by decide)) (val := .int .u8 34) (plainElem_int Tryz.underlying5 (a := 34) (by decide))
  obtain ⟨w2, r2, own2, g2⟩ := own1.update K Tryz.underlying145 (by unfold maxLen; omega) (key := .int .i32 92) (Maps.keyOf_int_mk Tryz.underlying21 (a := 92) (by decide)) (val := .int .u8 92) (plainElem_int Tryz.underlying5 (a := 92) (by decide))
  obtain ⟨w3, r3, own3, g3⟩ := own2.update K Tryz.underlying145 (by unfold maxLen; omega) (key := .int .i32 8) (Maps.keyOf_int_mk Tryz.underlying21 (a := 8) (by decide)) (val := .int .u8 98) (plainElem_int Tryz.underlying5 (a := 98) (by decide))
  obtain ⟨w4, r4, own4, g4⟩ := own3.update K Tryz.underlying145 (by unfold maxLen; omega) (key := .int .i32 12) (Maps.keyOf_int_mk Tryz.underlying21 (a := 12) (by decide)) (val := .int .u8 102) (plainElem_int Tryz.underlying5 (a := 102) (by decide))
  obtain ⟨w5, r5, own5, g5⟩ := own4.update K Tryz.underlying145 (by unfold maxLen; omega) (key := .int .i32 10) (Maps.keyOf_int_mk Tryz.underlying21 (a := 10) (by decide)) (val := .int .u8 110) (plainElem_int Tryz.underlying5 (a := 110) (by decide))
  obtain ⟨w6, r6, own6, g6⟩ := own5.update K Tryz.underlying145 (by unfold maxLen; omega) (key := .int .i32 13) (Maps.keyOf_int_mk Tryz.underlying21 (a := 13) (by decide)) (val := .int .u8 114) (plainElem_int Tryz.underlying5 (a := 114) (by decide))
  obtain ⟨w7, r7, own7, g7⟩ := own6.update K Tryz.underlying145 (by unfold maxLen; omega) (key := .int .i32 9) (Maps.keyOf_int_mk Tryz.underlying21 (a := 9) (by decide)) (val := .int .u8 116) (plainElem_int Tryz.underlying5 (a := 116) (by decide))
  have st : ∀ {a b : World}, Old w a → a.grownBy b (some w.heap.size) → Old w b := fun ho hg => Below.grown ho hg ho.size fun k hk => by cases hk; exact Nat.le_refl _
  have O7 := hide (st (st (st (st (st (st (st O0 g1) g2) g3) g4) g5) g6) g7)
  have M7 := hide (show MapTwo w.heap.size w7 from own7)
  have L7 := hide (show w.heap.size < w7.heap.size from by obtain ⟨es, cl, hb, _⟩ := own7; exact (Array.getElem?_eq_some_iff.1 hb).1)
  clear own0 own1 own2 own3 own4 own5 own6 own7 g1 g2 g3 g4 g5 g6 g7 O0 st K
  go_enter Tryz.func99, Tryz.ntmps99
  go_wp2_with fail
  go_ret
  exact ⟨_, rfl, Nat.le_refl _, L7.out, M7.out, O7.out⟩
/-- what stands in the map -/
theorem dTwo_pair {x c : Int} (h : ∀ zd, dTwo.atKey (.int .i32 x) zd = .lit (.int .u8 c)) : (x = 8 ∧ c = 98) ∨ (x = 9 ∧ c = 116) ∨ (x = 10 ∧ c = 110) ∨ (x = 12 ∧ c = 102) ∨ (x = 13 ∧ c = 114) ∨ (x = 34 ∧ c = 34) ∨ (x = 92 ∧ c = 92) := by
  have key : ∀ es : List (Lit × DataW Unit), (DataW.map es).atKey (.int .i32 x) .nil = .lit (.int .u8 c) → ∃ p ∈ es, p.1.sameKey (.int .i32 x) = true ∧ p.2 = .lit (.int .u8 c) := by
    intro es he
    simp only [DataW.atKey] at he
    split at he
    · rename_i p hp
      exact ⟨p, List.mem_of_find?_eq_some hp, by have := List.find?_some hp; simpa using this, he⟩
    · cases he
  obtain ⟨p, hp, h1, h2⟩ := key _ (h .nil)
  simp only [List.mem_cons, List.not_mem_nil, or_false] at hp
  rcases hp with rfl | rfl | rfl | rfl | rfl | rfl | rfl <;> (simp [Lit.sameKey] at h1; injection h2 with h2; injection h2 with _ h2; omega)
end Go.Proofs.YtcddfpcapbdphaaGreatDoor

