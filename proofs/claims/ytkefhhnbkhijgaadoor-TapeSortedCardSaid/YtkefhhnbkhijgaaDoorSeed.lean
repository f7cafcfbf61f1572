/- The statements' own inputs: a seed in its box: next, word. -/
import Derived.Test.YtkefhhnbkhijgaaDoorExam
import Derived.Test.YtkefhhnbkhijgaaDoorAgainL
import Derived.Test.YtkefhhnbkhijgaaDoorSortB
namespace Go.Proofs.YtkefhhnbkhijgaaDoor
open Go.RowKit

def numVals (l : List Int) : List Value := l.map fun n => .int .i64 n
/-- a slice value that is these numbers -/
abbrev NumsIs (w : World) (v : Value) (l : List Int) : Prop := Sl w v l.length (numVals l)
/-- a seed in its box: the numbers that are left -/
structure SeedIs (sb : Nat) (w : World) (N : List Int) : Prop where
  box : ∃ A c, w.cell? ⟨sb, 0, none⟩ = some (.slice A N.length c) ∧ N.length ≤ c ∧ c ≤ maxLen ∧ (N ≠ [] → ∃ b off, A = some ⟨b, off, none⟩ ∧ b < sb ∧ ∀ j u, N[j]? = some u → w.cell? ⟨b, off + j, none⟩ = some (.int .i64 u))
  free : w.frozen? ⟨sb, 0, none⟩ = false
theorem SeedIs.old {sb : Nat} {w w' : World} {N : List Int} (h : SeedIs sb w N) (k : Old w w') : SeedIs sb w' N := by
  obtain ⟨⟨A, c, h1, h2, h3, h4⟩, h5⟩ := h
  refine ⟨⟨A, c, k.cell h1, h2, h3, fun hne => ?_⟩, k.frozen h1 h5⟩
  obtain ⟨b, off, rfl, hb, hc⟩ := h4 hne
  exact ⟨b, off, rfl, hb, fun j u hu => k.cell (hc j u hu)⟩
theorem SeedIs.below {sb B : Nat} {w w' : World} {N : List Int} (h : SeedIs sb w N) (k : RowKit.Below B w w') (hs : sb < B) : SeedIs sb w' N := by
  obtain ⟨⟨A, c, h1, h2, h3, h4⟩, h5⟩ := h
  refine ⟨⟨A, c, (k.cell hs).trans h1, h2, h3, fun hne => ?_⟩, (k.frozen hs).trans h5⟩
  obtain ⟨b, off, rfl, hb, hc⟩ := h4 hne
  exact ⟨b, off, rfl, hb, fun j u hu => (k.cell (show b < B by omega)).trans (hc j u hu)⟩
theorem Two.then_below {sb : Nat} {a b c : World} (h : Two sb sb a b) (k : RowKit.Below a.heap.size b c) : Two sb sb a c :=
  ⟨k.os.trans h.os, k.tape.trans h.tape, k.output.trans h.output, Nat.le_trans h.size k.size, fun i h1 h2 h3 => (k.block i h1).trans (h.block i h1 h2 h3)⟩
theorem Two.one_size {sb : Nat} {w w' : World} (h : Two sb sb w w') : w.heap.size ≤ w'.heap.size := h.size
theorem SlT.two {T lo n : Nat} {sb : Nat} {w w' : World} {v : Value} {xs : List Value} (h : SlT T lo w v n xs) (k : Two sb sb w w') (hs : sb < lo) : SlT T lo w' v n xs := by
  obtain ⟨A, cap, rfl, h1, h2, h3⟩ := h
  refine ⟨A, cap, rfl, h1, h2, fun hx => ?_⟩
  obtain ⟨b, off, cs, rfl, hl, hh, hc⟩ := h3 hx
  refine ⟨b, off, cs, rfl, hl, ?_, hc⟩
  rw [k.block b (block_lt hh) (by omega) (by omega)]
  exact hh
theorem own_two {base T size n : Nat} {sb : Nat} {w w' : World} {v : Value} {xs : List Value} (h : w.ownsRow base T size v n xs) (k : Two sb sb w w') (hs : sb < base) : w'.ownsRow base T size v n xs := by
  obtain ⟨hl, h2⟩ := h
  refine ⟨hl, ?_⟩
  rcases h2 with h2 | ⟨g, cap, cur, rfl, hb, hh, r⟩
  · exact .inl h2
  · refine .inr ⟨g, cap, cur, rfl, hb, ?_, r⟩
    rw [k.block g (block_lt hh) (by omega) (by omega)]
    exact hh
theorem PartsOwn.two {base sb : Nat} {w w' : World} {v : Value} {ps : List (List Nd)} (h : PartsOwn base w v ps) (k : Two sb sb w w') (hs : sb < base) : PartsOwn base w' v ps := by
  obtain ⟨vs, h1, h2, h3⟩ := h
  exact ⟨vs, h1, own_two h2 k hs, fun i hi hi' => (h3 i hi hi').two k hs⟩

set_option maxRecDepth 100000 in
theorem bring_run (i n : Int) (w : World) (hn : 0 < n) (hn' : n ≤ 1048576) :
    Calls Tryd.prog 34 #[.int .i64 i, .int .i64 n] w fun e w' => (∃ k : Nat, (k : Int) < n ∧ e = .returned (.int .i64 k)) ∧ w = w' := by
  have h1 := Int.tmod_lt_of_pos i hn
  have h2 := Int.neg_tmod i n
  have h3 : -n < i.tmod n := by
    have := Int.tmod_lt_of_pos (-i) hn
    rw [h2] at this
    omega
  clear h2
  go_enter Tryd.func34, Tryd.ntmps34
  go_wp2_with fail
  · go_ret
    exact ⟨⟨(i.tmod n + n).toNat, by omega, ret_int (by omega)⟩, rfl⟩
  · go_ret
    exact ⟨⟨(i.tmod n).toNat, by omega, ret_int (by omega)⟩, rfl⟩
/-- what next hands back -/
def NextT (n : Int) (sb : Nat) (w : World) (N : List Int) (e : Ending) (w' : World) : Prop := ∃ k : Nat, (k : Int) < n ∧ e = .returned (.int .i64 k) ∧ SeedIs sb w' N.tail ∧ Two sb sb w w'
theorem next_nil {n : Int} {sb : Nat} {w : World} (h : SeedIs sb w []) (hn : 0 < n) : NextT n sb w [] (.returned (.int .i64 0)) w := ⟨0, by omega, rfl, h, Two.refl _ _ _⟩
theorem next_cons {n : Int} {sb : Nat} {w : World} {x : Int} {xs : List Int} {k : Nat} {A : Option Addr} {c : Nat} {A0 : Value} (h0 : w.cell? ⟨sb, 0, none⟩ = some A0) (hf : w.frozen? ⟨sb, 0, none⟩ = false) (hk : (k : Int) < n) (hc : xs.length ≤ c) (hm : c ≤ maxLen)
    (ha : xs ≠ [] → ∃ b off, A = some ⟨b, off, none⟩ ∧ b < sb ∧ ∀ j u, xs[j]? = some u → w.cell? ⟨b, off + j, none⟩ = some (.int .i64 u)) : NextT n sb w (x :: xs) (.returned (.int .i64 k)) (w.setCell ⟨sb, 0, none⟩ (.slice A xs.length c)) := by
  refine ⟨k, hk, rfl, ⟨⟨A, c, World.cell?_setCell_same _ _ _ h0, hc, hm, fun hne => ?_⟩, by rw [World.frozen?_setCell]; exact hf⟩, (Two.refl sb sb w).setBox 0 _⟩
  obtain ⟨b, off, rfl, hb, hu⟩ := ha hne
  refine ⟨b, off, rfl, hb, fun j u hj => ?_⟩
  refine ((Two.refl sb sb w).setBox 0 _).cell (hu j u hj) (by show b ≠ sb; omega) (by show b ≠ sb; omega)

set_option maxRecDepth 100000 in
set_option maxHeartbeats 1000000 in
theorem next_run (n : Int) (sb : Nat) (N : List Int) (w : World) (h : SeedIs sb w N) (hn : 0 < n) (hn' : n ≤ 1000) :
    Calls Tryd.prog 67 #[.pointer (some ⟨sb, 0, none⟩), .int .i64 n] w (NextT n sb w N) := by
  have H := hide h
  obtain ⟨⟨A, c, h1, h2, h3, h4⟩, h5⟩ := h
  unfold maxLen at h3
  cases N with
  | nil =>
    simp only [List.length_nil] at h1
    clear h4
    go_enter Tryd.func67, Tryd.ntmps67
    go_wp2_with fail
    go_ret
    exact next_nil H.out hn
  | cons x xs =>
    obtain ⟨b, off, rfl, hb, hu⟩ := h4 (by simp)
    have x0 := hu 0 x rfl
    have HU := hide hu
    obtain ⟨m, hm⟩ : ∃ m, Hid (xs.length = m) := ⟨_, hide rfl⟩
    have HB := hide hb
    simp only [List.length_cons, hm.out] at h1 h2
    rw [Nat.add_zero] at x0
    have CB := hide (bring_run x n w hn (by omega))
    clear hu h4 hb
    by_cases hc : c = 1
    · subst hc
      obtain rfl : m = 0 := by omega
      have hx : xs = [] := List.eq_nil_of_length_eq_zero hm.out
      have FIN := hide (fun (k : Nat) (hk : (k : Int) < n) (A : Option Addr) (c : Nat) (hc : c ≤ maxLen) => next_cons (n := n) (sb := sb) (w := w) (x := x) (xs := xs) (k := k) (A := A) (c := c) h1 h5 hk (by rw [hx]; exact Nat.zero_le _) hc (fun h => absurd hx h))
      rw [hm.out] at FIN
      clear hx
      go_enter Tryd.func67, Tryd.ntmps67
      go_wp2_with fail
      refine CB.out.mono ?_
      rintro e w' ⟨⟨k, hk, rfl⟩, rfl⟩
      go_wp2_with fail
      go_ret
      exact FIN.out k hk _ _ (by unfold maxLen; omega)
    · have FIN := hide (fun (k : Nat) (hk : (k : Int) < n) => next_cons (n := n) (sb := sb) (w := w) (x := x) (xs := xs) (k := k) (A := some ⟨b, off + 1, none⟩) (c := c - 1) h1 h5 hk (by rw [hm.out]; omega) (by unfold maxLen; omega) (fun _ => ⟨b, off + 1, rfl, HB.out, fun j u hj => by
        have := HU.out (j + 1) u (by simpa using hj)
        rwa [show off + 1 + j = off + (j + 1) by omega]⟩))
      rw [hm.out] at FIN
      have hc1 : ¬ (c : Int) = 1 := by omega
      go_enter Tryd.func67, Tryd.ntmps67
      go_wp2_with fail
      refine CB.out.mono ?_
      rintro e w' ⟨⟨k, hk, rfl⟩, rfl⟩
      go_wp2_with fail
      go_ret
      exact FIN.out k hk
end Go.Proofs.YtkefhhnbkhijgaaDoor
