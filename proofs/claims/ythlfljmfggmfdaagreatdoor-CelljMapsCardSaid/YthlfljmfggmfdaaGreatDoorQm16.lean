/- What a literal is made of, rune by rune: plain laws. -/
import Derived.Test.YthlfljmfggmfdaaGreatDoorQm10
import Derived.Test.YthlfljmfggmfdaaGreatDoorQm08
import Derived.Lib.RuneBytes
import Derived.Lib.ValidLaws
import Derived.Maps.OwnSet
import Derived.Maps.RangeWalk
/-! ### What a literal is made of, rune by rune: plain laws. -/
namespace Go.Proofs.YthlfljmfggmfdaaGreatDoor
open Go.RowKit

/-- what is said of the first rune of some bytes -/
structure RuneAt (l : List UInt8) (r n : Nat) : Prop where
  pos : 1 ≤ n
  le : n ≤ l.length
  enc : Lib.encodeRune (r : Int) = l.take n
  high : 128 ≤ r → ∀ b ∈ l.take n, 128 ≤ b.toNat
  low : r < 128 → n = 1
  most : r ≤ 1114111
theorem enc_one {a : UInt8} {r : List UInt8} (h : a.toNat < 128) : RuneAt (a :: r) a.toNat 1 := by
  refine ⟨Nat.le_refl _, by simp, ?_, fun h' => by omega, fun _ => rfl, by omega⟩
  unfold Lib.encodeRune
  rw [Lib.encodeRuneZ_one (by omega) (by omega)]
  simp
theorem u8_eq {x : Int} {a : UInt8} (h : x = a.toNat) : x.toNat.toUInt8 = a := by
  subst h
  simp
theorem enc_two {a b : UInt8} {r : List UInt8} (h1 : a.toNat / 32 = 6) (h2 : b.toNat / 64 = 2) (h3 : 128 ≤ a.toNat % 32 * 64 + b.toNat % 64) : RuneAt (a :: b :: r) (a.toNat % 32 * 64 + b.toNat % 64) 2 := by
  refine ⟨by omega, by simp, ?_, fun _ x hx => ?_, fun h => by omega, by omega⟩
  · unfold Lib.encodeRune
    rw [Lib.encodeRuneZ_two (by omega) (by omega)]
    simp only [List.map_cons, List.map_nil, List.take_succ_cons, List.take_zero]
    rw [u8_eq (a := a) (by omega), u8_eq (a := b) (by omega)]
  · simp at hx
    rcases hx with rfl | rfl <;> omega
theorem enc_three {a b c : UInt8} {r : List UInt8} (h1 : a.toNat / 16 = 14) (h2 : b.toNat / 64 = 2) (h3 : c.toNat / 64 = 2) (h4 : 2048 ≤ a.toNat % 16 * 4096 + b.toNat % 64 * 64 + c.toNat % 64)
    (h5 : Utf8.valid ((a.toNat % 16 * 4096 + b.toNat % 64 * 64 + c.toNat % 64 : Nat) : Int) = true) : RuneAt (a :: b :: c :: r) (a.toNat % 16 * 4096 + b.toNat % 64 * 64 + c.toNat % 64) 3 := by
  have hv : (a.toNat % 16 * 4096 + b.toNat % 64 * 64 + c.toNat % 64) < 55296 ∨ 57343 < (a.toNat % 16 * 4096 + b.toNat % 64 * 64 + c.toNat % 64) := by
    rw [valid_scalar] at h5
    simp at h5
    omega
  have ha := a.toNat_lt
  refine ⟨by omega, by simp, ?_, fun _ x hx => ?_, fun h => by omega, by omega⟩
  · unfold Lib.encodeRune
    rw [Lib.encodeRuneZ_three (by omega)]
    simp only [List.map_cons, List.map_nil, List.take_succ_cons, List.take_zero]
    rw [u8_eq (a := a) (by omega), u8_eq (a := b) (by omega), u8_eq (a := c) (by omega)]
  · simp at hx
    rcases hx with rfl | rfl | rfl <;> omega
theorem enc_four {a b c d : UInt8} {r : List UInt8} (h1 : a.toNat / 8 = 30) (h2 : b.toNat / 64 = 2) (h3 : c.toNat / 64 = 2) (h6 : d.toNat / 64 = 2) (h4 : 65536 ≤ a.toNat % 8 * 262144 + b.toNat % 64 * 4096 + c.toNat % 64 * 64 + d.toNat % 64)
    (h5 : Utf8.valid ((a.toNat % 8 * 262144 + b.toNat % 64 * 4096 + c.toNat % 64 * 64 + d.toNat % 64 : Nat) : Int) = true) : RuneAt (a :: b :: c :: d :: r) (a.toNat % 8 * 262144 + b.toNat % 64 * 4096 + c.toNat % 64 * 64 + d.toNat % 64) 4 := by
  have hv : (a.toNat % 8 * 262144 + b.toNat % 64 * 4096 + c.toNat % 64 * 64 + d.toNat % 64) ≤ 1114111 := by
    rw [valid_scalar] at h5
    simp at h5
    omega
  have ha := a.toNat_lt
  refine ⟨by omega, by simp, ?_, fun _ x hx => ?_, fun h => by omega, hv⟩
  · unfold Lib.encodeRune
    rw [Lib.encodeRuneZ_four (by omega) (by omega)]
    simp only [List.map_cons, List.map_nil, List.take_succ_cons, List.take_zero]
    rw [u8_eq (a := a) (by omega), u8_eq (a := b) (by omega), u8_eq (a := c) (by omega), u8_eq (a := d) (by omega)]
  · simp at hx
    rcases hx with rfl | rfl | rfl | rfl <;> omega
theorem rune_at (l : List UInt8) (h : l ≠ []) (hb : ¬ ((Lib.decodeL l).1 = 65533 ∧ (Lib.decodeL l).2 = 1)) : RuneAt l (Lib.decodeL l).1 (Lib.decodeL l).2 := by
  have bad : ∀ P : Prop, ¬ ((65533 : Nat) = 65533 ∧ (1 : Nat) = 1) → P := fun P h => absurd ⟨rfl, rfl⟩ h
  have e : Lib.decodeL l = Utf8.decode (txt l) 0 := rfl
  rw [e] at hb ⊢
  match l, h with
  | [a], _ =>
    simp only [Utf8.decode, Utf8.runeError, txt_size, Nat.zero_add, show (txt [a]).get! 0 = a from rfl, List.length_cons, List.length_nil] at hb ⊢
    split at hb
    · rename_i h1
      rw [if_pos h1]
      exact enc_one h1
    · simp at hb
  | [a, b], _ =>
    simp only [Utf8.decode, Utf8.runeError, txt_size, Nat.zero_add, show (txt [a, b]).get! 0 = a from rfl, show (txt [a, b]).get! 1 = b from rfl, List.length_cons, List.length_nil] at hb ⊢
    split at hb
    · rename_i h1
      rw [if_pos h1]
      exact enc_one h1
    · rename_i h1
      rw [if_neg h1]
      split at hb
      · rename_i h2
        rw [if_pos h2]
        simp at h2
        split at hb
        · rename_i h3
          rw [if_pos h3]
          exact enc_two h2.1 h2.2 h3
        · exact bad _ hb
      · simp at hb
  | [a, b, c], _ =>
    simp only [Utf8.decode, Utf8.runeError, txt_size, Nat.zero_add, show (txt [a, b, c]).get! 0 = a from rfl, show (txt [a, b, c]).get! 1 = b from rfl, show (txt [a, b, c]).get! 2 = c from rfl, List.length_cons, List.length_nil] at hb ⊢
    split at hb
    · rename_i h1
      rw [if_pos h1]
      exact enc_one h1
    · rename_i h1
      rw [if_neg h1]
      split at hb
      · rename_i h2
        rw [if_pos h2]
        simp at h2
        split at hb
        · rename_i h3
          rw [if_pos h3]
          exact enc_two h2.1 h2.2 h3
        · exact bad _ hb
      · rename_i h2
        rw [if_neg h2]
        split at hb
        · rename_i h3
          rw [if_pos h3]
          simp at h3
          split at hb
          · rename_i h4
            rw [if_pos h4]
            rw [Bool.and_eq_true, decide_eq_true_eq] at h4
            exact enc_three h3.1.1 h3.1.2 h3.2 h4.1 h4.2
          · exact bad _ hb
        · simp at hb
  | a :: b :: c :: d :: r, _ =>
    simp only [Utf8.decode, Utf8.runeError, txt_size, Nat.zero_add, show (txt (a :: b :: c :: d :: r)).get! 0 = a from rfl, show (txt (a :: b :: c :: d :: r)).get! 1 = b from rfl, show (txt (a :: b :: c :: d :: r)).get! 2 = c from rfl, show (txt (a :: b :: c :: d :: r)).get! 3 = d from rfl, List.length_cons] at hb ⊢
    split at hb
    · rename_i h1
      rw [if_pos h1]
      exact enc_one h1
    · rename_i h1
      rw [if_neg h1]
      split at hb
      · rename_i h2
        rw [if_pos h2]
        simp at h2
        split at hb
        · rename_i h3
          rw [if_pos h3]
          exact enc_two h2.1 h2.2 h3
        · exact bad _ hb
      · rename_i h2
        rw [if_neg h2]
        split at hb
        · rename_i h3
          rw [if_pos h3]
          simp at h3
          split at hb
          · rename_i h4
            rw [if_pos h4]
            rw [Bool.and_eq_true, decide_eq_true_eq] at h4
            exact enc_three h3.1.1 h3.1.2 h3.2 h4.1 h4.2
          · exact bad _ hb
        · rename_i h3
          rw [if_neg h3]
          split at hb
          · rename_i h5
            rw [if_pos h5]
            simp at h5
            split at hb
            · rename_i h4
              rw [if_pos h4]
              rw [Bool.and_eq_true, decide_eq_true_eq] at h4
              exact enc_four h5.1.1.1 h5.1.1.2 h5.1.2 h5.2 h4.1 h4.2
            · exact bad _ hb
          · exact bad _ hb
/-- a valid text at a rune's place -/
theorem valid_step {l : List UInt8} (h : Lib.validD l = true) (hne : l ≠ []) : RuneAt l (Lib.decodeL l).1 (Lib.decodeL l).2 ∧ Lib.validD (l.drop (Lib.decodeL l).2) = true := by
  rw [Lib.validD_step l hne] at h
  split at h
  · cases h
  · rename_i hb
    exact ⟨rune_at l hne hb, h⟩
/-- what a rune is in a literal -/
def twoOf (r : Nat) : Option Nat := if r = 34 then some 34 else if r = 92 then some 92 else if r = 8 then some 98 else if r = 12 then some 102 else if r = 10 then some 110 else if r = 13 then some 114 else if r = 9 then some 116 else none
theorem esc_rune {l : List UInt8} {r n : Nat} (h : RuneAt l r n) : escL (l.take n) = match twoOf r with
  | some c => [92, UInt8.ofNat c]
  | none => if r < 32 then [92, 117, 48, 48, hexB (r / 16), hexB (r % 16)] else Lib.encodeRune (r : Int) := by
  rcases Nat.lt_or_ge r 128 with h1 | h1
  · have hn := h.low h1
    subst hn
    have he := h.enc
    unfold Lib.encodeRune at he
    rw [Lib.encodeRuneZ_one (by omega) (by omega)] at he
    rw [h.enc.symm]
    unfold Lib.encodeRune
    rw [Lib.encodeRuneZ_one (by omega) (by omega)]
    simp only [List.map_cons, List.map_nil, Int.toNat_natCast]
    rw [escL_one]
    have ht : r.toUInt8.toNat = r := by simp; omega
    have hx : ∀ c : Nat, c < 128 → (r.toUInt8 = UInt8.ofNat c ↔ r = c) := by
      intro c hc
      constructor
      · intro e
        have := congrArg UInt8.toNat e
        rw [ht] at this
        simp at this
        omega
      · rintro rfl
        rfl
    have x34 : r.toUInt8 = 34 ↔ r = 34 := hx 34 (by omega)
    have x92 : r.toUInt8 = 92 ↔ r = 92 := hx 92 (by omega)
    have x8 : r.toUInt8 = 8 ↔ r = 8 := hx 8 (by omega)
    have x12 : r.toUInt8 = 12 ↔ r = 12 := hx 12 (by omega)
    have x10 : r.toUInt8 = 10 ↔ r = 10 := hx 10 (by omega)
    have x13 : r.toUInt8 = 13 ↔ r = 13 := hx 13 (by omega)
    have x9 : r.toUInt8 = 9 ↔ r = 9 := hx 9 (by omega)
    unfold esc1 twoOf
    simp only [x34, x92, x8, x12, x10, x13, x9, ht]
    by_cases c34 : r = 34
    · subst c34; rfl
    by_cases c92 : r = 92
    · subst c92; rfl
    by_cases c8 : r = 8
    · subst c8; rfl
    by_cases c12 : r = 12
    · subst c12; rfl
    by_cases c10 : r = 10
    · subst c10; rfl
    by_cases c13 : r = 13
    · subst c13; rfl
    by_cases c9 : r = 9
    · subst c9; rfl
    simp only [c34, c92, c8, c12, c10, c13, c9, or_self, if_false]
  · rw [escL_high (h.high h1), ← h.enc]
    have : twoOf r = none := by
      unfold twoOf
      repeat' split
      all_goals first | rfl | omega
    rw [this]
    simp only
    rw [if_neg (by omega)]
end Go.Proofs.YthlfljmfggmfdaaGreatDoor

/-! ### utf.short: the map of the runes with an escape of two bytes. -/
namespace Go.Proofs.YthlfljmfggmfdaaGreatDoor
open Go.RowKit

/-- the runes with an escape of two bytes -/
def dTwo : DataW Unit := .map [(.int .i32 8, .lit (.int .u8 98)), (.int .i32 9, .lit (.int .u8 116)), (.int .i32 10, .lit (.int .u8 110)), (.int .i32 12, .lit (.int .u8 102)), (.int .i32 13, .lit (.int .u8 114)), (.int .i32 34, .lit (.int .u8 34)), (.int .i32 92, .lit (.int .u8 92))]
theorem dTwo_has (r : Nat) : Maps.has dTwo (.int .i32 r) = (twoOf r).isSome := by
  unfold dTwo twoOf
  simp only [Maps.has, List.any_cons, List.any_nil, Lit.sameKey]
  repeat' split
  all_goals first | (subst_vars; rfl) | skip
  simp
  omega
theorem dTwo_at (r c : Nat) (h : twoOf r = some c) : dTwo.atKey (.int .i32 r) (.lit (.int .u8 0)) = .lit (.int .u8 c) := by
  unfold twoOf at h
  repeat' split at h
  all_goals first | (injection h with h; subst_vars; rfl) | cases h
abbrev MapTwo (b : Nat) (w : World) : Prop := w.ownsMap (H := Unit) Tryz.prog 21 (plainElem Tryz.prog 5) b 7 dTwo
theorem MapTwo.same {b : Nat} {w w' : World} (h : MapTwo b w) (e : ∀ o, w.heap[b]? = some o → w'.heap[b]? = some o) : MapTwo b w' := by
  obtain ⟨es, clock, hb, F, hs, hD⟩ := h
  exact ⟨es, clock, e _ hb, F, hs, hD⟩
set_option maxRecDepth 100000 in
set_option maxHeartbeats 1000000 in
theorem short_run (w : World) : Calls Tryz.prog 174 #[] w fun e w' => ∃ b, e = .returned (.map (some b)) ∧ w.heap.size ≤ b ∧ b < w'.heap.size ∧ MapTwo b w' ∧ Old w w' := by
  have hmm := @run_makeMap Tryz.prog
  have K := Maps.int_keyed Tryz.underlying21
  have O0 : Old w (w.alloc (.map #[] 0)) := Old.alloc (Old.refl _) _
  have own0 := World.ownsMap_made (H := Unit) w Tryz.prog 21 (plainElem Tryz.prog 5)
  obtain ⟨w1, r1, own1, g1⟩ := own0.update K Tryz.underlying214 (by unfold maxLen; omega) (key := .int .i32 34) (Maps.keyOf_int_mk Tryz.underlying21 (a := 34) (by decide)) (val := .int .u8 34) (plainElem_int Tryz.underlying5 (a := 34) (by decide))
  obtain ⟨w2, r2, own2, g2⟩ := own1.update K Tryz.underlying214 (by unfold maxLen; omega) (key := .int .i32 92) (Maps.keyOf_int_mk Tryz.underlying21 (a := 92) (by decide)) (val := .int .u8 92) (plainElem_int Tryz.underlying5 (a := 92) (by decide))
  obtain ⟨w3, r3, own3, g3⟩ := own2.update K Tryz.underlying214 (by unfold maxLen; omega) (key := .int .i32 8) (Maps.keyOf_int_mk Tryz.underlying21 (a := 8) (by decide)) (val := .int .u8 98) (plainElem_int Tryz.underlying5 (a := 98) (by decide))
  obtain ⟨w4, r4, own4, g4⟩ := own3.update K Tryz.underlying214 (by unfold maxLen; omega) (key := .int .i32 12) (Maps.keyOf_int_mk Tryz.underlying21 (a := 12) (by decide)) (val := .int .u8 102) (plainElem_int Tryz.underlying5 (a := 102) (by decide))
  obtain ⟨w5, r5, own5, g5⟩ := own4.update K Tryz.underlying214 (by unfold maxLen; omega) (key := .int .i32 10) (Maps.keyOf_int_mk Tryz.underlying21 (a := 10) (by decide)) (val := .int .u8 110) (plainElem_int Tryz.underlying5 (a := 110) (by decide))
  obtain ⟨w6, r6, own6, g6⟩ := own5.update K Tryz.underlying214 (by unfold maxLen; omega) (key := .int .i32 13) (Maps.keyOf_int_mk Tryz.underlying21 (a := 13) (by decide)) (val := .int .u8 114) (plainElem_int Tryz.underlying5 (a := 114) (by decide))
  obtain ⟨w7, r7, own7, g7⟩ := own6.update K Tryz.underlying214 (by unfold maxLen; omega) (key := .int .i32 9) (Maps.keyOf_int_mk Tryz.underlying21 (a := 9) (by decide)) (val := .int .u8 116) (plainElem_int Tryz.underlying5 (a := 116) (by decide))
  have st : ∀ {a b : World}, Old w a → a.grownBy b (some w.heap.size) → Old w b := fun ho hg => Below.grown ho hg ho.size fun k hk => by cases hk; exact Nat.le_refl _
  have O7 := hide (st (st (st (st (st (st (st O0 g1) g2) g3) g4) g5) g6) g7)
  have M7 := hide (show MapTwo w.heap.size w7 from own7)
  have L7 := hide (show w.heap.size < w7.heap.size from by obtain ⟨es, cl, hb, _⟩ := own7; exact (Array.getElem?_eq_some_iff.1 hb).1)
  clear own0 own1 own2 own3 own4 own5 own6 own7 g1 g2 g3 g4 g5 g6 g7 O0 st K
  go_enter Tryz.func174, Tryz.ntmps174
  go_wp2_with fail
  go_ret
  exact ⟨_, rfl, Nat.le_refl _, L7.out, M7.out, O7.out⟩
/-- what stands in the map -/
theorem dTwo_pair {x c : Int} (h : ∀ zd, dTwo.atKey (.int .i32 x) zd = .lit (.int .u8 c)) : (x = 8 ∧ c = 98) ∨ (x = 9 ∧ c = 116) ∨ (x = 10 ∧ c = 110) ∨ (x = 12 ∧ c = 102) ∨ (x = 13 ∧ c = 114) ∨ (x = 34 ∧ c = 34) ∨ (x = 92 ∧ c = 92) := by
  have key : ∀ es : List (Lit × DataW Unit), (DataW.map es).atKey (.int .i32 x) .nil = .lit (.int .u8 c) → ∃ p ∈ es, p.1.sameKey (.int .i32 x) = true ∧ p.2 = .lit (.int .u8 c) := by
    intro es he
    simp only [DataW.atKey] at he
    split at he
    · rename_i p hp
      exact ⟨p, List.mem_of_find?_eq_some hp, by have := List.find?_some hp; simpa using this, he⟩
    · cases he
  obtain ⟨p, hp, h1, h2⟩ := key _ (h .nil)
  simp only [List.mem_cons, List.not_mem_nil, or_false] at hp
  rcases hp with rfl | rfl | rfl | rfl | rfl | rfl | rfl <;> (simp [Lit.sameKey] at h1; injection h2 with h2; injection h2 with _ h2; omega)
end Go.Proofs.YthlfljmfggmfdaaGreatDoor
