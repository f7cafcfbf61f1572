/-  -/
import Derived.Test.YthlfljmfggmfdaaGreatDoorQf07
import Derived.Test.YthlfljmfggmfdaaGreatDoorQf06
import Derived.Lib.RuneBytes
import Derived.Lib.ValidLaws
import Derived.Maps.OwnSet
import Derived.Maps.RangeWalk
import Derived.Test.YthlfljmfggmfdaaGreatDoorQf10
import Derived.Deep.CutBlock
import Derived.Deep.DeepCutAuto
/-! ###  -/
namespace Go.Proofs.YthlfljmfggmfdaaGreatDoor
open Go.RowKit
structure RuneAt (l : List UInt8) (r n : Nat) : Prop where
 pos : 1 ≤ n
 le : n ≤ l.length
 enc : Lib.encodeRune (r : Int) = l.take n
 high : 128 ≤ r → ∀ b ∈ l.take n, 128 ≤ b.toNat
 low : r < 128 → n = 1
 most : r ≤ 1114111
theorem enc_one {a : UInt8} {r : List UInt8} (h : a.toNat < 128) : RuneAt (a :: r) a.toNat 1 := by
 refine ⟨Nat.le_refl _, by simp, ?_, fun h' => by omega, fun _ => rfl, by omega⟩
 unfold Lib.encodeRune
 rw [Lib.encodeRuneZ_one (by omega) (by omega)]
 simp
theorem u8_eq {x : Int} {a : UInt8} (h : x = a.toNat) : x.toNat.toUInt8 = a := by
 subst h
 simp
theorem enc_two {a b : UInt8} {r : List UInt8} (h1 : a.toNat / 32 = 6) (h2 : b.toNat / 64 = 2) (h3 : 128 ≤ a.toNat % 32 * 64 + b.toNat % 64) : RuneAt (a :: b :: r) (a.toNat % 32 * 64 + b.toNat % 64) 2 := by
 refine ⟨by omega, by simp, ?_, fun _ x hx => ?_, fun h => by omega, by omega⟩
 · unfold Lib.encodeRune
   rw [Lib.encodeRuneZ_two (by omega) (by omega)]
   simp only [List.map_cons, List.map_nil, List.take_succ_cons, List.take_zero]
   rw [u8_eq (a := a) (by omega), u8_eq (a := b) (by omega)]
 · simp at hx
   rcases hx with rfl | rfl <;> omega
theorem enc_three {a b c : UInt8} {r : List UInt8} (h1 : a.toNat / 16 = 14) (h2 : b.toNat / 64 = 2) (h3 : c.toNat / 64 = 2) (h4 : 2048 ≤ a.toNat % 16 * 4096 + b.toNat % 64 * 64 + c.toNat % 64)
 (h5 : Utf8.valid ((a.toNat % 16 * 4096 + b.toNat % 64 * 64 + c.toNat % 64 : Nat) : Int) = true) : RuneAt (a :: b :: c :: r) (a.toNat % 16 * 4096 + b.toNat % 64 * 64 + c.toNat % 64) 3 := by
 have hv : (a.toNat % 16 * 4096 + b.toNat % 64 * 64 + c.toNat % 64) < 55296 ∨ 57343 < (a.toNat % 16 * 4096 + b.toNat % 64 * 64 + c.toNat % 64) := by
  rw [valid_scalar] at h5
  simp at h5
  omega
 have ha := a.toNat_lt
 refine ⟨by omega, by simp, ?_, fun _ x hx => ?_, fun h => by omega, by omega⟩
 · unfold Lib.encodeRune
   rw [Lib.encodeRuneZ_three (by omega)]
   simp only [List.map_cons, List.map_nil, List.take_succ_cons, List.take_zero]
   rw [u8_eq (a := a) (by omega), u8_eq (a := b) (by omega), u8_eq (a := c) (by omega)]
 · simp at hx
   rcases hx with rfl | rfl | rfl <;> omega
theorem enc_four {a b c d : UInt8} {r : List UInt8} (h1 : a.toNat / 8 = 30) (h2 : b.toNat / 64 = 2) (h3 : c.toNat / 64 = 2) (h6 : d.toNat / 64 = 2) (h4 : 65536 ≤ a.toNat % 8 * 262144 + b.toNat % 64 * 4096 + c.toNat % 64 * 64 + d.toNat % 64)
 (h5 : Utf8.valid ((a.toNat % 8 * 262144 + b.toNat % 64 * 4096 + c.toNat % 64 * 64 + d.toNat % 64 : Nat) : Int) = true) : RuneAt (a :: b :: c :: d :: r) (a.toNat % 8 * 262144 + b.toNat % 64 * 4096 + c.toNat % 64 * 64 + d.toNat % 64) 4 := by
 have hv : (a.toNat % 8 * 262144 + b.toNat % 64 * 4096 + c.toNat % 64 * 64 + d.toNat % 64) ≤ 1114111 := by
  rw [valid_scalar] at h5
  simp at h5
  omega
 have ha := a.toNat_lt
 refine ⟨by omega, by simp, ?_, fun _ x hx => ?_, fun h => by omega, hv⟩
 · unfold Lib.encodeRune
   rw [Lib.encodeRuneZ_four (by omega) (by omega)]
   simp only [List.map_cons, List.map_nil, List.take_succ_cons, List.take_zero]
   rw [u8_eq (a := a) (by omega), u8_eq (a := b) (by omega), u8_eq (a := c) (by omega), u8_eq (a := d) (by omega)]
 · simp at hx
   rcases hx with rfl | rfl | rfl | rfl <;> omega
theorem rune_at (l : List UInt8) (h : l ≠ []) (hb : ¬ ((Lib.decodeL l).1 = 65533 ∧ (Lib.decodeL l).2 = 1)) : RuneAt l (Lib.decodeL l).1 (Lib.decodeL l).2 := by
 have bad : ∀ P : Prop, ¬ ((65533 : Nat) = 65533 ∧ (1 : Nat) = 1) → P := fun P h => absurd ⟨rfl, rfl⟩ h
 have e : Lib.decodeL l = Utf8.decode (txt l) 0 := rfl
 rw [e] at hb ⊢
 match l, h with
 | [a], _ =>
   simp only [Utf8.decode, Utf8.runeError, txt_size, Nat.zero_add, show (txt [a]).get! 0 = a from rfl, List.length_cons, List.length_nil] at hb ⊢
   split at hb
   · rename_i h1
     rw [if_pos h1]
     exact enc_one h1
   · simp at hb
 | [a, b], _ =>
   simp only [Utf8.decode, Utf8.runeError, txt_size, Nat.zero_add, show (txt [a, b]).get! 0 = a from rfl, show (txt [a, b]).get! 1 = b from rfl, List.length_cons, List.length_nil] at hb ⊢
   split at hb
   · rename_i h1
     rw [if_pos h1]
     exact enc_one h1
   · rename_i h1
     rw [if_neg h1]
     split at hb
     · rename_i h2
       rw [if_pos h2]
       simp at h2
       split at hb
       · rename_i h3
         rw [if_pos h3]
         exact enc_two h2.1 h2.2 h3
       · exact bad _ hb
     · simp at hb
 | [a, b, c], _ =>
   simp only [Utf8.decode, Utf8.runeError, txt_size, Nat.zero_add, show (txt [a, b, c]).get! 0 = a from rfl, show (txt [a, b, c]).get! 1 = b from rfl, show (txt [a, b, c]).get! 2 = c from rfl, List.length_cons, List.length_nil] at hb ⊢
   split at hb
   · rename_i h1
     rw [if_pos h1]
     exact enc_one h1
   · rename_i h1
     rw [if_neg h1]
     split at hb
     · rename_i h2
       rw [if_pos h2]
       simp at h2
       split at hb
       · rename_i h3
         rw [if_pos h3]
         exact enc_two h2.1 h2.2 h3
       · exact bad _ hb
     · rename_i h2
       rw [if_neg h2]
       split at hb
       · rename_i h3
         rw [if_pos h3]
         simp at h3
         split at hb
         · rename_i h4
           rw [if_pos h4]
           rw [Bool.and_eq_true, decide_eq_true_eq] at h4
           exact enc_three h3.1.1 h3.1.2 h3.2 h4.1 h4.2
         · exact bad _ hb
       · simp at hb
 | a :: b :: c :: d :: r, _ =>
   simp only [Utf8.decode, Utf8.runeError, txt_size, Nat.zero_add, show (txt (a :: b :: c :: d :: r)).get! 0 = a from rfl, show (txt (a :: b :: c :: d :: r)).get! 1 = b from rfl, show (txt (a :: b :: c :: d :: r)).get! 2 = c from rfl, show (txt (a :: b :: c :: d :: r)).get! 3 = d from rfl, List.length_cons] at hb ⊢
   split at hb
   · rename_i h1
     rw [if_pos h1]
     exact enc_one h1
   · rename_i h1
     rw [if_neg h1]
     split at hb
     · rename_i h2
       rw [if_pos h2]
       simp at h2
       split at hb
       · rename_i h3
         rw [if_pos h3]
         exact enc_two h2.1 h2.2 h3
       · exact bad _ hb
     · rename_i h2
       rw [if_neg h2]
       split at hb
       · rename_i h3
         rw [if_pos h3]
         simp at h3
         split at hb
         · rename_i h4
           rw [if_pos h4]
           rw [Bool.and_eq_true, decide_eq_true_eq] at h4
           exact enc_three h3.1.1 h3.1.2 h3.2 h4.1 h4.2
         · exact bad _ hb
       · rename_i h3
         rw [if_neg h3]
         split at hb
         · rename_i h5
           rw [if_pos h5]
           simp at h5
           split at hb
           · rename_i h4
             rw [if_pos h4]
             rw [Bool.and_eq_true, decide_eq_true_eq] at h4
             exact enc_four h5.1.1.1 h5.1.1.2 h5.1.2 h5.2 h4.1 h4.2
           · exact bad _ hb
         · exact bad _ hb
theorem valid_step {l : List UInt8} (h : Lib.validD l = true) (hne : l ≠ []) : RuneAt l (Lib.decodeL l).1 (Lib.decodeL l).2 ∧ Lib.validD (l.drop (Lib.decodeL l).2) = true := by
 rw [Lib.validD_step l hne] at h
 split at h
 · cases h
 · rename_i hb
   exact ⟨rune_at l hne hb, h⟩
def twoOf (r : Nat) : Option Nat := if r = 34 then some 34 else if r = 92 then some 92 else if r = 8 then some 98 else if r = 12 then some 102 else if r = 10 then some 110 else if r = 13 then some 114 else if r = 9 then some 116 else none
theorem esc_rune {l : List UInt8} {r n : Nat} (h : RuneAt l r n) : escL (l.take n) = match twoOf r with
 | some c => [92, UInt8.ofNat c]
 | none => if r < 32 then [92, 117, 48, 48, hexB (r / 16), hexB (r % 16)] else Lib.encodeRune (r : Int) := by
 rcases Nat.lt_or_ge r 128 with h1 | h1
 · have hn := h.low h1
   subst hn
   have he := h.enc
   unfold Lib.encodeRune at he
   rw [Lib.encodeRuneZ_one (by omega) (by omega)] at he
   rw [h.enc.symm]
   unfold Lib.encodeRune
   rw [Lib.encodeRuneZ_one (by omega) (by omega)]
   simp only [List.map_cons, List.map_nil, Int.toNat_natCast]
   rw [escL_one]
   have ht : r.toUInt8.toNat = r := by simp; omega
   have hx : ∀ c : Nat, c < 128 → (r.toUInt8 = UInt8.ofNat c ↔ r = c) := by
    intro c hc
    constructor
    · intro e
      have := congrArg UInt8.toNat e
      rw [ht] at this
      simp at this
      omega
    · rintro rfl
      rfl
   have x34 : r.toUInt8 = 34 ↔ r = 34 := hx 34 (by omega)
   have x92 : r.toUInt8 = 92 ↔ r = 92 := hx 92 (by omega)
   have x8 : r.toUInt8 = 8 ↔ r = 8 := hx 8 (by omega)
   have x12 : r.toUInt8 = 12 ↔ r = 12 := hx 12 (by omega)
   have x10 : r.toUInt8 = 10 ↔ r = 10 := hx 10 (by omega)
   have x13 : r.toUInt8 = 13 ↔ r = 13 := hx 13 (by omega)
   have x9 : r.toUInt8 = 9 ↔ r = 9 := hx 9 (by omega)
   unfold esc1 twoOf
   simp only [x34, x92, x8, x12, x10, x13, x9, ht]
   by_cases c34 : r = 34
   · subst c34; rfl
   by_cases c92 : r = 92
   · subst c92; rfl
   by_cases c8 : r = 8
   · subst c8; rfl
   by_cases c12 : r = 12
   · subst c12; rfl
   by_cases c10 : r = 10
   · subst c10; rfl
   by_cases c13 : r = 13
   · subst c13; rfl
   by_cases c9 : r = 9
   · subst c9; rfl
   simp only [c34, c92, c8, c12, c10, c13, c9, or_self, if_false]
 · rw [escL_high (h.high h1), ← h.enc]
   have : twoOf r = none := by
    unfold twoOf
    repeat' split
    all_goals first | rfl | omega
   rw [this]
   simp only
   rw [if_neg (by omega)]
end Go.Proofs.YthlfljmfggmfdaaGreatDoor

/-! ###  -/
namespace Go.Proofs.YthlfljmfggmfdaaGreatDoor
open Go.RowKit
def dTwo : DataW Unit := .map [(.int .i32 8, .lit (.int .u8 98)), (.int .i32 9, .lit (.int .u8 116)), (.int .i32 10, .lit (.int .u8 110)), (.int .i32 12, .lit (.int .u8 102)), (.int .i32 13, .lit (.int .u8 114)), (.int .i32 34, .lit (.int .u8 34)), (.int .i32 92, .lit (.int .u8 92))]
theorem dTwo_has (r : Nat) : Maps.has dTwo (.int .i32 r) = (twoOf r).isSome := by
 unfold dTwo twoOf
 simp only [Maps.has, List.any_cons, List.any_nil, Lit.sameKey]
 repeat' split
 all_goals first | (subst_vars; rfl) | skip
 simp
 omega
theorem dTwo_at (r c : Nat) (h : twoOf r = some c) : dTwo.atKey (.int .i32 r) (.lit (.int .u8 0)) = .lit (.int .u8 c) := by
 unfold twoOf at h
 repeat' split at h
 all_goals first | (injection h with h; subst_vars; rfl) | cases h
abbrev MapTwo (b : Nat) (w : World) : Prop := w.ownsMap (H := Unit) Tryz.prog 21 (plainElem Tryz.prog 5) b 7 dTwo
theorem MapTwo.same {b : Nat} {w w' : World} (h : MapTwo b w) (e : ∀ o, w.heap[b]? = some o → w'.heap[b]? = some o) : MapTwo b w' := by
 obtain ⟨es, clock, hb, F, hs, hD⟩ := h
 exact ⟨es, clock, e _ hb, F, hs, hD⟩
set_option maxRecDepth 100000 in
set_option maxHeartbeats 1000000 in
theorem short_run (w : World) : Calls Tryz.prog 174 #[] w fun e w' => ∃ b, e = .returned (.map (some b)) ∧ w.heap.size ≤ b ∧ b < w'.heap.size ∧ MapTwo b w' ∧ Old w w' := by
 have hmm := @run_makeMap Tryz.prog
 have K := Maps.int_keyed Tryz.underlying21
 have O0 : Old w (w.alloc (.map #[] 0)) := Old.alloc (Old.refl _) _
 have own0 := World.ownsMap_made (H := Unit) w Tryz.prog 21 (plainElem Tryz.prog 5)
 obtain ⟨w1, r1, own1, g1⟩ := own0.update K Tryz.underlying214 (by unfold maxLen; omega) (key := .int .i32 34) (Maps.keyOf_int_mk Tryz.underlying21 (a := 34) (by decide)) (val := .int .u8 34) (plainElem_int Tryz.underlying5 (a := 34) (by decide))
 obtain ⟨w2, r2, own2, g2⟩ := own1.update K Tryz.underlying214 (by unfold maxLen; omega) (key := .int .i32 92) (Maps.keyOf_int_mk Tryz.underlying21 (a := 92) (by decide)) (val := .int .u8 92) (plainElem_int Tryz.underlying5 (a := 92) (by decide))
 obtain ⟨w3, r3, own3, g3⟩ := own2.update K Tryz.underlying214 (by unfold maxLen; omega) (key := .int .i32 8) (Maps.keyOf_int_mk Tryz.underlying21 (a := 8) (by decide)) (val := .int .u8 98) (plainElem_int Tryz.underlying5 (a := 98) (by decide))
 obtain ⟨w4, r4, own4, g4⟩ := own3.update K Tryz.underlying214 (by unfold maxLen; omega) (key := .int .i32 12) (Maps.keyOf_int_mk Tryz.underlying21 (a := 12) (by decide)) (val := .int .u8 102) (plainElem_int Tryz.underlying5 (a := 102) (by decide))
 obtain ⟨w5, r5, own5, g5⟩ := own4.update K Tryz.underlying214 (by unfold maxLen; omega) (key := .int .i32 10) (Maps.keyOf_int_mk Tryz.underlying21 (a := 10) (by decide)) (val := .int .u8 110) (plainElem_int Tryz.underlying5 (a := 110) (by decide))
 obtain ⟨w6, r6, own6, g6⟩ := own5.update K Tryz.underlying214 (by unfold maxLen; omega) (key := .int .i32 13) (Maps.keyOf_int_mk Tryz.underlying21 (a := 13) (by decide)) (val := .int .u8 114) (plainElem_int Tryz.underlying5 (a := 114) (by decide))
 obtain ⟨w7, r7, own7, g7⟩ := own6.update K Tryz.underlying214 (by unfold maxLen; omega) (key := .int .i32 9) (Maps.keyOf_int_mk Tryz.underlying21 (a := 9) (by decide)) (val := .int .u8 116) (plainElem_int Tryz.underlying5 (a := 116) (by decide))
 have st : ∀ {a b : World}, Old w a → a.grownBy b (some w.heap.size) → Old w b := fun ho hg => Below.grown ho hg ho.size fun k hk => by cases hk; exact Nat.le_refl _
 have O7 := hide (st (st (st (st (st (st (st O0 g1) g2) g3) g4) g5) g6) g7)
 have M7 := hide (show MapTwo w.heap.size w7 from own7)
 have L7 := hide (show w.heap.size < w7.heap.size from by obtain ⟨es, cl, hb, _⟩ := own7; exact (Array.getElem?_eq_some_iff.1 hb).1)
 clear own0 own1 own2 own3 own4 own5 own6 own7 g1 g2 g3 g4 g5 g6 g7 O0 st K
 go_enter Tryz.func174, Tryz.ntmps174
 go_wp2_with fail
 go_ret
 exact ⟨_, rfl, Nat.le_refl _, L7.out, M7.out, O7.out⟩
theorem dTwo_pair {x c : Int} (h : ∀ zd, dTwo.atKey (.int .i32 x) zd = .lit (.int .u8 c)) : (x = 8 ∧ c = 98) ∨ (x = 9 ∧ c = 116) ∨ (x = 10 ∧ c = 110) ∨ (x = 12 ∧ c = 102) ∨ (x = 13 ∧ c = 114) ∨ (x = 34 ∧ c = 34) ∨ (x = 92 ∧ c = 92) := by
 have key : ∀ es : List (Lit × DataW Unit), (DataW.map es).atKey (.int .i32 x) .nil = .lit (.int .u8 c) → ∃ p ∈ es, p.1.sameKey (.int .i32 x) = true ∧ p.2 = .lit (.int .u8 c) := by
  intro es he
  simp only [DataW.atKey] at he
  split at he
  · rename_i p hp
    exact ⟨p, List.mem_of_find?_eq_some hp, by have := List.find?_some hp; simpa using this, he⟩
  · cases he
 obtain ⟨p, hp, h1, h2⟩ := key _ (h .nil)
 simp only [List.mem_cons, List.not_mem_nil, or_false] at hp
 rcases hp with rfl | rfl | rfl | rfl | rfl | rfl | rfl <;> (simp [Lit.sameKey] at h1; injection h2 with h2; injection h2 with _ h2; omega)
end Go.Proofs.YthlfljmfggmfdaaGreatDoor

/-! ###  -/
namespace Go.Proofs.YthlfljmfggmfdaaGreatDoor
open Go.RowKit
theorem WBs.old {T : TypeId} {B b : Nat} {l : List UInt8} {w w' : World} (h : WBs T B b l w) (o : Old w w') : WBs T B b l w' := by
 have go : ∀ p, Lib.BuilderAtF T 5 B b p (Lib.byteCells l) w → Lib.BuilderAtF T 5 B b p (Lib.byteCells l) w' := by
  rintro p ⟨hB, v, hb, hown, hne⟩
  refine ⟨hB, v, o.heap hb, ⟨hown.1, ?_⟩, hne⟩
  rcases hown.2 with h | ⟨g, cap, cur, fz, hv, hg, hh, r⟩
  · exact .inl h
  · exact .inr ⟨g, cap, cur, fz, hv, hg, o.heap hh, r⟩
 exact h.imp (go _) (go _)
theorem and15 {r : Nat} (h : r < 32) : bits BinOp.and IntKind.i32 (r : Int) 15 = ((r % 16 : Nat) : Int) := by
 have key : ∀ k : _root_.Fin 32, bits BinOp.and IntKind.i32 ((k.val : Nat) : Int) 15 = ((k.val % 16 : Nat) : Int) := by decide +kernel
 exact key ⟨r, h⟩
theorem hex_at {k : Nat} (h : k < 16) : (⟨#[48, 49, 50, 51, 52, 53, 54, 55, 56, 57, 97, 98, 99, 100, 101, 102]⟩ : ByteArray).extract k (k + 1) = ⟨#[hexB k]⟩ := by
 have key : ∀ k : _root_.Fin 16, (⟨#[48, 49, 50, 51, 52, 53, 54, 55, 56, 57, 97, 98, 99, 100, 101, 102]⟩ : ByteArray).extract k.val (k.val + 1) = ⟨#[hexB k.val]⟩ := by decide +kernel
 exact key ⟨k, h⟩
def restL (s : ByteArray) (pos : Nat) : List UInt8 := s.data.toList.drop pos
def litTo (s : ByteArray) (pos : Nat) : List UInt8 := 34 :: escL (s.data.toList.take pos)
theorem litTo_len (s : ByteArray) (pos : Nat) : (litTo s pos).length ≤ 1 + 6 * s.size := by
 have h := (escL_len (s.data.toList.take pos)).2
 have e : s.data.toList.length = s.size := Array.length_toList
 rw [List.length_take, e] at h
 simp only [litTo, List.length_cons]
 omega
theorem litTo_next (s : ByteArray) (pos n : Nat) : litTo s (pos + n) = litTo s pos ++ escL ((restL s pos).take n) := by
 unfold litTo restL
 rw [List.take_add, escL_append]
 rfl
theorem litTo_all (s : ByteArray) : litTo s s.size ++ [34] = quoteL s := by
 have e : s.data.toList.length = s.size := Array.length_toList
 unfold litTo quoteL
 rw [List.take_of_length_le (by omega)]
 rfl
set_option maxRecDepth 100000 in
set_option maxHeartbeats 4000000 in
theorem quote_ok (s : ByteArray) (w : World) (hs : s.size ≤ 17592186044416) (hv : vU s = true) (hT : Tabs w) :
 Calls Tryz.prog 122 #[.string s] w fun e w' => e = .returned (.tuple #[.string ⟨(quoteL s).toArray⟩, .int .i64 0]) ∧ Old w w' := by
 have CV := utf_Valid s w (by omega) hT
 rw [hv] at CV
 have HV := hide (show Lib.validD (restL s 0) = true from hv)
 clear hT hv
 go_enter Tryz.func122, Tryz.ntmps122
 go_wp2_with fail
 refine CV.mono ?_
 rintro e w1 ⟨rfl, o1⟩
 clear CV
 have O1 := hide o1
 clear o1
 go_wp2_with fail
 refine (wb_WriteByte 91 (.inl rfl) w1.heap.size w1.heap.size [] 34 _ (Lib.IsBuilderF.of (Lib.fresh_isBuilder _ _ w1)) (by simp) (by simp)).mono ?_
 rintro e w2 ⟨rfl, h2, k2⟩
 go_wp2_with fail
 refine (short_run w2).mono ?_
 rintro e w3 ⟨bm, rfl, hb1, hb2, hm3, o3⟩
 obtain ⟨B, hB⟩ : ∃ B, Hid (w1.heap.size = B) := ⟨_, hide rfl⟩
 obtain ⟨it, hit⟩ : ∃ it, Hid (w3.heap.size = it) := ⟨_, hide rfl⟩
 have hB2 : B < w2.heap.size := by
  have := k2.below.size
  rw [← hB.out]
  simp at this
  omega
 have HW := hide (show WBs 91 B B (litTo s 0) (w3.iter s 0) by
  have h3 := WBs.old h2 (Old.alloc o3 (.stringIter s 0))
  rw [hB.out] at h3
  exact h3)
 have HI := hide (show (w3.iter s 0).heap[it]? = some (.stringIter s 0) by rw [← hit.out]; exact World.iter_heap w3 s 0)
 have HM := hide (show MapTwo bm (w3.iter s 0) from hm3.same fun o ho => (Old.alloc (Old.refl w3) (.stringIter s 0)).heap ho)
 have HK := hide (show Old w1 (w3.iter s 0) from Old.alloc (((Below.refl w1.heap.size w1).alloc (Nat.le_refl _) _).trans (k2.below.trans (Below.mono o3 (by rw [hB.out]; omega)))) _)
 have hbm : bm < it := by rw [← hit.out]; exact hb2
 have hBi : B < it := by rw [← hit.out]; exact Nat.lt_of_lt_of_le hB2 o3.size
 have hBm : B ≠ bm := by omega
 clear h2 k2 hm3 o3 hb1 hb2
 go_wp2_with fail
 rw [hB.out, hit.out]
 go_loopw [] (fun wr => ∃ pos, pos ≤ s.size ∧ Hid (WBs 91 B B (litTo s pos) wr) ∧ Hid (wr.heap[it]? = some (.stringIter s pos)) ∧ Hid (MapTwo bm wr) ∧ Hid (Lib.validD (restL s pos) = true) ∧ Hid (Old w1 wr)) (fun wr => s.size - wr.iterPos it)
 case atStart => exact ⟨0, Nat.zero_le _, HW, HI, HM, HV, HK⟩
 case round =>
  clear HW HI HM HV HK
  obtain ⟨pos, hpos, HW, HI, HM, HV, HK⟩ := hrel
  have hll := litTo_len s pos
  have hBw : B ≤ wr.heap.size := by have := (Array.getElem?_eq_some_iff.1 HI.out).1; omega
  by_cases hp : pos < s.size
  · have hne : restL s pos ≠ [] := by
     intro e
     have := congrArg List.length e
     have e2 : s.data.toList.length = s.size := Array.length_toList
     rw [restL, List.length_drop, e2] at this
     simp at this
     omega
    have hnx : ∀ ty, (Instr.next (.pointer (some ⟨it, 0, none⟩)) true ty).run Tryz.prog wr = _ := fun ty => Lib.run_next_any_at wr it s pos ty HI.out hp
    obtain ⟨RA, HV2⟩ := valid_step HV.out hne
    have hdec : Lib.decodeL (restL s pos) = Utf8.decode s pos := Lib.decodeL_drop s pos
    rw [hdec] at RA HV2
    have er := esc_rune RA
    obtain ⟨r, hr⟩ : ∃ r, Hid ((Utf8.decode s pos).1 = r) := ⟨_, hide rfl⟩
    obtain ⟨n, hn⟩ : ∃ n, Hid ((Utf8.decode s pos).2 = n) := ⟨_, hide rfl⟩
    simp only [hr.out, hn.out] at hnx RA HV2 er
    have hnle : pos + n ≤ s.size := by
     have h := RA.le
     have e2 : s.data.toList.length = s.size := Array.length_toList
     rw [restL, List.length_drop, e2] at h
     omega
    have hn1 := RA.pos
    have hrm := RA.most
    have HV3 := hide (show Lib.validD (restL s (pos + n)) = true by unfold restL at HV2 ⊢; rwa [List.drop_drop] at HV2)
    have W2 := hide (show WBs 91 B B (litTo s pos) (wr.iterAt it s (pos + n)) from HW.out.iterAt HI.out _)
    have I2 := hide (Lib.iterAt_heap wr it s pos (pos + n) HI.out)
    have K2 := hide (show Old w1 (wr.iterAt it s (pos + n)) from Lib.below_iterAt HK.out (k := it) (by rw [hB.out]; omega) s (pos + n))
    have M2 := hide (show MapTwo bm (wr.iterAt it s (pos + n)) from HM.out.same fun o ho => by rw [Lib.iterAt_other _ _ _ _ _ (by omega)]; exact ho)
    have hkey : keyOf Tryz.prog 21 (.int .i32 r) = some (.int .i32 r) := Maps.keyOf_int_mk Tryz.underlying21 (WalkArith.wf_i32 (by omega))
    have hsz : B ≤ (wr.iterAt it s (pos + n)).heap.size := by rw [Lib.iterAt_size]; exact hBw
    clear hdec RA HV2 HV hne
    have hhas := dTwo_has r
    rcases htw : twoOf r with _ | c0
    · rw [htw] at hhas er
      simp only [Option.isSome_none] at hhas
      by_cases hr32 : r < 32
      · simp only [if_pos hr32] at er
        have hr32' : (r : Int) < 32 := by omega
        have hand := and15 hr32
        go_wp2_with (at_lookup; refine wpList_lookup_own_ok_int _ rfl _ _ 214 rfl 21 5 .u8 (Maps.int_keyed Tryz.underlying21) Tryz.underlying214 Tryz.underlying5 (Tryz.zeroValue5 _) bm 7 dTwo rfl M2.out _ _ rfl hkey ?_; intro c hat hwf)
        refine region_later_tail 14 (by kernel_rfl) (by kernel_rfl) ?_
        simp only [List.take_succ_cons, List.take_zero, List.drop_succ_cons, List.drop_zero]
        repeat (go_big_quiet_step (fail))
        refine wpQuiet_nil ?_
        rintro wz ⟨⟨_, hwz⟩, rfl⟩
        have WZ := hide (WBs.old W2.out hwz)
        have IZ := hide (hwz.heap I2.out)
        have MZ := hide (M2.out.same fun o ho => hwz.heap ho)
        have KZ := hide (Old.trans K2.out hwz)
        have hszz : B ≤ wz.heap.size := Nat.le_trans hsz hwz.size
        have x1 := hex_at (k := r / 16) (by omega)
        have x2 := hex_at (k := r % 16) (by omega)
        go_wp2_with fail
        refine (wb_WriteString 91 (.inl rfl) B B (litTo s pos) ⟨#[92, 117, 48, 48, hexB (r / 16), hexB (r % 16)]⟩ _ WZ.out (by simp [ByteArray.size]; omega) hszz).mono ?_
        rintro e w5 ⟨rfl, h5, k5⟩
        have H5 := hide (show WBs 91 B B (litTo s (pos + n)) w5 by rw [litTo_next, er]; exact h5)
        have I5 := hide (k5.others _ _ IZ.out (by simp; omega) (by simp))
        have M5 := hide (show MapTwo bm w5 by
         obtain ⟨es, clock, hb, F, hs, hD⟩ := MZ.out
         exact ⟨es, clock, k5.others _ _ hb (by simp; omega) (by simp), F, hs, hD⟩)
        have K5 := hide (show Old w1 w5 from Below.trans KZ.out (by rw [hB.out]; exact k5.below))
        clear h5 k5
        go_wp2_with fail
        go_roundw
        case rel => exact ⟨pos + n, hnle, H5, I5, M5, HV3, K5⟩
        case measure =>
         simp only [World.iterPos, I5.out, HI.out]
         omega
      · simp only [if_neg hr32] at er
        have hr32' : ¬ (r : Int) < 32 := by omega
        go_wp2_with (at_lookup; refine wpList_lookup_own_ok_int _ rfl _ _ 214 rfl 21 5 .u8 (Maps.int_keyed Tryz.underlying21) Tryz.underlying214 Tryz.underlying5 (Tryz.zeroValue5 _) bm 7 dTwo rfl M2.out _ _ rfl hkey ?_; intro c hat hwf)
        refine (wb_WriteRune 91 (.inl rfl) B B (litTo s pos) r (by omega) (by omega) _ W2.out (by omega) hsz).mono ?_
        rintro e w5 ⟨⟨v5, rfl⟩, h5, k5⟩
        have H5 := hide (show WBs 91 B B (litTo s (pos + n)) w5 by rw [litTo_next, er]; exact h5)
        have I5 := hide (k5.others _ _ I2.out (by simp; omega) (by simp))
        have M5 := hide (show MapTwo bm w5 by
         obtain ⟨es, clock, hb, F, hs, hD⟩ := M2.out
         exact ⟨es, clock, k5.others _ _ hb (by simp; omega) (by simp), F, hs, hD⟩)
        have K5 := hide (show Old w1 w5 from Below.trans K2.out (by rw [hB.out]; exact k5.below))
        clear h5 k5
        go_wp2_with fail
        go_roundw
        case rel => exact ⟨pos + n, hnle, H5, I5, M5, HV3, K5⟩
        case measure =>
         simp only [World.iterPos, I5.out, HI.out]
         omega
    · rw [htw] at hhas er
      simp only [Option.isSome_some] at hhas
      have hc0 : c0 = 34 ∨ c0 = 92 ∨ c0 = 98 ∨ c0 = 102 ∨ c0 = 110 ∨ c0 = 114 ∨ c0 = 116 := by
       unfold twoOf at htw
       repeat' split at htw
       all_goals first | (injection htw with htw; omega) | cases htw
      rcases hc0 with rfl | rfl | rfl | rfl | rfl | rfl | rfl
      · have hat0 : dTwo.atKey (.int .i32 r) (.lit (.int .u8 0)) = .lit (.int .u8 34) := dTwo_at r _ htw
        clear htw
        have IZ := I2
        have MZ := M2
        have KZ := K2
        go_wp2_with (at_lookup; refine wpList_lookup_own_ok_int _ rfl _ _ 214 rfl 21 5 .u8 (Maps.int_keyed Tryz.underlying21) Tryz.underlying214 Tryz.underlying5 (Tryz.zeroValue5 _) bm 7 dTwo rfl M2.out _ _ rfl hkey ?_; intro c hat hwf; obtain rfl : c = 34 := (by rw [hat0] at hat; injection hat with h1; injection h1 with _ h2; exact h2.symm))
        refine (wb_WriteString 91 (.inl rfl) B B (litTo s pos) ⟨#[92, 34]⟩ _ W2.out (by simp [ByteArray.size]; omega) hsz).mono ?_
        rintro e w5 ⟨rfl, h5, k5⟩
        have H5 := hide (show WBs 91 B B (litTo s (pos + n)) w5 by rw [litTo_next, er]; exact h5)
        have I5 := hide (k5.others _ _ IZ.out (by simp; omega) (by simp))
        have M5 := hide (show MapTwo bm w5 by
         obtain ⟨es, clock, hb, F, hs, hD⟩ := MZ.out
         exact ⟨es, clock, k5.others _ _ hb (by simp; omega) (by simp), F, hs, hD⟩)
        have K5 := hide (show Old w1 w5 from Below.trans KZ.out (by rw [hB.out]; exact k5.below))
        clear h5 k5
        go_wp2_with fail
        go_roundw
        case rel => exact ⟨pos + n, hnle, H5, I5, M5, HV3, K5⟩
        case measure =>
         simp only [World.iterPos, I5.out, HI.out]
         omega
      · have hat0 : dTwo.atKey (.int .i32 r) (.lit (.int .u8 0)) = .lit (.int .u8 92) := dTwo_at r _ htw
        clear htw
        have IZ := I2
        have MZ := M2
        have KZ := K2
        go_wp2_with (at_lookup; refine wpList_lookup_own_ok_int _ rfl _ _ 214 rfl 21 5 .u8 (Maps.int_keyed Tryz.underlying21) Tryz.underlying214 Tryz.underlying5 (Tryz.zeroValue5 _) bm 7 dTwo rfl M2.out _ _ rfl hkey ?_; intro c hat hwf; obtain rfl : c = 92 := (by rw [hat0] at hat; injection hat with h1; injection h1 with _ h2; exact h2.symm))
        refine (wb_WriteString 91 (.inl rfl) B B (litTo s pos) ⟨#[92, 92]⟩ _ W2.out (by simp [ByteArray.size]; omega) hsz).mono ?_
        rintro e w5 ⟨rfl, h5, k5⟩
        have H5 := hide (show WBs 91 B B (litTo s (pos + n)) w5 by rw [litTo_next, er]; exact h5)
        have I5 := hide (k5.others _ _ IZ.out (by simp; omega) (by simp))
        have M5 := hide (show MapTwo bm w5 by
         obtain ⟨es, clock, hb, F, hs, hD⟩ := MZ.out
         exact ⟨es, clock, k5.others _ _ hb (by simp; omega) (by simp), F, hs, hD⟩)
        have K5 := hide (show Old w1 w5 from Below.trans KZ.out (by rw [hB.out]; exact k5.below))
        clear h5 k5
        go_wp2_with fail
        go_roundw
        case rel => exact ⟨pos + n, hnle, H5, I5, M5, HV3, K5⟩
        case measure =>
         simp only [World.iterPos, I5.out, HI.out]
         omega
      · have hat0 : dTwo.atKey (.int .i32 r) (.lit (.int .u8 0)) = .lit (.int .u8 98) := dTwo_at r _ htw
        clear htw
        have IZ := I2
        have MZ := M2
        have KZ := K2
        go_wp2_with (at_lookup; refine wpList_lookup_own_ok_int _ rfl _ _ 214 rfl 21 5 .u8 (Maps.int_keyed Tryz.underlying21) Tryz.underlying214 Tryz.underlying5 (Tryz.zeroValue5 _) bm 7 dTwo rfl M2.out _ _ rfl hkey ?_; intro c hat hwf; obtain rfl : c = 98 := (by rw [hat0] at hat; injection hat with h1; injection h1 with _ h2; exact h2.symm))
        refine (wb_WriteString 91 (.inl rfl) B B (litTo s pos) ⟨#[92, 98]⟩ _ W2.out (by simp [ByteArray.size]; omega) hsz).mono ?_
        rintro e w5 ⟨rfl, h5, k5⟩
        have H5 := hide (show WBs 91 B B (litTo s (pos + n)) w5 by rw [litTo_next, er]; exact h5)
        have I5 := hide (k5.others _ _ IZ.out (by simp; omega) (by simp))
        have M5 := hide (show MapTwo bm w5 by
         obtain ⟨es, clock, hb, F, hs, hD⟩ := MZ.out
         exact ⟨es, clock, k5.others _ _ hb (by simp; omega) (by simp), F, hs, hD⟩)
        have K5 := hide (show Old w1 w5 from Below.trans KZ.out (by rw [hB.out]; exact k5.below))
        clear h5 k5
        go_wp2_with fail
        go_roundw
        case rel => exact ⟨pos + n, hnle, H5, I5, M5, HV3, K5⟩
        case measure =>
         simp only [World.iterPos, I5.out, HI.out]
         omega
      · have hat0 : dTwo.atKey (.int .i32 r) (.lit (.int .u8 0)) = .lit (.int .u8 102) := dTwo_at r _ htw
        clear htw
        have IZ := I2
        have MZ := M2
        have KZ := K2
        go_wp2_with (at_lookup; refine wpList_lookup_own_ok_int _ rfl _ _ 214 rfl 21 5 .u8 (Maps.int_keyed Tryz.underlying21) Tryz.underlying214 Tryz.underlying5 (Tryz.zeroValue5 _) bm 7 dTwo rfl M2.out _ _ rfl hkey ?_; intro c hat hwf; obtain rfl : c = 102 := (by rw [hat0] at hat; injection hat with h1; injection h1 with _ h2; exact h2.symm))
        refine (wb_WriteString 91 (.inl rfl) B B (litTo s pos) ⟨#[92, 102]⟩ _ W2.out (by simp [ByteArray.size]; omega) hsz).mono ?_
        rintro e w5 ⟨rfl, h5, k5⟩
        have H5 := hide (show WBs 91 B B (litTo s (pos + n)) w5 by rw [litTo_next, er]; exact h5)
        have I5 := hide (k5.others _ _ IZ.out (by simp; omega) (by simp))
        have M5 := hide (show MapTwo bm w5 by
         obtain ⟨es, clock, hb, F, hs, hD⟩ := MZ.out
         exact ⟨es, clock, k5.others _ _ hb (by simp; omega) (by simp), F, hs, hD⟩)
        have K5 := hide (show Old w1 w5 from Below.trans KZ.out (by rw [hB.out]; exact k5.below))
        clear h5 k5
        go_wp2_with fail
        go_roundw
        case rel => exact ⟨pos + n, hnle, H5, I5, M5, HV3, K5⟩
        case measure =>
         simp only [World.iterPos, I5.out, HI.out]
         omega
      · have hat0 : dTwo.atKey (.int .i32 r) (.lit (.int .u8 0)) = .lit (.int .u8 110) := dTwo_at r _ htw
        clear htw
        have IZ := I2
        have MZ := M2
        have KZ := K2
        go_wp2_with (at_lookup; refine wpList_lookup_own_ok_int _ rfl _ _ 214 rfl 21 5 .u8 (Maps.int_keyed Tryz.underlying21) Tryz.underlying214 Tryz.underlying5 (Tryz.zeroValue5 _) bm 7 dTwo rfl M2.out _ _ rfl hkey ?_; intro c hat hwf; obtain rfl : c = 110 := (by rw [hat0] at hat; injection hat with h1; injection h1 with _ h2; exact h2.symm))
        refine (wb_WriteString 91 (.inl rfl) B B (litTo s pos) ⟨#[92, 110]⟩ _ W2.out (by simp [ByteArray.size]; omega) hsz).mono ?_
        rintro e w5 ⟨rfl, h5, k5⟩
        have H5 := hide (show WBs 91 B B (litTo s (pos + n)) w5 by rw [litTo_next, er]; exact h5)
        have I5 := hide (k5.others _ _ IZ.out (by simp; omega) (by simp))
        have M5 := hide (show MapTwo bm w5 by
         obtain ⟨es, clock, hb, F, hs, hD⟩ := MZ.out
         exact ⟨es, clock, k5.others _ _ hb (by simp; omega) (by simp), F, hs, hD⟩)
        have K5 := hide (show Old w1 w5 from Below.trans KZ.out (by rw [hB.out]; exact k5.below))
        clear h5 k5
        go_wp2_with fail
        go_roundw
        case rel => exact ⟨pos + n, hnle, H5, I5, M5, HV3, K5⟩
        case measure =>
         simp only [World.iterPos, I5.out, HI.out]
         omega
      · have hat0 : dTwo.atKey (.int .i32 r) (.lit (.int .u8 0)) = .lit (.int .u8 114) := dTwo_at r _ htw
        clear htw
        have IZ := I2
        have MZ := M2
        have KZ := K2
        go_wp2_with (at_lookup; refine wpList_lookup_own_ok_int _ rfl _ _ 214 rfl 21 5 .u8 (Maps.int_keyed Tryz.underlying21) Tryz.underlying214 Tryz.underlying5 (Tryz.zeroValue5 _) bm 7 dTwo rfl M2.out _ _ rfl hkey ?_; intro c hat hwf; obtain rfl : c = 114 := (by rw [hat0] at hat; injection hat with h1; injection h1 with _ h2; exact h2.symm))
        refine (wb_WriteString 91 (.inl rfl) B B (litTo s pos) ⟨#[92, 114]⟩ _ W2.out (by simp [ByteArray.size]; omega) hsz).mono ?_
        rintro e w5 ⟨rfl, h5, k5⟩
        have H5 := hide (show WBs 91 B B (litTo s (pos + n)) w5 by rw [litTo_next, er]; exact h5)
        have I5 := hide (k5.others _ _ IZ.out (by simp; omega) (by simp))
        have M5 := hide (show MapTwo bm w5 by
         obtain ⟨es, clock, hb, F, hs, hD⟩ := MZ.out
         exact ⟨es, clock, k5.others _ _ hb (by simp; omega) (by simp), F, hs, hD⟩)
        have K5 := hide (show Old w1 w5 from Below.trans KZ.out (by rw [hB.out]; exact k5.below))
        clear h5 k5
        go_wp2_with fail
        go_roundw
        case rel => exact ⟨pos + n, hnle, H5, I5, M5, HV3, K5⟩
        case measure =>
         simp only [World.iterPos, I5.out, HI.out]
         omega
      · have hat0 : dTwo.atKey (.int .i32 r) (.lit (.int .u8 0)) = .lit (.int .u8 116) := dTwo_at r _ htw
        clear htw
        have IZ := I2
        have MZ := M2
        have KZ := K2
        go_wp2_with (at_lookup; refine wpList_lookup_own_ok_int _ rfl _ _ 214 rfl 21 5 .u8 (Maps.int_keyed Tryz.underlying21) Tryz.underlying214 Tryz.underlying5 (Tryz.zeroValue5 _) bm 7 dTwo rfl M2.out _ _ rfl hkey ?_; intro c hat hwf; obtain rfl : c = 116 := (by rw [hat0] at hat; injection hat with h1; injection h1 with _ h2; exact h2.symm))
        refine (wb_WriteString 91 (.inl rfl) B B (litTo s pos) ⟨#[92, 116]⟩ _ W2.out (by simp [ByteArray.size]; omega) hsz).mono ?_
        rintro e w5 ⟨rfl, h5, k5⟩
        have H5 := hide (show WBs 91 B B (litTo s (pos + n)) w5 by rw [litTo_next, er]; exact h5)
        have I5 := hide (k5.others _ _ IZ.out (by simp; omega) (by simp))
        have M5 := hide (show MapTwo bm w5 by
         obtain ⟨es, clock, hb, F, hs, hD⟩ := MZ.out
         exact ⟨es, clock, k5.others _ _ hb (by simp; omega) (by simp), F, hs, hD⟩)
        have K5 := hide (show Old w1 w5 from Below.trans KZ.out (by rw [hB.out]; exact k5.below))
        clear h5 k5
        go_wp2_with fail
        go_roundw
        case rel => exact ⟨pos + n, hnle, H5, I5, M5, HV3, K5⟩
        case measure =>
         simp only [World.iterPos, I5.out, HI.out]
         omega
  · have hnx : ∀ ty, (Instr.next (.pointer (some ⟨it, 0, none⟩)) true ty).run Tryz.prog wr = _ := fun ty => Lib.run_next_end_at wr it s pos ty HI.out hp
    have hps : pos = s.size := by omega
    have hq := litTo_all s
    rw [← hps] at hq
    clear hps
    have hql := (quoteL_len s).2
    go_wp2_with fail
    refine (wb_WriteByte 91 (.inl rfl) B B (litTo s pos) 34 _ HW.out (by omega) hBw).mono ?_
    rintro e w5 ⟨rfl, h5, k5⟩
    rw [hq] at h5
    go_wp2_with fail
    refine (wb_String 91 B B (quoteL s) _ h5 (by simp [quoteL])).mono ?_
    rintro e w6 ⟨rfl, h6, k6⟩
    have OF := hide (Old.trans O1.out (Below.trans HK.out (by rw [hB.out]; exact k5.below.trans k6.below)))
    clear h5 k5 h6 k6
    go_wp2_with fail
    go_ret2
    exact ⟨rfl, OF.out⟩
end Go.Proofs.YthlfljmfggmfdaaGreatDoor
