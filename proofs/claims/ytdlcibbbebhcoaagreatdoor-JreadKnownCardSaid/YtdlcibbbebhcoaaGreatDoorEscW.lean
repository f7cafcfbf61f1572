/- What a value is as a text: plain laws. No program is named here. -/
import Derived.Test.YtdlcibbbebhcoaaGreatDoorBase
import Derived.Lib.ItoaNum
import Derived.Test.YtdlcibbbebhcoaaGreatDoorRefV
import Derived.Lib.RuneBytes
import Derived.Lib.ValidLaws
import Derived.Maps.OwnSet
import Derived.Maps.RangeWalk
import Derived.Test.YtdlcibbbebhcoaaGreatDoorRdW
/-! ### What a value is as a text: plain laws. No program is named here. -/
namespace Go.Proofs.YtdlcibbbebhcoaaGreatDoor

/-- a digit to the base 16 -/
def hexB (n : Nat) : UInt8 := UInt8.ofNat (if n < 10 then 48 + n else 87 + n)
/-- a byte, as it stands in a literal -/
def esc1 (b : UInt8) : List UInt8 :=
  if b = 34 ∨ b = 92 then [92, b] else if b = 8 then [92, 98] else if b = 12 then [92, 102] else if b = 10 then [92, 110] else if b = 13 then [92, 114] else if b = 9 then [92, 116]
  else if b.toNat < 32 then [92, 117, 48, 48, hexB (b.toNat / 16), hexB (b.toNat % 16)] else [b]
theorem esc1_len (b : UInt8) : 1 ≤ (esc1 b).length ∧ (esc1 b).length ≤ 6 := by
  unfold esc1
  repeat' split
  all_goals simp
def escL (l : List UInt8) : List UInt8 := l.flatMap esc1
theorem escL_nil : escL [] = [] := rfl
theorem escL_append (a b : List UInt8) : escL (a ++ b) = escL a ++ escL b := by simp [escL]
theorem escL_one (b : UInt8) : escL [b] = esc1 b := by simp [escL]
theorem escL_len (l : List UInt8) : l.length ≤ (escL l).length ∧ (escL l).length ≤ 6 * l.length := by
  induction l with
  | nil => simp [escL]
  | cons b l ih =>
    have h := esc1_len b
    rw [show escL (b :: l) = esc1 b ++ escL l by simp [escL], List.length_append, List.length_cons]
    omega
/-- bytes that stand as they are -/
theorem escL_high {l : List UInt8} (h : ∀ b ∈ l, 128 ≤ b.toNat) : escL l = l := by
  induction l with
  | nil => rfl
  | cons b l ih =>
    have hb := h b (by simp)
    have e : esc1 b = [b] := by
      have hn : ∀ c : UInt8, c.toNat < 128 → b ≠ c := fun c hc e => by subst e; omega
      unfold esc1
      rw [if_neg (by intro h; rcases h with h | h; exact hn 34 (by decide) h; exact hn 92 (by decide) h), if_neg (hn 8 (by decide)), if_neg (hn 12 (by decide)), if_neg (hn 10 (by decide)), if_neg (hn 13 (by decide)), if_neg (hn 9 (by decide)), if_neg (by omega)]
    rw [show escL (b :: l) = esc1 b ++ escL l by simp [escL], e, ih fun x hx => h x (by simp [hx])]
    rfl
/-- a literal -/
def quoteL (s : ByteArray) : List UInt8 := 34 :: (escL s.data.toList ++ [34])
theorem quoteL_len (s : ByteArray) : s.size + 2 ≤ (quoteL s).length ∧ (quoteL s).length ≤ 6 * s.size + 2 := by
  have h := escL_len s.data.toList
  have e : s.data.toList.length = s.size := Array.length_toList
  rw [e] at h
  simp only [quoteL, List.length_cons, List.length_append, List.length_nil]
  omega

mutual
/-- a value's text -/
def J.show : J → List UInt8
  | .mk h l => if h.kind = 1 then [110, 117, 108, 108] else if h.kind = 2 then [102, 97, 108, 115, 101] else if h.kind = 3 then [116, 114, 117, 101] else if h.kind = 4 then Lib.itoa h.n else if h.kind = 5 then quoteL h.s
    else if h.kind = 6 then 91 :: (J.shows false true l ++ [93]) else 123 :: (J.shows true true l ++ [125])
/-- that of parts: of an object, with their keys; the first one has no comma -/
def J.shows (o first : Bool) : List J → List UInt8
  | [] => []
  | j :: l => ((if first then [] else [44]) ++ (if o then quoteL j.key ++ [58] else []) ++ j.show) ++ J.shows o false l
end
/-- a part's text, with what stands ahead of it -/
def partShow (o first : Bool) (j : J) : List UInt8 := (if first then [] else [44]) ++ (if o then quoteL j.key ++ [58] else []) ++ j.show
theorem shows_nil (o f : Bool) : J.shows o f [] = [] := by simp [J.shows]
theorem shows_cons (o f : Bool) (j : J) (l : List J) : J.shows o f (j :: l) = partShow o f j ++ J.shows o false l := by simp [J.shows, partShow]
theorem shows_snoc (o : Bool) (j : J) : ∀ (l : List J) (f : Bool), J.shows o f (l ++ [j]) = J.shows o f l ++ partShow o (f && l.isEmpty) j
  | [], f => by simp [shows_cons, shows_nil]
  | x :: l, f => by
    rw [List.cons_append, shows_cons, shows_snoc o j l false, shows_cons, List.append_assoc]
    simp
theorem itoa_len {n : Int} (h0 : -9223372036854775808 ≤ n) (h1 : n ≤ 9223372036854775807) : (Lib.itoa n).length ≤ 20 := by
  have key : ∀ u : Nat, u ≤ 9223372036854775808 → (Lib.decDigits u).length ≤ 19 := by
    intro u hu
    rw [Lib.decDigits_length]
    rcases Nat.lt_or_ge 19 (Lib.nDigits u) with h | h
    · exfalso
      have mono : ∀ k v : Nat, k < Lib.nDigits v → 10 ^ k ≤ v ∨ k = 0 := by
        intro k
        induction k with
        | zero => intro v _; exact .inr rfl
        | succ k ih =>
          intro v hv
          by_cases h10 : v < 10
          · rw [Lib.nDigits_small h10] at hv
            omega
          · rw [Lib.nDigits_big h10] at hv
            rcases ih (v / 10) (by omega) with h | rfl
            · left
              rw [Nat.pow_succ]
              omega
            · left
              omega
      rcases mono 19 u h with h | h
      · have : (10 : Nat) ^ 19 = 10000000000000000000 := by decide
        omega
      · omega
    · exact h
  unfold Lib.itoa
  split
  · have := key n.natAbs (by omega)
    simp only [List.length_cons]
    omega
  · have := key n.toNat (by omega)
    omega
/-- how much room nodes take, at most -/
def ndRoom (l : List Nd) : Nat := (l.map fun x => 6 * (x.key.size + x.s.size) + 32).sum
theorem ndRoom_nil : ndRoom [] = 0 := rfl
theorem ndRoom_cons (x : Nd) (l : List Nd) : ndRoom (x :: l) = 6 * (x.key.size + x.s.size) + 32 + ndRoom l := by simp [ndRoom]
theorem ndRoom_append (a b : List Nd) : ndRoom (a ++ b) = ndRoom a + ndRoom b := by simp [ndRoom]
/-- numbers of 64 bits -/
def NumsOk (l : List Nd) : Prop := ∀ x ∈ l, -9223372036854775808 ≤ x.n ∧ x.n ≤ 9223372036854775807
theorem NumsOk.left {a b : List Nd} (h : NumsOk (a ++ b)) : NumsOk a := fun x hx => h x (by simp [hx])
theorem NumsOk.right {a b : List Nd} (h : NumsOk (a ++ b)) : NumsOk b := fun x hx => h x (by simp [hx])
theorem show_room : (∀ j : J, NumsOk j.flat → j.show.length + 6 * j.key.size + 4 ≤ ndRoom j.flat) ∧ ∀ l : List J, NumsOk (J.flats l) → ∀ o f, (J.shows o f l).length ≤ ndRoom (J.flats l) := by
  refine J.both ?_ ?_ ?_
  · intro h l ih hn
    rw [flat_mk] at hn ⊢
    have hh := hn ⟨h.kind, h.key, h.n, h.s, (J.flats l).length + 1⟩ (by simp)
    have i1 : (Lib.itoa h.n).length ≤ 20 := itoa_len hh.1 hh.2
    have i2 := ih (fun x hx => hn x (by simp [hx])) false true
    have i3 := ih (fun x hx => hn x (by simp [hx])) true true
    have i4 := (quoteL_len h.s).2
    rw [ndRoom_cons]
    have ek : (J.mk h l).key = h.key := rfl
    rw [ek]
    simp only [J.show]
    repeat' split
    all_goals (try simp only [List.length_cons, List.length_append, List.length_nil])
    all_goals omega
  · intro _ o f
    simp [shows_nil]
  · intro j l h1 h2 hn o f
    rw [shows_cons, List.length_append, show J.flats (j :: l) = j.flat ++ J.flats l by simp [J.flats], ndRoom_append]
    rw [show J.flats (j :: l) = j.flat ++ J.flats l by simp [J.flats]] at hn
    have a1 := h1 hn.left
    have a2 := h2 hn.right o false
    have i4 := (quoteL_len j.key).2
    unfold partShow
    simp only [List.length_append]
    split <;> split
    all_goals simp only [List.length_cons, List.length_append, List.length_nil]
    all_goals omega

/-! What is written to a text that may be no longer than M: it is given up behind that. -/
def maxText : Nat := 1048576
structure Puts (acc out bs : List UInt8) : Prop where
  fits : acc.length + out.length ≤ maxText → bs = acc ++ out
  over : maxText < acc.length + out.length → maxText < bs.length
  more : acc.length ≤ bs.length
  most : bs.length ≤ acc.length + out.length
theorem Puts.all (acc out : List UInt8) : Puts acc out (acc ++ out) := ⟨fun _ => rfl, fun h => by simpa using h, by simp, by simp⟩
theorem Puts.none (acc : List UInt8) : Puts acc [] acc := by simpa using Puts.all acc []
theorem Puts.full {acc : List UInt8} (out : List UInt8) (h : maxText < acc.length) : Puts acc out acc := ⟨fun h' => by omega, fun _ => h, Nat.le_refl _, by omega⟩
theorem Puts.trans {acc a b1 b b2 : List UInt8} (h : Puts acc a b1) (k : Puts b1 b b2) : Puts acc (a ++ b) b2 := by
  refine ⟨fun hf => ?_, fun hf => ?_, Nat.le_trans h.more k.more, ?_⟩
  · rw [List.length_append] at hf
    have e := h.fits (by omega)
    subst e
    rw [k.fits (by rw [List.length_append]; omega), List.append_assoc]
  · rw [List.length_append] at hf
    rcases Nat.lt_or_ge maxText (acc.length + a.length) with h1 | h1
    · exact Nat.lt_of_lt_of_le (h.over h1) k.more
    · have e := h.fits h1
      subst e
      exact k.over (by rw [List.length_append]; omega)
  · rw [List.length_append]
    have h1 := h.most
    have h2 := k.most
    omega
end Go.Proofs.YtdlcibbbebhcoaaGreatDoor

/-! ### What a literal is made of, rune by rune: plain laws. -/
namespace Go.Proofs.YtdlcibbbebhcoaaGreatDoor
open Go.RowKit

/-- what is said of the first rune of some bytes -/
structure RuneAt (l : List UInt8) (r n : Nat) : Prop where
  pos : 1 ≤ n
  le : n ≤ l.length
  enc : Lib.encodeRune (r : Int) = l.take n
  high : 128 ≤ r → ∀ b ∈ l.take n, 128 ≤ b.toNat
  low : r < 128 → n = 1
  most : r ≤ 1114111
theorem enc_one {a : UInt8} {r : List UInt8} (h : a.toNat < 128) : RuneAt (a :: r) a.toNat 1 := by
  refine ⟨Nat.le_refl _, by simp, ?_, fun h' => by omega, fun _ => rfl, by omega⟩
  unfold Lib.encodeRune
  rw [Lib.encodeRuneZ_one (by omega) (by omega)]
  simp
theorem u8_eq {x : Int} {a : UInt8} (h : x = a.toNat) : x.toNat.toUInt8 = a := by
  subst h
  simp
theorem enc_two {a b : UInt8} {r : List UInt8} (h1 : a.toNat / 32 = 6) (h2 : b.toNat / 64 = 2) (h3 : 128 ≤ a.toNat % 32 * 64 + b.toNat % 64) : RuneAt (a :: b :: r) (a.toNat % 32 * 64 + b.toNat % 64) 2 := by
  refine ⟨by omega, by simp, ?_, fun _ x hx => ?_, fun h => by omega, by omega⟩
  · unfold Lib.encodeRune
    rw [Lib.encodeRuneZ_two (by omega) (by omega)]
    simp only [List.map_cons, List.map_nil, List.take_succ_cons, List.take_zero]
    rw [u8_eq (a := a) (by omega), u8_eq (a := b) (by omega)]
  · simp at hx
    rcases hx with rfl | rfl <;> omega
theorem enc_three {a b c : UInt8} {r : List UInt8} (h1 : a.toNat / 16 = 14) (h2 : b.toNat / 64 = 2) (h3 : c.toNat / 64 = 2) (h4 : 2048 ≤ a.toNat % 16 * 4096 + b.toNat % 64 * 64 + c.toNat % 64)
    (h5 : Utf8.valid ((a.toNat % 16 * 4096 + b.toNat % 64 * 64 + c.toNat % 64 : Nat) : Int) = true) : RuneAt (a :: b :: c :: r) (a.toNat % 16 * 4096 + b.toNat % 64 * 64 + c.toNat % 64) 3 := by
  have hv : (a.toNat % 16 * 4096 + b.toNat % 64 * 64 + c.toNat % 64) < 55296 ∨ 57343 < (a.toNat % 16 * 4096 + b.toNat % 64 * 64 + c.toNat % 64) := by
    rw [valid_scalar] at h5
    simp at h5
    omega
  have ha := a.toNat_lt
  refine ⟨by omega, by simp, ?_, fun _ x hx => ?_, fun h => by omega, by omega⟩
  · unfold Lib.encodeRune
    rw [Lib.encodeRuneZ_three (by omega)]
    simp only [List.map_cons, List.map_nil, List.take_succ_cons, List.take_zero]
    rw [u8_eq (a := a) (by omega), u8_eq (a := b) (by omega), u8_eq (a := c) (by omega)]
  · simp at hx
    rcases hx with rfl | rfl | rfl <;> omega
theorem enc_four {a b c d : UInt8} {r : List UInt8} (h1 : a.toNat / 8 = 30) (h2 : b.toNat / 64 = 2) (h3 : c.toNat / 64 = 2) (h6 : d.toNat / 64 = 2) (h4 : 65536 ≤ a.toNat % 8 * 262144 + b.toNat % 64 * 4096 + c.toNat % 64 * 64 + d.toNat % 64)
    (h5 : Utf8.valid ((a.toNat % 8 * 262144 + b.toNat % 64 * 4096 + c.toNat % 64 * 64 + d.toNat % 64 : Nat) : Int) = true) : RuneAt (a :: b :: c :: d :: r) (a.toNat % 8 * 262144 + b.toNat % 64 * 4096 + c.toNat % 64 * 64 + d.toNat % 64) 4 := by
  have hv : (a.toNat % 8 * 262144 + b.toNat % 64 * 4096 + c.toNat % 64 * 64 + d.toNat % 64) ≤ 1114111 := by
    rw [valid_scalar] at h5
    simp at h5
    omega
  have ha := a.toNat_lt
  refine ⟨by omega, by simp, ?_, fun _ x hx => ?_, fun h => by omega, hv⟩
  · unfold Lib.encodeRune
    rw [Lib.encodeRuneZ_four (by omega) (by omega)]
    simp only [List.map_cons, List.map_nil, List.take_succ_cons, List.take_zero]
    rw [u8_eq (a := a) (by omega), u8_eq (a := b) (by omega), u8_eq (a := c) (by omega), u8_eq (a := d) (by omega)]
  · simp at hx
    rcases hx with rfl | rfl | rfl | rfl <;> omega
theorem rune_at (l : List UInt8) (h : l ≠ []) (hb : ¬ ((Lib.decodeL l).1 = 65533 ∧ (Lib.decodeL l).2 = 1)) : RuneAt l (Lib.decodeL l).1 (Lib.decodeL l).2 := by
  have bad : ∀ P : Prop, ¬ ((65533 : Nat) = 65533 ∧ (1 : Nat) = 1) → P := fun P h => absurd ⟨rfl, rfl⟩ h
  have e : Lib.decodeL l = Utf8.decode (txt l) 0 := rfl
  rw [e] at hb ⊢
  match l, h with
  | [a], _ =>
    simp only [Utf8.decode, Utf8.runeError, txt_size, Nat.zero_add, show (txt [a]).get! 0 = a from rfl, List.length_cons, List.length_nil] at hb ⊢
    split at hb
    · rename_i h1
      rw [if_pos h1]
      exact enc_one h1
    · simp at hb
  | [a, b], _ =>
    simp only [Utf8.decode, Utf8.runeError, txt_size, Nat.zero_add, show (txt [a, b]).get! 0 = a from rfl, show (txt [a, b]).get! 1 = b from rfl, List.length_cons, List.length_nil] at hb ⊢
    split at hb
    · rename_i h1
      rw [if_pos h1]
      exact enc_one h1
    · rename_i h1
      rw [if_neg h1]
      split at hb
      · rename_i h2
        rw [if_pos h2]
        simp at h2
        split at hb
        · rename_i h3
          rw [if_pos h3]
          exact enc_two h2.1 h2.2 h3
        · exact bad _ hb
      · simp at hb
  | [a, b, c], _ =>
    simp only [Utf8.decode, Utf8.runeError, txt_size, Nat.zero_add, show (txt [a, b, c]).get! 0 = a from rfl, show (txt [a, b, c]).get! 1 = b from rfl, show (txt [a, b, c]).get! 2 = c from rfl, List.length_cons, List.length_nil] at hb ⊢
    split at hb
    · rename_i h1
      rw [if_pos h1]
      exact enc_one h1
    · rename_i h1
      rw [if_neg h1]
      split at hb
      · rename_i h2
        rw [if_pos h2]
        simp at h2
        split at hb
        · rename_i h3
          rw [if_pos h3]
          exact enc_two h2.1 h2.2 h3
        · exact bad _ hb
      · rename_i h2
        rw [if_neg h2]
        split at hb
        · rename_i h3
          rw [if_pos h3]
          simp at h3
          split at hb
          · rename_i h4
            rw [if_pos h4]
            rw [Bool.and_eq_true, decide_eq_true_eq] at h4
            exact enc_three h3.1.1 h3.1.2 h3.2 h4.1 h4.2
          · exact bad _ hb
        · simp at hb
  | a :: b :: c :: d :: r, _ =>
    simp only [Utf8.decode, Utf8.runeError, txt_size, Nat.zero_add, show (txt (a :: b :: c :: d :: r)).get! 0 = a from rfl, show (txt (a :: b :: c :: d :: r)).get! 1 = b from rfl, show (txt (a :: b :: c :: d :: r)).get! 2 = c from rfl, show (txt (a :: b :: c :: d :: r)).get! 3 = d from rfl, List.length_cons] at hb ⊢
    split at hb
    · rename_i h1
      rw [if_pos h1]
      exact enc_one h1
    · rename_i h1
      rw [if_neg h1]
      split at hb
      · rename_i h2
        rw [if_pos h2]
        simp at h2
        split at hb
        · rename_i h3
          rw [if_pos h3]
          exact enc_two h2.1 h2.2 h3
        · exact bad _ hb
      · rename_i h2
        rw [if_neg h2]
        split at hb
        · rename_i h3
          rw [if_pos h3]
          simp at h3
          split at hb
          · rename_i h4
            rw [if_pos h4]
            rw [Bool.and_eq_true, decide_eq_true_eq] at h4
            exact enc_three h3.1.1 h3.1.2 h3.2 h4.1 h4.2
          · exact bad _ hb
        · rename_i h3
          rw [if_neg h3]
          split at hb
          · rename_i h5
            rw [if_pos h5]
            simp at h5
            split at hb
            · rename_i h4
              rw [if_pos h4]
              rw [Bool.and_eq_true, decide_eq_true_eq] at h4
              exact enc_four h5.1.1.1 h5.1.1.2 h5.1.2 h5.2 h4.1 h4.2
            · exact bad _ hb
          · exact bad _ hb
/-- a valid text at a rune's place -/
theorem valid_step {l : List UInt8} (h : Lib.validD l = true) (hne : l ≠ []) : RuneAt l (Lib.decodeL l).1 (Lib.decodeL l).2 ∧ Lib.validD (l.drop (Lib.decodeL l).2) = true := by
  rw [Lib.validD_step l hne] at h
  split at h
  · cases h
  · rename_i hb
    exact ⟨rune_at l hne hb, h⟩
/-- what a rune is in a literal -/
def twoOf (r : Nat) : Option Nat := if r = 34 then some 34 else if r = 92 then some 92 else if r = 8 then some 98 else if r = 12 then some 102 else if r = 10 then some 110 else if r = 13 then some 114 else if r = 9 then some 116 else none
theorem esc_rune {l : List UInt8} {r n : Nat} (h : RuneAt l r n) : escL (l.take n) = match twoOf r with
  | some c => [92, UInt8.ofNat c]
  | none => if r < 32 then [92, 117, 48, 48, hexB (r / 16), hexB (r % 16)] else Lib.encodeRune (r : Int) := by
  rcases Nat.lt_or_ge r 128 with h1 | h1
  · have hn := h.low h1
    subst hn
    have he := h.enc
    unfold Lib.encodeRune at he
    rw [Lib.encodeRuneZ_one (by omega) (by omega)] at he
    rw [h.enc.symm]
    unfold Lib.encodeRune
    rw [Lib.encodeRuneZ_one (by omega) (by omega)]
    simp only [List.map_cons, List.map_nil, Int.toNat_natCast]
    rw [escL_one]
    have ht : r.toUInt8.toNat = r := by simp; omega
    have hx : ∀ c : Nat, c < 128 → (r.toUInt8 = UInt8.ofNat c ↔ r = c) := by
      intro c hc
      constructor
      · intro e
        have := congrArg UInt8.toNat e
        rw [ht] at this
        simp at this
        omega
      · rintro rfl
        rfl
    have x34 : r.toUInt8 = 34 ↔ r = 34 := hx 34 (by omega)
    have x92 : r.toUInt8 = 92 ↔ r = 92 := hx 92 (by omega)
    have x8 : r.toUInt8 = 8 ↔ r = 8 := hx 8 (by omega)
    have x12 : r.toUInt8 = 12 ↔ r = 12 := hx 12 (by omega)
    have x10 : r.toUInt8 = 10 ↔ r = 10 := hx 10 (by omega)
    have x13 : r.toUInt8 = 13 ↔ r = 13 := hx 13 (by omega)
    have x9 : r.toUInt8 = 9 ↔ r = 9 := hx 9 (by omega)
    unfold esc1 twoOf
    simp only [x34, x92, x8, x12, x10, x13, x9, ht]
    by_cases c34 : r = 34
    · subst c34; rfl
    by_cases c92 : r = 92
    · subst c92; rfl
    by_cases c8 : r = 8
    · subst c8; rfl
    by_cases c12 : r = 12
    · subst c12; rfl
    by_cases c10 : r = 10
    · subst c10; rfl
    by_cases c13 : r = 13
    · subst c13; rfl
    by_cases c9 : r = 9
    · subst c9; rfl
    simp only [c34, c92, c8, c12, c10, c13, c9, or_self, if_false]
  · rw [escL_high (h.high h1), ← h.enc]
    have : twoOf r = none := by
      unfold twoOf
      repeat' split
      all_goals first | rfl | omega
    rw [this]
    simp only
    rw [if_neg (by omega)]
end Go.Proofs.YtdlcibbbebhcoaaGreatDoor

/-! ### utf.short: the map of the runes with an escape of two bytes. -/
namespace Go.Proofs.YtdlcibbbebhcoaaGreatDoor
open Go.RowKit

/-- the runes with an escape of two bytes -/
def dTwo : DataW Unit := .map [(.int .i32 8, .lit (.int .u8 98)), (.int .i32 9, .lit (.int .u8 116)), (.int .i32 10, .lit (.int .u8 110)), (.int .i32 12, .lit (.int .u8 102)), (.int .i32 13, .lit (.int .u8 114)), (.int .i32 34, .lit (.int .u8 34)), (.int .i32 92, .lit (.int .u8 92))]
theorem dTwo_has (r : Nat) : Maps.has dTwo (.int .i32 r) = (twoOf r).isSome := by
  unfold dTwo twoOf
  simp only [Maps.has, List.any_cons, List.any_nil, Lit.sameKey]
  repeat' split
  all_goals first | (subst_vars; rfl) | skip
  simp
  omega
theorem dTwo_at (r c : Nat) (h : twoOf r = some c) : dTwo.atKey (.int .i32 r) (.lit (.int .u8 0)) = .lit (.int .u8 c) := by
  unfold twoOf at h
  repeat' split at h
  all_goals first | (injection h with h; subst_vars; rfl) | cases h
abbrev MapTwo (b : Nat) (w : World) : Prop := w.ownsMap (H := Unit) Tryz.prog 21 (plainElem Tryz.prog 5) b 7 dTwo
theorem MapTwo.same {b : Nat} {w w' : World} (h : MapTwo b w) (e : ∀ o, w.heap[b]? = some o → w'.heap[b]? = some o) : MapTwo b w' := by
  obtain ⟨es, clock, hb, F, hs, hD⟩ := h
  exact ⟨es, clock, e _ hb, F, hs, hD⟩
set_option maxRecDepth 100000 in
set_option maxHeartbeats 1000000 in
theorem short_run (w : World) : Calls Tryz.prog 65 #[] w fun e w' => ∃ b, e = .returned (.map (some b)) ∧ w.heap.size ≤ b ∧ b < w'.heap.size ∧ MapTwo b w' ∧ Old w w' := by
  have hmm := @run_makeMap Tryz.prog
  have K := Maps.int_keyed Tryz.underlying21
  have O0 : Old w (w.alloc (.map #[] 0)) := Old.alloc (Old.refl _) _
  have own0 := World.ownsMap_made (H := Unit) w Tryz.prog 21 (plainElem Tryz.prog 5)
  obtain ⟨w1, r1, own1, g1⟩ := own0.update K Tryz.underlying103 (by unfold maxLen; omega) (key := .int .i32 34) (Maps.keyOf_int_mk Tryz.underlying21 (a := 34) (by decide)) (val := .int .u8 34) (plainElem_int Tryz.underlying5 (a := 34) (by decide))
  obtain ⟨w2, r2, own2, g2⟩ := own1.update K Tryz.underlying103 (by unfold maxLen; omega) (key := .int .i32 92) (Maps.keyOf_int_mk Tryz.underlying21 (a := 92) (by decide)) (val := .int .u8 92) (plainElem_int Tryz.underlying5 (a := 92) (by decide))
  obtain ⟨w3, r3, own3, g3⟩ := own2.update K Tryz.underlying103 (by unfold maxLen; omega) (key := .int .i32 8) (Maps.keyOf_int_mk Tryz.underlying21 (a := 8) (by decide)) (val := .int .u8 98) (plainElem_int Tryz.underlying5 (a := 98) (by decide))
  obtain ⟨w4, r4, own4, g4⟩ := own3.update K Tryz.underlying103 (by unfold maxLen; omega) (key := .int .i32 12) (Maps.keyOf_int_mk Tryz.underlying21 (a := 12) (by decide)) (val := .int .u8 102) (plainElem_int Tryz.underlying5 (a := 102) (by decide))
  obtain ⟨w5, r5, own5, g5⟩ := own4.update K Tryz.underlying103 (by unfold maxLen; omega) (key := .int .i32 10) (Maps.keyOf_int_mk Tryz.underlying21 (a := 10) (by decide)) (val := .int .u8 110) (plainElem_int Tryz.underlying5 (a := 110) (by decide))
  obtain ⟨w6, r6, own6, g6⟩ := own5.update K Tryz.underlying103 (by unfold maxLen; omega) (key := .int .i32 13) (Maps.keyOf_int_mk Tryz.underlying21 (a := 13) (by decide)) (val := .int .u8 114) (plainElem_int Tryz.underlying5 (a := 114) (by decide))
  obtain ⟨w7, r7, own7, g7⟩ := own6.update K Tryz.underlying103 (by unfold maxLen; omega) (key := .int .i32 9) (Maps.keyOf_int_mk Tryz.underlying21 (a := 9) (by decide)) (val := .int .u8 116) (plainElem_int Tryz.underlying5 (a := 116) (by decide))
  have st : ∀ {a b : World}, Old w a → a.grownBy b (some w.heap.size) → Old w b := fun ho hg => Below.grown ho hg ho.size fun k hk => by cases hk; exact Nat.le_refl _
  have O7 := hide (st (st (st (st (st (st (st O0 g1) g2) g3) g4) g5) g6) g7)
  have M7 := hide (show MapTwo w.heap.size w7 from own7)
  have L7 := hide (show w.heap.size < w7.heap.size from by obtain ⟨es, cl, hb, _⟩ := own7; exact (Array.getElem?_eq_some_iff.1 hb).1)
  clear own0 own1 own2 own3 own4 own5 own6 own7 g1 g2 g3 g4 g5 g6 g7 O0 st K
  go_enter Tryz.func65, Tryz.ntmps65
  go_wp2_with fail
  go_ret
  exact ⟨_, rfl, Nat.le_refl _, L7.out, M7.out, O7.out⟩
/-- what stands in the map -/
theorem dTwo_pair {x c : Int} (h : ∀ zd, dTwo.atKey (.int .i32 x) zd = .lit (.int .u8 c)) : (x = 8 ∧ c = 98) ∨ (x = 9 ∧ c = 116) ∨ (x = 10 ∧ c = 110) ∨ (x = 12 ∧ c = 102) ∨ (x = 13 ∧ c = 114) ∨ (x = 34 ∧ c = 34) ∨ (x = 92 ∧ c = 92) := by
  have key : ∀ es : List (Lit × DataW Unit), (DataW.map es).atKey (.int .i32 x) .nil = .lit (.int .u8 c) → ∃ p ∈ es, p.1.sameKey (.int .i32 x) = true ∧ p.2 = .lit (.int .u8 c) := by
    intro es he
    simp only [DataW.atKey] at he
    split at he
    · rename_i p hp
      exact ⟨p, List.mem_of_find?_eq_some hp, by have := List.find?_some hp; simpa using this, he⟩
    · cases he
  obtain ⟨p, hp, h1, h2⟩ := key _ (h .nil)
  simp only [List.mem_cons, List.not_mem_nil, or_false] at hp
  rcases hp with rfl | rfl | rfl | rfl | rfl | rfl | rfl <;> (simp [Lit.sameKey] at h1; injection h2 with h2; injection h2 with _ h2; omega)
end Go.Proofs.YtdlcibbbebhcoaaGreatDoor

/-! ### The reader of a literal: escape. -/
namespace Go.Proofs.YtdlcibbbebhcoaaGreatDoor
open Go.RowKit

def escR (l : List UInt8) : RSt := match escV l with | .ok (_, r) => .ok r | .error c => .error c
def escT (l : List UInt8) : List UInt8 := match escV l with | .ok (t, _) => t | .error _ => []
/-- behind the letter of an escape of six bytes, or of none: what is left, and the rune's number -/
def uniR (σ : RSt) : RSt := if isHigh (halfN false σ) = true then halfR true (wantR 117 (wantR 92 (halfR false σ))) else halfR false σ
def uniN (σ : RSt) : Nat := if isHigh (halfN false σ) = true then pairOf (halfN false σ) (halfN true (wantR 117 (wantR 92 (halfR false σ)))) else halfN false σ
theorem wantR_err (x : UInt8) (c : Int) : wantR x (.error c) = .error c := rfl
theorem uniR_err (c : Int) : uniR (.error c) = .error c := by
  unfold uniR
  rw [halfR_err, wantR_err, wantR_err, halfR_err]
  split <;> rfl
/-- .. what an escape of six bytes comes to -/
theorem esc_uni {c : UInt8} {r : List UInt8} (h1 : c ≠ 47) (h2 : shortV c = none) : escR (c :: r) = uniR (if c = 117 then .ok r else .error 41) ∧ ∀ q, escR (c :: r) = .ok q → escT (c :: r) = encL (uniN (if c = 117 then .ok r else .error 41)) := by
  unfold escR escT
  simp only [escV, if_neg h1, h2]
  by_cases hu : c = 117
  · rw [if_neg (fun h => h hu), if_pos hu]
    have hh := half_eq false r
    cases h3 : half4 false r with
    | error e =>
      rw [h3] at hh
      simp only at hh
      refine ⟨?_, fun q hq => by simp at hq⟩
      unfold uniR
      rw [hh, wantR_err, wantR_err, halfR_err]
      exact (ite_self _).symm
    | ok x =>
      obtain ⟨n, r1⟩ := x
      rw [h3] at hh
      obtain ⟨e1, e2⟩ := hh
      unfold uniR uniN
      rw [e1, e2]
      by_cases hn : isHigh n = true
      · simp only [if_pos hn]
        cases h4 : want1 92 r1 with
        | error e =>
          have : wantR 92 (.ok r1) = .error e := h4
          simp only [this, wantR_err, halfR_err]
          exact ⟨trivial, fun q hq => by cases hq⟩
        | ok r2 =>
          have w1 : wantR 92 (.ok r1) = .ok r2 := h4
          simp only [w1]
          cases h5 : want1 117 r2 with
          | error e =>
            have : wantR 117 (.ok r2) = .error e := h5
            simp only [this, halfR_err]
            exact ⟨trivial, fun q hq => by cases hq⟩
          | ok r3 =>
            have w2 : wantR 117 (.ok r2) = .ok r3 := h5
            simp only [w2]
            have hk := half_eq true r3
            cases h6 : half4 true r3 with
            | error e =>
              rw [h6] at hk
              simp only at hk
              simp only [hk]
              exact ⟨trivial, fun q hq => by cases hq⟩
            | ok y =>
              obtain ⟨k, r4⟩ := y
              rw [h6] at hk
              obtain ⟨f1, f2⟩ := hk
              simp only [f1, f2]
              exact ⟨trivial, fun q _ => trivial⟩
      · simp only [if_neg hn]
        exact ⟨trivial, fun q _ => trivial⟩
  · rw [if_pos hu, if_neg hu]
    exact ⟨(uniR_err 41).symm, fun q hq => by cases hq⟩
theorem short_pair {c : UInt8} {k : Nat} (h : shortV c = some k) : ((k : Int) = 8 ∧ (c.toNat : Int) = 98) ∨ ((k : Int) = 9 ∧ (c.toNat : Int) = 116) ∨ ((k : Int) = 10 ∧ (c.toNat : Int) = 110) ∨ ((k : Int) = 12 ∧ (c.toNat : Int) = 102) ∨ ((k : Int) = 13 ∧ (c.toNat : Int) = 114) ∨ ((k : Int) = 34 ∧ (c.toNat : Int) = 34) ∨ ((k : Int) = 92 ∧ (c.toNat : Int) = 92) := by
  unfold shortV at h
  repeat' split at h
  all_goals first | (cases h; done) | skip
  all_goals (injection h with h; subst_vars; decide)
theorem short_none {c : UInt8} (h : shortV c = none) {x y : Int} (hp : (x = 8 ∧ y = 98) ∨ (x = 9 ∧ y = 116) ∨ (x = 10 ∧ y = 110) ∨ (x = 12 ∧ y = 102) ∨ (x = 13 ∧ y = 114) ∨ (x = 34 ∧ y = 34) ∨ (x = 92 ∧ y = 92)) : y ≠ (c.toNat : Int) := by
  intro e
  have hc : c = UInt8.ofNat y.toNat := by
    rw [e]
    simp
  rcases hp with ⟨_, rfl⟩ | ⟨_, rfl⟩ | ⟨_, rfl⟩ | ⟨_, rfl⟩ | ⟨_, rfl⟩ | ⟨_, rfl⟩ | ⟨_, rfl⟩ <;> (rw [hc] at h; exact absurd h (by decide))

/-- an escape that is not of two bytes, whatever its letter -/
theorem esc_all {l : List UInt8} {c : UInt8} {σ : RSt} (hc : takeV (.ok l) = c) (hσ : takeR (.ok l) = σ) (h1 : c ≠ 47) (h2 : shortV c = none) :
    escR l = uniR (if c = 117 then σ else failR 41 σ) ∧ (∀ q, escR l = .ok q → escT l = encL (uniN (if c = 117 then σ else failR 41 σ))) ∧ ∀ e, escR l = .error e → escT l = [] := by
  refine ⟨?_, ?_, fun e he => ?_⟩
  · cases l with
    | nil =>
      simp only [takeV, takeR] at hc hσ
      subst hc hσ
      rw [if_neg (by decide), failR_err, uniR_err]
      rfl
    | cons x r =>
      simp only [takeV, takeR] at hc hσ
      subst hc hσ
      exact (esc_uni h1 h2).1
  · cases l with
    | nil => intro q hq; simp [escR, escV] at hq
    | cons x r =>
      simp only [takeV, takeR] at hc hσ
      subst hc hσ
      exact (esc_uni h1 h2).2
  · unfold escR at he
    unfold escT
    cases hx : escV l with
    | error e => rfl
    | ok x =>
      obtain ⟨t, r⟩ := x
      rw [hx] at he
      cases he
theorem pairOf_int {n k : Nat} (h : isHigh n = true) (hk : k < 65536) : ((pairOf n k : Nat) : Int) = 65536 + ((n : Int) - 55296) * 1024 + (k : Int) - 56320 := by
  unfold isHigh at h
  simp only [Bool.and_eq_true, decide_eq_true_eq] at h
  unfold pairOf
  omega
theorem halfN_lt (b : Bool) (σ : RSt) : halfN b σ < 65536 := by
  unfold halfN
  have h1 := digV_lt σ
  have h2 := digV_lt (half2R b σ)
  have h3 := digV_lt (half3R b σ)
  have h4 := digV_lt (digR (half3R b σ))
  omega
theorem halves_run (rb : Nat) (s : ByteArray) (second : Bool) (σ τ : RSt) (n : Nat) (w : World) (hs : s.size ≤ 1073741824) (h : Rd rb s σ w) (hn : halfN second σ = n) (hτ : halfR second σ = τ) :
    Calls Tryz.prog 66 #[.pointer (some ⟨rb, 0, none⟩), .bool second] w fun e w' => e = .returned (.int .i32 n) ∧ Rd rb s τ w' ∧ One rb w w' := by
  subst hn hτ
  exact half_run rb s second σ w hs h
/-- an escape of two bytes -/
theorem esc_short {l : List UInt8} {c : UInt8} {σ : RSt} {k : Nat} (hc : takeV (.ok l) = c) (hσ : takeR (.ok l) = σ) (h1 : c ≠ 47) (h2 : shortV c = some k) : escR l = σ ∧ escT l = encL k ∧ Maps.has dTwo (.int .i32 k) = true := by
  have hk : Maps.has dTwo (.int .i32 (k : Int)) = true := by
    rw [dTwo_has]
    unfold shortV at h2
    repeat' split at h2
    all_goals first | (cases h2; done) | skip
    all_goals (injection h2 with h2; subst h2; rfl)
  cases l with
  | nil =>
    simp only [takeV] at hc
    subst hc
    rw [show shortV 0 = none from by decide] at h2
    cases h2
  | cons x r =>
    simp only [takeV, takeR] at hc hσ
    subst hc hσ
    exact ⟨by simp [escR, escV, h1, h2], by simp [escT, escV, h1, h2], hk⟩
theorem short_same {c : UInt8} {k : Nat} {x y : Int} (h : ((k : Int) = 8 ∧ (c.toNat : Int) = 98) ∨ ((k : Int) = 9 ∧ (c.toNat : Int) = 116) ∨ ((k : Int) = 10 ∧ (c.toNat : Int) = 110) ∨ ((k : Int) = 12 ∧ (c.toNat : Int) = 102) ∨ ((k : Int) = 13 ∧ (c.toNat : Int) = 114) ∨ ((k : Int) = 34 ∧ (c.toNat : Int) = 34) ∨ ((k : Int) = 92 ∧ (c.toNat : Int) = 92))
    (hp : (x = 8 ∧ y = 98) ∨ (x = 9 ∧ y = 116) ∨ (x = 10 ∧ y = 110) ∨ (x = 12 ∧ y = 102) ∨ (x = 13 ∧ y = 114) ∨ (x = 34 ∧ y = 34) ∨ (x = 92 ∧ y = 92)) : (y = (c.toNat : Int) → x = k) ∧ (y ≠ (c.toNat : Int) → x ≠ k) := by
  constructor
  · intro e
    rcases h with ⟨a, b⟩ | ⟨a, b⟩ | ⟨a, b⟩ | ⟨a, b⟩ | ⟨a, b⟩ | ⟨a, b⟩ | ⟨a, b⟩ <;> rcases hp with ⟨a', b'⟩ | ⟨a', b'⟩ | ⟨a', b'⟩ | ⟨a', b'⟩ | ⟨a', b'⟩ | ⟨a', b'⟩ | ⟨a', b'⟩ <;> omega
  · intro e
    rcases h with ⟨a, b⟩ | ⟨a, b⟩ | ⟨a, b⟩ | ⟨a, b⟩ | ⟨a, b⟩ | ⟨a, b⟩ | ⟨a, b⟩ <;> rcases hp with ⟨a', b'⟩ | ⟨a', b'⟩ | ⟨a', b'⟩ | ⟨a', b'⟩ | ⟨a', b'⟩ | ⟨a', b'⟩ | ⟨a', b'⟩ <;> omega
/-- what escape hands back -/
def EscE (rb : Nat) (s : ByteArray) (l : List UInt8) (w : World) (e : Ending) (w' : World) : Prop := e = .returned (.string (bT (escT l))) ∧ Rd rb s (escR l) w' ∧ One rb w w'
theorem bT_nil : bT [] = ⟨#[]⟩ := rfl
set_option maxRecDepth 100000 in
set_option maxHeartbeats 4000000 in
theorem escape_run (rb : Nat) (s : ByteArray) (l : List UInt8) (w : World) (hs : s.size ≤ 1073741824) (h : Rd rb s (.ok l) w) :
    Calls Tryz.prog 57 #[.pointer (some ⟨rb, 0, none⟩)] w (EscE rb s l w) := by
  obtain ⟨c, hc⟩ : ∃ c, Hid (takeV (.ok l) = c) := ⟨_, hide rfl⟩
  obtain ⟨σ, hσ⟩ : ∃ x, Hid (takeR (.ok l) = x) := ⟨_, hide rfl⟩
  have CT := hide (takes_run rb s (.ok l) c w hs h hc.out)
  rw [hσ.out] at CT
  have hrb := hide (World.block_lt_of_cell? w ⟨rb, 0, none⟩ h.text)
  clear h
  by_cases h47 : c = 47
  · have FIN := hide (show escR l = σ ∧ escT l = [47] by
      cases l with
      | nil => have := hc.out; simp only [takeV] at this; rw [← this] at h47; cases h47
      | cons x r =>
        have e1 := hc.out
        have e2 := hσ.out
        simp only [takeV, takeR] at e1 e2
        subst e1 e2 h47
        simp [escR, escT, escV])
    have hq : ((c.toNat : Int) == 47) = true := by rw [h47]; rfl
    clear h47
    go_enter Tryz.func57, Tryz.ntmps57
    go_wp2_with fail
    refine CT.out.mono ?_
    rintro e w1 ⟨rfl, r1, o1⟩
    have R1 := hide r1
    have O1 := hide o1
    clear r1 o1
    go_wp2_with fail
    go_ret
    exact ⟨by rw [FIN.out.2]; rfl, by rw [FIN.out.1]; exact R1.out, O1.out⟩
  · have hq : ((c.toNat : Int) == 47) = false := by
      have : c.toNat ≠ 47 := fun e => h47 (UInt8.toNat_inj.1 e)
      simp; omega
    go_enter Tryz.func57, Tryz.ntmps57
    go_wp2_with fail
    refine CT.out.mono ?_
    rintro e w1 ⟨rfl, r1, o1⟩
    have R1 := hide r1
    have O1 := hide o1
    have z1 := o1.size
    clear r1 o1
    go_wp2_with fail
    refine (short_run w1).mono ?_
    rintro e w2 ⟨b, rfl, hb, hb2, M2, o2⟩
    have O2 := hide o2
    have hm := hide M2
    clear o2 M2
    have LAW := Maps.int_keyed Tryz.underlying21
    go_wp2_with (at_range; refine wpList_range_own _ rfl _ 103 rfl 21 5 LAW Tryz.underlying103 _ b 7 _ rfl hm.out ?_; intro w3 hrg3 hg3 hs3)
    go_frame
    have O3 := hide (show Old w1 w3 from Below.grown O2.out hg3 O2.out.size fun k hk => by cases hk)
    have HR3 := hide hrg3
    have z3 := O2.out.size
    clear hrg3 hg3 hs3
    cases hsv : shortV c with
    | some k =>
      have SP := hide (short_pair hsv)
      have FIN := hide (esc_short hc.out hσ.out h47 hsv)
      clear hsv h47
      go_loopw [4] (fun _ wr => ∃ (left : Lit → Bool) (cnt : Nat), Hid (left (.int .i32 (k : Int)) = true) ∧ Hid (wr.ranges (H := Unit) Tryz.prog 21 (plainElem Tryz.prog 5) b w2.heap.size 7 dTwo left cnt) ∧ Hid (Old w1 wr)) (fun _ wr => wr.rangeLeft b w2.heap.size)
      case atStart => exact ⟨_, _, hide FIN.out.2.2, HR3, O3⟩
      case round =>
        obtain ⟨left, cnt, hlk, hrg, HO⟩ := hrel
        go_wp2_with (at_next; refine wpList_next_ranges_ii _ rfl _ rfl 21 5 .i32 .u8 LAW Tryz.underlying21 Tryz.underlying5 b w2.heap.size 7 _ _ _ rfl hrg.out ?_ ?_)
        · intro _ hno
          exact absurd (hlk.out.symm.trans (hno _)) (by decide)
        · intro x y w4 cnt1 hwx hwc hlx hat hrg1 hlt hg1 hs1 hen
          have SS := hide (short_same SP.out (dTwo_pair hat))
          have HG1 := hide hrg1
          have O4 := hide (show Old w1 w4 from Below.grown HO.out hg1 HO.out.size fun k hk => by cases hk; exact z3)
          have ML := hide (show w4.rangeLeft b w2.heap.size < wr.rangeLeft b w2.heap.size by rw [hrg1.left_eq, hrg.out.left_eq]; exact hlt)
          clear hat hrg1 hg1 hlx hlt
          by_cases hy : y = (c.toNat : Int)
          · have hx := SS.out.1 hy
            subst hx
            have hy' : (y == (c.toNat : Int)) = true := by simp [hy]
            have EE := hide (show bT (escT l) = Utf8.encode ((k : Nat) : Int) by rw [FIN.out.2.1]; unfold encL; rw [bT_of])
            have RF := hide (show Rd rb s (escR l) w4 by rw [FIN.out.1]; exact R1.out.old O4.out)
            have OF := hide (show One rb w w4 from One.trans O1.out ((One.refl rb w1).old O4.out))
            clear hy
            go_wp2_with fail
            go_ret
            exact ⟨by rw [EE.out]; rfl, RF.out, OF.out⟩
          · have hx := SS.out.2 hy
            have hy' : (y == (c.toNat : Int)) = false := beq_eq_false_iff_ne.2 hy
            have HL := hide (show (left (.int .i32 (k : Int)) && !(Lit.int .i32 (k : Int)).sameKey (.int .i32 x)) = true by
              rw [hlk.out]
              simp [Lit.sameKey]
              omega)
            clear hy hx
            go_wp2_with fail
            go_roundw
            case rel => exact ⟨_, cnt1, HL, HG1, O4⟩
            case measure => exact ML.out
    | none =>
      have SN := hide (fun (x y : Int) hp => short_none hsv (x := x) (y := y) hp)
      have EU := hide (esc_all hc.out hσ.out h47 hsv)
      clear hsv h47
      go_loopw [4] (fun _ wr => ∃ (left : Lit → Bool) (cnt : Nat), Hid (wr.ranges (H := Unit) Tryz.prog 21 (plainElem Tryz.prog 5) b w2.heap.size 7 dTwo left cnt) ∧ Hid (Old w1 wr)) (fun _ wr => wr.rangeLeft b w2.heap.size)
      case atStart => exact ⟨_, _, HR3, O3⟩
      case round =>
        obtain ⟨left, cnt, hrg, HO⟩ := hrel
        go_wp2_with (at_next; refine wpList_next_ranges_ii _ rfl _ rfl 21 5 .i32 .u8 LAW Tryz.underlying21 Tryz.underlying5 b w2.heap.size 7 _ _ _ rfl hrg.out ?_ ?_)
        · intro _ _
          have ON := hide (One.trans O1.out ((One.refl rb w1).old HO.out))
          have RN := hide (R1.out.old HO.out)
          have hu2 := hide (show True from trivial)
          obtain ⟨σ2, h2⟩ : ∃ x, Hid ((if c = 117 then σ else failR 41 σ) = x) := ⟨_, hide rfl⟩
          rw [h2.out] at EU
          obtain ⟨n, hn⟩ : ∃ x, Hid (halfN false σ2 = x) := ⟨_, hide rfl⟩
          have hnlt : n < 65536 := by rw [← hn.out]; exact halfN_lt _ _
          obtain ⟨σ3, h3⟩ : ∃ x, Hid (halfR false σ2 = x) := ⟨_, hide rfl⟩
          have C3 := hide (fun w' (r : Rd rb s σ2 w') => halves_run rb s false σ2 σ3 n w' hs r hn.out h3.out)
          obtain ⟨m, hm2⟩ : ∃ x, Hid (uniN σ2 = x) := ⟨_, hide rfl⟩
          obtain ⟨σ6, h6⟩ : ∃ x, Hid (uniR σ2 = x) := ⟨_, hide rfl⟩
          rw [hm2.out, h6.out] at EU
          have UN := hm2
          have UR := h6
          have UN := hide hm2.out
          have UR := hide h6.out
          unfold uniN at UN
          unfold uniR at UR
          rw [hn.out, h3.out] at UN UR
          clear hrg HO HR3 O3 R1 O1 O2 hm hn h3 hm2 h6
          go_upto_if 24 with fail
          go_cut [] (fun wd => Hid (Rd rb s σ2 wd) ∧ Hid (One rb w wd))
          case first =>
            by_cases hu : c = 117
            · have e2 := h2.out
              rw [if_pos hu] at e2
              have FIN := hide (show Rd rb s σ2 wr by rw [← e2]; exact RN.out)
              have hq2 : ((c.toNat : Int) != 117) = false := by rw [hu]; rfl
              clear hu e2
              go_wp2_with fail
              go_meet
              exact ⟨FIN, ON⟩
            · have e2 := h2.out
              rw [if_neg hu] at e2
              have CF := hide (rfail_run rb s σ 41 wr RN.out (by decide))
              rw [e2] at CF
              have hq2 : ((c.toNat : Int) != 117) = true := by
                have : c.toNat ≠ 117 := fun e => hu (UInt8.toNat_inj.1 e)
                simp; omega
              clear hu e2
              go_wp2_with fail
              refine CF.out.mono ?_
              rintro e w5 ⟨rfl, r5, o5⟩
              have R5 := hide r5
              have O5 := hide (ON.out.trans o5)
              clear r5 o5
              go_wp2_with fail
              go_meet
              exact ⟨R5, O5⟩
          case rest =>
            obtain ⟨R5, O5⟩ := hcut
            go_wp2_with fail
            refine (C3.out _ R5.out).mono ?_
            rintro e w6 ⟨rfl, r6, o6⟩
            have R6 := hide r6
            have O6 := hide (O5.out.trans o6)
            clear r6 o6 C3 R5 O5
            obtain ⟨B, hB⟩ : ∃ B, Hid (isHigh n = B) := ⟨_, hide rfl⟩
            rw [hB.out] at UN UR
            go_upto_region 12 with fail
            go_cut [34] (fun bv wd => bv = .bool B ∧ wd = w6)
            case first =>
              by_cases g1 : 55296 ≤ n
              · have g1' : (55296 : Int) ≤ (n : Int) := by omega
                by_cases g2 : n < 56320
                · have g2' : (n : Int) < 56320 := by omega
                  have e0 := hide (show B = true by rw [← hB.out]; unfold isHigh; rw [decide_eq_true g1, decide_eq_true g2]; rfl)
                  go_wp2_with fail
                  go_meet
                  exact ⟨by rw [e0.out], rfl⟩
                · have g2' : ¬ (n : Int) < 56320 := by omega
                  have e0 := hide (show B = false by rw [← hB.out]; unfold isHigh; rw [decide_eq_false g2, Bool.and_false])
                  go_wp2_with fail
                  go_meet
                  exact ⟨by rw [e0.out], rfl⟩
              · have g1' : ¬ (55296 : Int) ≤ (n : Int) := by omega
                have e0 := hide (show B = false by rw [← hB.out]; unfold isHigh; rw [decide_eq_false g1, Bool.false_and])
                go_wp2_with fail
                go_meet
                exact ⟨by rw [e0.out], rfl⟩
            case rest =>
              obtain ⟨rfl, rfl⟩ := hcut
              go_upto_if 34 with fail
              go_cut [6] (fun nv wd => nv = .int .i32 (m : Int) ∧ Hid (Rd rb s σ6 wd) ∧ Hid (One rb w wd))
              case first =>
                cases B
                · have e1 := UN.out
                  have e2 := UR.out
                  rw [if_neg (by decide)] at e1 e2
                  have FIN := hide (show Rd rb s σ6 _ by rw [← e2]; exact R6.out)
                  have EM := hide e1
                  clear e1 e2
                  go_wp2_with fail
                  go_meet
                  exact ⟨by rw [EM.out], FIN, O6⟩
                · have e1 := UN.out
                  have e2 := UR.out
                  rw [if_pos rfl] at e1 e2
                  obtain ⟨σ4, h4⟩ : ∃ x, Hid (wantR 92 σ3 = x) := ⟨_, hide rfl⟩
                  rw [h4.out] at e1 e2
                  obtain ⟨σ5, h5⟩ : ∃ x, Hid (wantR 117 σ4 = x) := ⟨_, hide rfl⟩
                  rw [h5.out] at e1 e2
                  obtain ⟨k, hk⟩ : ∃ x, Hid (halfN true σ5 = x) := ⟨_, hide rfl⟩
                  have hklt : k < 65536 := by rw [← hk.out]; exact halfN_lt _ _
                  rw [hk.out] at e1
                  have PI := pairOf_int hB.out hklt
                  rw [e1] at PI
                  have E2 := hide e2
                  have hn1 : 55296 ≤ n ∧ n < 56320 := by
                    have := hB.out
                    unfold isHigh at this
                    simpa using this
                  have PII := hide PI
                  have CW1 := hide (want_run rb s σ3 92 _ hs R6.out)
                  rw [h4.out] at CW1
                  clear e1 e2 PI
                  obtain ⟨hn1, hn2⟩ := hn1
                  go_wp2_with fail
                  refine CW1.out.mono ?_
                  rintro e w7 ⟨rfl, r7, o7⟩
                  have O7 := hide (O6.out.trans o7)
                  have CW2 := hide (want_run rb s σ4 117 _ hs r7)
                  rw [h5.out] at CW2
                  clear r7 o7 CW1
                  go_wp2_with fail
                  refine CW2.out.mono ?_
                  rintro e w8 ⟨rfl, r8, o8⟩
                  have O8 := hide (O7.out.trans o8)
                  have CH := hide (halves_run rb s true σ5 σ6 k w8 hs r8 hk.out E2.out)
                  clear r8 o8 CW2
                  go_wp2_with fail
                  refine CH.out.mono ?_
                  rintro e w9 ⟨rfl, r9, o9⟩
                  have O9 := hide (O8.out.trans o9)
                  have R9 := hide r9
                  clear r9 o9 CH
                  go_wp2_with fail
                  go_meet
                  exact ⟨by rw [PII.out], R9, O9⟩
              case rest =>
                obtain ⟨rfl, R9, O9⟩ := hcut
                have RR := R9.out
                obtain ⟨_, _, _, at_, er, _, x2, hst⟩ := RR
                cases σ6 with
                | error d =>
                  obtain ⟨rfl, hd⟩ := hst
                  have hd' : (er != 0) = true := by simpa using hd
                  have FT := hide (EU.out.2.2 er EU.out.1)
                  have FR := hide EU.out.1
                  clear hd
                  go_wp2_with fail
                  go_ret
                  exact ⟨by rw [FT.out]; rfl, by rw [FR.out]; exact R9.out, O9.out⟩
                | ok q =>
                  obtain ⟨rfl, _⟩ := hst
                  have FT := hide (EU.out.2.1 q EU.out.1)
                  have FR := hide EU.out.1
                  go_wp2_with fail
                  go_ret
                  exact ⟨by rw [FT.out]; unfold encL; rw [bT_of]; rfl, by rw [FR.out]; exact R9.out, O9.out⟩
        · intro x y w4 cnt1 hwx hwc hlx hat hrg1 hlt hg1 hs1 hen
          have hne := SN.out x y (dTwo_pair hat)
          have hne' : (y == (c.toNat : Int)) = false := beq_eq_false_iff_ne.2 hne
          have HG1 := hide hrg1
          have O4 := hide (show Old w1 w4 from Below.grown HO.out hg1 HO.out.size fun k hk => by cases hk; exact z3)
          have ML := hide (show w4.rangeLeft b w2.heap.size < wr.rangeLeft b w2.heap.size by rw [hrg1.left_eq, hrg.out.left_eq]; exact hlt)
          clear hne hat hrg1 hg1 hlx hlt
          go_wp2_with fail
          go_roundw
          case rel => exact ⟨_, cnt1, HG1, O4⟩
          case measure => exact ML.out
end Go.Proofs.YtdlcibbbebhcoaaGreatDoor
