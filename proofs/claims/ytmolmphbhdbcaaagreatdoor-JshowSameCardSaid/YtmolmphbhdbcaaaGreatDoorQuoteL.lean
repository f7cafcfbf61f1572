/- What the literal with which a text begins says, or what is wrong with it: plain laws. No program is named here. -/
import Derived.Test.YtmolmphbhdbcaaaGreatDoorBase
import Derived.Lib.DecodeN
import Derived.Lib.ItoaNum
import Derived.Test.YtmolmphbhdbcaaaGreatDoorRefV
import Derived.Lib.RuneBytes
import Derived.Lib.ValidLaws
/-! ### What the literal with which a text begins says, or what is wrong with it: plain laws. No program is named here. -/
namespace Go.Proofs.YtmolmphbhdbcaaaGreatDoor

/-- the bytes as a text -/
def bT (l : List UInt8) : ByteArray := ⟨l.toArray⟩
theorem bT_size (l : List UInt8) : (bT l).size = l.length := by simp [bT, ByteArray.size]
theorem bT_of (s : ByteArray) : bT s.data.toList = s := by cases s; simp [bT]
/-- a rune's bytes -/
def encL (n : Nat) : List UInt8 := (Utf8.encode (n : Int)).data.toList
/-- a digit to the base 16 -/
def hexV (c : UInt8) : Option Nat :=
  if 48 ≤ c.toNat ∧ c.toNat ≤ 57 then some (c.toNat - 48) else if 97 ≤ c.toNat ∧ c.toNat ≤ 102 then some (c.toNat - 87) else if 65 ≤ c.toNat ∧ c.toNat ≤ 70 then some (c.toNat - 55) else none
theorem hexV_lt {c : UInt8} {k : Nat} (h : hexV c = some k) : k < 16 := by
  unfold hexV at h
  split at h
  · injection h with h; omega
  · split at h
    · injection h with h; omega
    · split at h
      · injection h with h; omega
      · cases h
/-- a digit, and what stands behind it -/
def hex1 : List UInt8 → Except Int (Nat × List UInt8)
  | [] => .error 3
  | c :: r => match hexV c with
    | none => .error 41
    | some k => .ok (k, r)
/-- is that the second digit of a second half? -/
def lowHalf (n : Nat) : Bool := decide (220 ≤ n ∧ n ≤ 223)
/-- four digits: of the second half of a rune, or of what is none -/
def half4 (second : Bool) (l : List UInt8) : Except Int (Nat × List UInt8) :=
  match hex1 l with
  | .error e => .error e
  | .ok (a, l1) => if second = true ∧ a ≠ 13 then .error 41 else match hex1 l1 with
    | .error e => .error e
    | .ok (b, l2) => if second ≠ lowHalf (16 * a + b) then .error 41 else match hex1 l2 with
      | .error e => .error e
      | .ok (c, l3) => match hex1 l3 with
        | .error e => .error e
        | .ok (d, l4) => .ok (4096 * a + 256 * b + 16 * c + d, l4)
/-- a byte that must stand there -/
def want1 (x : UInt8) : List UInt8 → Except Int (List UInt8)
  | [] => .error 3
  | c :: r => if c = x then .ok r else .error 41
/-- the rune of two bytes' escape -/
def shortV (c : UInt8) : Option Nat :=
  if c = 34 then some 34 else if c = 92 then some 92 else if c = 98 then some 8 else if c = 102 then some 12 else if c = 110 then some 10 else if c = 114 then some 13 else if c = 116 then some 9 else none
/-- is that the first half of a rune? -/
def isHigh (n : Nat) : Bool := decide (55296 ≤ n) && decide (n < 56320)
/-- a rune of its halves -/
def pairOf (n k : Nat) : Nat := 65536 + (n - 55296) * 1024 + k - 56320
/-- what an escape says, behind its first byte -/
def escV : List UInt8 → Except Int (List UInt8 × List UInt8)
  | [] => .error 3
  | c :: r => if c = 47 then .ok ([47], r) else match shortV c with
    | some k => .ok (encL k, r)
    | none => if c ≠ 117 then .error 41 else match half4 false r with
      | .error e => .error e
      | .ok (n, r1) => if isHigh n = true then (match want1 92 r1 with
          | .error e => .error e
          | .ok r2 => match want1 117 r2 with
            | .error e => .error e
            | .ok r3 => match half4 true r3 with
              | .error e => .error e
              | .ok (k, r4) => .ok (encL (pairOf n k), r4))
        else .ok (encL n, r1)
/-- is the rune, with which so many bytes begin that are none yet, whole (or never one)? -/
def fullN (n a b c : Nat) : Bool :=
  if Lib.firstT a % 8 ≤ n then true else if 1 < n ∧ (b < Lib.accLo (Lib.firstT a / 16) ∨ Lib.accHi (Lib.firstT a / 16) < b) then true else decide (2 < n ∧ (c < 128 ∨ 191 < c))
def fullB (l : List UInt8) : Bool := fullN l.length (l.getD 0 0).toNat (l.getD 1 0).toNat (l.getD 2 0).toNat
/-- the rune with which a text begins, in bytes; 0: none -/
def runeN (l : List UInt8) : Nat := if Utf8.decode (bT l) 0 = (65533, 1) then 0 else (Utf8.decode (bT l) 0).2
/-- what stands as it is -/
def plainV : List UInt8 → Except Int (List UInt8 × List UInt8)
  | [] => .error 3
  | c :: r => if c.toNat < 32 then .error 41 else if runeN (c :: r) ≠ 0 then .ok ((c :: r).take (runeN (c :: r)), (c :: r).drop (runeN (c :: r))) else if fullB (c :: r) = false then .error 3 else .error 40
/-- a piece of a literal -/
def pieceV : List UInt8 → Except Int (List UInt8 × List UInt8)
  | [] => .error 3
  | c :: r => if c = 92 then escV r else plainV (c :: r)
/-- the rest of a literal -/
def unqB : Nat → List UInt8 → Except Int (List UInt8 × List UInt8)
  | 0, _ => .error 3
  | _ + 1, [] => .error 3
  | f + 1, c :: r => if c = 34 then .ok ([], r) else match pieceV (c :: r) with
    | .error e => .error e
    | .ok (t, r1) => match unqB f r1 with
      | .error e => .error e
      | .ok (u, r2) => .ok (t ++ u, r2)
/-- a literal: what it says, and what stands behind it -/
def unqV : List UInt8 → Except Int (List UInt8 × List UInt8)
  | [] => .error 3
  | c :: r => if c ≠ 34 then .error 41 else unqB (r.length + 1) r

section
theorem hex1_less {l r : List UInt8} {k : Nat} (h : hex1 l = .ok (k, r)) : r.length < l.length ∧ k < 16 := by
  cases l with
  | nil => cases h
  | cons c l =>
    simp only [hex1] at h
    split at h
    · cases h
    · rename_i k' hk
      injection h with h
      injection h with h1 h2
      subst h1 h2
      exact ⟨by simp, hexV_lt hk⟩
theorem half4_less {s : Bool} {l r : List UInt8} {k : Nat} (h : half4 s l = .ok (k, r)) : r.length < l.length ∧ k < 65536 := by
  unfold half4 at h
  split at h
  · cases h
  rename_i a l1 h1
  split at h
  · cases h
  split at h
  · cases h
  rename_i b l2 h2
  split at h
  · cases h
  split at h
  · cases h
  rename_i c l3 h3
  split at h
  · cases h
  rename_i d l4 h4
  injection h with h
  injection h with e1 e2
  subst e1 e2
  have := hex1_less h1
  have := hex1_less h2
  have := hex1_less h3
  have := hex1_less h4
  omega
theorem want1_less {x : UInt8} {l r : List UInt8} (h : want1 x l = .ok r) : r.length < l.length := by
  cases l with
  | nil => cases h
  | cons c l =>
    simp only [want1] at h
    split at h
    · injection h with h
      subst h
      simp
    · cases h
theorem escV_less {l r t : List UInt8} (h : escV l = .ok (t, r)) : r.length < l.length := by
  cases l with
  | nil => cases h
  | cons c l =>
    simp only [escV] at h
    split at h
    · injection h with h; injection h with _ h; subst h; simp
    split at h
    · injection h with h; injection h with _ h; subst h; simp
    split at h
    · cases h
    split at h
    · cases h
    rename_i n r1 h1
    have a1 := (half4_less h1).1
    split at h
    · split at h
      · cases h
      rename_i r2 h2
      have a2 := want1_less h2
      split at h
      · cases h
      rename_i r3 h3
      have a3 := want1_less h3
      split at h
      · cases h
      rename_i k r4 h4
      have a4 := (half4_less h4).1
      injection h with h; injection h with _ h; subst h
      simp; omega
    · injection h with h; injection h with _ h; subst h
      simp; omega
theorem pieceV_less {l r t : List UInt8} (h : pieceV l = .ok (t, r)) : r.length < l.length := by
  cases l with
  | nil => cases h
  | cons c l =>
    simp only [pieceV] at h
    split at h
    · have := escV_less h
      simp; omega
    · simp only [plainV] at h
      split at h
      · cases h
      split at h
      · rename_i hn
        injection h with h; injection h with _ h; subst h
        simp only [List.length_drop, List.length_cons]
        omega
      · split at h <;> cases h
theorem unqB_more : ∀ (f g : Nat) (l : List UInt8), l.length < f → l.length < g → unqB f l = unqB g l
  | 0, _, _, h, _ => absurd h (by omega)
  | _, 0, _, _, h => absurd h (by omega)
  | f + 1, g + 1, [], _, _ => rfl
  | f + 1, g + 1, c :: r, h1, h2 => by
    simp only [unqB]
    split
    · rfl
    split
    · rfl
    · rename_i t r1 hp
      have := pieceV_less hp
      simp only [List.length_cons] at h1 h2 this
      rw [unqB_more f g r1 (by omega) (by omega)]
theorem unqB_less : ∀ (f : Nat) (l r t : List UInt8), unqB f l = .ok (t, r) → r.length < l.length
  | 0, _, _, _, h => by cases h
  | f + 1, [], _, _, h => by cases h
  | f + 1, c :: l, r, t, h => by
    simp only [unqB] at h
    split at h
    · injection h with h; injection h with _ h; subst h; simp
    split at h
    · cases h
    rename_i t1 r1 h1
    split at h
    · cases h
    rename_i u r2 h2
    have a1 := pieceV_less h1
    have a2 := unqB_less f r1 r2 u h2
    injection h with h; injection h with _ h; subst h
    omega
theorem unqV_less {l r t : List UInt8} (h : unqV l = .ok (t, r)) : r.length + 1 < l.length := by
  cases l with
  | nil => cases h
  | cons c l =>
    simp only [unqV] at h
    split at h
    · cases h
    · have := unqB_less _ _ _ _ h
      simp; omega
end
end Go.Proofs.YtmolmphbhdbcaaaGreatDoor

/-! ### What a value is as a text: plain laws. No program is named here. -/
namespace Go.Proofs.YtmolmphbhdbcaaaGreatDoor

/-- a digit to the base 16 -/
def hexB (n : Nat) : UInt8 := UInt8.ofNat (if n < 10 then 48 + n else 87 + n)
/-- a byte, as it stands in a literal -/
def esc1 (b : UInt8) : List UInt8 :=
  if b = 34 ∨ b = 92 then [92, b] else if b = 8 then [92, 98] else if b = 12 then [92, 102] else if b = 10 then [92, 110] else if b = 13 then [92, 114] else if b = 9 then [92, 116]
  else if b.toNat < 32 then [92, 117, 48, 48, hexB (b.toNat / 16), hexB (b.toNat % 16)] else [b]
theorem esc1_len (b : UInt8) : 1 ≤ (esc1 b).length ∧ (esc1 b).length ≤ 6 := by
  unfold esc1
  repeat' split
  all_goals simp
def escL (l : List UInt8) : List UInt8 := l.flatMap esc1
theorem escL_nil : escL [] = [] := rfl
theorem escL_append (a b : List UInt8) : escL (a ++ b) = escL a ++ escL b := by simp [escL]
theorem escL_one (b : UInt8) : escL [b] = esc1 b := by simp [escL]
theorem escL_len (l : List UInt8) : l.length ≤ (escL l).length ∧ (escL l).length ≤ 6 * l.length := by
  induction l with
  | nil => simp [escL]
  | cons b l ih =>
    have h := esc1_len b
    rw [show escL (b :: l) = esc1 b ++ escL l by simp [escL], List.length_append, List.length_cons]
    omega
/-- bytes that stand as they are -/
theorem escL_high {l : List UInt8} (h : ∀ b ∈ l, 128 ≤ b.toNat) : escL l = l := by
  induction l with
  | nil => rfl
  | cons b l ih =>
    have hb := h b (by simp)
    have e : esc1 b = [b] := by
      have hn : ∀ c : UInt8, c.toNat < 128 → b ≠ c := fun c hc e => by subst e; omega
      unfold esc1
      rw [if_neg (by intro h; rcases h with h | h; exact hn 34 (by decide) h; exact hn 92 (by decide) h), if_neg (hn 8 (by decide)), if_neg (hn 12 (by decide)), if_neg (hn 10 (by decide)), if_neg (hn 13 (by decide)), if_neg (hn 9 (by decide)), if_neg (by omega)]
    rw [show escL (b :: l) = esc1 b ++ escL l by simp [escL], e, ih fun x hx => h x (by simp [hx])]
    rfl
/-- a literal -/
def quoteL (s : ByteArray) : List UInt8 := 34 :: (escL s.data.toList ++ [34])
theorem quoteL_len (s : ByteArray) : s.size + 2 ≤ (quoteL s).length ∧ (quoteL s).length ≤ 6 * s.size + 2 := by
  have h := escL_len s.data.toList
  have e : s.data.toList.length = s.size := Array.length_toList
  rw [e] at h
  simp only [quoteL, List.length_cons, List.length_append, List.length_nil]
  omega

mutual
/-- a value's text -/
def J.show : J → List UInt8
  | .mk h l => if h.kind = 1 then [110, 117, 108, 108] else if h.kind = 2 then [102, 97, 108, 115, 101] else if h.kind = 3 then [116, 114, 117, 101] else if h.kind = 4 then Lib.itoa h.n else if h.kind = 5 then quoteL h.s
    else if h.kind = 6 then 91 :: (J.shows false true l ++ [93]) else 123 :: (J.shows true true l ++ [125])
/-- that of parts: of an object, with their keys; the first one has no comma -/
def J.shows (o first : Bool) : List J → List UInt8
  | [] => []
  | j :: l => ((if first then [] else [44]) ++ (if o then quoteL j.key ++ [58] else []) ++ j.show) ++ J.shows o false l
end
/-- a part's text, with what stands ahead of it -/
def partShow (o first : Bool) (j : J) : List UInt8 := (if first then [] else [44]) ++ (if o then quoteL j.key ++ [58] else []) ++ j.show
theorem shows_nil (o f : Bool) : J.shows o f [] = [] := by simp [J.shows]
theorem shows_cons (o f : Bool) (j : J) (l : List J) : J.shows o f (j :: l) = partShow o f j ++ J.shows o false l := by simp [J.shows, partShow]
theorem shows_snoc (o : Bool) (j : J) : ∀ (l : List J) (f : Bool), J.shows o f (l ++ [j]) = J.shows o f l ++ partShow o (f && l.isEmpty) j
  | [], f => by simp [shows_cons, shows_nil]
  | x :: l, f => by
    rw [List.cons_append, shows_cons, shows_snoc o j l false, shows_cons, List.append_assoc]
    simp
theorem itoa_len {n : Int} (h0 : -9223372036854775808 ≤ n) (h1 : n ≤ 9223372036854775807) : (Lib.itoa n).length ≤ 20 := by
  have key : ∀ u : Nat, u ≤ 9223372036854775808 → (Lib.decDigits u).length ≤ 19 := by
    intro u hu
    rw [Lib.decDigits_length]
    rcases Nat.lt_or_ge 19 (Lib.nDigits u) with h | h
    · exfalso
      have mono : ∀ k v : Nat, k < Lib.nDigits v → 10 ^ k ≤ v ∨ k = 0 := by
        intro k
        induction k with
        | zero => intro v _; exact .inr rfl
        | succ k ih =>
          intro v hv
          by_cases h10 : v < 10
          · rw [Lib.nDigits_small h10] at hv
            omega
          · rw [Lib.nDigits_big h10] at hv
            rcases ih (v / 10) (by omega) with h | rfl
            · left
              rw [Nat.pow_succ]
              omega
            · left
              omega
      rcases mono 19 u h with h | h
      · have : (10 : Nat) ^ 19 = 10000000000000000000 := by decide
        omega
      · omega
    · exact h
  unfold Lib.itoa
  split
  · have := key n.natAbs (by omega)
    simp only [List.length_cons]
    omega
  · have := key n.toNat (by omega)
    omega
/-- how much room nodes take, at most -/
def ndRoom (l : List Nd) : Nat := (l.map fun x => 6 * (x.key.size + x.s.size) + 32).sum
theorem ndRoom_nil : ndRoom [] = 0 := rfl
theorem ndRoom_cons (x : Nd) (l : List Nd) : ndRoom (x :: l) = 6 * (x.key.size + x.s.size) + 32 + ndRoom l := by simp [ndRoom]
theorem ndRoom_append (a b : List Nd) : ndRoom (a ++ b) = ndRoom a + ndRoom b := by simp [ndRoom]
/-- numbers of 64 bits -/
def NumsOk (l : List Nd) : Prop := ∀ x ∈ l, -9223372036854775808 ≤ x.n ∧ x.n ≤ 9223372036854775807
theorem NumsOk.left {a b : List Nd} (h : NumsOk (a ++ b)) : NumsOk a := fun x hx => h x (by simp [hx])
theorem NumsOk.right {a b : List Nd} (h : NumsOk (a ++ b)) : NumsOk b := fun x hx => h x (by simp [hx])
theorem show_room : (∀ j : J, NumsOk j.flat → j.show.length + 6 * j.key.size + 4 ≤ ndRoom j.flat) ∧ ∀ l : List J, NumsOk (J.flats l) → ∀ o f, (J.shows o f l).length ≤ ndRoom (J.flats l) := by
  refine J.both ?_ ?_ ?_
  · intro h l ih hn
    rw [flat_mk] at hn ⊢
    have hh := hn ⟨h.kind, h.key, h.n, h.s, (J.flats l).length + 1⟩ (by simp)
    have i1 : (Lib.itoa h.n).length ≤ 20 := itoa_len hh.1 hh.2
    have i2 := ih (fun x hx => hn x (by simp [hx])) false true
    have i3 := ih (fun x hx => hn x (by simp [hx])) true true
    have i4 := (quoteL_len h.s).2
    rw [ndRoom_cons]
    have ek : (J.mk h l).key = h.key := rfl
    rw [ek]
    simp only [J.show]
    repeat' split
    all_goals (try simp only [List.length_cons, List.length_append, List.length_nil])
    all_goals omega
  · intro _ o f
    simp [shows_nil]
  · intro j l h1 h2 hn o f
    rw [shows_cons, List.length_append, show J.flats (j :: l) = j.flat ++ J.flats l by simp [J.flats], ndRoom_append]
    rw [show J.flats (j :: l) = j.flat ++ J.flats l by simp [J.flats]] at hn
    have a1 := h1 hn.left
    have a2 := h2 hn.right o false
    have i4 := (quoteL_len j.key).2
    unfold partShow
    simp only [List.length_append]
    split <;> split
    all_goals simp only [List.length_cons, List.length_append, List.length_nil]
    all_goals omega

/-! What is written to a text that may be no longer than M: it is given up behind that. -/
def maxText : Nat := 1048576
structure Puts (acc out bs : List UInt8) : Prop where
  fits : acc.length + out.length ≤ maxText → bs = acc ++ out
  over : maxText < acc.length + out.length → maxText < bs.length
  more : acc.length ≤ bs.length
  most : bs.length ≤ acc.length + out.length
theorem Puts.all (acc out : List UInt8) : Puts acc out (acc ++ out) := ⟨fun _ => rfl, fun h => by simpa using h, by simp, by simp⟩
theorem Puts.none (acc : List UInt8) : Puts acc [] acc := by simpa using Puts.all acc []
theorem Puts.full {acc : List UInt8} (out : List UInt8) (h : maxText < acc.length) : Puts acc out acc := ⟨fun h' => by omega, fun _ => h, Nat.le_refl _, by omega⟩
theorem Puts.trans {acc a b1 b b2 : List UInt8} (h : Puts acc a b1) (k : Puts b1 b b2) : Puts acc (a ++ b) b2 := by
  refine ⟨fun hf => ?_, fun hf => ?_, Nat.le_trans h.more k.more, ?_⟩
  · rw [List.length_append] at hf
    have e := h.fits (by omega)
    subst e
    rw [k.fits (by rw [List.length_append]; omega), List.append_assoc]
  · rw [List.length_append] at hf
    rcases Nat.lt_or_ge maxText (acc.length + a.length) with h1 | h1
    · exact Nat.lt_of_lt_of_le (h.over h1) k.more
    · have e := h.fits h1
      subst e
      exact k.over (by rw [List.length_append]; omega)
  · rw [List.length_append]
    have h1 := h.most
    have h2 := k.most
    omega
end Go.Proofs.YtmolmphbhdbcaaaGreatDoor

/-! ### What a literal is made of, rune by rune: plain laws. -/
namespace Go.Proofs.YtmolmphbhdbcaaaGreatDoor
open Go.RowKit

/-- what is said of the first rune of some bytes -/
structure RuneAt (l : List UInt8) (r n : Nat) : Prop where
  pos : 1 ≤ n
  le : n ≤ l.length
  enc : Lib.encodeRune (r : Int) = l.take n
  high : 128 ≤ r → ∀ b ∈ l.take n, 128 ≤ b.toNat
  low : r < 128 → n = 1
  most : r ≤ 1114111
theorem enc_one {a : UInt8} {r : List UInt8} (h : a.toNat < 128) : RuneAt (a :: r) a.toNat 1 := by
  refine ⟨Nat.le_refl _, by simp, ?_, fun h' => by omega, fun _ => rfl, by omega⟩
  unfold Lib.encodeRune
  rw [Lib.encodeRuneZ_one (by omega) (by omega)]
  simp
theorem u8_eq {x : Int} {a : UInt8} (h : x = a.toNat) : x.toNat.toUInt8 = a := by
  subst h
  simp
theorem enc_two {a b : UInt8} {r : List UInt8} (h1 : a.toNat / 32 = 6) (h2 : b.toNat / 64 = 2) (h3 : 128 ≤ a.toNat % 32 * 64 + b.toNat % 64) : RuneAt (a :: b :: r) (a.toNat % 32 * 64 + b.toNat % 64) 2 := by
  refine ⟨by omega, by simp, ?_, fun _ x hx => ?_, fun h => by omega, by omega⟩
  · unfold Lib.encodeRune
    rw [Lib.encodeRuneZ_two (by omega) (by omega)]
    simp only [List.map_cons, List.map_nil, List.take_succ_cons, List.take_zero]
    rw [u8_eq (a := a) (by omega), u8_eq (a := b) (by omega)]
  · simp at hx
    rcases hx with rfl | rfl <;> omega
theorem enc_three {a b c : UInt8} {r : List UInt8} (h1 : a.toNat / 16 = 14) (h2 : b.toNat / 64 = 2) (h3 : c.toNat / 64 = 2) (h4 : 2048 ≤ a.toNat % 16 * 4096 + b.toNat % 64 * 64 + c.toNat % 64)
    (h5 : Utf8.valid ((a.toNat % 16 * 4096 + b.toNat % 64 * 64 + c.toNat % 64 : Nat) : Int) = true) : RuneAt (a :: b :: c :: r) (a.toNat % 16 * 4096 + b.toNat % 64 * 64 + c.toNat % 64) 3 := by
  have hv : (a.toNat % 16 * 4096 + b.toNat % 64 * 64 + c.toNat % 64) < 55296 ∨ 57343 < (a.toNat % 16 * 4096 + b.toNat % 64 * 64 + c.toNat % 64) := by
    rw [valid_scalar] at h5
    simp at h5
    omega
  have ha := a.toNat_lt
  refine ⟨by omega, by simp, ?_, fun _ x hx => ?_, fun h => by omega, by omega⟩
  · unfold Lib.encodeRune
    rw [Lib.encodeRuneZ_three (by omega)]
    simp only [List.map_cons, List.map_nil, List.take_succ_cons, List.take_zero]
    rw [u8_eq (a := a) (by omega), u8_eq (a := b) (by omega), u8_eq (a := c) (by omega)]
  · simp at hx
    rcases hx with rfl | rfl | rfl <;> omega
theorem enc_four {a b c d : UInt8} {r : List UInt8} (h1 : a.toNat / 8 = 30) (h2 : b.toNat / 64 = 2) (h3 : c.toNat / 64 = 2) (h6 : d.toNat / 64 = 2) (h4 : 65536 ≤ a.toNat % 8 * 262144 + b.toNat % 64 * 4096 + c.toNat % 64 * 64 + d.toNat % 64)
    (h5 : Utf8.valid ((a.toNat % 8 * 262144 + b.toNat % 64 * 4096 + c.toNat % 64 * 64 + d.toNat % 64 : Nat) : Int) = true) : RuneAt (a :: b :: c :: d :: r) (a.toNat % 8 * 262144 + b.toNat % 64 * 4096 + c.toNat % 64 * 64 + d.toNat % 64) 4 := by
  have hv : (a.toNat % 8 * 262144 + b.toNat % 64 * 4096 + c.toNat % 64 * 64 + d.toNat % 64) ≤ 1114111 := by
    rw [valid_scalar] at h5
    simp at h5
    omega
  have ha := a.toNat_lt
  refine ⟨by omega, by simp, ?_, fun _ x hx => ?_, fun h => by omega, hv⟩
  · unfold Lib.encodeRune
    rw [Lib.encodeRuneZ_four (by omega) (by omega)]
    simp only [List.map_cons, List.map_nil, List.take_succ_cons, List.take_zero]
    rw [u8_eq (a := a) (by omega), u8_eq (a := b) (by omega), u8_eq (a := c) (by omega), u8_eq (a := d) (by omega)]
  · simp at hx
    rcases hx with rfl | rfl | rfl | rfl <;> omega
theorem rune_at (l : List UInt8) (h : l ≠ []) (hb : ¬ ((Lib.decodeL l).1 = 65533 ∧ (Lib.decodeL l).2 = 1)) : RuneAt l (Lib.decodeL l).1 (Lib.decodeL l).2 := by
  have bad : ∀ P : Prop, ¬ ((65533 : Nat) = 65533 ∧ (1 : Nat) = 1) → P := fun P h => absurd ⟨rfl, rfl⟩ h
  have e : Lib.decodeL l = Utf8.decode (txt l) 0 := rfl
  rw [e] at hb ⊢
  match l, h with
  | [a], _ =>
    simp only [Utf8.decode, Utf8.runeError, txt_size, Nat.zero_add, show (txt [a]).get! 0 = a from rfl, List.length_cons, List.length_nil] at hb ⊢
    split at hb
    · rename_i h1
      rw [if_pos h1]
      exact enc_one h1
    · simp at hb
  | [a, b], _ =>
    simp only [Utf8.decode, Utf8.runeError, txt_size, Nat.zero_add, show (txt [a, b]).get! 0 = a from rfl, show (txt [a, b]).get! 1 = b from rfl, List.length_cons, List.length_nil] at hb ⊢
    split at hb
    · rename_i h1
      rw [if_pos h1]
      exact enc_one h1
    · rename_i h1
      rw [if_neg h1]
      split at hb
      · rename_i h2
        rw [if_pos h2]
        simp at h2
        split at hb
        · rename_i h3
          rw [if_pos h3]
          exact enc_two h2.1 h2.2 h3
        · exact bad _ hb
      · simp at hb
  | [a, b, c], _ =>
    simp only [Utf8.decode, Utf8.runeError, txt_size, Nat.zero_add, show (txt [a, b, c]).get! 0 = a from rfl, show (txt [a, b, c]).get! 1 = b from rfl, show (txt [a, b, c]).get! 2 = c from rfl, List.length_cons, List.length_nil] at hb ⊢
    split at hb
    · rename_i h1
      rw [if_pos h1]
      exact enc_one h1
    · rename_i h1
      rw [if_neg h1]
      split at hb
      · rename_i h2
        rw [if_pos h2]
        simp at h2
        split at hb
        · rename_i h3
          rw [if_pos h3]
          exact enc_two h2.1 h2.2 h3
        · exact bad _ hb
      · rename_i h2
        rw [if_neg h2]
        split at hb
        · rename_i h3
          rw [if_pos h3]
          simp at h3
          split at hb
          · rename_i h4
            rw [if_pos h4]
            rw [Bool.and_eq_true, decide_eq_true_eq] at h4
            exact enc_three h3.1.1 h3.1.2 h3.2 h4.1 h4.2
          · exact bad _ hb
        · simp at hb
  | a :: b :: c :: d :: r, _ =>
    simp only [Utf8.decode, Utf8.runeError, txt_size, Nat.zero_add, show (txt (a :: b :: c :: d :: r)).get! 0 = a from rfl, show (txt (a :: b :: c :: d :: r)).get! 1 = b from rfl, show (txt (a :: b :: c :: d :: r)).get! 2 = c from rfl, show (txt (a :: b :: c :: d :: r)).get! 3 = d from rfl, List.length_cons] at hb ⊢
    split at hb
    · rename_i h1
      rw [if_pos h1]
      exact enc_one h1
    · rename_i h1
      rw [if_neg h1]
      split at hb
      · rename_i h2
        rw [if_pos h2]
        simp at h2
        split at hb
        · rename_i h3
          rw [if_pos h3]
          exact enc_two h2.1 h2.2 h3
        · exact bad _ hb
      · rename_i h2
        rw [if_neg h2]
        split at hb
        · rename_i h3
          rw [if_pos h3]
          simp at h3
          split at hb
          · rename_i h4
            rw [if_pos h4]
            rw [Bool.and_eq_true, decide_eq_true_eq] at h4
            exact enc_three h3.1.1 h3.1.2 h3.2 h4.1 h4.2
          · exact bad _ hb
        · rename_i h3
          rw [if_neg h3]
          split at hb
          · rename_i h5
            rw [if_pos h5]
            simp at h5
            split at hb
            · rename_i h4
              rw [if_pos h4]
              rw [Bool.and_eq_true, decide_eq_true_eq] at h4
              exact enc_four h5.1.1.1 h5.1.1.2 h5.1.2 h5.2 h4.1 h4.2
            · exact bad _ hb
          · exact bad _ hb
/-- a valid text at a rune's place -/
theorem valid_step {l : List UInt8} (h : Lib.validD l = true) (hne : l ≠ []) : RuneAt l (Lib.decodeL l).1 (Lib.decodeL l).2 ∧ Lib.validD (l.drop (Lib.decodeL l).2) = true := by
  rw [Lib.validD_step l hne] at h
  split at h
  · cases h
  · rename_i hb
    exact ⟨rune_at l hne hb, h⟩
/-- what a rune is in a literal -/
def twoOf (r : Nat) : Option Nat := if r = 34 then some 34 else if r = 92 then some 92 else if r = 8 then some 98 else if r = 12 then some 102 else if r = 10 then some 110 else if r = 13 then some 114 else if r = 9 then some 116 else none
theorem esc_rune {l : List UInt8} {r n : Nat} (h : RuneAt l r n) : escL (l.take n) = match twoOf r with
  | some c => [92, UInt8.ofNat c]
  | none => if r < 32 then [92, 117, 48, 48, hexB (r / 16), hexB (r % 16)] else Lib.encodeRune (r : Int) := by
  rcases Nat.lt_or_ge r 128 with h1 | h1
  · have hn := h.low h1
    subst hn
    have he := h.enc
    unfold Lib.encodeRune at he
    rw [Lib.encodeRuneZ_one (by omega) (by omega)] at he
    rw [h.enc.symm]
    unfold Lib.encodeRune
    rw [Lib.encodeRuneZ_one (by omega) (by omega)]
    simp only [List.map_cons, List.map_nil, Int.toNat_natCast]
    rw [escL_one]
    have ht : r.toUInt8.toNat = r := by simp; omega
    have hx : ∀ c : Nat, c < 128 → (r.toUInt8 = UInt8.ofNat c ↔ r = c) := by
      intro c hc
      constructor
      · intro e
        have := congrArg UInt8.toNat e
        rw [ht] at this
        simp at this
        omega
      · rintro rfl
        rfl
    have x34 : r.toUInt8 = 34 ↔ r = 34 := hx 34 (by omega)
    have x92 : r.toUInt8 = 92 ↔ r = 92 := hx 92 (by omega)
    have x8 : r.toUInt8 = 8 ↔ r = 8 := hx 8 (by omega)
    have x12 : r.toUInt8 = 12 ↔ r = 12 := hx 12 (by omega)
    have x10 : r.toUInt8 = 10 ↔ r = 10 := hx 10 (by omega)
    have x13 : r.toUInt8 = 13 ↔ r = 13 := hx 13 (by omega)
    have x9 : r.toUInt8 = 9 ↔ r = 9 := hx 9 (by omega)
    unfold esc1 twoOf
    simp only [x34, x92, x8, x12, x10, x13, x9, ht]
    by_cases c34 : r = 34
    · subst c34; rfl
    by_cases c92 : r = 92
    · subst c92; rfl
    by_cases c8 : r = 8
    · subst c8; rfl
    by_cases c12 : r = 12
    · subst c12; rfl
    by_cases c10 : r = 10
    · subst c10; rfl
    by_cases c13 : r = 13
    · subst c13; rfl
    by_cases c9 : r = 9
    · subst c9; rfl
    simp only [c34, c92, c8, c12, c10, c13, c9, or_self, if_false]
  · rw [escL_high (h.high h1), ← h.enc]
    have : twoOf r = none := by
      unfold twoOf
      repeat' split
      all_goals first | rfl | omega
    rw [this]
    simp only
    rw [if_neg (by omega)]
end Go.Proofs.YtmolmphbhdbcaaaGreatDoor
