/- What the literal with which a text begins says, or what is wrong with it: plain laws. No program is named here. -/
import Derived.Test.YtcddfpcapbdphaaGreatDoorBase
import Derived.Lib.DecodeN
namespace Go.Proofs.YtcddfpcapbdphaaGreatDoor

/-- the bytes as a text -/
def bT (l : List UInt8) : ByteArray := ⟨l.toArray⟩
theorem bT_size (l : List UInt8) : (bT l).size = l.length := by simp [bT, ByteArray.size]
theorem bT_of (s : ByteArray) : bT s.data.toList = s := by cases s; simp [bT]
/-- a rune's bytes -/
def encL (n : Nat) : List UInt8 := (Utf8.encode (n : Int)).data.toList
/-- a digit to the base 16 -/
def hexV (c : UInt8) : Option Nat :=
  if 48 ≤ c.toNat ∧ c.toNat ≤ 57 then some (c.toNat - 48) else if 97 ≤ c.toNat ∧ c.toNat ≤ 102 then some (c.toNat - 87) else if 65 ≤ c.toNat ∧ c.toNat ≤ 70 then some (c.toNat - 55) else none
theorem hexV_lt {c : UInt8} {k : Nat} (h : hexV c = some k) : k < 16 := by
  unfold hexV at h
  split at h
  · injection h with h; omega
  · split at h
    · injection h with h; omega
    · split at h
      · injection h with h; omega
      · cases h
/-- a digit, and what stands behind it -/
def hex1 : List UInt8 → Except Int (Nat × List UInt8)
  | [] => .error 3
  | c :: r => match hexV c with
    | none => .error 41
    | some k => .ok (k, r)
/-- is that the second digit of a second half? -/
def lowHalf (n : Nat) : Bool := decide (220 ≤ n ∧ n ≤ 223)
/-- four digits: of the second half of a rune, or of what is none -/
def half4 (second : Bool) (l : List UInt8) : Except Int (Nat × List UInt8) :=
  match hex1 l with
  | .error e => .error e
  | .ok (a, l1) => if second = true ∧ a ≠ 13 then .error 41 else match hex1 l1 with
    | .error e => .error e
    | .ok (b, l2) => if second ≠ lowHalf (16 * a + b) then .error 41 else match hex1 l2 with
      | .error e => .error e
      | .ok (c, l3) => match hex1 l3 with
        | .error e => .error e
        | .ok (d, l4) => .ok (4096 * a + 256 * b + 16 * c + d, l4)
/-- a byte that must stand there -/
def want1 (x : UInt8) : List UInt8 → Except Int (List UInt8)
  | [] => .error 3
  | c :: r => if c = x then .ok r else .error 41
/-- the rune of two bytes' escape -/
def shortV (c : UInt8) : Option Nat :=
  if c = 34 then some 34 else if c = 92 then some 92 else if c = 98 then some 8 else if c = 102 then some 12 else if c = 110 then some 10 else if c = 114 then some 13 else if c = 116 then some 9 else none
/-- is that the first half of a rune? -/
def isHigh (n : Nat) : Bool := decide (55296 ≤ n) && decide (n < 56320)
/-- a rune of its halves -/
def pairOf (n k : Nat) : Nat := 65536 + (n - 55296) * 1024 + k - 56320
/-- what an escape says, behind its first byte -/
def escV : List UInt8 → Except Int (List UInt8 × List UInt8)
  | [] => .error 3
  | c :: r => if c = 47 then .ok ([47], r) else match shortV c with
    | some k => .ok (encL k, r)
    | none => if c ≠ 117 then .error 41 else match half4 false r with
      | .error e => .error e
      | .ok (n, r1) => if isHigh n = true then (match want1 92 r1 with
          | .error e => .error e
          | .ok r2 => match want1 117 r2 with
            | .error e => .error e
            | .ok r3 => match half4 true r3 with
              | .error e => .error e
              | .ok (k, r4) => .ok (encL (pairOf n k), r4))
        else .ok (encL n, r1)
/-- is the rune, with which so many bytes begin that are none yet, whole (or never one)? -/
def fullN (n a b c : Nat) : Bool :=
  if Lib.firstT a % 8 ≤ n then true else if 1 < n ∧ (b < Lib.accLo (Lib.firstT a / 16) ∨ Lib.accHi (Lib.firstT a / 16) < b) then true else decide (2 < n ∧ (c < 128 ∨ 191 < c))
def fullB (l : List UInt8) : Bool := fullN l.length (l.getD 0 0).toNat (l.getD 1 0).toNat (l.getD 2 0).toNat
/-- the rune with which a text begins, in bytes; 0: none -/
def runeN (l : List UInt8) : Nat := if Utf8.decode (bT l) 0 = (65533, 1) then 0 else (Utf8.decode (bT l) 0).2
/-- what stands as it is -/
def plainV : List UInt8 → Except Int (List UInt8 × List UInt8)
  | [] => .error 3
  | c :: r => if c.toNat < 32 then .error 41 else if runeN (c :: r) ≠ 0 then .ok ((c :: r).take (runeN (c :: r)), (c :: r).drop (runeN (c :: r))) else if fullB (c :: r) = false then .error 3 else .error 40
/-- a piece of a literal -/
def pieceV : List UInt8 → Except Int (List UInt8 × List UInt8)
  | [] => .error 3
  | c :: r => if c = 92 then escV r else plainV (c :: r)
/-- the rest of a literal -/
def unqB : Nat → List UInt8 → Except Int (List UInt8 × List UInt8)
  | 0, _ => .error 3
  | _ + 1, [] => .error 3
  | f + 1, c :: r => if c = 34 then .ok ([], r) else match pieceV (c :: r) with
    | .error e => .error e
    | .ok (t, r1) => match unqB f r1 with
      | .error e => .error e
      | .ok (u, r2) => .ok (t ++ u, r2)
/-- a literal: what it says, and what stands behind it -/
def unqV : List UInt8 → Except Int (List UInt8 × List UInt8)
  | [] => .error 3
  | c :: r => if c ≠ 34 then .error 41 else unqB (r.length + 1) r

section
theorem hex1_less {l r : List UInt8} {k : Nat} (h : hex1 l = .ok (k, r)) : r.length < l.length ∧ k < 16 := by
  cases l with
  | nil => cases h
  | cons c l =>
    simp only [hex1] at h
    split at h
    · cases h
    · rename_i k' hk
      injection h with h
      injection h with h1 h2
      subst h1 h2
      exact ⟨by simp, hexV_lt hk⟩
theorem half4_less {s : Bool} {l r : List UInt8} {k : Nat} (h : half4 s l = .ok (k, r)) : r.length < l.length ∧ k < 65536 := by
  unfold half4 at h
  split at h
  · cases h
  rename_i a l1 h1
  split at h
  · cases h
  split at h
  · cases h
  rename_i b l2 h2
  split at h
  · cases h
  split at h
  · cases h
  rename_i c l3 h3
  split at h
  · cases h
  rename_i d l4 h4
  injection h with h
  injection h with e1 e2
  subst e1 e2
  have := hex1_less h1
  have := hex1_less h2
  have := hex1_less h3
  have := hex1_less h4
  omega
theorem want1_less {x : UInt8} {l r : List UInt8} (h : want1 x l = .ok r) : r.length < l.length := by
  cases l with
  | nil => cases h
  | cons c l =>
    simp only [want1] at h
    split at h
    · injection h with h
      subst h
      simp
    · cases h
theorem escV_less {l r t : List UInt8} (h : escV l = .ok (t, r)) : r.length < l.length := by
  cases l with
  | nil => cases h
  | cons c l =>
    simp only [escV] at h
    split at h
    · injection h with h; injection h with _ h; subst h; simp
    split at h
    · injection h with h; injection h with _ h; subst h; simp
    split at h
    · cases h
    split at h
    · cases h
    rename_i n r1 h1
    have a1 := (half4_less h1).1
    split at h
    · split at h
      · cases h
      rename_i r2 h2
      have a2 := want1_less h2
      split at h
      · cases h
      rename_i r3 h3
      have a3 := want1_less h3
      split at h
      · cases h
      rename_i k r4 h4
      have a4 := (half4_less h4).1
      injection h with h; injection h with _ h; subst h
      simp; omega
    · injection h with h; injection h with _ h; subst h
      simp; omega
theorem pieceV_less {l r t : List UInt8} (h : pieceV l = .ok (t, r)) : r.length < l.length := by
  cases l with
  | nil => cases h
  | cons c l =>
    simp only [pieceV] at h
    split at h
    · have := escV_less h
      simp; omega
    · simp only [plainV] at h
      split at h
      · cases h
      split at h
      · rename_i hn
        injection h with h; injection h with _ h; subst h
        simp only [List.length_drop, List.length_cons]
        omega
      · split at h <;> cases h
theorem unqB_more : ∀ (f g : Nat) (l : List UInt8), l.length < f → l.length < g → unqB f l = unqB g l
  | 0, _, _, h, _ => absurd h (by omega)
  | _, 0, _, _, h => absurd h (by omega)
  | f + 1, g + 1, [], _, _ => rfl
  | f + 1, g + 1, c :: r, h1, h2 => by
    simp only [unqB]
    split
    · rfl
    split
    · rfl
    · rename_i t r1 hp
      have := pieceV_less hp
      simp only [List.length_cons] at h1 h2 this
      rw [unqB_more f g r1 (by omega) (by omega)]
theorem unqB_less : ∀ (f : Nat) (l r t : List UInt8), unqB f l = .ok (t, r) → r.length < l.length
  | 0, _, _, _, h => by cases h
  | f + 1, [], _, _, h => by cases h
  | f + 1, c :: l, r, t, h => by
    simp only [unqB] at h
    split at h
    · injection h with h; injection h with _ h; subst h; simp
    split at h
    · cases h
    rename_i t1 r1 h1
    split at h
    · cases h
    rename_i u r2 h2
    have a1 := pieceV_less h1
    have a2 := unqB_less f r1 r2 u h2
    injection h with h; injection h with _ h; subst h
    omega
theorem unqV_less {l r t : List UInt8} (h : unqV l = .ok (t, r)) : r.length + 1 < l.length := by
  cases l with
  | nil => cases h
  | cons c l =>
    simp only [unqV] at h
    split at h
    · cases h
    · have := unqB_less _ _ _ _ h
      simp; omega
end
end Go.Proofs.YtcddfpcapbdphaaGreatDoor

