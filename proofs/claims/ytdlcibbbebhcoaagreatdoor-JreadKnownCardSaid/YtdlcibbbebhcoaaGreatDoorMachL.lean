/- What the literal with which a text begins says, or what is wrong with it: plain laws. No program is named here. -/
import Derived.Test.YtdlcibbbebhcoaaGreatDoorBase
import Derived.Lib.DecodeN
import Derived.Test.YtdlcibbbebhcoaaGreatDoorChk
/-! ### What the literal with which a text begins says, or what is wrong with it: plain laws. No program is named here. -/
namespace Go.Proofs.YtdlcibbbebhcoaaGreatDoor

/-- the bytes as a text -/
def bT (l : List UInt8) : ByteArray := ⟨l.toArray⟩
theorem bT_size (l : List UInt8) : (bT l).size = l.length := by simp [bT, ByteArray.size]
theorem bT_of (s : ByteArray) : bT s.data.toList = s := by cases s; simp [bT]
/-- a rune's bytes -/
def encL (n : Nat) : List UInt8 := (Utf8.encode (n : Int)).data.toList
/-- a digit to the base 16 -/
def hexV (c : UInt8) : Option Nat :=
  if 48 ≤ c.toNat ∧ c.toNat ≤ 57 then some (c.toNat - 48) else if 97 ≤ c.toNat ∧ c.toNat ≤ 102 then some (c.toNat - 87) else if 65 ≤ c.toNat ∧ c.toNat ≤ 70 then some (c.toNat - 55) else none
theorem hexV_lt {c : UInt8} {k : Nat} (h : hexV c = some k) : k < 16 := by
  unfold hexV at h
  split at h
  · injection h with h; omega
  · split at h
    · injection h with h; omega
    · split at h
      · injection h with h; omega
      · cases h
/-- a digit, and what stands behind it -/
def hex1 : List UInt8 → Except Int (Nat × List UInt8)
  | [] => .error 3
  | c :: r => match hexV c with
    | none => .error 41
    | some k => .ok (k, r)
/-- is that the second digit of a second half? -/
def lowHalf (n : Nat) : Bool := decide (220 ≤ n ∧ n ≤ 223)
/-- four digits: of the second half of a rune, or of what is none -/
def half4 (second : Bool) (l : List UInt8) : Except Int (Nat × List UInt8) :=
  match hex1 l with
  | .error e => .error e
  | .ok (a, l1) => if second = true ∧ a ≠ 13 then .error 41 else match hex1 l1 with
    | .error e => .error e
    | .ok (b, l2) => if second ≠ lowHalf (16 * a + b) then .error 41 else match hex1 l2 with
      | .error e => .error e
      | .ok (c, l3) => match hex1 l3 with
        | .error e => .error e
        | .ok (d, l4) => .ok (4096 * a + 256 * b + 16 * c + d, l4)
/-- a byte that must stand there -/
def want1 (x : UInt8) : List UInt8 → Except Int (List UInt8)
  | [] => .error 3
  | c :: r => if c = x then .ok r else .error 41
/-- the rune of two bytes' escape -/
def shortV (c : UInt8) : Option Nat :=
  if c = 34 then some 34 else if c = 92 then some 92 else if c = 98 then some 8 else if c = 102 then some 12 else if c = 110 then some 10 else if c = 114 then some 13 else if c = 116 then some 9 else none
/-- is that the first half of a rune? -/
def isHigh (n : Nat) : Bool := decide (55296 ≤ n) && decide (n < 56320)
/-- a rune of its halves -/
def pairOf (n k : Nat) : Nat := 65536 + (n - 55296) * 1024 + k - 56320
/-- what an escape says, behind its first byte -/
def escV : List UInt8 → Except Int (List UInt8 × List UInt8)
  | [] => .error 3
  | c :: r => if c = 47 then .ok ([47], r) else match shortV c with
    | some k => .ok (encL k, r)
    | none => if c ≠ 117 then .error 41 else match half4 false r with
      | .error e => .error e
      | .ok (n, r1) => if isHigh n = true then (match want1 92 r1 with
          | .error e => .error e
          | .ok r2 => match want1 117 r2 with
            | .error e => .error e
            | .ok r3 => match half4 true r3 with
              | .error e => .error e
              | .ok (k, r4) => .ok (encL (pairOf n k), r4))
        else .ok (encL n, r1)
/-- is the rune, with which so many bytes begin that are none yet, whole (or never one)? -/
def fullN (n a b c : Nat) : Bool :=
  if Lib.firstT a % 8 ≤ n then true else if 1 < n ∧ (b < Lib.accLo (Lib.firstT a / 16) ∨ Lib.accHi (Lib.firstT a / 16) < b) then true else decide (2 < n ∧ (c < 128 ∨ 191 < c))
def fullB (l : List UInt8) : Bool := fullN l.length (l.getD 0 0).toNat (l.getD 1 0).toNat (l.getD 2 0).toNat
/-- the rune with which a text begins, in bytes; 0: none -/
def runeN (l : List UInt8) : Nat := if Utf8.decode (bT l) 0 = (65533, 1) then 0 else (Utf8.decode (bT l) 0).2
/-- what stands as it is -/
def plainV : List UInt8 → Except Int (List UInt8 × List UInt8)
  | [] => .error 3
  | c :: r => if c.toNat < 32 then .error 41 else if runeN (c :: r) ≠ 0 then .ok ((c :: r).take (runeN (c :: r)), (c :: r).drop (runeN (c :: r))) else if fullB (c :: r) = false then .error 3 else .error 40
/-- a piece of a literal -/
def pieceV : List UInt8 → Except Int (List UInt8 × List UInt8)
  | [] => .error 3
  | c :: r => if c = 92 then escV r else plainV (c :: r)
/-- the rest of a literal -/
def unqB : Nat → List UInt8 → Except Int (List UInt8 × List UInt8)
  | 0, _ => .error 3
  | _ + 1, [] => .error 3
  | f + 1, c :: r => if c = 34 then .ok ([], r) else match pieceV (c :: r) with
    | .error e => .error e
    | .ok (t, r1) => match unqB f r1 with
      | .error e => .error e
      | .ok (u, r2) => .ok (t ++ u, r2)
/-- a literal: what it says, and what stands behind it -/
def unqV : List UInt8 → Except Int (List UInt8 × List UInt8)
  | [] => .error 3
  | c :: r => if c ≠ 34 then .error 41 else unqB (r.length + 1) r

section
theorem hex1_less {l r : List UInt8} {k : Nat} (h : hex1 l = .ok (k, r)) : r.length < l.length ∧ k < 16 := by
  cases l with
  | nil => cases h
  | cons c l =>
    simp only [hex1] at h
    split at h
    · cases h
    · rename_i k' hk
      injection h with h
      injection h with h1 h2
      subst h1 h2
      exact ⟨by simp, hexV_lt hk⟩
theorem half4_less {s : Bool} {l r : List UInt8} {k : Nat} (h : half4 s l = .ok (k, r)) : r.length < l.length ∧ k < 65536 := by
  unfold half4 at h
  split at h
  · cases h
  rename_i a l1 h1
  split at h
  · cases h
  split at h
  · cases h
  rename_i b l2 h2
  split at h
  · cases h
  split at h
  · cases h
  rename_i c l3 h3
  split at h
  · cases h
  rename_i d l4 h4
  injection h with h
  injection h with e1 e2
  subst e1 e2
  have := hex1_less h1
  have := hex1_less h2
  have := hex1_less h3
  have := hex1_less h4
  omega
theorem want1_less {x : UInt8} {l r : List UInt8} (h : want1 x l = .ok r) : r.length < l.length := by
  cases l with
  | nil => cases h
  | cons c l =>
    simp only [want1] at h
    split at h
    · injection h with h
      subst h
      simp
    · cases h
theorem escV_less {l r t : List UInt8} (h : escV l = .ok (t, r)) : r.length < l.length := by
  cases l with
  | nil => cases h
  | cons c l =>
    simp only [escV] at h
    split at h
    · injection h with h; injection h with _ h; subst h; simp
    split at h
    · injection h with h; injection h with _ h; subst h; simp
    split at h
    · cases h
    split at h
    · cases h
    rename_i n r1 h1
    have a1 := (half4_less h1).1
    split at h
    · split at h
      · cases h
      rename_i r2 h2
      have a2 := want1_less h2
      split at h
      · cases h
      rename_i r3 h3
      have a3 := want1_less h3
      split at h
      · cases h
      rename_i k r4 h4
      have a4 := (half4_less h4).1
      injection h with h; injection h with _ h; subst h
      simp; omega
    · injection h with h; injection h with _ h; subst h
      simp; omega
theorem pieceV_less {l r t : List UInt8} (h : pieceV l = .ok (t, r)) : r.length < l.length := by
  cases l with
  | nil => cases h
  | cons c l =>
    simp only [pieceV] at h
    split at h
    · have := escV_less h
      simp; omega
    · simp only [plainV] at h
      split at h
      · cases h
      split at h
      · rename_i hn
        injection h with h; injection h with _ h; subst h
        simp only [List.length_drop, List.length_cons]
        omega
      · split at h <;> cases h
theorem unqB_more : ∀ (f g : Nat) (l : List UInt8), l.length < f → l.length < g → unqB f l = unqB g l
  | 0, _, _, h, _ => absurd h (by omega)
  | _, 0, _, _, h => absurd h (by omega)
  | f + 1, g + 1, [], _, _ => rfl
  | f + 1, g + 1, c :: r, h1, h2 => by
    simp only [unqB]
    split
    · rfl
    split
    · rfl
    · rename_i t r1 hp
      have := pieceV_less hp
      simp only [List.length_cons] at h1 h2 this
      rw [unqB_more f g r1 (by omega) (by omega)]
theorem unqB_less : ∀ (f : Nat) (l r t : List UInt8), unqB f l = .ok (t, r) → r.length < l.length
  | 0, _, _, _, h => by cases h
  | f + 1, [], _, _, h => by cases h
  | f + 1, c :: l, r, t, h => by
    simp only [unqB] at h
    split at h
    · injection h with h; injection h with _ h; subst h; simp
    split at h
    · cases h
    rename_i t1 r1 h1
    split at h
    · cases h
    rename_i u r2 h2
    have a1 := pieceV_less h1
    have a2 := unqB_less f r1 r2 u h2
    injection h with h; injection h with _ h; subst h
    omega
theorem unqV_less {l r t : List UInt8} (h : unqV l = .ok (t, r)) : r.length + 1 < l.length := by
  cases l with
  | nil => cases h
  | cons c l =>
    simp only [unqV] at h
    split at h
    · cases h
    · have := unqB_less _ _ _ _ h
      simp; omega
end
end Go.Proofs.YtdlcibbbebhcoaaGreatDoor

/-! ### What a text of JSON is as a value, or what is wrong in it, and where: plain laws. No program is named here. -/
namespace Go.Proofs.YtdlcibbbebhcoaaGreatDoor

/-- what is wrong, and the rest of the text where it is -/
abbrev Bad := List UInt8 × Int
def isBlank (c : UInt8) : Bool := c == 32 || c == 9 || c == 10 || c == 13
def skipB : List UInt8 → List UInt8
  | [] => []
  | c :: r => if isBlank c then skipB r else c :: r
def isDig (c : UInt8) : Bool := decide (48 ≤ c.toNat) && decide (c.toNat ≤ 57)
def digsOf : List UInt8 → List UInt8
  | [] => []
  | c :: r => if isDig c then c :: digsOf r else []
def digsEnd : List UInt8 → List UInt8
  | [] => []
  | c :: r => if isDig c then digsEnd r else c :: r
/-- digits, one at least -/
def digs1 (l : List UInt8) : Except Bad (List UInt8 × List UInt8) := if digsOf l = [] then .error (l, 70) else .ok (digsOf l, digsEnd l)
def decV (ds : List UInt8) : Nat := ds.foldl (fun n d => 10 * n + (d.toNat - 48)) 0
/-- past a byte, if it stands there -/
def opt1 (x : UInt8) : List UInt8 → Bool × List UInt8
  | [] => (false, [])
  | c :: r => if c = x then (true, r) else (false, c :: r)
def opt2 (x y : UInt8) : List UInt8 → Bool × List UInt8
  | [] => (false, [])
  | c :: r => if c = x ∨ c = y then (true, r) else (false, c :: r)
/-- the whole part of a number -/
def wholeV (l : List UInt8) : Except Bad (List UInt8 × List UInt8) :=
  match opt1 48 l with
  | (true, r) => .ok ([48], r)
  | (false, _) => digs1 l
/-- a number's fraction, if it has one: is there one? -/
def fracV (l : List UInt8) : Except Bad (Bool × List UInt8) :=
  match opt1 46 l with
  | (true, r) => (match digs1 r with | .error b => .error b | .ok (_, r2) => .ok (true, r2))
  | (false, _) => .ok (false, l)
def expV (l : List UInt8) : Except Bad (Bool × List UInt8) :=
  match opt2 101 69 l with
  | (true, r) => (match digs1 (opt2 43 45 r).2 with | .error b => .error b | .ok (_, r2) => .ok (true, r2))
  | (false, _) => .ok (false, l)
def signed (neg : Bool) (n : Nat) : Int := if neg then -(n : Int) else (n : Int)
def numV (l : List UInt8) : Except Bad (Int × List UInt8) :=
  match wholeV (opt1 45 l).2 with
  | .error b => .error b
  | .ok (ds, l2) => match fracV l2 with
    | .error b => .error b
    | .ok (f, l3) => match expV l3 with
      | .error b => .error b
      | .ok (e, l4) =>
        if f = true ∨ e = true ∨ signed (opt1 45 l).1 (decV ds) < -9223372036854775808 ∨ 9223372036854775807 < signed (opt1 45 l).1 (decV ds) then .error (l, 73)
        else .ok (signed (opt1 45 l).1 (decV ds), l4)
/-- bytes that must stand there -/
def wordV : List UInt8 → List UInt8 → Except Bad (List UInt8)
  | [], l => .ok l
  | _ :: _, [] => .error ([], 70)
  | x :: xs, c :: r => if c = x then wordV xs r else .error (c :: r, 70)
def litV (l : List UInt8) : Except Bad (List UInt8 × List UInt8) :=
  match l with
  | [] => .error ([], 70)
  | c :: r => if c ≠ 34 then .error (c :: r, 70) else match unqV (c :: r) with
    | .error e => .error (c :: r, e)
    | .ok x => .ok x
/-- may a value begin with that byte? -/
def begB (c : UInt8) : Bool := c == 110 || c == 102 || c == 116 || c == 34 || c == 91 || c == 123 || c == 45 || isDig c
def oneJ (k n : Int) (s : ByteArray) : J := .mk ⟨k, none_, n, s⟩ []
def leafV (c : UInt8) (l : List UInt8) : Except Bad (J × List UInt8) :=
  if c = 110 then (match wordV [110, 117, 108, 108] l with | .error b => .error b | .ok r => .ok (oneJ 1 0 none_, r))
  else if c = 102 then (match wordV [102, 97, 108, 115, 101] l with | .error b => .error b | .ok r => .ok (oneJ 2 0 none_, r))
  else if c = 116 then (match wordV [116, 114, 117, 101] l with | .error b => .error b | .ok r => .ok (oneJ 3 0 none_, r))
  else if c = 34 then (match litV l with | .error b => .error b | .ok (s, r) => .ok (oneJ 5 0 (bT s), r))
  else (match numV l with | .error b => .error b | .ok (n, r) => .ok (oneJ 4 n none_, r))
def lastOf (obj : Bool) : UInt8 := if obj then 125 else 93
def kindOf (obj : Bool) : Int := if obj then 7 else 6
/-- a member's key and its colon; nothing in a list -/
def keyV (obj : Bool) (had : List ByteArray) (l : List UInt8) : Except Bad (ByteArray × List UInt8) :=
  if obj = false then .ok (none_, l) else match litV (skipB l) with
  | .error b => .error b
  | .ok (s, r) => if hasKey had (bT s) = true then .error (skipB l, 71) else match skipB r with
    | [] => .error ([], 70)
    | c :: r2 => if c = 58 then .ok (bT s, r2) else .error (c :: r2, 70)
/-- what stands behind a part: is there one more? -/
def moreV (obj : Bool) (l : List UInt8) : Except Bad (Bool × List UInt8) :=
  match skipB l with
  | [] => .error ([], 70)
  | c :: r => if c = 44 then .ok (true, r) else if c = lastOf obj then .ok (false, r) else .error (c :: r, 70)
/-- does the end stand there? -/
def endV (obj : Bool) (l : List UInt8) : Bool × List UInt8 := opt1 (lastOf obj) (skipB l)
/-- the keys that were there, behind one more part -/
def hadOf (obj : Bool) (had : List ByteArray) (k : ByteArray) : List ByteArray := if obj then had ++ [k] else had
mutual
/-- the value that stands there, behind n nodes, within so many others -/
def pv : Nat → Nat → Nat → List UInt8 → Except Bad (J × List UInt8)
  | 0, _, _, l => .error (l, 70)
  | f + 1, n, deep, l => match l with
    | [] => .error ([], 70)
    | c :: r => if begB c = false then .error (c :: r, 70) else if 4000 ≤ n then .error (c :: r, 5) else if 64 ≤ deep then .error (c :: r, 72)
      else if c = 91 ∨ c = 123 then (match endV (c == 123) r with
        | (true, r1) => .ok (.mk ⟨kindOf (c == 123), none_, 0, none_⟩ [], r1)
        | (false, r1) => match pp f (c == 123) (n + 1) (deep + 1) [] r1 with
          | .error b => .error b
          | .ok (js, r2) => .ok (.mk ⟨kindOf (c == 123), none_, 0, none_⟩ js, r2))
      else leafV c (c :: r)
/-- the parts that stand there, up to what ends them -/
def pp : Nat → Bool → Nat → Nat → List ByteArray → List UInt8 → Except Bad (List J × List UInt8)
  | 0, _, _, _, _, l => .error (l, 70)
  | f + 1, obj, n, deep, had, l => match keyV obj had l with
    | .error b => .error b
    | .ok (k, l1) => match pv f n deep (skipB l1) with
      | .error b => .error b
      | .ok (j, l2) => match moreV obj l2 with
        | .error b => .error b
        | .ok (false, l3) => .ok ([j.rekey k], l3)
        | .ok (true, l3) => match pp f obj (n + j.flat.length) deep (hadOf obj had k) l3 with
          | .error b => .error b
          | .ok (js, l4) => .ok (j.rekey k :: js, l4)
end
/-- enough steps for a text -/
def fuelOf (l : List UInt8) : Nat := 2 * l.length + 2
/-- a text as a value; else the place and what is wrong there -/
def parseV (l : List UInt8) : Except (Nat × Int) J :=
  if 1048576 < l.length then .error (0, 5) else match pv (fuelOf l) 0 0 (skipB l) with
  | .error (p, e) => .error (l.length - p.length, e)
  | .ok (j, r) => match skipB r with
    | [] => .ok j
    | c :: p => .error (l.length - (c :: p).length, 70)
end Go.Proofs.YtdlcibbbebhcoaaGreatDoor

/-! ### The reading of a text, step by step, with the lists and objects that are open: it comes to what the text is as a value. Plain laws; no program is named here. -/
namespace Go.Proofs.YtdlcibbbebhcoaaGreatDoor

/-- a list or an object that is open: whether it is an object, its key, the keys that were there, its parts so far -/
structure Fr where
  obj : Bool
  key : ByteArray
  had : List ByteArray
  kids : List J
/-- the nodes so far -/
def outF : List Fr → List Nd
  | [] => []
  | F :: S => outF S ++ ⟨kindOf F.obj, F.key, 0, none_, 1⟩ :: J.flats F.kids
/-- what may stand next -/
inductive Want where
  | value | first | member | opened | behind
deriving DecidableEq
/-- where the reading is: what may stand next, the key that is kept for a value, what is open, the whole value (behind it), the rest -/
structure St where
  want : Want
  key : ByteArray
  open_ : List Fr
  done : Option J
  rest : List UInt8
/-- a part is put into what is open -/
def putJ (key : ByteArray) (j : J) (S : List Fr) (r : List UInt8) : St :=
  match S with
  | [] => ⟨.behind, none_, [], some (j.rekey key), r⟩
  | F :: S => ⟨.behind, none_, ⟨F.obj, F.key, F.had, F.kids ++ [j.rekey key]⟩ :: S, none, r⟩
/-- the list, or the object, that was opened last is ended -/
def leaveS (S : List Fr) (r : List UInt8) : St :=
  match S with
  | [] => ⟨.behind, none_, [], none, r⟩
  | F :: S => putJ F.key (.mk ⟨kindOf F.obj, none_, 0, none_⟩ F.kids) S r
abbrev Fin := Except Bad J
/-- one step -/
def stepS (s : St) : St ⊕ Fin :=
  match s.want, s.open_ with
  | .value, S => (match skipB s.rest with
    | [] => .inr (.error ([], 70))
    | c :: r => if begB c = false then .inr (.error (c :: r, 70)) else if 4000 ≤ (outF S).length then .inr (.error (c :: r, 5)) else if 64 ≤ S.length then .inr (.error (c :: r, 72))
      else if c = 91 ∨ c = 123 then .inl ⟨if c == 123 then .opened else .first, none_, ⟨c == 123, s.key, [], []⟩ :: S, none, r⟩
      else match leafV c (c :: r) with
        | .error b => .inr (.error b)
        | .ok (j, r2) => .inl (putJ s.key j S r2))
  | .first, S => (match endV false s.rest with
    | (true, r) => .inl (leaveS S r)
    | (false, r) => .inl ⟨.value, none_, S, none, r⟩)
  | .opened, S => (match endV true s.rest with
    | (true, r) => .inl (leaveS S r)
    | (false, r) => .inl ⟨.member, none_, S, none, r⟩)
  | .member, [] => .inr (.error (s.rest, 70))
  | .member, F :: S => (match keyV true F.had s.rest with
    | .error b => .inr (.error b)
    | .ok (k, r) => .inl ⟨.value, k, ⟨F.obj, F.key, F.had ++ [k], F.kids⟩ :: S, none, r⟩)
  | .behind, [] => (match s.done with
    | none => .inr (.error (s.rest, 70))
    | some j => match skipB s.rest with
      | [] => .inr (.ok j)
      | c :: r => .inr (.error (c :: r, 70)))
  | .behind, F :: S => (match moreV F.obj s.rest with
    | .error b => .inr (.error b)
    | .ok (true, r) => .inl ⟨if F.obj then .member else .value, none_, F :: S, none, r⟩
    | .ok (false, r) => .inl (leaveS (F :: S) r))
/-- the reading comes from there to there; to that end -/
inductive Steps : St → St → Prop where
  | refl (s : St) : Steps s s
  | step {s t u : St} : Steps s t → stepS t = .inl u → Steps s u
def Ends (s : St) (f : Fin) : Prop := ∃ t, Steps s t ∧ stepS t = .inr f
theorem Steps.trans {a b c : St} (h : Steps a b) (k : Steps b c) : Steps a c := by
  induction k with
  | refl => exact h
  | step _ e ih => exact ih.step e
theorem Steps.one {s t : St} (e : stepS s = .inl t) : Steps s t := (Steps.refl s).step e
theorem Ends.of {s t : St} {f : Fin} (h : Steps s t) (k : Ends t f) : Ends s f := by
  obtain ⟨u, h1, h2⟩ := k
  exact ⟨u, h.trans h1, h2⟩
/-- the first step of a way -/
theorem Steps.head {a c : St} (h : Steps a c) : a = c ∨ ∃ b, stepS a = .inl b ∧ Steps b c := by
  induction h with
  | refl => exact .inl rfl
  | step h e ih =>
    rcases ih with rfl | ⟨b, h1, h2⟩
    · exact .inr ⟨_, e, Steps.refl _⟩
    · exact .inr ⟨b, h1, h2.step e⟩
/-- what is on the way to an end has that end -/
theorem Ends.on {a b : St} {f : Fin} (h : Steps a b) : Ends a f → Ends b f := by
  induction h with
  | refl => exact id
  | step h e ih =>
    intro k
    obtain ⟨u, h1, h2⟩ := ih k
    rcases h1.head with rfl | ⟨c, h3, h4⟩
    · rw [e] at h2; cases h2
    · rw [e] at h3
      injection h3 with h3
      subst h3
      exact ⟨u, h4, h2⟩
theorem Ends.at {a : St} {f g : Fin} (h : Ends a f) (e : stepS a = .inr g) : f = g := by
  obtain ⟨u, h1, h2⟩ := h
  rcases h1.head with rfl | ⟨c, h3, _⟩
  · rw [e] at h2
    injection h2 with h2
    exact h2.symm
  · rw [e] at h3; cases h3
theorem Ends.next {a b : St} {f : Fin} (h : Ends a f) (e : stepS a = .inl b) : Ends b f := h.on (Steps.one e)

/-! ### what is left is less -/
theorem skipB_len (l : List UInt8) : (skipB l).length ≤ l.length := by
  induction l with
  | nil => simp [skipB]
  | cons c r ih =>
    simp only [skipB]
    split
    · simp only [List.length_cons]; omega
    · exact Nat.le_refl _
theorem digsEnd_len (l : List UInt8) : (digsEnd l).length ≤ l.length := by
  induction l with
  | nil => simp [digsEnd]
  | cons c r ih =>
    simp only [digsEnd]
    split
    · simp only [List.length_cons]; omega
    · exact Nat.le_refl _
theorem digs1_less {l r d : List UInt8} (h : digs1 l = .ok (d, r)) : r.length < l.length := by
  unfold digs1 at h
  split at h
  · cases h
  · rename_i hd
    injection h with h; injection h with _ h; subst h
    cases l with
    | nil => exact absurd rfl hd
    | cons c l =>
      simp only [digsOf] at hd
      split at hd
      · rename_i hc
        simp only [digsEnd, hc, if_true, List.length_cons]
        have := digsEnd_len l
        omega
      · exact absurd rfl hd
theorem opt1_len (x : UInt8) (l : List UInt8) : (opt1 x l).2.length ≤ l.length := by
  cases l with
  | nil => simp [opt1]
  | cons c r => simp only [opt1]; split <;> simp
theorem opt1_yes {x : UInt8} {l r : List UInt8} (h : opt1 x l = (true, r)) : l = x :: r := by
  cases l with
  | nil => cases h
  | cons c l =>
    simp only [opt1] at h
    split at h
    · rename_i hc
      injection h with _ h
      rw [hc, h]
    · cases h
theorem opt1_no {x : UInt8} {l r : List UInt8} (h : opt1 x l = (false, r)) : l = r := by
  cases l with
  | nil => cases h; rfl
  | cons c l =>
    simp only [opt1] at h
    split at h
    · cases h
    · injection h
theorem opt2_len (x y : UInt8) (l : List UInt8) : (opt2 x y l).2.length ≤ l.length := by
  cases l with
  | nil => simp [opt2]
  | cons c r => simp only [opt2]; split <;> simp
theorem wholeV_less {l r d : List UInt8} (h : wholeV l = .ok (d, r)) : r.length < l.length := by
  unfold wholeV at h
  split at h
  · rename_i r' ho
    injection h with h; injection h with _ h; subst h
    rw [opt1_yes ho]; simp
  · exact digs1_less h
theorem fracV_len {l r : List UInt8} {b : Bool} (h : fracV l = .ok (b, r)) : r.length ≤ l.length := by
  unfold fracV at h
  split at h
  · rename_i r1 ho
    split at h
    · cases h
    · rename_i d r2 hd
      injection h with h; injection h with _ h; subst h
      have := digs1_less hd
      rw [opt1_yes ho]; simp; omega
  · injection h with h; injection h with _ h; subst h; exact Nat.le_refl _
theorem expV_len {l r : List UInt8} {b : Bool} (h : expV l = .ok (b, r)) : r.length ≤ l.length := by
  unfold expV at h
  have h2 := opt2_len 101 69 l
  split at h
  · rename_i r1 ho
    rw [ho] at h2
    split at h
    · cases h
    · rename_i d r2 hd
      injection h with h; injection h with _ h; subst h
      have := digs1_less hd
      have := opt2_len 43 45 r1
      simp only at h2
      omega
  · injection h with h; injection h with _ h; subst h; exact Nat.le_refl _
theorem numV_less {l r : List UInt8} {n : Int} (h : numV l = .ok (n, r)) : r.length < l.length := by
  unfold numV at h
  split at h
  · cases h
  rename_i ds l2 h1
  split at h
  · cases h
  rename_i f l3 h2
  split at h
  · cases h
  rename_i e l4 h3
  split at h
  · cases h
  injection h with h; injection h with _ h; subst h
  have := wholeV_less h1
  have := fracV_len h2
  have := expV_len h3
  have := opt1_len 45 l
  omega
theorem wordV_less : ∀ {x l r : List UInt8}, wordV x l = .ok r → r.length + x.length = l.length
  | [], l, r, h => by simp only [wordV] at h; injection h with h; subst h; rfl
  | x :: xs, [], r, h => by cases h
  | x :: xs, c :: l, r, h => by
    simp only [wordV] at h
    split at h
    · have := wordV_less h
      simp only [List.length_cons]
      omega
    · cases h
theorem litV_less {l r t : List UInt8} (h : litV l = .ok (t, r)) : r.length + 1 < l.length := by
  cases l with
  | nil => cases h
  | cons c l =>
    simp only [litV] at h
    split at h
    · cases h
    split at h
    · cases h
    · rename_i x hx
      injection h with h
      subst h
      exact unqV_less hx
theorem leafV_less {c : UInt8} {l r : List UInt8} {j : J} (h : leafV c l = .ok (j, r)) : r.length < l.length ∧ j.flat.length = 1 ∧ j.deep = 1 := by
  have hl : ∀ (k n : Int) (s : ByteArray), (oneJ k n s).flat.length = 1 ∧ (oneJ k n s).deep = 1 := fun k n s => ⟨by simp [oneJ, J.flat, J.flats], by simp [oneJ, J.deep, J.deeps]⟩
  unfold leafV at h
  repeat' split at h
  all_goals first | (cases h; done) | skip
  all_goals (injection h with h; injection h with h1 h2; subst h1 h2; rename_i hw; first | (have := wordV_less hw; simp only [List.length_cons, List.length_nil] at this; exact ⟨by omega, hl _ _ _⟩) | (have := litV_less hw; exact ⟨by omega, hl _ _ _⟩) | (have := numV_less hw; exact ⟨by omega, hl _ _ _⟩))
theorem keyV_len {obj : Bool} {had : List ByteArray} {l r : List UInt8} {k : ByteArray} (h : keyV obj had l = .ok (k, r)) : r.length ≤ l.length := by
  unfold keyV at h
  split at h
  · injection h with h; injection h with _ h; subst h; exact Nat.le_refl _
  split at h
  · cases h
  rename_i s r1 h1
  split at h
  · cases h
  have a1 := litV_less h1
  have a2 := skipB_len l
  have a3 := skipB_len r1
  split at h
  · cases h
  rename_i c r2 h2
  split at h
  · injection h with h; injection h with _ h; subst h
    rw [h2] at a3
    simp only [List.length_cons] at a3
    omega
  · cases h
theorem moreV_less {obj b : Bool} {l r : List UInt8} (h : moreV obj l = .ok (b, r)) : r.length < l.length := by
  unfold moreV at h
  have a := skipB_len l
  split at h
  · cases h
  rename_i c r1 h1
  rw [h1] at a
  simp only [List.length_cons] at a
  split at h
  · injection h with h; injection h with _ h; subst h; omega
  split at h
  · injection h with h; injection h with _ h; subst h; omega
  · cases h
theorem endV_len {obj b : Bool} {l r : List UInt8} (h : endV obj l = (b, r)) : r.length ≤ l.length := by
  have a := skipB_len l
  have b' := opt1_len (lastOf obj) (skipB l)
  unfold endV at h
  rw [h] at b'
  simp only at b'
  omega

/-! ### the steps come to what the text is -/
theorem outF_put (F : Fr) (S : List Fr) (h : List ByteArray) (j : J) : (outF (⟨F.obj, F.key, h, F.kids ++ [j]⟩ :: S)).length = (outF (F :: S)).length + j.flat.length := by
  simp only [outF, flats_append, flats_one, List.length_append, List.length_cons]
  omega
theorem rekey_len (k : ByteArray) (j : J) : (j.rekey k).flat.length = j.flat.length := by cases j; simp [J.rekey, J.flat]
theorem skipB_skip (l : List UInt8) : skipB (skipB l) = skipB l := by
  induction l with
  | nil => rfl
  | cons c r ih =>
    simp only [skipB]
    split
    · exact ih
    · rename_i h
      simp only [skipB, h]
      simp
/-- what a value's reading comes to -/
def ValTo (key : ByteArray) (S : List Fr) (l : List UInt8) (x : Except Bad (J × List UInt8)) : Prop :=
  match x with
  | .ok (j, r) => Steps ⟨.value, key, S, none, l⟩ (putJ key j S r) ∧ r.length < l.length
  | .error b => Ends ⟨.value, key, S, none, l⟩ (.error b)
def PartsTo (F : Fr) (S : List Fr) (l : List UInt8) (x : Except Bad (List J × List UInt8)) : Prop :=
  match x with
  | .ok (js, r) => (∃ h, Steps ⟨if F.obj then .member else .value, none_, F :: S, none, l⟩ (leaveS (⟨F.obj, F.key, h, F.kids ++ js⟩ :: S) r)) ∧ r.length < l.length
  | .error b => Ends ⟨if F.obj then .member else .value, none_, F :: S, none, l⟩ (.error b)
theorem mach_both : ∀ f : Nat, (∀ (key : ByteArray) (S : List Fr) (l : List UInt8), 2 * (skipB l).length + 1 ≤ f → ValTo key S l (pv f (outF S).length S.length (skipB l))) ∧
    ∀ (F : Fr) (S : List Fr) (l : List UInt8), 2 * l.length + 2 ≤ f → PartsTo F S l (pp f F.obj (outF (F :: S)).length (S.length + 1) F.had l)
  | 0 => ⟨fun _ _ _ h => absurd h (by omega), fun _ _ _ h => absurd h (by omega)⟩
  | f + 1 => by
    obtain ⟨ihv, ihp⟩ := mach_both f
    refine ⟨fun key S l hf => ?_, fun F S l hf => ?_⟩
    · have hsl := skipB_len l
      cases hs : skipB l with
      | nil =>
        simp only [pv, ValTo]
        exact ⟨_, Steps.refl _, by simp only [stepS, hs]⟩
      | cons c r =>
        rw [hs] at hf hsl
        simp only [List.length_cons] at hf hsl
        simp only [pv]
        by_cases h1 : begB c = false
        · rw [if_pos h1]
          exact ⟨_, Steps.refl _, by simp only [stepS, hs, h1, if_true]⟩
        rw [if_neg h1]
        by_cases h2 : 4000 ≤ (outF S).length
        · rw [if_pos h2]
          exact ⟨_, Steps.refl _, by simp only [stepS, hs, if_neg h1, if_pos h2]⟩
        rw [if_neg h2]
        by_cases h3 : 64 ≤ S.length
        · rw [if_pos h3]
          exact ⟨_, Steps.refl _, by simp only [stepS, hs, if_neg h1, if_neg h2, if_pos h3]⟩
        rw [if_neg h3]
        by_cases h4 : c = 91 ∨ c = 123
        · rw [if_pos h4]
          have st1 : Steps ⟨.value, key, S, none, l⟩ ⟨if c == 123 then .opened else .first, none_, ⟨c == 123, key, [], []⟩ :: S, none, r⟩ :=
            Steps.one (by simp only [stepS, hs, if_neg h1, if_neg h2, if_neg h3, if_pos h4])
          cases he : endV (c == 123) r with
          | mk b r1 =>
            have hr1 := endV_len he
            have e2 : stepS ⟨if c == 123 then .opened else .first, none_, ⟨c == 123, key, [], []⟩ :: S, none, r⟩ = .inl (if b then leaveS (⟨c == 123, key, [], []⟩ :: S) r1 else ⟨if c == 123 then .member else .value, none_, ⟨c == 123, key, [], []⟩ :: S, none, r1⟩) := by
              cases hb : (c == 123)
              · rw [hb] at he
                cases b <;> simp [stepS, he]
              · rw [hb] at he
                cases b <;> simp [stepS, he]
            cases b
            · simp only [Bool.false_eq_true, if_false] at e2
              have hp := ihp ⟨c == 123, key, [], []⟩ S r1 (by omega)
              have hn : (outF (⟨c == 123, key, [], []⟩ :: S)).length = (outF S).length + 1 := by simp [outF, J.flats]
              rw [hn] at hp
              simp only
              cases hx : pp f (c == 123) ((outF S).length + 1) (S.length + 1) [] r1 with
              | error b =>
                rw [hx] at hp
                exact Ends.of (st1.step e2) hp
              | ok x =>
                obtain ⟨js, r2⟩ := x
                rw [hx] at hp
                obtain ⟨⟨h, hp1⟩, hp2⟩ := hp
                refine ⟨(st1.step e2).trans ?_, by omega⟩
                simpa [leaveS] using hp1
            · simp only [if_true] at e2
              refine ⟨?_, by first | omega | (simp only; omega)⟩
              have := st1.step e2
              simpa [leaveS] using this
        · rw [if_neg h4]
          cases hx : leafV c (c :: r) with
          | error b => exact ⟨_, Steps.refl _, by simp only [stepS, hs, if_neg h1, if_neg h2, if_neg h3, if_neg h4, hx]⟩
          | ok x =>
            obtain ⟨j, r2⟩ := x
            have := (leafV_less hx).1
            simp only [List.length_cons] at this
            exact ⟨Steps.one (by simp only [stepS, hs, if_neg h1, if_neg h2, if_neg h3, if_neg h4, hx]), by omega⟩
    · simp only [pp]
      have st0 : ∀ {k : ByteArray} {l1 : List UInt8}, keyV F.obj F.had l = .ok (k, l1) → Steps ⟨if F.obj then .member else .value, none_, F :: S, none, l⟩ ⟨.value, k, ⟨F.obj, F.key, hadOf F.obj F.had k, F.kids⟩ :: S, none, l1⟩ := by
        intro k l1 hk
        cases ho : F.obj
        · rw [ho] at hk
          simp only [keyV, if_true] at hk
          injection hk with hk; injection hk with hk1 hk2
          subst hk1 hk2
          have : (⟨false, F.key, F.had, F.kids⟩ : Fr) = F := by rw [← ho]
          simp only [Bool.false_eq_true, if_false, hadOf, this]
          exact Steps.refl _
        · rw [ho] at hk
          simp only [if_true]
          exact Steps.one (by simp only [stepS, hk, ho, hadOf, if_true])
      cases hk : keyV F.obj F.had l with
      | error b =>
        cases ho : F.obj
        · rw [ho] at hk
          simp only [keyV, if_true] at hk
          cases hk
        · rw [ho] at hk
          simp only [PartsTo, ho, if_true]
          exact ⟨_, Steps.refl _, by simp only [stepS, hk]⟩
      | ok x =>
        obtain ⟨k, l1⟩ := x
        have st1 := st0 hk
        have hkl := keyV_len hk
        have hs1 := skipB_len l1
        simp only
        have hv := ihv k (⟨F.obj, F.key, hadOf F.obj F.had k, F.kids⟩ :: S) l1 (by omega)
        have ho : outF (⟨F.obj, F.key, hadOf F.obj F.had k, F.kids⟩ :: S) = outF (F :: S) := rfl
        rw [ho] at hv
        simp only [List.length_cons] at hv
        cases hx : pv f (outF (F :: S)).length (S.length + 1) (skipB l1) with
        | error b =>
          rw [hx] at hv
          exact Ends.of st1 hv
        | ok x =>
          obtain ⟨j, l2⟩ := x
          rw [hx] at hv
          obtain ⟨hv1, hv2⟩ := hv
          have st2 := st1.trans hv1
          simp only [putJ] at st2
          simp only
          cases hm : moreV F.obj l2 with
          | error b => exact Ends.of st2 ⟨_, Steps.refl _, by simp only [stepS, hm]⟩
          | ok x =>
            obtain ⟨b, l3⟩ := x
            have hl3 := moreV_less hm
            cases b
            · refine ⟨⟨hadOf F.obj F.had k, st2.step ?_⟩, by omega⟩
              simp only [stepS, hm]
            · simp only
              have e3 := st2.step (u := ⟨if F.obj then .member else .value, none_, ⟨F.obj, F.key, hadOf F.obj F.had k, F.kids ++ [j.rekey k]⟩ :: S, none, l3⟩) (by simp only [stepS, hm])
              have hp := ihp ⟨F.obj, F.key, hadOf F.obj F.had k, F.kids ++ [j.rekey k]⟩ S l3 (by omega)
              have hn := outF_put F S (hadOf F.obj F.had k) (j.rekey k)
              rw [rekey_len] at hn
              rw [hn] at hp
              cases hy : pp f F.obj ((outF (F :: S)).length + j.flat.length) (S.length + 1) (hadOf F.obj F.had k) l3 with
              | error b =>
                rw [hy] at hp
                exact Ends.of e3 hp
              | ok y =>
                obtain ⟨js, l4⟩ := y
                rw [hy] at hp
                obtain ⟨⟨h', hp1⟩, hp2⟩ := hp
                refine ⟨⟨h', ?_⟩, by omega⟩
                have := e3.trans hp1
                simpa using this
theorem pv_key : ∀ {f n d : Nat} {l r : List UInt8} {j : J}, pv f n d l = .ok (j, r) → j.key = none_
  | 0, _, _, _, _, _, h => by simp only [pv] at h; cases h
  | f + 1, n, d, [], _, _, h => by simp only [pv] at h; cases h
  | f + 1, n, d, c :: l, r, j, h => by
    simp only [pv] at h
    repeat' split at h
    all_goals first | (cases h; done) | skip
    · injection h with h; injection h with h _; subst h; rfl
    · injection h with h; injection h with h _; subst h; rfl
    · unfold leafV at h
      repeat' split at h
      all_goals first | (cases h; done) | skip
      all_goals (injection h with h; injection h with h _; subst h; rfl)
theorem rekey_none {j : J} (h : j.key = none_) : j.rekey none_ = j := by
  cases j with
  | mk hd l =>
    obtain ⟨h1, h2, h3, h4⟩ := hd
    have e : h2 = none_ := h
    rw [J.rekey, e]
/-- where the reading ends -/
def finV (l : List UInt8) : Fin :=
  match pv (fuelOf l) 0 0 (skipB l) with
  | .error b => .error b
  | .ok (j, r) => match skipB r with
    | [] => .ok j
    | c :: p => .error (c :: p, 70)
def st0 (l : List UInt8) : St := ⟨.value, none_, [], none, l⟩
theorem mach_ends (l : List UInt8) : Ends (st0 l) (finV l) := by
  have hs := skipB_len l
  have h := (mach_both (fuelOf l)).1 none_ [] l (by unfold fuelOf; omega)
  simp only [outF, List.length_nil] at h
  unfold finV
  cases hx : pv (fuelOf l) 0 0 (skipB l) with
  | error b =>
    rw [hx] at h
    exact h
  | ok x =>
    obtain ⟨j, r⟩ := x
    rw [hx] at h
    have hk := pv_key hx
    obtain ⟨h1, _⟩ := h
    simp only [putJ, rekey_none hk] at h1
    simp only
    cases hr : skipB r with
    | nil => exact ⟨_, h1, by simp only [stepS, hr]⟩
    | cons c p => exact ⟨_, h1, by simp only [stepS, hr]⟩
theorem parseV_fin (l : List UInt8) (h : l.length ≤ 1048576) : parseV l = match finV l with | .error (p, e) => .error (l.length - p.length, e) | .ok j => .ok j := by
  unfold parseV finV
  rw [if_neg (by omega)]
  cases pv (fuelOf l) 0 0 (skipB l) with
  | error b => rfl
  | ok x =>
    obtain ⟨j, r⟩ := x
    simp only
    cases skipB r <;> rfl
end Go.Proofs.YtdlcibbbebhcoaaGreatDoor
