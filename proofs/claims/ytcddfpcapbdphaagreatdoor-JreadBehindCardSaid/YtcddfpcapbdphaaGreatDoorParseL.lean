/- What a text of JSON is as a value, or what is wrong in it, and where: plain laws. No program is named here. -/
import Derived.Test.YtcddfpcapbdphaaGreatDoorUnqL
import Derived.Test.YtcddfpcapbdphaaGreatDoorWhole
namespace Go.Proofs.YtcddfpcapbdphaaGreatDoor

/-- what is wrong, and the rest of the text where it is -/
abbrev Bad := List UInt8 × Int
def isBlank (c : UInt8) : Bool := c == 32 || c == 9 || c == 10 || c == 13
def skipB : List UInt8 → List UInt8
  | [] => []
  | c :: r => if isBlank c then skipB r else c :: r
def isDig (c : UInt8) : Bool := decide (48 ≤ c.toNat) && decide (c.toNat ≤ 57)
def digsOf : List UInt8 → List UInt8
  | [] => []
  | c :: r => if isDig c then c :: digsOf r else []
def digsEnd : List UInt8 → List UInt8
  | [] => []
  | c :: r => if isDig c then digsEnd r else c :: r
/-- digits, one at least -/
def digs1 (l : List UInt8) : Except Bad (List UInt8 × List UInt8) := if digsOf l = [] then .error (l, 70) else .ok (digsOf l, digsEnd l)
def decV (ds : List UInt8) : Nat := ds.foldl (fun n d => 10 * n + (d.toNat - 48)) 0
/-- past a byte, if it stands there -/
def opt1 (x : UInt8) : List UInt8 → Bool × List UInt8
  | [] => (false, [])
  | c :: r => if c = x then (true, r) else (false, c :: r)
def opt2 (x y : UInt8) : List UInt8 → Bool × List UInt8
  | [] => (false, [])
  | c :: r => if c = x ∨ c = y then (true, r) else (false, c :: r)
/-- the whole part of a number -/
def wholeV (l : List UInt8) : Except Bad (List UInt8 × List UInt8) :=
  match opt1 48 l with
  | (true, r) => .ok ([48], r)
  | (false, _) => digs1 l
/-- a number's fraction, if it has one: is there one? -/
def fracV (l : List UInt8) : Except Bad (Bool × List UInt8) :=
  match opt1 46 l with
  | (true, r) => (match digs1 r with | .error b => .error b | .ok (_, r2) => .ok (true, r2))
  | (false, _) => .ok (false, l)
def expV (l : List UInt8) : Except Bad (Bool × List UInt8) :=
  match opt2 101 69 l with
  | (true, r) => (match digs1 (opt2 43 45 r).2 with | .error b => .error b | .ok (_, r2) => .ok (true, r2))
  | (false, _) => .ok (false, l)
def signed (neg : Bool) (n : Nat) : Int := if neg then -(n : Int) else (n : Int)
def numV (l : List UInt8) : Except Bad (Int × List UInt8) :=
  match wholeV (opt1 45 l).2 with
  | .error b => .error b
  | .ok (ds, l2) => match fracV l2 with
    | .error b => .error b
    | .ok (f, l3) => match expV l3 with
      | .error b => .error b
      | .ok (e, l4) =>
        if f = true ∨ e = true ∨ signed (opt1 45 l).1 (decV ds) < -9223372036854775808 ∨ 9223372036854775807 < signed (opt1 45 l).1 (decV ds) then .error (l, 73)
        else .ok (signed (opt1 45 l).1 (decV ds), l4)
/-- bytes that must stand there -/
def wordV : List UInt8 → List UInt8 → Except Bad (List UInt8)
  | [], l => .ok l
  | _ :: _, [] => .error ([], 70)
  | x :: xs, c :: r => if c = x then wordV xs r else .error (c :: r, 70)
def litV (l : List UInt8) : Except Bad (List UInt8 × List UInt8) :=
  match l with
  | [] => .error ([], 70)
  | c :: r => if c ≠ 34 then .error (c :: r, 70) else match unqV (c :: r) with
    | .error e => .error (c :: r, e)
    | .ok x => .ok x
/-- may a value begin with that byte? -/
def begB (c : UInt8) : Bool := c == 110 || c == 102 || c == 116 || c == 34 || c == 91 || c == 123 || c == 45 || isDig c
def oneJ (k n : Int) (s : ByteArray) : J := .mk ⟨k, none_, n, s⟩ []
def leafV (c : UInt8) (l : List UInt8) : Except Bad (J × List UInt8) :=
  if c = 110 then (match wordV [110, 117, 108, 108] l with | .error b => .error b | .ok r => .ok (oneJ 1 0 none_, r))
  else if c = 102 then (match wordV [102, 97, 108, 115, 101] l with | .error b => .error b | .ok r => .ok (oneJ 2 0 none_, r))
  else if c = 116 then (match wordV [116, 114, 117, 101] l with | .error b => .error b | .ok r => .ok (oneJ 3 0 none_, r))
  else if c = 34 then (match litV l with | .error b => .error b | .ok (s, r) => .ok (oneJ 5 0 (bT s), r))
  else (match numV l with | .error b => .error b | .ok (n, r) => .ok (oneJ 4 n none_, r))
def lastOf (obj : Bool) : UInt8 := if obj then 125 else 93
def kindOf (obj : Bool) : Int := if obj then 7 else 6
/-- a member's key and its colon; nothing in a list -/
def keyV (obj : Bool) (had : List ByteArray) (l : List UInt8) : Except Bad (ByteArray × List UInt8) :=
  if obj = false then .ok (none_, l) else match litV (skipB l) with
  | .error b => .error b
  | .ok (s, r) => if hasKey had (bT s) = true then .error (skipB l, 71) else match skipB r with
    | [] => .error ([], 70)
    | c :: r2 => if c = 58 then .ok (bT s, r2) else .error (c :: r2, 70)
/-- what stands behind a part: is there one more? -/
def moreV (obj : Bool) (l : List UInt8) : Except Bad (Bool × List UInt8) :=
  match skipB l with
  | [] => .error ([], 70)
  | c :: r => if c = 44 then .ok (true, r) else if c = lastOf obj then .ok (false, r) else .error (c :: r, 70)
/-- does the end stand there? -/
def endV (obj : Bool) (l : List UInt8) : Bool × List UInt8 := opt1 (lastOf obj) (skipB l)
/-- the keys that were there, behind one more part -/
def hadOf (obj : Bool) (had : List ByteArray) (k : ByteArray) : List ByteArray := if obj then had ++ [k] else had
mutual
/-- the value that stands there, behind n nodes, within so many others -/
def pv : Nat → Nat → Nat → List UInt8 → Except Bad (J × List UInt8)
  | 0, _, _, l => .error (l, 70)
  | f + 1, n, deep, l => match l with
    | [] => .error ([], 70)
    | c :: r => if begB c = false then .error (c :: r, 70) else if 4000 ≤ n then .error (c :: r, 5) else if 64 ≤ deep then .error (c :: r, 72)
      else if c = 91 ∨ c = 123 then (match endV (c == 123) r with
        | (true, r1) => .ok (.mk ⟨kindOf (c == 123), none_, 0, none_⟩ [], r1)
        | (false, r1) => match pp f (c == 123) (n + 1) (deep + 1) [] r1 with
          | .error b => .error b
          | .ok (js, r2) => .ok (.mk ⟨kindOf (c == 123), none_, 0, none_⟩ js, r2))
      else leafV c (c :: r)
/-- the parts that stand there, up to what ends them -/
def pp : Nat → Bool → Nat → Nat → List ByteArray → List UInt8 → Except Bad (List J × List UInt8)
  | 0, _, _, _, _, l => .error (l, 70)
  | f + 1, obj, n, deep, had, l => match keyV obj had l with
    | .error b => .error b
    | .ok (k, l1) => match pv f n deep (skipB l1) with
      | .error b => .error b
      | .ok (j, l2) => match moreV obj l2 with
        | .error b => .error b
        | .ok (false, l3) => .ok ([j.rekey k], l3)
        | .ok (true, l3) => match pp f obj (n + j.flat.length) deep (hadOf obj had k) l3 with
          | .error b => .error b
          | .ok (js, l4) => .ok (j.rekey k :: js, l4)
end
/-- enough steps for a text -/
def fuelOf (l : List UInt8) : Nat := 2 * l.length + 2
/-- a text as a value; else the place and what is wrong there -/
def parseV (l : List UInt8) : Except (Nat × Int) J :=
  if 1048576 < l.length then .error (0, 5) else match pv (fuelOf l) 0 0 (skipB l) with
  | .error (p, e) => .error (l.length - p.length, e)
  | .ok (j, r) => match skipB r with
    | [] => .ok j
    | c :: p => .error (l.length - (c :: p).length, 70)
end Go.Proofs.YtcddfpcapbdphaaGreatDoor

