/- What the literal with which a text begins says, or what is wrong with it: plain laws. No program is named here. -/
import Derived.Test.YthlfljmfggmfdaaGreatDoorQm02
import Derived.Lib.DecodeN
import Derived.Lib.ItoaNum
import Derived.Test.YthlfljmfggmfdaaGreatDoorQm07
import Derived.Deep.RegionHeld3
/-! ### What the literal with which a text begins says, or what is wrong with it: plain laws. No program is named here. -/
namespace Go.Proofs.YthlfljmfggmfdaaGreatDoor

/-- the bytes as a text -/
def bT (l : List UInt8) : ByteArray := ⟨l.toArray⟩
theorem bT_size (l : List UInt8) : (bT l).size = l.length := by simp [bT, ByteArray.size]
theorem bT_of (s : ByteArray) : bT s.data.toList = s := by cases s; simp [bT]
/-- a rune's bytes -/
def encL (n : Nat) : List UInt8 := (Utf8.encode (n : Int)).data.toList
/-- a digit to the base 16 -/
def hexV (c : UInt8) : Option Nat :=
  if 48 ≤ c.toNat ∧ c.toNat ≤ 57 then some (c.toNat - 48) else if 97 ≤ c.toNat ∧ c.toNat ≤ 102 then some (c.toNat - 87) else if 65 ≤ c.toNat ∧ c.toNat ≤ 70 then some (c.toNat - 55) else none
theorem hexV_lt {c : UInt8} {k : Nat} (h : hexV c = some k) : k < 16 := by
  unfold hexV at h
  split at h
  · injection h with h; omega
  · split at h
    · injection h with h; omega
    · split at h
      · injection h with h; omega
      · cases h
/-- a digit, and what stands behind it -/
def hex1 : List UInt8 → Except Int (Nat × List UInt8)
  | [] => .error 3
  | c :: r => match hexV c with
    | none => .error 41
    | some k => .ok (k, r)
/-- is that the second digit of a second half? -/
def lowHalf (n : Nat) : Bool := decide (220 ≤ n ∧ n ≤ 223)
/-- four digits: of the second half of a rune, or of what is none -/
def half4 (second : Bool) (l : List UInt8) : Except Int (Nat × List UInt8) :=
  match hex1 l with
  | .error e => .error e
  | .ok (a, l1) => if second = true ∧ a ≠ 13 then .error 41 else match hex1 l1 with
    | .error e => .error e
    | .ok (b, l2) => if second ≠ lowHalf (16 * a + b) then .error 41 else match hex1 l2 with
      | .error e => .error e
      | .ok (c, l3) => match hex1 l3 with
        | .error e => .error e
        | .ok (d, l4) => .ok (4096 * a + 256 * b + 16 * c + d, l4)
/-- a byte that must stand there -/
def want1 (x : UInt8) : List UInt8 → Except Int (List UInt8)
  | [] => .error 3
  | c :: r => if c = x then .ok r else .error 41
/-- the rune of two bytes' escape -/
def shortV (c : UInt8) : Option Nat :=
  if c = 34 then some 34 else if c = 92 then some 92 else if c = 98 then some 8 else if c = 102 then some 12 else if c = 110 then some 10 else if c = 114 then some 13 else if c = 116 then some 9 else none
/-- is that the first half of a rune? -/
def isHigh (n : Nat) : Bool := decide (55296 ≤ n) && decide (n < 56320)
/-- a rune of its halves -/
def pairOf (n k : Nat) : Nat := 65536 + (n - 55296) * 1024 + k - 56320
/-- what an escape says, behind its first byte -/
def escV : List UInt8 → Except Int (List UInt8 × List UInt8)
  | [] => .error 3
  | c :: r => if c = 47 then .ok ([47], r) else match shortV c with
    | some k => .ok (encL k, r)
    | none => if c ≠ 117 then .error 41 else match half4 false r with
      | .error e => .error e
      | .ok (n, r1) => if isHigh n = true then (match want1 92 r1 with
          | .error e => .error e
          | .ok r2 => match want1 117 r2 with
            | .error e => .error e
            | .ok r3 => match half4 true r3 with
              | .error e => .error e
              | .ok (k, r4) => .ok (encL (pairOf n k), r4))
        else .ok (encL n, r1)
/-- is the rune, with which so many bytes begin that are none yet, whole (or never one)? -/
def fullN (n a b c : Nat) : Bool :=
  if Lib.firstT a % 8 ≤ n then true else if 1 < n ∧ (b < Lib.accLo (Lib.firstT a / 16) ∨ Lib.accHi (Lib.firstT a / 16) < b) then true else decide (2 < n ∧ (c < 128 ∨ 191 < c))
def fullB (l : List UInt8) : Bool := fullN l.length (l.getD 0 0).toNat (l.getD 1 0).toNat (l.getD 2 0).toNat
/-- the rune with which a text begins, in bytes; 0: none -/
def runeN (l : List UInt8) : Nat := if Utf8.decode (bT l) 0 = (65533, 1) then 0 else (Utf8.decode (bT l) 0).2
/-- what stands as it is -/
def plainV : List UInt8 → Except Int (List UInt8 × List UInt8)
  | [] => .error 3
  | c :: r => if c.toNat < 32 then .error 41 else if runeN (c :: r) ≠ 0 then .ok ((c :: r).take (runeN (c :: r)), (c :: r).drop (runeN (c :: r))) else if fullB (c :: r) = false then .error 3 else .error 40
/-- a piece of a literal -/
def pieceV : List UInt8 → Except Int (List UInt8 × List UInt8)
  | [] => .error 3
  | c :: r => if c = 92 then escV r else plainV (c :: r)
/-- the rest of a literal -/
def unqB : Nat → List UInt8 → Except Int (List UInt8 × List UInt8)
  | 0, _ => .error 3
  | _ + 1, [] => .error 3
  | f + 1, c :: r => if c = 34 then .ok ([], r) else match pieceV (c :: r) with
    | .error e => .error e
    | .ok (t, r1) => match unqB f r1 with
      | .error e => .error e
      | .ok (u, r2) => .ok (t ++ u, r2)
/-- a literal: what it says, and what stands behind it -/
def unqV : List UInt8 → Except Int (List UInt8 × List UInt8)
  | [] => .error 3
  | c :: r => if c ≠ 34 then .error 41 else unqB (r.length + 1) r

section
theorem hex1_less {l r : List UInt8} {k : Nat} (h : hex1 l = .ok (k, r)) : r.length < l.length ∧ k < 16 := by
  cases l with
  | nil => cases h
  | cons c l =>
    simp only [hex1] at h
    split at h
    · cases h
    · rename_i k' hk
      injection h with h
      injection h with h1 h2
      subst h1 h2
      exact ⟨by simp, hexV_lt hk⟩
theorem half4_less {s : Bool} {l r : List UInt8} {k : Nat} (h : half4 s l = .ok (k, r)) : r.length < l.length ∧ k < 65536 := by
  unfold half4 at h
  split at h
  · cases h
  rename_i a l1 h1
  split at h
  · cases h
  split at h
  · cases h
  rename_i b l2 h2
  split at h
  · cases h
  split at h
  · cases h
  rename_i c l3 h3
  split at h
  · cases h
  rename_i d l4 h4
  injection h with h
  injection h with e1 e2
  subst e1 e2
  have := hex1_less h1
  have := hex1_less h2
  have := hex1_less h3
  have := hex1_less h4
  omega
theorem want1_less {x : UInt8} {l r : List UInt8} (h : want1 x l = .ok r) : r.length < l.length := by
  cases l with
  | nil => cases h
  | cons c l =>
    simp only [want1] at h
    split at h
    · injection h with h
      subst h
      simp
    · cases h
theorem escV_less {l r t : List UInt8} (h : escV l = .ok (t, r)) : r.length < l.length := by
  cases l with
  | nil => cases h
  | cons c l =>
    simp only [escV] at h
    split at h
    · injection h with h; injection h with _ h; subst h; simp
    split at h
    · injection h with h; injection h with _ h; subst h; simp
    split at h
    · cases h
    split at h
    · cases h
    rename_i n r1 h1
    have a1 := (half4_less h1).1
    split at h
    · split at h
      · cases h
      rename_i r2 h2
      have a2 := want1_less h2
      split at h
      · cases h
      rename_i r3 h3
      have a3 := want1_less h3
      split at h
      · cases h
      rename_i k r4 h4
      have a4 := (half4_less h4).1
      injection h with h; injection h with _ h; subst h
      simp; omega
    · injection h with h; injection h with _ h; subst h
      simp; omega
theorem pieceV_less {l r t : List UInt8} (h : pieceV l = .ok (t, r)) : r.length < l.length := by
  cases l with
  | nil => cases h
  | cons c l =>
    simp only [pieceV] at h
    split at h
    · have := escV_less h
      simp; omega
    · simp only [plainV] at h
      split at h
      · cases h
      split at h
      · rename_i hn
        injection h with h; injection h with _ h; subst h
        simp only [List.length_drop, List.length_cons]
        omega
      · split at h <;> cases h
theorem unqB_more : ∀ (f g : Nat) (l : List UInt8), l.length < f → l.length < g → unqB f l = unqB g l
  | 0, _, _, h, _ => absurd h (by omega)
  | _, 0, _, _, h => absurd h (by omega)
  | f + 1, g + 1, [], _, _ => rfl
  | f + 1, g + 1, c :: r, h1, h2 => by
    simp only [unqB]
    split
    · rfl
    split
    · rfl
    · rename_i t r1 hp
      have := pieceV_less hp
      simp only [List.length_cons] at h1 h2 this
      rw [unqB_more f g r1 (by omega) (by omega)]
theorem unqB_less : ∀ (f : Nat) (l r t : List UInt8), unqB f l = .ok (t, r) → r.length < l.length
  | 0, _, _, _, h => by cases h
  | f + 1, [], _, _, h => by cases h
  | f + 1, c :: l, r, t, h => by
    simp only [unqB] at h
    split at h
    · injection h with h; injection h with _ h; subst h; simp
    split at h
    · cases h
    rename_i t1 r1 h1
    split at h
    · cases h
    rename_i u r2 h2
    have a1 := pieceV_less h1
    have a2 := unqB_less f r1 r2 u h2
    injection h with h; injection h with _ h; subst h
    omega
theorem unqV_less {l r t : List UInt8} (h : unqV l = .ok (t, r)) : r.length + 1 < l.length := by
  cases l with
  | nil => cases h
  | cons c l =>
    simp only [unqV] at h
    split at h
    · cases h
    · have := unqB_less _ _ _ _ h
      simp; omega
end
end Go.Proofs.YthlfljmfggmfdaaGreatDoor

/-! ### What a value is as a text: plain laws. No program is named here. -/
namespace Go.Proofs.YthlfljmfggmfdaaGreatDoor

/-- a digit to the base 16 -/
def hexB (n : Nat) : UInt8 := UInt8.ofNat (if n < 10 then 48 + n else 87 + n)
/-- a byte, as it stands in a literal -/
def esc1 (b : UInt8) : List UInt8 :=
  if b = 34 ∨ b = 92 then [92, b] else if b = 8 then [92, 98] else if b = 12 then [92, 102] else if b = 10 then [92, 110] else if b = 13 then [92, 114] else if b = 9 then [92, 116]
  else if b.toNat < 32 then [92, 117, 48, 48, hexB (b.toNat / 16), hexB (b.toNat % 16)] else [b]
theorem esc1_len (b : UInt8) : 1 ≤ (esc1 b).length ∧ (esc1 b).length ≤ 6 := by
  unfold esc1
  repeat' split
  all_goals simp
def escL (l : List UInt8) : List UInt8 := l.flatMap esc1
theorem escL_append (a b : List UInt8) : escL (a ++ b) = escL a ++ escL b := by simp [escL]
theorem escL_one (b : UInt8) : escL [b] = esc1 b := by simp [escL]
theorem escL_len (l : List UInt8) : l.length ≤ (escL l).length ∧ (escL l).length ≤ 6 * l.length := by
  induction l with
  | nil => simp [escL]
  | cons b l ih =>
    have h := esc1_len b
    rw [show escL (b :: l) = esc1 b ++ escL l by simp [escL], List.length_append, List.length_cons]
    omega
/-- bytes that stand as they are -/
theorem escL_high {l : List UInt8} (h : ∀ b ∈ l, 128 ≤ b.toNat) : escL l = l := by
  induction l with
  | nil => rfl
  | cons b l ih =>
    have hb := h b (by simp)
    have e : esc1 b = [b] := by
      have hn : ∀ c : UInt8, c.toNat < 128 → b ≠ c := fun c hc e => by subst e; omega
      unfold esc1
      rw [if_neg (by intro h; rcases h with h | h; exact hn 34 (by decide) h; exact hn 92 (by decide) h), if_neg (hn 8 (by decide)), if_neg (hn 12 (by decide)), if_neg (hn 10 (by decide)), if_neg (hn 13 (by decide)), if_neg (hn 9 (by decide)), if_neg (by omega)]
    rw [show escL (b :: l) = esc1 b ++ escL l by simp [escL], e, ih fun x hx => h x (by simp [hx])]
    rfl
/-- a literal -/
def quoteL (s : ByteArray) : List UInt8 := 34 :: (escL s.data.toList ++ [34])
theorem quoteL_len (s : ByteArray) : s.size + 2 ≤ (quoteL s).length ∧ (quoteL s).length ≤ 6 * s.size + 2 := by
  have h := escL_len s.data.toList
  have e : s.data.toList.length = s.size := Array.length_toList
  rw [e] at h
  simp only [quoteL, List.length_cons, List.length_append, List.length_nil]
  omega

mutual
/-- a value's text -/
def J.show : J → List UInt8
  | .mk h l => if h.kind = 1 then [110, 117, 108, 108] else if h.kind = 2 then [102, 97, 108, 115, 101] else if h.kind = 3 then [116, 114, 117, 101] else if h.kind = 4 then Lib.itoa h.n else if h.kind = 5 then quoteL h.s
    else if h.kind = 6 then 91 :: (J.shows false true l ++ [93]) else 123 :: (J.shows true true l ++ [125])
/-- that of parts: of an object, with their keys; the first one has no comma -/
def J.shows (o first : Bool) : List J → List UInt8
  | [] => []
  | j :: l => ((if first then [] else [44]) ++ (if o then quoteL j.key ++ [58] else []) ++ j.show) ++ J.shows o false l
end
/-- a part's text, with what stands ahead of it -/
def partShow (o first : Bool) (j : J) : List UInt8 := (if first then [] else [44]) ++ (if o then quoteL j.key ++ [58] else []) ++ j.show
theorem shows_nil (o f : Bool) : J.shows o f [] = [] := by simp [J.shows]
theorem shows_cons (o f : Bool) (j : J) (l : List J) : J.shows o f (j :: l) = partShow o f j ++ J.shows o false l := by simp [J.shows, partShow]
theorem shows_snoc (o : Bool) (j : J) : ∀ (l : List J) (f : Bool), J.shows o f (l ++ [j]) = J.shows o f l ++ partShow o (f && l.isEmpty) j
  | [], f => by simp [shows_cons, shows_nil]
  | x :: l, f => by
    rw [List.cons_append, shows_cons, shows_snoc o j l false, shows_cons, List.append_assoc]
    simp
theorem itoa_len {n : Int} (h0 : -9223372036854775808 ≤ n) (h1 : n ≤ 9223372036854775807) : (Lib.itoa n).length ≤ 20 := by
  have key : ∀ u : Nat, u ≤ 9223372036854775808 → (Lib.decDigits u).length ≤ 19 := by
    intro u hu
    rw [Lib.decDigits_length]
    rcases Nat.lt_or_ge 19 (Lib.nDigits u) with h | h
    · exfalso
      have mono : ∀ k v : Nat, k < Lib.nDigits v → 10 ^ k ≤ v ∨ k = 0 := by
        intro k
        induction k with
        | zero => intro v _; exact .inr rfl
        | succ k ih =>
          intro v hv
          by_cases h10 : v < 10
          · rw [Lib.nDigits_small h10] at hv
            omega
          · rw [Lib.nDigits_big h10] at hv
            rcases ih (v / 10) (by omega) with h | rfl
            · left
              rw [Nat.pow_succ]
              omega
            · left
              omega
      rcases mono 19 u h with h | h
      · have : (10 : Nat) ^ 19 = 10000000000000000000 := by decide
        omega
      · omega
    · exact h
  unfold Lib.itoa
  split
  · have := key n.natAbs (by omega)
    simp only [List.length_cons]
    omega
  · have := key n.toNat (by omega)
    omega
/-- how much room nodes take, at most -/
def ndRoom (l : List Nd) : Nat := (l.map fun x => 6 * (x.key.size + x.s.size) + 32).sum
theorem ndRoom_cons (x : Nd) (l : List Nd) : ndRoom (x :: l) = 6 * (x.key.size + x.s.size) + 32 + ndRoom l := by simp [ndRoom]
theorem ndRoom_append (a b : List Nd) : ndRoom (a ++ b) = ndRoom a + ndRoom b := by simp [ndRoom]
/-- numbers of 64 bits -/
def NumsOk (l : List Nd) : Prop := ∀ x ∈ l, -9223372036854775808 ≤ x.n ∧ x.n ≤ 9223372036854775807
theorem NumsOk.left {a b : List Nd} (h : NumsOk (a ++ b)) : NumsOk a := fun x hx => h x (by simp [hx])
theorem NumsOk.right {a b : List Nd} (h : NumsOk (a ++ b)) : NumsOk b := fun x hx => h x (by simp [hx])
theorem show_room : (∀ j : J, NumsOk j.flat → j.show.length + 6 * j.key.size + 4 ≤ ndRoom j.flat) ∧ ∀ l : List J, NumsOk (J.flats l) → ∀ o f, (J.shows o f l).length ≤ ndRoom (J.flats l) := by
  refine J.both ?_ ?_ ?_
  · intro h l ih hn
    rw [flat_mk] at hn ⊢
    have hh := hn ⟨h.kind, h.key, h.n, h.s, (J.flats l).length + 1⟩ (by simp)
    have i1 : (Lib.itoa h.n).length ≤ 20 := itoa_len hh.1 hh.2
    have i2 := ih (fun x hx => hn x (by simp [hx])) false true
    have i3 := ih (fun x hx => hn x (by simp [hx])) true true
    have i4 := (quoteL_len h.s).2
    rw [ndRoom_cons]
    have ek : (J.mk h l).key = h.key := rfl
    rw [ek]
    simp only [J.show]
    repeat' split
    all_goals (try simp only [List.length_cons, List.length_append, List.length_nil])
    all_goals omega
  · intro _ o f
    simp [shows_nil]
  · intro j l h1 h2 hn o f
    rw [shows_cons, List.length_append, show J.flats (j :: l) = j.flat ++ J.flats l by simp [J.flats], ndRoom_append]
    rw [show J.flats (j :: l) = j.flat ++ J.flats l by simp [J.flats]] at hn
    have a1 := h1 hn.left
    have a2 := h2 hn.right o false
    have i4 := (quoteL_len j.key).2
    unfold partShow
    simp only [List.length_append]
    split <;> split
    all_goals simp only [List.length_cons, List.length_append, List.length_nil]
    all_goals omega

/-! What is written to a text that may be no longer than M: it is given up behind that. -/
def maxText : Nat := 1048576
structure Puts (acc out bs : List UInt8) : Prop where
  fits : acc.length + out.length ≤ maxText → bs = acc ++ out
  over : maxText < acc.length + out.length → maxText < bs.length
  more : acc.length ≤ bs.length
  most : bs.length ≤ acc.length + out.length
theorem Puts.all (acc out : List UInt8) : Puts acc out (acc ++ out) := ⟨fun _ => rfl, fun h => by simpa using h, by simp, by simp⟩
theorem Puts.none (acc : List UInt8) : Puts acc [] acc := by simpa using Puts.all acc []
theorem Puts.full {acc : List UInt8} (out : List UInt8) (h : maxText < acc.length) : Puts acc out acc := ⟨fun h' => by omega, fun _ => h, Nat.le_refl _, by omega⟩
theorem Puts.trans {acc a b1 b b2 : List UInt8} (h : Puts acc a b1) (k : Puts b1 b b2) : Puts acc (a ++ b) b2 := by
  refine ⟨fun hf => ?_, fun hf => ?_, Nat.le_trans h.more k.more, ?_⟩
  · rw [List.length_append] at hf
    have e := h.fits (by omega)
    subst e
    rw [k.fits (by rw [List.length_append]; omega), List.append_assoc]
  · rw [List.length_append] at hf
    rcases Nat.lt_or_ge maxText (acc.length + a.length) with h1 | h1
    · exact Nat.lt_of_lt_of_le (h.over h1) k.more
    · have e := h.fits h1
      subst e
      exact k.over (by rw [List.length_append]; omega)
  · rw [List.length_append]
    have h1 := h.most
    have h2 := k.most
    omega
end Go.Proofs.YthlfljmfggmfdaaGreatDoor

/-! ### slices.Clone of nodes, and tape.Part. -/
namespace Go.Proofs.YthlfljmfggmfdaaGreatDoor
open Go.RowKit

/-- append of nodes -/
theorem step_push_nodes {o : Oper} {a : Act} {K : Act → World → Prop} {Q : Exit → Act → World → Prop} (w : World) (s x : Operand)
    (ho : o.op = .call { callee := .builtin .append, args := #[s, x], argTypes := #[24, 24] })
    (base : Nat) (v : Value) (r : List Nd) (hs : a.eval s = v) (hown : NodesOwn base w v r)
    (xv : Value) (q : List Nd) (hev : a.eval x = xv) (hx : NodesIs w xv q) (hlen : r.length + q.length ≤ 4194304) (hbase : base ≤ w.heap.size)
    (h : ∀ v' w', NodesOwn base w' v' (r ++ q) → Kept 36 base w w' → K (a.put o.dst v') w') : o.wp Tryz.prog a w K Q := by
  obtain ⟨i0, hi, hz0, hz1, hz2⟩ := info_parts nodeInfo
  refine wp_append_sl w s x 24 ho base 36 i0 _ 5 56 Tryz.underlying24 hi hz0 hz1 hz2 rfl (by omega) v r.length (ndVals r) hs hown
    xv q.length (ndVals q) hev hx (ndVals_length q) (ndVals_cell q) (by unfold maxLen; omega) (by omega) hbase ?_
  intro v' w' own' hg
  refine h v' w' ?_ (Kept.of_grown hown hg hbase)
  unfold NodesOwn
  rw [ndVals_append, List.length_append]
  exact own'

/-- a piece of nodes -/
theorem Sl.piece {w : World} {b o cap : Nat} {t : List Nd} (h : NodesIs w (.slice (some ⟨b, o, none⟩) t.length cap) t) (a n c : Nat) (ha : a + n ≤ t.length) (hc : n ≤ c) (hm : c ≤ maxLen) : NodesIs w (.slice (some ⟨b, o + a * 5, none⟩) n c) ((t.drop a).take n) := by
  obtain ⟨A, cp, he, h1, h2, h3⟩ := h
  injection he with e1 _ _
  have hl : ((t.drop a).take n).length = n := by simp; omega
  refine ⟨_, c, by rw [hl], by rw [hl]; exact hc, hm, fun hne => ⟨b, o + a * 5, rfl, fun j u hu => ?_⟩⟩
  have ht : ndVals t ≠ [] := ndVals_ne (by
    rcases Nat.eq_zero_or_pos n with h | h
    · subst h; simp [ndVals] at hne
    · omega)
  obtain ⟨b', o', e2, h4⟩ := h3 ht
  rw [← e1] at e2
  injection e2 with e2
  injection e2 with e2 e3 _
  subst e2 e3
  rw [Nat.add_assoc]
  refine h4 _ _ ?_
  rw [ndVals_take, ndVals_drop _ _ (by omega), List.getElem?_take] at hu
  split at hu
  · rwa [List.getElem?_drop] at hu
  · cases hu
def Nd.unkey (x : Nd) : Nd := ⟨x.kind, none_, x.n, x.s, x.size⟩
def unkeyL : List Nd → List Nd
  | [] => []
  | x :: r => x.unkey :: r
def J.unkey : J → J
  | .mk h l => .mk ⟨h.kind, none_, h.n, h.s⟩ l
theorem unkey_flat (j : J) : unkeyL j.flat = j.unkey.flat := by
  cases j
  simp [flat_mk, unkeyL, J.unkey, Nd.unkey]
theorem SlT.setKey {lo : Nat} {w : World} {v : Value} {x : Nd} {r : List Nd} (h : NodesT lo w v (x :: r)) : ∃ g off cap, v = .slice (some ⟨g, off, none⟩) (r.length + 1) cap ∧ r.length + 1 ≤ cap ∧ cap ≤ maxLen ∧ lo ≤ g ∧ w.cell? ⟨g, off + 1, none⟩ = some (.string x.key) ∧ w.frozen? ⟨g, off + 1, none⟩ = false ∧
    NodesT lo (w.setCell ⟨g, off + 1, none⟩ (.string ⟨#[]⟩)) v (x.unkey :: r) := by
  obtain ⟨A, cap, rfl, h1, h2, h3⟩ := h
  obtain ⟨g, off, cs, rfl, hlo, hh, hc⟩ := h3 (ndVals_ne (by simp))
  have k1 := hc 1 (.string x.key) (by simp [ndVals, Nd.vals])
  have hlt : off + 1 < cs.size := (Array.getElem?_eq_some_iff.1 k1).1
  refine ⟨g, off, cap, rfl, h1, h2, hlo, by rw [cell_of_heap hh]; exact k1, free_of_heap hh, ⟨_, cap, rfl, h1, h2, fun _ => ⟨g, off, cs.setIfInBounds (off + 1) (.string ⟨#[]⟩), rfl, hlo, by simp [World.setCell, Array.getElem?_modify, hh], fun j u hu => ?_⟩⟩⟩
  have e : ndVals (x.unkey :: r) = (ndVals (x :: r)).set 1 (.string ⟨#[]⟩) := by simp [ndVals, Nd.vals, Nd.unkey, none_]
  rw [e, List.getElem?_set] at hu
  by_cases hj : 1 = j
  · subst hj
    simp [ndVals, Nd.vals] at hu
    subst hu
    simp [hlt]
  · rw [if_neg hj] at hu
    rw [Array.getElem?_setIfInBounds_ne (by omega)]
    exact hc j u hu

/-- what Part answers -/
def PartT (t : List Nd) (at_ : Int) (ps : List Nd) : Prop :=
  ((chkT t ≠ 0 ∨ at_ < 0 ∨ (t.length : Int) ≤ at_) ∧ ps = []) ∨ ∃ (j j' : J) (a : Nat) (r : List Nd), May t j ∧ at_ = a ∧ a < t.length ∧ t.drop a = j'.flat ++ r ∧ J.Ok vU j' ∧ j'.deep ≤ j.deep ∧ ps = j'.unkey.flat
end Go.Proofs.YthlfljmfggmfdaaGreatDoor

/-! ### tape.Get. -/
namespace Go.Proofs.YthlfljmfggmfdaaGreatDoor
open Go.RowKit

/-- the member of a key -/
def member (l : List J) (key : ByteArray) : Option J := l.find? fun j => decide (j.key = key)
/-- what Get answers -/
def GetT (t : List Nd) (key : ByteArray) (ps : List Nd) (is : Bool) : Prop :=
  ((chkT t ≠ 0 ∨ ∃ h l, May t (.mk h l) ∧ h.kind ≠ 7) ∧ ps = [] ∧ is = false) ∨ ∃ h l, May t (.mk h l) ∧ h.kind = 7 ∧ ((member l key = none ∧ ps = [] ∧ is = false) ∨ ∃ j, member l key = some j ∧ ps = j.unkey.flat ∧ is = true)
theorem member_none {l1 : List J} {key : ByteArray} (h : ∀ j ∈ l1, j.key ≠ key) (l2 : List J) : member (l1 ++ l2) key = member l2 key := by
  unfold member
  rw [List.find?_append, List.find?_eq_none.2 (by simpa using h)]
  rfl
theorem member_here {j : J} {l : List J} {key : ByteArray} (h : j.key = key) : member (j :: l) key = some j := by simp [member, h]
/-- new nodes, and whether there are some -/
def NewNodesB (w0 : World) (l : List Nd) (b : Bool) (e : Ending) (w' : World) : Prop := ∃ v, e = .returned (.tuple #[v, .bool b]) ∧ NodesT w0.heap.size w' v l ∧ Old w0 w'
theorem ints_cell {w : World} {v : Value} {l : List Nat} {lo m : Nat} (h : IntsT lo w v l) (hm : l.length = m) : ∃ A cap, v = .slice A m cap ∧ m ≤ cap ∧ cap ≤ maxLen ∧ (m = 0 ∨ ∃ b off, A = some ⟨b, off, none⟩ ∧ ∀ (i n : Nat), l[i]? = some n → w.cell? ⟨b, off + i, none⟩ = some (.int .i64 (n : Int))) := by
  subst hm
  obtain ⟨A, cap, rfl, h1, h2, h3⟩ := h.sl
  refine ⟨A, cap, rfl, h1, h2, ?_⟩
  cases l with
  | nil => exact .inl rfl
  | cons x l =>
    obtain ⟨b, off, rfl, hc⟩ := h3 (by simp [intVals])
    exact .inr ⟨b, off, rfl, fun i n hn => hc i _ (by simp only [intVals, List.getElem?_map, hn, Option.map_some])⟩
theorem starts_at {a : Nat} {l1 l2 : List J} {j : J} : (starts a (l1 ++ j :: l2))[l1.length]? = some (a + (J.flats l1).length) := by
  rw [starts_append, List.getElem?_append_right (by rw [starts_length]; exact Nat.le_refl _), starts_length, Nat.sub_self]
  rfl
theorem kids_ok {V : ByteArray → Bool} {h : Hd} {l : List J} (hok : J.Ok V (.mk h l)) : J.Oks V l := by
  simp only [J.Ok] at hok
  rcases hok with ⟨_, rfl⟩ | ⟨_, _, h, _⟩ | ⟨_, _, h, _⟩
  · simp [J.Oks]
  · exact h
  · exact h
theorem part_kid {t : List Nd} {h : Hd} {l1 l2 : List J} {j : J} (hm : May t (.mk h (l1 ++ j :: l2))) : PartT t ((0 + 1 + (J.flats l1).length : Nat) : Int) j.unkey.flat := by
  have hd : t.drop 0 = J.flat (.mk h (l1 ++ j :: l2)) ++ [] := by rw [List.drop_zero, List.append_nil]; exact hm.1.2.2
  have hd2 := drop_flat hd
  rw [flats_cons, List.append_assoc] at hd2
  obtain ⟨ha, _⟩ := head_flat hd2
  have hok := oks_mem (kids_ok hm.1.1) j (by simp)
  refine .inr ⟨_, j, _, _, hm, rfl, ha, hd2, hok, ?_, rfl⟩
  have := deep_le_deeps (l := l1 ++ j :: l2) (j := j) (by simp)
  simp only [J.deep]
  omega

end Go.Proofs.YthlfljmfggmfdaaGreatDoor

/-! ### Small helpers of the statements and of the document: eq, Eq, EqInts, Copy, spoil. -/
namespace Go.Proofs.YthlfljmfggmfdaaGreatDoor
open Go.RowKit

def sameNds (a b : List Nd) : Bool := decide (a = b)
theorem same_len {α : Type} [DecidableEq α] {a b : List α} (h : a.length ≠ b.length) : decide (a = b) = false := by
  simp only [decide_eq_false_iff_not]; intro e; exact h (by rw [e])
theorem same_at {α : Type} [DecidableEq α] {a b : List α} {k : Nat} (ha : k < a.length) (hb : k < b.length) (h : a[k] ≠ b[k]) : decide (a = b) = false := by
  simp only [decide_eq_false_iff_not]
  rintro rfl
  exact h rfl
theorem same_end {α : Type} [DecidableEq α] {a b : List α} (hl : a.length = b.length) (h : ∀ j : Nat, j < a.length → a[j]? = b[j]?) : decide (a = b) = true := by
  simp only [decide_eq_true_eq]
  apply List.ext_getElem?
  intro j
  rcases Nat.lt_or_ge j a.length with h1 | h1
  · exact h j h1
  · rw [List.getElem?_eq_none h1, List.getElem?_eq_none (by omega)]
theorem same_next {α : Type} {a b : List α} {k : Nat} (ha : k < a.length) (hb : k < b.length) (h : ∀ j : Nat, j < k → a[j]? = b[j]?) (hc : a[k] = b[k]) : ∀ j : Nat, j < k + 1 → a[j]? = b[j]? := by
  intro j hj
  rcases Nat.lt_or_ge j k with h1 | h1
  · exact h j h1
  · have : j = k := by omega
    subst this
    rw [List.getElem?_eq_getElem ha, List.getElem?_eq_getElem hb, hc]
theorem sameNd_false {a b : Nd} (h : (!sameNd a b) = true) : a ≠ b := by simpa [sameNd] using h
theorem sameNd_true {a b : Nd} (h : (!sameNd a b) = false) : a = b := by simpa [sameNd] using h

set_option maxRecDepth 100000 in
set_option maxHeartbeats 400000 in
theorem ref_Eq (va vb : Value) (a b : List Nd) (w : World) (ha : NodesIs w va a) (hb : NodesIs w vb b) :
    Calls Tryz.prog 20 #[va, vb] w fun e w' => e = .returned (.bool (sameNds a b)) ∧ Old w w' := by
  have hG := nodeGuard
  obtain ⟨A, ca, rfl, hla, hma, ha⟩ := ha.nodes
  obtain ⟨B, cb, rfl, hlb, hmb, hb⟩ := hb.nodes
  unfold maxLen at hma hmb
  go_enter Tryz.func20, Tryz.ntmps20
  by_cases hl : a.length = b.length
  · have hl' : ((a.length : Int) != (b.length : Int)) = false := by simp [hl]
    have HL := hide hl
    have hl1 : a.length ≤ b.length := by omega
    have hl2 : b.length ≤ a.length := by omega
    clear hl
    go_wp2_with fail
    go_loopw [5] (fun i wr => ∃ k : Nat, i = .int .i64 k ∧ k ≤ a.length ∧ Hid (∀ j : Nat, j < k → a[j]? = b[j]?) ∧ Old w wr) (fun i _ => a.length - (intOf i).toNat)
    case atStart => exact ⟨0, rfl, by omega, hide (by intro j hj; omega), Old.refl _⟩
    case round =>
      obtain ⟨k, rfl, hk, HQ, hbl⟩ := hrel
      by_cases hlt : k < a.length
      · have hlt' : k < b.length := by omega
        obtain ⟨b1, o1, rfl, hc1⟩ := ha.resolve_left (by omega)
        obtain ⟨b2, o2, rfl, hc2⟩ := hb.resolve_left (by omega)
        obtain ⟨x0, x1, x2, x3, x4⟩ := hc1 k hlt
        obtain ⟨y0, y1, y2, y3, y4⟩ := hc2 k hlt'
        have hx0 := hbl.cell x0
        have hx1 := hbl.cell x1
        have hx2 := hbl.cell x2
        have hx3 := hbl.cell x3
        have hx4 := hbl.cell x4
        have hy0 := hbl.cell y0
        have hy1 := hbl.cell y1
        have hy2 := hbl.cell y2
        have hy3 := hbl.cell y3
        have hy4 := hbl.cell y4
        have hq := neq_node a[k] b[k]
        obtain ⟨C, hC⟩ : ∃ C, Hid ((!sameNd a[k] b[k]) = C) := ⟨_, hide rfl⟩
        rw [hC.out] at hq
        clear ha hb hc1 hc2 x0 x1 x2 x3 x4 y0 y1 y2 y3 y4
        go_wp2_with fail
        go_quiet (fail)
        clear hx0 hx1 hx2 hx3 hx4 hy0 hy1 hy2 hy3 hy4 hq
        cases C
        · go_wp2_with fail
          go_roundw
          case rel => exact ⟨k + 1, by go_num, by omega, hide (same_next hlt hlt' HQ.out (sameNd_true hC.out)), Old.drewN hbl _⟩
          case measure => simp [intOf]; omega
        · go_wp2_with fail
          go_ret
          exact ⟨ret_bool (same_at hlt hlt' (sameNd_false hC.out)).symm, Old.drewN hbl _⟩
      · go_wp2_with fail
        go_ret
        exact ⟨ret_bool (same_end HL.out (fun j hj => HQ.out j (by omega))).symm, hbl⟩
  · have hl' : ((a.length : Int) != (b.length : Int)) = true := by simp; omega
    go_wp2_with fail
    go_ret
    exact ⟨ret_bool (same_len hl).symm, Old.refl _⟩

set_option maxRecDepth 100000 in
theorem ref_Copy (v : Value) (r : List Nd) (w : World) (h : NodesIs w v r) (hlen : r.length ≤ 1048576) : Calls Tryz.prog 15 #[v] w (NewNodes w r) := by
  have H := hide h
  obtain ⟨A, cap, rfl, rest⟩ := h
  clear rest
  go_enter Tryz.func15, Tryz.ntmps15
  go_wp2_with (at_builtin; refine wpList_plain rfl (fun K hK => ?_); refine step_push_nodes _ _ _ rfl w.heap.size (.slice none 0 0) [] rfl (World.ownsRow_nil _ _ _ _) _ r rfl H.out (by simp; omega) (Nat.le_refl _) ?_; intro v' w' own hk; refine hK _ _ ?_; clear hK)
  go_ret
  exact ⟨_, rfl, SlT.of_own own, hk.old (Old.refl _) (Nat.le_refl _)⟩

/-- worlds in which what lies from block lo on may have been spoilt -/
structure Spo (lo : Nat) (w wr : World) : Prop where
  low : Below lo w wr
  cells : ∀ (b : Nat) (cs : Array Value) (T : TypeId) (f : Nat × Nat), w.heap[b]? = some (.cells cs T f) → ∃ cs' : Array Value, wr.heap[b]? = some (.cells cs' T f) ∧ cs'.size = cs.size
theorem Spo.refl (lo : Nat) (w : World) : Spo lo w w := ⟨Below.refl _ _, fun _ cs _ _ h => ⟨cs, h, rfl⟩⟩
theorem Spo.set {lo : Nat} {w wr : World} (h : Spo lo w wr) {p i : Nat} (hp : lo ≤ p) (u : Value) : Spo lo w (wr.setCell ⟨p, i, none⟩ u) where
  low := h.low.setCell hp u
  cells := by
    intro b cs1 T1 f1 hb1
    obtain ⟨cs', h1, h2⟩ := h.cells b cs1 T1 f1 hb1
    by_cases e : p = b
    · subst e
      exact ⟨cs'.setIfInBounds i u, by simp [World.setCell, Array.getElem?_modify, h1], by simpa using h2⟩
    · exact ⟨cs', by simp [World.setCell, Array.getElem?_modify, h1, e], h2⟩
theorem Spo.some {lo : Nat} {w wr : World} (h : Spo lo w wr) {p i : Nat} {cs : Array Value} {T : TypeId} (hb : w.heap[p]? = some (.cells cs T (0, 0))) (hi : i < cs.size) : (∃ x, wr.cell? ⟨p, i, none⟩ = some x) ∧ wr.frozen? ⟨p, i, none⟩ = false := by
  obtain ⟨cs', h1, h2⟩ := h.cells p cs T _ hb
  exact ⟨⟨cs'[i], by rw [cell_of_heap h1]; exact Array.getElem?_eq_getElem (by omega)⟩, free_of_heap h1⟩

end Go.Proofs.YthlfljmfggmfdaaGreatDoor
