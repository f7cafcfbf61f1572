/- What a value is as a text: plain laws. No program is named here. -/
import Derived.Test.YtcddfpcapbdphaaGreatDoorBase
import Derived.Lib.ItoaNum
namespace Go.Proofs.YtcddfpcapbdphaaGreatDoor

/-- a digit to the base 16 -/
def hexB (n : Nat) : UInt8 := UInt8.ofNat (if n < 10 then 48 + n else 87 + n)
/-- a byte, as it stands in a literal -/
def esc1 (b : UInt8) : List UInt8 :=
  if b = 34 ∨ b = 92 then [92, b] else if b = 8 then [92, 98] else if b = 12 then [92, 102] else if b = 10 then [92, 110] else if b = 13 then [92, 114] else if b = 9 then [92, 116]
  else if b.toNat < 32 then [92, 117, 48, 48, hexB (b.toNat / 16), hexB (b.toNat % 16)] else [b]
theorem esc1_len (b : UInt8) : 1 ≤ (esc1 b).length ∧ (esc1 b).length ≤ 6 := by
  unfold esc1
  repeat' split
  all_goals simp
def escL (l : List UInt8) : List UInt8 := l.flatMap esc1
theorem escL_nil : escL [] = [] := rfl
theorem escL_append (a b : List UInt8) : escL (a ++ b) = escL a ++ escL b := by simp [escL]
theorem escL_one (b : UInt8) : escL [b] = esc1 b := by simp [escL]
theorem escL_len (l : List UInt8) : l.length ≤ (escL l).length ∧ (escL l).length ≤ 6 * l.length := by
  induction l with
  | nil => simp [escL]
  | cons b l ih =>
    have h := esc1_len b
    rw [show escL (b :: l) = esc1 b ++ escL l by simp [escL], List.length_append, List.length_cons]
    omega
/-- bytes that stand as they are -/
theorem escL_high {l : List UInt8} (h : ∀ b ∈ l, 128 ≤ b.toNat) : escL l = l := by
  induction l with
  | nil => rfl
  | cons b l ih =>
    have hb := h b (by simp)
    have e : esc1 b = [b] := by
      have hn : ∀ c : UInt8, c.toNat < 128 → b ≠ c := fun c hc e => by subst e; omega
      unfold esc1
      rw [if_neg (by intro h; rcases h with h | h; exact hn 34 (by decide) h; exact hn 92 (by decide) h), if_neg (hn 8 (by decide)), if_neg (hn 12 (by decide)), if_neg (hn 10 (by decide)), if_neg (hn 13 (by decide)), if_neg (hn 9 (by decide)), if_neg (by omega)]
    rw [show escL (b :: l) = esc1 b ++ escL l by simp [escL], e, ih fun x hx => h x (by simp [hx])]
    rfl
/-- a literal -/
def quoteL (s : ByteArray) : List UInt8 := 34 :: (escL s.data.toList ++ [34])
theorem quoteL_len (s : ByteArray) : s.size + 2 ≤ (quoteL s).length ∧ (quoteL s).length ≤ 6 * s.size + 2 := by
  have h := escL_len s.data.toList
  have e : s.data.toList.length = s.size := Array.length_toList
  rw [e] at h
  simp only [quoteL, List.length_cons, List.length_append, List.length_nil]
  omega

mutual
/-- a value's text -/
def J.show : J → List UInt8
  | .mk h l => if h.kind = 1 then [110, 117, 108, 108] else if h.kind = 2 then [102, 97, 108, 115, 101] else if h.kind = 3 then [116, 114, 117, 101] else if h.kind = 4 then Lib.itoa h.n else if h.kind = 5 then quoteL h.s
    else if h.kind = 6 then 91 :: (J.shows false true l ++ [93]) else 123 :: (J.shows true true l ++ [125])
/-- that of parts: of an object, with their keys; the first one has no comma -/
def J.shows (o first : Bool) : List J → List UInt8
  | [] => []
  | j :: l => ((if first then [] else [44]) ++ (if o then quoteL j.key ++ [58] else []) ++ j.show) ++ J.shows o false l
end
/-- a part's text, with what stands ahead of it -/
def partShow (o first : Bool) (j : J) : List UInt8 := (if first then [] else [44]) ++ (if o then quoteL j.key ++ [58] else []) ++ j.show
theorem shows_nil (o f : Bool) : J.shows o f [] = [] := by simp [J.shows]
theorem shows_cons (o f : Bool) (j : J) (l : List J) : J.shows o f (j :: l) = partShow o f j ++ J.shows o false l := by simp [J.shows, partShow]
theorem shows_snoc (o : Bool) (j : J) : ∀ (l : List J) (f : Bool), J.shows o f (l ++ [j]) = J.shows o f l ++ partShow o (f && l.isEmpty) j
  | [], f => by simp [shows_cons, shows_nil]
  | x :: l, f => by
    rw [List.cons_append, shows_cons, shows_snoc o j l false, shows_cons, List.append_assoc]
    simp
theorem itoa_len {n : Int} (h0 : -9223372036854775808 ≤ n) (h1 : n ≤ 9223372036854775807) : (Lib.itoa n).length ≤ 20 := by
  have key : ∀ u : Nat, u ≤ 9223372036854775808 → (Lib.decDigits u).length ≤ 19 := by
    intro u hu
    rw [Lib.decDigits_length]
    rcases Nat.lt_or_ge 19 (Lib.nDigits u) with h | h
    · exfalso
      have mono : ∀ k v : Nat, k < Lib.nDigits v → 10 ^ k ≤ v ∨ k = 0 := by
        intro k
        induction k with
        | zero => intro v _; exact .inr rfl
        | succ k ih =>
          intro v hv
          by_cases h10 : v < 10
          · rw [Lib.nDigits_small h10] at hv
            omega
          · rw [Lib.nDigits_big h10] at hv
            rcases ih (v / 10) (by omega) with h | rfl
            · left
              rw [Nat.pow_succ]
              omega
            · left
              omega
      rcases mono 19 u h with h | h
      · have : (10 : Nat) ^ 19 = 10000000000000000000 := by decide
        omega
      · omega
    · exact h
  unfold Lib.itoa
  split
  · have := key n.natAbs (by omega)
    simp only [List.length_cons]
    omega
  · have := key n.toNat (by omega)
    omega
/-- how much room nodes take, at most -/
def ndRoom (l : List Nd) : Nat := (l.map fun x => 6 * (x.key.size + x.s.size) + 32).sum
theorem ndRoom_nil : ndRoom [] = 0 := rfl
theorem ndRoom_cons (x : Nd) (l : List Nd) : ndRoom (x :: l) = 6 * (x.key.size + x.s.size) + 32 + ndRoom l := by simp [ndRoom]
theorem ndRoom_append (a b : List Nd) : ndRoom (a ++ b) = ndRoom a + ndRoom b := by simp [ndRoom]
/-- numbers of 64 bits -/
def NumsOk (l : List Nd) : Prop := ∀ x ∈ l, -9223372036854775808 ≤ x.n ∧ x.n ≤ 9223372036854775807
theorem NumsOk.left {a b : List Nd} (h : NumsOk (a ++ b)) : NumsOk a := fun x hx => h x (by simp [hx])
theorem NumsOk.right {a b : List Nd} (h : NumsOk (a ++ b)) : NumsOk b := fun x hx => h x (by simp [hx])
theorem show_room : (∀ j : J, NumsOk j.flat → j.show.length + 6 * j.key.size + 4 ≤ ndRoom j.flat) ∧ ∀ l : List J, NumsOk (J.flats l) → ∀ o f, (J.shows o f l).length ≤ ndRoom (J.flats l) := by
  refine J.both ?_ ?_ ?_
  · intro h l ih hn
    rw [flat_mk] at hn ⊢
    have hh := hn ⟨h.kind, h.key, h.n, h.s, (J.flats l).length + 1⟩ (by simp)
    have i1 : (Lib.itoa h.n).length ≤ 20 := itoa_len hh.1 hh.2
    have i2 := ih (fun x hx => hn x (by simp [hx])) false true
    have i3 := ih (fun x hx => hn x (by simp [hx])) true true
    have i4 := (quoteL_len h.s).2
    rw [ndRoom_cons]
    have ek : (J.mk h l).key = h.key := rfl
    rw [ek]
    simp only [J.show]
    repeat' split
    all_goals (try simp only [List.length_cons, List.length_append, List.length_nil])
    all_goals omega
  · intro _ o f
    simp [shows_nil]
  · intro j l h1 h2 hn o f
    rw [shows_cons, List.length_append, show J.flats (j :: l) = j.flat ++ J.flats l by simp [J.flats], ndRoom_append]
    rw [show J.flats (j :: l) = j.flat ++ J.flats l by simp [J.flats]] at hn
    have a1 := h1 hn.left
    have a2 := h2 hn.right o false
    have i4 := (quoteL_len j.key).2
    unfold partShow
    simp only [List.length_append]
    split <;> split
    all_goals simp only [List.length_cons, List.length_append, List.length_nil]
    all_goals omega

/-! What is written to a text that may be no longer than M: it is given up behind that. -/
def maxText : Nat := 1048576
structure Puts (acc out bs : List UInt8) : Prop where
  fits : acc.length + out.length ≤ maxText → bs = acc ++ out
  over : maxText < acc.length + out.length → maxText < bs.length
  more : acc.length ≤ bs.length
  most : bs.length ≤ acc.length + out.length
theorem Puts.all (acc out : List UInt8) : Puts acc out (acc ++ out) := ⟨fun _ => rfl, fun h => by simpa using h, by simp, by simp⟩
theorem Puts.none (acc : List UInt8) : Puts acc [] acc := by simpa using Puts.all acc []
theorem Puts.full {acc : List UInt8} (out : List UInt8) (h : maxText < acc.length) : Puts acc out acc := ⟨fun h' => by omega, fun _ => h, Nat.le_refl _, by omega⟩
theorem Puts.trans {acc a b1 b b2 : List UInt8} (h : Puts acc a b1) (k : Puts b1 b b2) : Puts acc (a ++ b) b2 := by
  refine ⟨fun hf => ?_, fun hf => ?_, Nat.le_trans h.more k.more, ?_⟩
  · rw [List.length_append] at hf
    have e := h.fits (by omega)
    subst e
    rw [k.fits (by rw [List.length_append]; omega), List.append_assoc]
  · rw [List.length_append] at hf
    rcases Nat.lt_or_ge maxText (acc.length + a.length) with h1 | h1
    · exact Nat.lt_of_lt_of_le (h.over h1) k.more
    · have e := h.fits h1
      subst e
      exact k.over (by rw [List.length_append]; omega)
  · rw [List.length_append]
    have h1 := h.most
    have h2 := k.most
    omega
end Go.Proofs.YtcddfpcapbdphaaGreatDoor


