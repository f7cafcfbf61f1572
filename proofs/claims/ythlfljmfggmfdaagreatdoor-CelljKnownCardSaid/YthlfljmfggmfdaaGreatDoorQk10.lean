/-  -/
import Derived.Test.YthlfljmfggmfdaaGreatDoorQk08
import Derived.Test.YthlfljmfggmfdaaGreatDoorQk09
import Derived.Test.YthlfljmfggmfdaaGreatDoorQk04
import Derived.IntWalk
/-! ###  -/
namespace Go.Proofs.YthlfljmfggmfdaaGreatDoor
abbrev Bad := List UInt8 × Int
def isBlank (c : UInt8) : Bool := c == 32 || c == 9 || c == 10 || c == 13
def skipB : List UInt8 → List UInt8
 | [] => []
 | c :: r => if isBlank c then skipB r else c :: r
def isDig (c : UInt8) : Bool := decide (48 ≤ c.toNat) && decide (c.toNat ≤ 57)
def digsOf : List UInt8 → List UInt8
 | [] => []
 | c :: r => if isDig c then c :: digsOf r else []
def digsEnd : List UInt8 → List UInt8
 | [] => []
 | c :: r => if isDig c then digsEnd r else c :: r
def digs1 (l : List UInt8) : Except Bad (List UInt8 × List UInt8) := if digsOf l = [] then .error (l, 70) else .ok (digsOf l, digsEnd l)
def decV (ds : List UInt8) : Nat := ds.foldl (fun n d => 10 * n + (d.toNat - 48)) 0
def opt1 (x : UInt8) : List UInt8 → Bool × List UInt8
 | [] => (false, [])
 | c :: r => if c = x then (true, r) else (false, c :: r)
def opt2 (x y : UInt8) : List UInt8 → Bool × List UInt8
 | [] => (false, [])
 | c :: r => if c = x ∨ c = y then (true, r) else (false, c :: r)
def wholeV (l : List UInt8) : Except Bad (List UInt8 × List UInt8) :=
 match opt1 48 l with
 | (true, r) => .ok ([48], r)
 | (false, _) => digs1 l
def fracV (l : List UInt8) : Except Bad (Bool × List UInt8) :=
 match opt1 46 l with
 | (true, r) => (match digs1 r with | .error b => .error b | .ok (_, r2) => .ok (true, r2))
 | (false, _) => .ok (false, l)
def expV (l : List UInt8) : Except Bad (Bool × List UInt8) :=
 match opt2 101 69 l with
 | (true, r) => (match digs1 (opt2 43 45 r).2 with | .error b => .error b | .ok (_, r2) => .ok (true, r2))
 | (false, _) => .ok (false, l)
def signed (neg : Bool) (n : Nat) : Int := if neg then -(n : Int) else (n : Int)
def numV (l : List UInt8) : Except Bad (Int × List UInt8) :=
 match wholeV (opt1 45 l).2 with
 | .error b => .error b
 | .ok (ds, l2) => match fracV l2 with
   | .error b => .error b
   | .ok (f, l3) => match expV l3 with
     | .error b => .error b
     | .ok (e, l4) =>
       if f = true ∨ e = true ∨ signed (opt1 45 l).1 (decV ds) < -9223372036854775808 ∨ 9223372036854775807 < signed (opt1 45 l).1 (decV ds) then .error (l, 73)
       else .ok (signed (opt1 45 l).1 (decV ds), l4)
def wordV : List UInt8 → List UInt8 → Except Bad (List UInt8)
 | [], l => .ok l
 | _ :: _, [] => .error ([], 70)
 | x :: xs, c :: r => if c = x then wordV xs r else .error (c :: r, 70)
def litV (l : List UInt8) : Except Bad (List UInt8 × List UInt8) :=
 match l with
 | [] => .error ([], 70)
 | c :: r => if c ≠ 34 then .error (c :: r, 70) else match unqV (c :: r) with
   | .error e => .error (c :: r, e)
   | .ok x => .ok x
def begB (c : UInt8) : Bool := c == 110 || c == 102 || c == 116 || c == 34 || c == 91 || c == 123 || c == 45 || isDig c
def oneJ (k n : Int) (s : ByteArray) : J := .mk ⟨k, none_, n, s⟩ []
def leafV (c : UInt8) (l : List UInt8) : Except Bad (J × List UInt8) :=
 if c = 110 then (match wordV [110, 117, 108, 108] l with | .error b => .error b | .ok r => .ok (oneJ 1 0 none_, r))
 else if c = 102 then (match wordV [102, 97, 108, 115, 101] l with | .error b => .error b | .ok r => .ok (oneJ 2 0 none_, r))
 else if c = 116 then (match wordV [116, 114, 117, 101] l with | .error b => .error b | .ok r => .ok (oneJ 3 0 none_, r))
 else if c = 34 then (match litV l with | .error b => .error b | .ok (s, r) => .ok (oneJ 5 0 (bT s), r))
 else (match numV l with | .error b => .error b | .ok (n, r) => .ok (oneJ 4 n none_, r))
def lastOf (obj : Bool) : UInt8 := if obj then 125 else 93
def kindOf (obj : Bool) : Int := if obj then 7 else 6
def keyV (obj : Bool) (had : List ByteArray) (l : List UInt8) : Except Bad (ByteArray × List UInt8) :=
 if obj = false then .ok (none_, l) else match litV (skipB l) with
 | .error b => .error b
 | .ok (s, r) => if hasKey had (bT s) = true then .error (skipB l, 71) else match skipB r with
   | [] => .error ([], 70)
   | c :: r2 => if c = 58 then .ok (bT s, r2) else .error (c :: r2, 70)
def moreV (obj : Bool) (l : List UInt8) : Except Bad (Bool × List UInt8) :=
 match skipB l with
 | [] => .error ([], 70)
 | c :: r => if c = 44 then .ok (true, r) else if c = lastOf obj then .ok (false, r) else .error (c :: r, 70)
def endV (obj : Bool) (l : List UInt8) : Bool × List UInt8 := opt1 (lastOf obj) (skipB l)
def hadOf (obj : Bool) (had : List ByteArray) (k : ByteArray) : List ByteArray := if obj then had ++ [k] else had
mutual
def pv : Nat → Nat → Nat → List UInt8 → Except Bad (J × List UInt8)
 | 0, _, _, l => .error (l, 70)
 | f + 1, n, deep, l => match l with
   | [] => .error ([], 70)
   | c :: r => if begB c = false then .error (c :: r, 70) else if 4000 ≤ n then .error (c :: r, 5) else if 64 ≤ deep then .error (c :: r, 72)
     else if c = 91 ∨ c = 123 then (match endV (c == 123) r with
      | (true, r1) => .ok (.mk ⟨kindOf (c == 123), none_, 0, none_⟩ [], r1)
      | (false, r1) => match pp f (c == 123) (n + 1) (deep + 1) [] r1 with
        | .error b => .error b
        | .ok (js, r2) => .ok (.mk ⟨kindOf (c == 123), none_, 0, none_⟩ js, r2))
     else leafV c (c :: r)
def pp : Nat → Bool → Nat → Nat → List ByteArray → List UInt8 → Except Bad (List J × List UInt8)
 | 0, _, _, _, _, l => .error (l, 70)
 | f + 1, obj, n, deep, had, l => match keyV obj had l with
   | .error b => .error b
   | .ok (k, l1) => match pv f n deep (skipB l1) with
     | .error b => .error b
     | .ok (j, l2) => match moreV obj l2 with
       | .error b => .error b
       | .ok (false, l3) => .ok ([j.rekey k], l3)
       | .ok (true, l3) => match pp f obj (n + j.flat.length) deep (hadOf obj had k) l3 with
         | .error b => .error b
         | .ok (js, l4) => .ok (j.rekey k :: js, l4)
end
def fuelOf (l : List UInt8) : Nat := 2 * l.length + 2
def parseV (l : List UInt8) : Except (Nat × Int) J :=
 if 1048576 < l.length then .error (0, 5) else match pv (fuelOf l) 0 0 (skipB l) with
 | .error (p, e) => .error (l.length - p.length, e)
 | .ok (j, r) => match skipB r with
   | [] => .ok j
   | c :: p => .error (l.length - (c :: p).length, 70)
end Go.Proofs.YthlfljmfggmfdaaGreatDoor

/-! ###  -/
namespace Go.Proofs.YthlfljmfggmfdaaGreatDoor
structure Fr where
 obj : Bool
 key : ByteArray
 had : List ByteArray
 kids : List J
def outF : List Fr → List Nd
 | [] => []
 | F :: S => outF S ++ ⟨kindOf F.obj, F.key, 0, none_, 1⟩ :: J.flats F.kids
inductive Want where
 | value | first | member | opened | behind
deriving DecidableEq
structure St where
 want : Want
 key : ByteArray
 open_ : List Fr
 done : Option J
 rest : List UInt8
def putJ (key : ByteArray) (j : J) (S : List Fr) (r : List UInt8) : St :=
 match S with
 | [] => ⟨.behind, none_, [], some (j.rekey key), r⟩
 | F :: S => ⟨.behind, none_, ⟨F.obj, F.key, F.had, F.kids ++ [j.rekey key]⟩ :: S, none, r⟩
def leaveS (S : List Fr) (r : List UInt8) : St :=
 match S with
 | [] => ⟨.behind, none_, [], none, r⟩
 | F :: S => putJ F.key (.mk ⟨kindOf F.obj, none_, 0, none_⟩ F.kids) S r
abbrev Fin := Except Bad J
def stepS (s : St) : St ⊕ Fin :=
 match s.want, s.open_ with
 | .value, S => (match skipB s.rest with
   | [] => .inr (.error ([], 70))
   | c :: r => if begB c = false then .inr (.error (c :: r, 70)) else if 4000 ≤ (outF S).length then .inr (.error (c :: r, 5)) else if 64 ≤ S.length then .inr (.error (c :: r, 72))
     else if c = 91 ∨ c = 123 then .inl ⟨if c == 123 then .opened else .first, none_, ⟨c == 123, s.key, [], []⟩ :: S, none, r⟩
     else match leafV c (c :: r) with
      | .error b => .inr (.error b)
      | .ok (j, r2) => .inl (putJ s.key j S r2))
 | .first, S => (match endV false s.rest with
   | (true, r) => .inl (leaveS S r)
   | (false, r) => .inl ⟨.value, none_, S, none, r⟩)
 | .opened, S => (match endV true s.rest with
   | (true, r) => .inl (leaveS S r)
   | (false, r) => .inl ⟨.member, none_, S, none, r⟩)
 | .member, [] => .inr (.error (s.rest, 70))
 | .member, F :: S => (match keyV true F.had s.rest with
   | .error b => .inr (.error b)
   | .ok (k, r) => .inl ⟨.value, k, ⟨F.obj, F.key, F.had ++ [k], F.kids⟩ :: S, none, r⟩)
 | .behind, [] => (match s.done with
   | none => .inr (.error (s.rest, 70))
   | some j => match skipB s.rest with
     | [] => .inr (.ok j)
     | c :: r => .inr (.error (c :: r, 70)))
 | .behind, F :: S => (match moreV F.obj s.rest with
   | .error b => .inr (.error b)
   | .ok (true, r) => .inl ⟨if F.obj then .member else .value, none_, F :: S, none, r⟩
   | .ok (false, r) => .inl (leaveS (F :: S) r))
inductive Steps : St → St → Prop where
 | refl (s : St) : Steps s s
 | step {s t u : St} : Steps s t → stepS t = .inl u → Steps s u
def Ends (s : St) (f : Fin) : Prop := ∃ t, Steps s t ∧ stepS t = .inr f
theorem Steps.trans {a b c : St} (h : Steps a b) (k : Steps b c) : Steps a c := by
 induction k with
 | refl => exact h
 | step _ e ih => exact ih.step e
theorem Steps.one {s t : St} (e : stepS s = .inl t) : Steps s t := (Steps.refl s).step e
theorem Ends.of {s t : St} {f : Fin} (h : Steps s t) (k : Ends t f) : Ends s f := by
 obtain ⟨u, h1, h2⟩ := k
 exact ⟨u, h.trans h1, h2⟩
theorem Steps.head {a c : St} (h : Steps a c) : a = c ∨ ∃ b, stepS a = .inl b ∧ Steps b c := by
 induction h with
 | refl => exact .inl rfl
 | step h e ih =>
   rcases ih with rfl | ⟨b, h1, h2⟩
   · exact .inr ⟨_, e, Steps.refl _⟩
   · exact .inr ⟨b, h1, h2.step e⟩
theorem Ends.on {a b : St} {f : Fin} (h : Steps a b) : Ends a f → Ends b f := by
 induction h with
 | refl => exact id
 | step h e ih =>
   intro k
   obtain ⟨u, h1, h2⟩ := ih k
   rcases h1.head with rfl | ⟨c, h3, h4⟩
   · rw [e] at h2; cases h2
   · rw [e] at h3
     injection h3 with h3
     subst h3
     exact ⟨u, h4, h2⟩
theorem Ends.at {a : St} {f g : Fin} (h : Ends a f) (e : stepS a = .inr g) : f = g := by
 obtain ⟨u, h1, h2⟩ := h
 rcases h1.head with rfl | ⟨c, h3, _⟩
 · rw [e] at h2
   injection h2 with h2
   exact h2.symm
 · rw [e] at h3; cases h3
theorem Ends.next {a b : St} {f : Fin} (h : Ends a f) (e : stepS a = .inl b) : Ends b f := h.on (Steps.one e)
theorem skipB_len (l : List UInt8) : (skipB l).length ≤ l.length := by
 induction l with
 | nil => simp [skipB]
 | cons c r ih =>
   simp only [skipB]
   split
   · simp only [List.length_cons]; omega
   · exact Nat.le_refl _
theorem digsEnd_len (l : List UInt8) : (digsEnd l).length ≤ l.length := by
 induction l with
 | nil => simp [digsEnd]
 | cons c r ih =>
   simp only [digsEnd]
   split
   · simp only [List.length_cons]; omega
   · exact Nat.le_refl _
theorem digs1_less {l r d : List UInt8} (h : digs1 l = .ok (d, r)) : r.length < l.length := by
 unfold digs1 at h
 split at h
 · cases h
 · rename_i hd
   injection h with h; injection h with _ h; subst h
   cases l with
   | nil => exact absurd rfl hd
   | cons c l =>
     simp only [digsOf] at hd
     split at hd
     · rename_i hc
       simp only [digsEnd, hc, if_true, List.length_cons]
       have := digsEnd_len l
       omega
     · exact absurd rfl hd
theorem opt1_len (x : UInt8) (l : List UInt8) : (opt1 x l).2.length ≤ l.length := by
 cases l with
 | nil => simp [opt1]
 | cons c r => simp only [opt1]; split <;> simp
theorem opt1_yes {x : UInt8} {l r : List UInt8} (h : opt1 x l = (true, r)) : l = x :: r := by
 cases l with
 | nil => cases h
 | cons c l =>
   simp only [opt1] at h
   split at h
   · rename_i hc
     injection h with _ h
     rw [hc, h]
   · cases h
theorem opt1_no {x : UInt8} {l r : List UInt8} (h : opt1 x l = (false, r)) : l = r := by
 cases l with
 | nil => cases h; rfl
 | cons c l =>
   simp only [opt1] at h
   split at h
   · cases h
   · injection h
theorem opt2_len (x y : UInt8) (l : List UInt8) : (opt2 x y l).2.length ≤ l.length := by
 cases l with
 | nil => simp [opt2]
 | cons c r => simp only [opt2]; split <;> simp
theorem wholeV_less {l r d : List UInt8} (h : wholeV l = .ok (d, r)) : r.length < l.length := by
 unfold wholeV at h
 split at h
 · rename_i r' ho
   injection h with h; injection h with _ h; subst h
   rw [opt1_yes ho]; simp
 · exact digs1_less h
theorem fracV_len {l r : List UInt8} {b : Bool} (h : fracV l = .ok (b, r)) : r.length ≤ l.length := by
 unfold fracV at h
 split at h
 · rename_i r1 ho
   split at h
   · cases h
   · rename_i d r2 hd
     injection h with h; injection h with _ h; subst h
     have := digs1_less hd
     rw [opt1_yes ho]; simp; omega
 · injection h with h; injection h with _ h; subst h; exact Nat.le_refl _
theorem expV_len {l r : List UInt8} {b : Bool} (h : expV l = .ok (b, r)) : r.length ≤ l.length := by
 unfold expV at h
 have h2 := opt2_len 101 69 l
 split at h
 · rename_i r1 ho
   rw [ho] at h2
   split at h
   · cases h
   · rename_i d r2 hd
     injection h with h; injection h with _ h; subst h
     have := digs1_less hd
     have := opt2_len 43 45 r1
     simp only at h2
     omega
 · injection h with h; injection h with _ h; subst h; exact Nat.le_refl _
theorem numV_less {l r : List UInt8} {n : Int} (h : numV l = .ok (n, r)) : r.length < l.length := by
 unfold numV at h
 split at h
 · cases h
 rename_i ds l2 h1
 split at h
 · cases h
 rename_i f l3 h2
 split at h
 · cases h
 rename_i e l4 h3
 split at h
 · cases h
 injection h with h; injection h with _ h; subst h
 have := wholeV_less h1
 have := fracV_len h2
 have := expV_len h3
 have := opt1_len 45 l
 omega
theorem wordV_less : ∀ {x l r : List UInt8}, wordV x l = .ok r → r.length + x.length = l.length
 | [], l, r, h => by simp only [wordV] at h; injection h with h; subst h; rfl
 | x :: xs, [], r, h => by cases h
 | x :: xs, c :: l, r, h => by
   simp only [wordV] at h
   split at h
   · have := wordV_less h
     simp only [List.length_cons]
     omega
   · cases h
theorem litV_less {l r t : List UInt8} (h : litV l = .ok (t, r)) : r.length + 1 < l.length := by
 cases l with
 | nil => cases h
 | cons c l =>
   simp only [litV] at h
   split at h
   · cases h
   split at h
   · cases h
   · rename_i x hx
     injection h with h
     subst h
     exact unqV_less hx
theorem leafV_less {c : UInt8} {l r : List UInt8} {j : J} (h : leafV c l = .ok (j, r)) : r.length < l.length ∧ j.flat.length = 1 ∧ j.deep = 1 := by
 have hl : ∀ (k n : Int) (s : ByteArray), (oneJ k n s).flat.length = 1 ∧ (oneJ k n s).deep = 1 := fun k n s => ⟨by simp [oneJ, J.flat, J.flats], by simp [oneJ, J.deep, J.deeps]⟩
 unfold leafV at h
 repeat' split at h
 all_goals first | (cases h; done) | skip
 all_goals (injection h with h; injection h with h1 h2; subst h1 h2; rename_i hw; first | (have := wordV_less hw; simp only [List.length_cons, List.length_nil] at this; exact ⟨by omega, hl _ _ _⟩) | (have := litV_less hw; exact ⟨by omega, hl _ _ _⟩) | (have := numV_less hw; exact ⟨by omega, hl _ _ _⟩))
theorem keyV_len {obj : Bool} {had : List ByteArray} {l r : List UInt8} {k : ByteArray} (h : keyV obj had l = .ok (k, r)) : r.length ≤ l.length := by
 unfold keyV at h
 split at h
 · injection h with h; injection h with _ h; subst h; exact Nat.le_refl _
 split at h
 · cases h
 rename_i s r1 h1
 split at h
 · cases h
 have a1 := litV_less h1
 have a2 := skipB_len l
 have a3 := skipB_len r1
 split at h
 · cases h
 rename_i c r2 h2
 split at h
 · injection h with h; injection h with _ h; subst h
   rw [h2] at a3
   simp only [List.length_cons] at a3
   omega
 · cases h
theorem moreV_less {obj b : Bool} {l r : List UInt8} (h : moreV obj l = .ok (b, r)) : r.length < l.length := by
 unfold moreV at h
 have a := skipB_len l
 split at h
 · cases h
 rename_i c r1 h1
 rw [h1] at a
 simp only [List.length_cons] at a
 split at h
 · injection h with h; injection h with _ h; subst h; omega
 split at h
 · injection h with h; injection h with _ h; subst h; omega
 · cases h
theorem endV_len {obj b : Bool} {l r : List UInt8} (h : endV obj l = (b, r)) : r.length ≤ l.length := by
 have a := skipB_len l
 have b' := opt1_len (lastOf obj) (skipB l)
 unfold endV at h
 rw [h] at b'
 simp only at b'
 omega
theorem outF_put (F : Fr) (S : List Fr) (h : List ByteArray) (j : J) : (outF (⟨F.obj, F.key, h, F.kids ++ [j]⟩ :: S)).length = (outF (F :: S)).length + j.flat.length := by
 simp only [outF, flats_append, flats_one, List.length_append, List.length_cons]
 omega
theorem rekey_len (k : ByteArray) (j : J) : (j.rekey k).flat.length = j.flat.length := by cases j; simp [J.rekey, J.flat]
def ValTo (key : ByteArray) (S : List Fr) (l : List UInt8) (x : Except Bad (J × List UInt8)) : Prop :=
 match x with
 | .ok (j, r) => Steps ⟨.value, key, S, none, l⟩ (putJ key j S r) ∧ r.length < l.length
 | .error b => Ends ⟨.value, key, S, none, l⟩ (.error b)
def PartsTo (F : Fr) (S : List Fr) (l : List UInt8) (x : Except Bad (List J × List UInt8)) : Prop :=
 match x with
 | .ok (js, r) => (∃ h, Steps ⟨if F.obj then .member else .value, none_, F :: S, none, l⟩ (leaveS (⟨F.obj, F.key, h, F.kids ++ js⟩ :: S) r)) ∧ r.length < l.length
 | .error b => Ends ⟨if F.obj then .member else .value, none_, F :: S, none, l⟩ (.error b)
theorem mach_both : ∀ f : Nat, (∀ (key : ByteArray) (S : List Fr) (l : List UInt8), 2 * (skipB l).length + 1 ≤ f → ValTo key S l (pv f (outF S).length S.length (skipB l))) ∧
 ∀ (F : Fr) (S : List Fr) (l : List UInt8), 2 * l.length + 2 ≤ f → PartsTo F S l (pp f F.obj (outF (F :: S)).length (S.length + 1) F.had l)
 | 0 => ⟨fun _ _ _ h => absurd h (by omega), fun _ _ _ h => absurd h (by omega)⟩
 | f + 1 => by
   obtain ⟨ihv, ihp⟩ := mach_both f
   refine ⟨fun key S l hf => ?_, fun F S l hf => ?_⟩
   · have hsl := skipB_len l
     cases hs : skipB l with
     | nil =>
       simp only [pv, ValTo]
       exact ⟨_, Steps.refl _, by simp only [stepS, hs]⟩
     | cons c r =>
       rw [hs] at hf hsl
       simp only [List.length_cons] at hf hsl
       simp only [pv]
       by_cases h1 : begB c = false
       · rw [if_pos h1]
         exact ⟨_, Steps.refl _, by simp only [stepS, hs, h1, if_true]⟩
       rw [if_neg h1]
       by_cases h2 : 4000 ≤ (outF S).length
       · rw [if_pos h2]
         exact ⟨_, Steps.refl _, by simp only [stepS, hs, if_neg h1, if_pos h2]⟩
       rw [if_neg h2]
       by_cases h3 : 64 ≤ S.length
       · rw [if_pos h3]
         exact ⟨_, Steps.refl _, by simp only [stepS, hs, if_neg h1, if_neg h2, if_pos h3]⟩
       rw [if_neg h3]
       by_cases h4 : c = 91 ∨ c = 123
       · rw [if_pos h4]
         have st1 : Steps ⟨.value, key, S, none, l⟩ ⟨if c == 123 then .opened else .first, none_, ⟨c == 123, key, [], []⟩ :: S, none, r⟩ :=
          Steps.one (by simp only [stepS, hs, if_neg h1, if_neg h2, if_neg h3, if_pos h4])
         cases he : endV (c == 123) r with
         | mk b r1 =>
           have hr1 := endV_len he
           have e2 : stepS ⟨if c == 123 then .opened else .first, none_, ⟨c == 123, key, [], []⟩ :: S, none, r⟩ = .inl (if b then leaveS (⟨c == 123, key, [], []⟩ :: S) r1 else ⟨if c == 123 then .member else .value, none_, ⟨c == 123, key, [], []⟩ :: S, none, r1⟩) := by
            cases hb : (c == 123)
            · rw [hb] at he
              cases b <;> simp [stepS, he]
            · rw [hb] at he
              cases b <;> simp [stepS, he]
           cases b
           · simp only [Bool.false_eq_true, if_false] at e2
             have hp := ihp ⟨c == 123, key, [], []⟩ S r1 (by omega)
             have hn : (outF (⟨c == 123, key, [], []⟩ :: S)).length = (outF S).length + 1 := by simp [outF, J.flats]
             rw [hn] at hp
             simp only
             cases hx : pp f (c == 123) ((outF S).length + 1) (S.length + 1) [] r1 with
             | error b =>
               rw [hx] at hp
               exact Ends.of (st1.step e2) hp
             | ok x =>
               obtain ⟨js, r2⟩ := x
               rw [hx] at hp
               obtain ⟨⟨h, hp1⟩, hp2⟩ := hp
               refine ⟨(st1.step e2).trans ?_, by omega⟩
               simpa [leaveS] using hp1
           · simp only [if_true] at e2
             refine ⟨?_, by first | omega | (simp only; omega)⟩
             have := st1.step e2
             simpa [leaveS] using this
       · rw [if_neg h4]
         cases hx : leafV c (c :: r) with
         | error b => exact ⟨_, Steps.refl _, by simp only [stepS, hs, if_neg h1, if_neg h2, if_neg h3, if_neg h4, hx]⟩
         | ok x =>
           obtain ⟨j, r2⟩ := x
           have := (leafV_less hx).1
           simp only [List.length_cons] at this
           exact ⟨Steps.one (by simp only [stepS, hs, if_neg h1, if_neg h2, if_neg h3, if_neg h4, hx]), by omega⟩
   · simp only [pp]
     have st0 : ∀ {k : ByteArray} {l1 : List UInt8}, keyV F.obj F.had l = .ok (k, l1) → Steps ⟨if F.obj then .member else .value, none_, F :: S, none, l⟩ ⟨.value, k, ⟨F.obj, F.key, hadOf F.obj F.had k, F.kids⟩ :: S, none, l1⟩ := by
      intro k l1 hk
      cases ho : F.obj
      · rw [ho] at hk
        simp only [keyV, if_true] at hk
        injection hk with hk; injection hk with hk1 hk2
        subst hk1 hk2
        have : (⟨false, F.key, F.had, F.kids⟩ : Fr) = F := by rw [← ho]
        simp only [Bool.false_eq_true, if_false, hadOf, this]
        exact Steps.refl _
      · rw [ho] at hk
        simp only [if_true]
        exact Steps.one (by simp only [stepS, hk, ho, hadOf, if_true])
     cases hk : keyV F.obj F.had l with
     | error b =>
       cases ho : F.obj
       · rw [ho] at hk
         simp only [keyV, if_true] at hk
         cases hk
       · rw [ho] at hk
         simp only [PartsTo, ho, if_true]
         exact ⟨_, Steps.refl _, by simp only [stepS, hk]⟩
     | ok x =>
       obtain ⟨k, l1⟩ := x
       have st1 := st0 hk
       have hkl := keyV_len hk
       have hs1 := skipB_len l1
       simp only
       have hv := ihv k (⟨F.obj, F.key, hadOf F.obj F.had k, F.kids⟩ :: S) l1 (by omega)
       have ho : outF (⟨F.obj, F.key, hadOf F.obj F.had k, F.kids⟩ :: S) = outF (F :: S) := rfl
       rw [ho] at hv
       simp only [List.length_cons] at hv
       cases hx : pv f (outF (F :: S)).length (S.length + 1) (skipB l1) with
       | error b =>
         rw [hx] at hv
         exact Ends.of st1 hv
       | ok x =>
         obtain ⟨j, l2⟩ := x
         rw [hx] at hv
         obtain ⟨hv1, hv2⟩ := hv
         have st2 := st1.trans hv1
         simp only [putJ] at st2
         simp only
         cases hm : moreV F.obj l2 with
         | error b => exact Ends.of st2 ⟨_, Steps.refl _, by simp only [stepS, hm]⟩
         | ok x =>
           obtain ⟨b, l3⟩ := x
           have hl3 := moreV_less hm
           cases b
           · refine ⟨⟨hadOf F.obj F.had k, st2.step ?_⟩, by omega⟩
             simp only [stepS, hm]
           · simp only
             have e3 := st2.step (u := ⟨if F.obj then .member else .value, none_, ⟨F.obj, F.key, hadOf F.obj F.had k, F.kids ++ [j.rekey k]⟩ :: S, none, l3⟩) (by simp only [stepS, hm])
             have hp := ihp ⟨F.obj, F.key, hadOf F.obj F.had k, F.kids ++ [j.rekey k]⟩ S l3 (by omega)
             have hn := outF_put F S (hadOf F.obj F.had k) (j.rekey k)
             rw [rekey_len] at hn
             rw [hn] at hp
             cases hy : pp f F.obj ((outF (F :: S)).length + j.flat.length) (S.length + 1) (hadOf F.obj F.had k) l3 with
             | error b =>
               rw [hy] at hp
               exact Ends.of e3 hp
             | ok y =>
               obtain ⟨js, l4⟩ := y
               rw [hy] at hp
               obtain ⟨⟨h', hp1⟩, hp2⟩ := hp
               refine ⟨⟨h', ?_⟩, by omega⟩
               have := e3.trans hp1
               simpa using this
theorem pv_key : ∀ {f n d : Nat} {l r : List UInt8} {j : J}, pv f n d l = .ok (j, r) → j.key = none_
 | 0, _, _, _, _, _, h => by simp only [pv] at h; cases h
 | f + 1, n, d, [], _, _, h => by simp only [pv] at h; cases h
 | f + 1, n, d, c :: l, r, j, h => by
   simp only [pv] at h
   repeat' split at h
   all_goals first | (cases h; done) | skip
   · injection h with h; injection h with h _; subst h; rfl
   · injection h with h; injection h with h _; subst h; rfl
   · unfold leafV at h
     repeat' split at h
     all_goals first | (cases h; done) | skip
     all_goals (injection h with h; injection h with h _; subst h; rfl)
theorem rekey_none {j : J} (h : j.key = none_) : j.rekey none_ = j := by
 cases j with
 | mk hd l =>
   obtain ⟨h1, h2, h3, h4⟩ := hd
   have e : h2 = none_ := h
   rw [J.rekey, e]
def finV (l : List UInt8) : Fin :=
 match pv (fuelOf l) 0 0 (skipB l) with
 | .error b => .error b
 | .ok (j, r) => match skipB r with
   | [] => .ok j
   | c :: p => .error (c :: p, 70)
def st0 (l : List UInt8) : St := ⟨.value, none_, [], none, l⟩
theorem mach_ends (l : List UInt8) : Ends (st0 l) (finV l) := by
 have hs := skipB_len l
 have h := (mach_both (fuelOf l)).1 none_ [] l (by unfold fuelOf; omega)
 simp only [outF, List.length_nil] at h
 unfold finV
 cases hx : pv (fuelOf l) 0 0 (skipB l) with
 | error b =>
   rw [hx] at h
   exact h
 | ok x =>
   obtain ⟨j, r⟩ := x
   rw [hx] at h
   have hk := pv_key hx
   obtain ⟨h1, _⟩ := h
   simp only [putJ, rekey_none hk] at h1
   simp only
   cases hr : skipB r with
   | nil => exact ⟨_, h1, by simp only [stepS, hr]⟩
   | cons c p => exact ⟨_, h1, by simp only [stepS, hr]⟩
theorem parseV_fin (l : List UInt8) (h : l.length ≤ 1048576) : parseV l = match finV l with | .error (p, e) => .error (l.length - p.length, e) | .ok j => .ok j := by
 unfold parseV finV
 rw [if_neg (by omega)]
 cases pv (fuelOf l) 0 0 (skipB l) with
 | error b => rfl
 | ok x =>
   obtain ⟨j, r⟩ := x
   simp only
   cases skipB r <;> rfl
end Go.Proofs.YthlfljmfggmfdaaGreatDoor

/-! ###  -/
namespace Go.Proofs.YthlfljmfggmfdaaGreatDoor
open Go.RowKit
structure Jh where
 at_ : Nat
 had : List ByteArray
def jhVals : List Jh → List Value → List Value
 | h :: hs, m :: ms => .int .i64 (h.at_ : Int) :: m :: jhVals hs ms
 | _, _ => []
theorem jhVals_length : ∀ (hs : List Jh) (ms : List Value), ms.length = hs.length → (jhVals hs ms).length = hs.length * 2
 | [], [], _ => rfl
 | _ :: hs, _ :: ms, h => by simp only [jhVals, List.length_cons]; have := jhVals_length hs ms (by simpa using h); omega
theorem jhVals_append : ∀ (hs : List Jh) (ms : List Value) (hs' : List Jh) (ms' : List Value), ms.length = hs.length → jhVals (hs ++ hs') (ms ++ ms') = jhVals hs ms ++ jhVals hs' ms'
 | [], [], _, _, _ => rfl
 | h :: hs, m :: ms, hs', ms', e => by
   simp only [List.cons_append, jhVals]
   rw [jhVals_append hs ms hs' ms' (by simpa using e)]
theorem jhVals_one (h : Jh) (m : Value) : jhVals [h] [m] = [.int .i64 (h.at_ : Int), m] := rfl
def MapJ (base : Nat) (w : World) (h : Jh) (m : Value) : Prop := ∃ b, m = .map (some b) ∧ base ≤ b ∧ Keys w b h.had
def JOpen (base : Nat) (w : World) (v : Value) (S : List Jh) : Prop :=
 ∃ ms : List Value, ms.length = S.length ∧ w.ownsRow base 139 2 v S.length (jhVals S.reverse ms.reverse) ∧ (∀ i, (h : i < S.length) → (h' : i < ms.length) → MapJ base w S[i] ms[i]) ∧ Apart ms
theorem MapJ.old {base : Nat} {w w' : World} {h : Jh} {m : Value} (k : MapJ base w h m) (ho : Old w w') : MapJ base w' h m := by
 obtain ⟨b, h1, h2, h3⟩ := k
 exact ⟨b, h1, h2, h3.old ho⟩
theorem JOpen.old {base : Nat} {w w' : World} {v : Value} {S : List Jh} (h : JOpen base w v S) (ho : Old w w') : JOpen base w' v S := by
 obtain ⟨ms, h1, h2, h3, h4⟩ := h
 exact ⟨ms, h1, own_old h2 ho, fun i hi hi' => (h3 i hi hi').old ho, h4⟩
theorem JOpen.nil_ (base : Nat) (w : World) : JOpen base w (.slice none 0 0) [] := ⟨[], rfl, ⟨by simp [jhVals], .inl ⟨rfl, rfl⟩⟩, fun i h => absurd h (by simp), by simp [Apart]⟩
theorem JOpen.form {base : Nat} {w : World} {v : Value} {S : List Jh} (h : JOpen base w v S) : ∃ A cap, v = .slice A S.length cap ∧ S.length ≤ cap ∧ cap ≤ maxLen := by
 obtain ⟨ms, h1, h2, h3, h4⟩ := h
 obtain ⟨A, cap, rfl, a, b, _⟩ := SlT.of_own h2
 exact ⟨A, cap, rfl, a, b⟩
theorem JOpen.top {base : Nat} {w : World} {v : Value} {h : Jh} {S : List Jh} (ho : JOpen base w v (h :: S)) :
 ∃ g cap b, v = .slice (some ⟨g, 0, none⟩) (S.length + 1) cap ∧ S.length + 1 ≤ cap ∧ cap ≤ maxLen ∧ base ≤ g ∧ w.cell? ⟨g, S.length * 2, none⟩ = some (.int .i64 (h.at_ : Int)) ∧ w.cell? ⟨g, S.length * 2 + 1, none⟩ = some (.map (some b)) ∧ base ≤ b ∧ Keys w b h.had := by
 obtain ⟨ms, h1, h2, h3, h4⟩ := ho
 match ms, h1, h2, h3 with
 | m :: ms, h1, h2, h3 =>
   obtain ⟨g, cap, rfl, a1, a2, a3, a4⟩ := own_fits h2 (by simp)
   have hl : ms.reverse.length = S.reverse.length := by simpa using h1
   rw [List.reverse_cons, List.reverse_cons, jhVals_append _ _ _ _ hl, jhVals_one] at a4
   have hL : (jhVals S.reverse ms.reverse).length = S.length * 2 := by rw [jhVals_length _ _ hl, List.length_reverse]
   obtain ⟨b, hb, b1, b2⟩ := h3 0 (by simp) (by simp)
   have hb' : m = .map (some b) := hb
   subst hb'
   refine ⟨g, cap, b, rfl, a1, a2, a3, a4 _ _ ?_, a4 _ _ ?_, b1, b2⟩
   · rw [List.getElem?_append_right (by omega), hL, Nat.sub_self]; rfl
   · rw [List.getElem?_append_right (by omega), hL, show S.length * 2 + 1 - S.length * 2 = 1 by omega]; rfl
theorem JOpen.pop {base : Nat} {w : World} {g cap : Nat} {h : Jh} {S : List Jh} (ho : JOpen base w (.slice (some ⟨g, 0, none⟩) (S.length + 1) cap) (h :: S)) : JOpen base w (.slice (some ⟨g, 0, none⟩) S.length cap) S := by
 obtain ⟨ms, h1, h2, h3, h4⟩ := ho
 match ms, h1, h2, h3, h4 with
 | m :: ms, h1, h2, h3, h4 =>
   have hl : ms.reverse.length = S.reverse.length := by simpa using h1
   have hL : (jhVals S.reverse ms.reverse).length = S.length * 2 := by rw [jhVals_length _ _ hl, List.length_reverse]
   refine ⟨ms, by simpa using h1, ?_, fun i hi hi' => ?_, (List.pairwise_cons.1 h4).2⟩
   · have := own_less h2 (m := S.length) (by simp)
     rwa [List.reverse_cons, List.reverse_cons, jhVals_append _ _ _ _ hl, List.take_left' hL] at this
   · have := h3 (i + 1) (by simpa using hi) (by simpa using hi')
     simpa using this
theorem JOpen.put {base : Nat} {w w' : World} {v : Value} {h : Jh} {S : List Jh} {b : Nat} {k : ByteArray} (ho : JOpen base w v (h :: S)) (hg : w.grownBy w' (some b)) (hk : Keys w' b (h.had ++ [k]))
 (hm : ∃ g cap, v = .slice (some ⟨g, 0, none⟩) (S.length + 1) cap ∧ w.cell? ⟨g, S.length * 2 + 1, none⟩ = some (.map (some b))) : JOpen base w' v (⟨h.at_, h.had ++ [k]⟩ :: S) := by
 obtain ⟨g, cap, rfl, hc⟩ := hm
 obtain ⟨ms, h1, h2, h3, h4⟩ := ho
 match ms, h1, h2, h3, h4 with
 | m :: ms, h1, h2, h3, h4 =>
   have hl : ms.reverse.length = S.reverse.length := by simpa using h1
   obtain ⟨g2, cap2, e, _, _, _, a4⟩ := own_fits h2 (by simp)
   injection e with e1 _ _
   injection e1 with e1
   injection e1 with e1
   subst e1
   have hL : (jhVals S.reverse ms.reverse).length = S.length * 2 := by rw [jhVals_length _ _ hl, List.length_reverse]
   have hmm : m = .map (some b) := by
    have := a4 (S.length * 2 + 1) m (by
     rw [List.reverse_cons, List.reverse_cons, jhVals_append _ _ _ _ hl, jhVals_one, List.getElem?_append_right (by omega), hL, show S.length * 2 + 1 - S.length * 2 = 1 by omega]; rfl)
    rw [hc] at this
    injection this with this
    exact this.symm
   subst hmm
   have hb : base ≤ b ∧ Keys w b h.had := by
    obtain ⟨b', e, r⟩ := h3 0 (by simp) (by simp)
    simp at e
    subst e
    exact r
   refine ⟨.map (some b) :: ms, by simpa using h1, ?_, fun i hi hi' => ?_, h4⟩
   · have e : jhVals ((⟨h.at_, h.had ++ [k]⟩ : Jh) :: S).reverse (.map (some b) :: ms).reverse = jhVals (h :: S).reverse (.map (some b) :: ms).reverse := by
      rw [List.reverse_cons, List.reverse_cons, List.reverse_cons, jhVals_append _ _ _ _ hl, jhVals_append _ _ _ _ hl]
      rfl
     rw [e]
     exact h2.kept hg (.inr (Ne.symm (keys_apart h2 hb.2)))
   · cases i with
     | zero => exact ⟨b, rfl, hb.1, hk⟩
     | succ i =>
       have hi2 : i < ms.length := by simpa using hi'
       obtain ⟨b', e, r1, r2⟩ := h3 (i + 1) hi hi'
       refine ⟨b', e, r1, r2.grown hg ?_⟩
       intro eb
       injection eb with eb
       have := (List.pairwise_cons.1 h4).1 (ms[i]) (List.getElem_mem hi2) b rfl
       apply this
       simp only [List.getElem_cons_succ] at e
       rw [e, eb]
theorem jhInfo : (Tryz.prog.info? 139).map (fun i => (i.zero, i.size, i.bytes)) = some (some (.agg #[.int .i64 0, .map none]), 2, 16) := by kernel_rfl
theorem MapJ.apart {base b : Nat} {w : World} {h : Jh} (k : MapJ base w h (.map (some b))) : b < w.heap.size := by
 obtain ⟨b', e, _, r⟩ := k
 injection e with e
 injection e with e
 subst e
 exact r.lt
structure KeptJ (T base : Nat) (w w' : World) : Prop where
 kept : Kept T base w w'
 maps : ∀ (b : Nat) (es : Array MapEntry) (c : Nat), w.heap[b]? = some (.map es c) → w'.heap[b]? = some (.map es c)
theorem KeptJ.of_grown {T base size n : Nat} {w w' : World} {v : Value} {xs : List Value} (h : w.ownsRow base T size v n xs) (hg : w.grownBy w' v.ownBlock) (hb : base ≤ w.heap.size) : KeptJ T base w w' where
 kept := Kept.of_grown h hg hb
 maps := by
  intro b es c hh
  rw [hg.block b (block_lt hh) ?_]
  · exact hh
  · intro e
    obtain ⟨cs', T'', f', hh', hT⟩ := own_block h b e.symm
    rw [hh] at hh'
    cases hh'
theorem Keys.keptJ {T base b : Nat} {w w' : World} {had : List ByteArray} (h : Keys w b had) (k : KeptJ T base w w') : Keys w' b had := by
 obtain ⟨D, ⟨es, clock, h2, r⟩, q⟩ := h
 exact ⟨D, ⟨es, clock, k.maps _ _ _ h2, r⟩, q⟩
theorem JOpen.keptJ {T base base' : Nat} {w w' : World} {v : Value} {S : List Jh} (h : JOpen base w v S) (k : KeptJ T base' w w') (hne : 139 ≠ T) : JOpen base w' v S := by
 obtain ⟨ms, h1, h2, h3, h4⟩ := h
 refine ⟨ms, h1, ?_, fun i hi hi' => ?_, h4⟩
 · obtain ⟨hl, h2⟩ := h2
   refine ⟨hl, ?_⟩
   rcases h2 with h2 | ⟨g, cap, cur, rfl, hb, hh, r⟩
   · exact .inl h2
   · exact .inr ⟨g, cap, cur, rfl, hb, k.kept.other _ _ _ _ hh hne, r⟩
 · obtain ⟨b, e, r1, r2⟩ := h3 i hi hi'
   exact ⟨b, e, r1, r2.keptJ k⟩
theorem step_push_jh {o : Oper} {a : Act} {K : Act → World → Prop} {Q : Exit → Act → World → Prop} (w0 w : World) (s x : Operand)
 (ho : o.op = .call { callee := .builtin .append, args := #[s, x], argTypes := #[98, 98] })
 (base : Nat) (v : Value) (S : List Jh) (hs : a.eval s = v) (hown : JOpen base w0 v S) (hold : Old w0 w) (hd : Jh) (b g cap : Nat) (hb0 : base ≤ w0.heap.size) (hb : w0.heap.size ≤ b) (hk : Keys w b hd.had)
 (hx : a.eval x = .slice (some ⟨g, 0, none⟩) 1 cap) (h0 : w.cell? ⟨g, 0, none⟩ = some (.int .i64 (hd.at_ : Int))) (h1 : w.cell? ⟨g, 1, none⟩ = some (.map (some b)))
 (hlen : S.length + 1 ≤ 4194304)
 (h : ∀ v' w', JOpen base w' v' (hd :: S) → KeptJ 139 base w w' → K (a.put o.dst v') w') : o.wp Tryz.prog a w K Q := by
 obtain ⟨i0, hi, hz0, hz1, hz2⟩ := info_parts jhInfo
 obtain ⟨ms, e1, e2, e3, e4⟩ := hown
 have e2' := own_old e2 hold
 refine wp_append_own w s x 98 ho base 139 i0 (.agg #[.int .i64 0, .map none]) 2 16 Tryz.underlying98 hi hz0 hz1 hz2 rfl (by omega) v S.length (jhVals S.reverse ms.reverse) hs e2'
  ⟨g, 0, none⟩ 1 cap [.int .i64 (hd.at_ : Int), .map (some b)] hx rfl ?_ ?_ (by unfold maxLen; omega) (by omega) (Nat.le_trans hb0 hold.size) ?_
 · intro j u hu
   match j, hu with
   | 0, hu => simp at hu; subst hu; exact h0
   | 1, hu => simp at hu; subst hu; simpa [Addr.add] using h1
   | j + 2, hu => simp at hu
 · intro u hu
   simp at hu
   rcases hu with rfl | rfl <;> rfl
 · intro v' w' own' hg _
   have hl : ms.reverse.length = S.reverse.length := by simpa using e1
   refine h v' w' ⟨.map (some b) :: ms, by simp [e1], ?_, fun i hi hi' => ?_, List.pairwise_cons.2 ⟨fun m hm k hk => ?_, e4⟩⟩ (KeptJ.of_grown e2' hg (Nat.le_trans hb0 hold.size))
   · rw [List.reverse_cons, List.reverse_cons, jhVals_append _ _ _ _ hl, jhVals_one, List.length_cons]
     exact own'
   · cases i with
     | zero => exact ⟨b, rfl, Nat.le_trans hb0 hb, hk.grown hg (keys_apart e2' hk)⟩
     | succ i =>
       have hi2 : i < S.length := by simpa using hi
       have hi3 : i < ms.length := by simpa using hi'
       obtain ⟨b', e, r1, r2⟩ := (e3 i hi2 hi3).old hold
       exact ⟨b', e, r1, r2.grown hg (keys_apart e2' r2)⟩
   · injection hk with hk
     injection hk with hk
     subst hk
     intro em
     obtain ⟨i, hi, rfl⟩ := List.getElem_of_mem hm
     have := e3 i (by omega) hi
     rw [em] at this
     have := this.apart
     omega
end Go.Proofs.YthlfljmfggmfdaaGreatDoor
