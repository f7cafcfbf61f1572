/-  -/
import Derived.Test.YthlfljmfggmfdaaGreatDoorQf03
import Derived.Test.YthlfljmfggmfdaaGreatDoorQf06
import Derived.Test.YthlfljmfggmfdaaGreatDoorQf02
import Derived.Lib.DecodeN
import Derived.Lib.ItoaNum
/-! ###  -/
namespace Go.Proofs.YthlfljmfggmfdaaGreatDoor
open Go.RowKit
theorem empty_cases (s : ByteArray) : s = ⟨#[]⟩ ∨ (s.toList.isEmpty = false ∧ ¬ s = ⟨#[]⟩ ∧ ¬ s = none_) := by
 by_cases h : s = ⟨#[]⟩
 · exact .inl h
 · refine .inr ⟨?_, h, h⟩
   cases hl : s.toList with
   | nil =>
     exfalso
     apply h
     apply bytesD_ext
     rw [← ByteArray.toList_eq, hl]
   | cons a l => rfl
abbrev Cl (c : Cell) : Value := .agg #[.bool c.null, .int .i64 c.n, .string c.s]
abbrev Ty (k : Int) (nl : Bool) : Value := .agg #[.int .i64 k, .bool nl]
def Ret (v : Value) (w : World) (e : Ending) (w' : World) : Prop := e = .returned v ∧ Old w w'
theorem may_run (k : Int) (nl : Bool) (w : World) : Calls Tryz.prog 43 #[Ty k nl] w (Ret (.bool (mayK k)) w) := by
 unfold Ret
 by_cases h0 : 0 < k
 · by_cases h1 : k < 6
   · have hm : mayK k = true := by simp [mayK]; omega
     rw [hm]
     go_enter Tryz.func43, Tryz.ntmps43
     go_wp2_with fail
     go_ret
     exact ⟨rfl, Old.alloc (Old.refl _) _⟩
   · have hm : mayK k = false := by simp [mayK]; omega
     rw [hm]
     go_enter Tryz.func43, Tryz.ntmps43
     go_wp2_with fail
     go_ret
     exact ⟨rfl, Old.alloc (Old.refl _) _⟩
 · have hm : mayK k = false := by simp [mayK]; omega
   rw [hm]
   go_enter Tryz.func43, Tryz.ntmps43
   go_wp2_with fail
   go_ret
   exact ⟨rfl, Old.alloc (Old.refl _) _⟩
def plB (lo hi : Int) (c : Cell) : Bool := decide (c.s = none_) && decide (lo ≤ c.n) && decide (c.n ≤ hi)
theorem plain_runC (lo hi : Int) (c : Cell) (p q : Nat) (w : World) (hp : w.cell? ⟨p, 0, none⟩ = some (.int .i64 lo)) (hq : w.cell? ⟨q, 0, none⟩ = some (.int .i64 hi)) : Calls Tryz.prog 130 #[Cl c, .pointer (some ⟨p, 0, none⟩), .pointer (some ⟨q, 0, none⟩)] w (Ret (.bool (plB lo hi c)) w) := by
 unfold Ret
 obtain ⟨nl, n, s⟩ := c
 unfold Cl
 simp only
 have lp : p < w.heap.size := block_lt_of_cell hp
 have lq : q < w.heap.size := block_lt_of_cell hq
 rcases empty_cases s with rfl | ⟨e1, e2, e3⟩
 · by_cases h0 : lo ≤ n
   · by_cases h1 : n ≤ hi
     · have hm : plB lo hi ⟨nl, n, ⟨#[]⟩⟩ = true := by simp [plB, h0, h1, none_]
       rw [hm]
       go_enter Tryz.func130, Tryz.ntmps130
       go_wp2_with fail
       go_ret
       exact ⟨rfl, Old.alloc (Old.refl _) _⟩
     · have hm : plB lo hi ⟨nl, n, ⟨#[]⟩⟩ = false := by simp [plB, h0, h1, none_]
       rw [hm]
       go_enter Tryz.func130, Tryz.ntmps130
       go_wp2_with fail
       go_ret
       exact ⟨rfl, Old.alloc (Old.refl _) _⟩
   · have hm : plB lo hi ⟨nl, n, ⟨#[]⟩⟩ = false := by simp [plB, h0, none_]
     rw [hm]
     go_enter Tryz.func130, Tryz.ntmps130
     go_wp2_with fail
     go_ret
     exact ⟨rfl, Old.alloc (Old.refl _) _⟩
 · have hm : plB lo hi ⟨nl, n, s⟩ = false := by simp [plB, e3]
   rw [hm]
   go_enter Tryz.func130, Tryz.ntmps130
   go_wp2_with fail
   go_ret
   exact ⟨rfl, Old.alloc (Old.refl _) _⟩
def szB (c : Cell) : Bool := decide (c.n = 0) && decide (c.s.size ≤ 1024)
theorem size_run (c : Cell) (w : World) : Calls Tryz.prog 131 #[Cl c] w (Ret (.bool (szB c)) w) := by
 unfold Ret
 obtain ⟨nl, n, s⟩ := c
 unfold Cl
 simp only
 by_cases h0 : n = 0
 · subst h0
   by_cases h1 : s.size ≤ 1024
   · have hm : szB ⟨nl, 0, s⟩ = true := by simp [szB, h1]
     have h1i : (s.size : Int) ≤ 1024 := by omega
     rw [hm]
     go_enter Tryz.func131, Tryz.ntmps131
     go_wp2_with fail
     go_ret
     exact ⟨rfl, Old.alloc (Old.refl _) _⟩
   · have hm : szB ⟨nl, 0, s⟩ = false := by simp [szB, h1]
     have h1i : ¬ (s.size : Int) ≤ 1024 := by omega
     rw [hm]
     go_enter Tryz.func131, Tryz.ntmps131
     go_wp2_with fail
     go_ret
     exact ⟨rfl, Old.alloc (Old.refl _) _⟩
 · have hm : szB ⟨nl, n, s⟩ = false := by simp [szB, h0]
   rw [hm]
   go_enter Tryz.func131, Tryz.ntmps131
   go_wp2_with fail
   go_ret
   exact ⟨rfl, Old.alloc (Old.refl _) _⟩
theorem szB_le {c : Cell} (h : szB c = true) : c.s.size ≤ 9223372036854775807 := by simp [szB] at h; omega
theorem text_run (c : Cell) (p : Nat) (w : World) (hp : w.cell? ⟨p, 0, none⟩ = some (.func (.func 131) #[] #[])) (hT : Tabs w) : Calls Tryz.prog 141 #[Cl c, .pointer (some ⟨p, 0, none⟩)] w (Ret (.bool (szB c && vU c.s)) w) := by
 unfold Ret
 have lp : p < w.heap.size := block_lt_of_cell hp
 have HT := hide hT
 have CS := hide (fun w' => size_run c w')
 cases hz : szB c
 · rw [Bool.false_and]
   go_enter Tryz.func141, Tryz.ntmps141
   go_wp2_with fail
   refine (CS.out _).mono ?_
   rintro e w1 ⟨rfl, o1⟩
   have O1 := hide (Old.trans (Old.alloc (Old.refl w) _) o1)
   clear o1
   rw [hz]
   go_wp2_with fail
   go_ret
   exact ⟨rfl, O1.out⟩
 · rw [Bool.true_and]
   have hsz := szB_le hz
   go_enter Tryz.func141, Tryz.ntmps141
   go_wp2_with fail
   refine (CS.out _).mono ?_
   rintro e w1 ⟨rfl, o1⟩
   have y := Old.cell o1 (cell_of_heap (heap_alloc_new w _) : (w.alloc (.cells #[.bool c.null, .int .i64 c.n, .string c.s] 38)).cell? ⟨w.heap.size, 2, none⟩ = some (.string c.s))
   have O1 := hide (Old.trans (Old.alloc (Old.refl w) _) o1)
   clear o1
   have CV := hide (utf_Valid c.s w1 hsz (HT.out.old O1.out))
   rw [hz]
   go_wp2_with fail
   refine CV.out.mono ?_
   rintro e w2 ⟨rfl, o2⟩
   have O2 := hide (Old.trans O1.out o2)
   clear o2
   go_wp2_with fail
   go_ret
   exact ⟨rfl, O2.out⟩
end Go.Proofs.YthlfljmfggmfdaaGreatDoor

/-! ###  -/
namespace Go.Proofs.YthlfljmfggmfdaaGreatDoor
def bT (l : List UInt8) : ByteArray := ⟨l.toArray⟩
theorem bT_size (l : List UInt8) : (bT l).size = l.length := by simp [bT, ByteArray.size]
theorem bT_of (s : ByteArray) : bT s.data.toList = s := by cases s; simp [bT]
def encL (n : Nat) : List UInt8 := (Utf8.encode (n : Int)).data.toList
def hexV (c : UInt8) : Option Nat :=
 if 48 ≤ c.toNat ∧ c.toNat ≤ 57 then some (c.toNat - 48) else if 97 ≤ c.toNat ∧ c.toNat ≤ 102 then some (c.toNat - 87) else if 65 ≤ c.toNat ∧ c.toNat ≤ 70 then some (c.toNat - 55) else none
theorem hexV_lt {c : UInt8} {k : Nat} (h : hexV c = some k) : k < 16 := by
 unfold hexV at h
 split at h
 · injection h with h; omega
 · split at h
   · injection h with h; omega
   · split at h
     · injection h with h; omega
     · cases h
def hex1 : List UInt8 → Except Int (Nat × List UInt8)
 | [] => .error 3
 | c :: r => match hexV c with
   | none => .error 41
   | some k => .ok (k, r)
def lowHalf (n : Nat) : Bool := decide (220 ≤ n ∧ n ≤ 223)
def half4 (second : Bool) (l : List UInt8) : Except Int (Nat × List UInt8) :=
 match hex1 l with
 | .error e => .error e
 | .ok (a, l1) => if second = true ∧ a ≠ 13 then .error 41 else match hex1 l1 with
   | .error e => .error e
   | .ok (b, l2) => if second ≠ lowHalf (16 * a + b) then .error 41 else match hex1 l2 with
     | .error e => .error e
     | .ok (c, l3) => match hex1 l3 with
       | .error e => .error e
       | .ok (d, l4) => .ok (4096 * a + 256 * b + 16 * c + d, l4)
def want1 (x : UInt8) : List UInt8 → Except Int (List UInt8)
 | [] => .error 3
 | c :: r => if c = x then .ok r else .error 41
def shortV (c : UInt8) : Option Nat :=
 if c = 34 then some 34 else if c = 92 then some 92 else if c = 98 then some 8 else if c = 102 then some 12 else if c = 110 then some 10 else if c = 114 then some 13 else if c = 116 then some 9 else none
def isHigh (n : Nat) : Bool := decide (55296 ≤ n) && decide (n < 56320)
def pairOf (n k : Nat) : Nat := 65536 + (n - 55296) * 1024 + k - 56320
def escV : List UInt8 → Except Int (List UInt8 × List UInt8)
 | [] => .error 3
 | c :: r => if c = 47 then .ok ([47], r) else match shortV c with
   | some k => .ok (encL k, r)
   | none => if c ≠ 117 then .error 41 else match half4 false r with
     | .error e => .error e
     | .ok (n, r1) => if isHigh n = true then (match want1 92 r1 with
        | .error e => .error e
        | .ok r2 => match want1 117 r2 with
          | .error e => .error e
          | .ok r3 => match half4 true r3 with
            | .error e => .error e
            | .ok (k, r4) => .ok (encL (pairOf n k), r4))
       else .ok (encL n, r1)
def fullN (n a b c : Nat) : Bool :=
 if Lib.firstT a % 8 ≤ n then true else if 1 < n ∧ (b < Lib.accLo (Lib.firstT a / 16) ∨ Lib.accHi (Lib.firstT a / 16) < b) then true else decide (2 < n ∧ (c < 128 ∨ 191 < c))
def fullB (l : List UInt8) : Bool := fullN l.length (l.getD 0 0).toNat (l.getD 1 0).toNat (l.getD 2 0).toNat
def runeN (l : List UInt8) : Nat := if Utf8.decode (bT l) 0 = (65533, 1) then 0 else (Utf8.decode (bT l) 0).2
def plainV : List UInt8 → Except Int (List UInt8 × List UInt8)
 | [] => .error 3
 | c :: r => if c.toNat < 32 then .error 41 else if runeN (c :: r) ≠ 0 then .ok ((c :: r).take (runeN (c :: r)), (c :: r).drop (runeN (c :: r))) else if fullB (c :: r) = false then .error 3 else .error 40
def pieceV : List UInt8 → Except Int (List UInt8 × List UInt8)
 | [] => .error 3
 | c :: r => if c = 92 then escV r else plainV (c :: r)
def unqB : Nat → List UInt8 → Except Int (List UInt8 × List UInt8)
 | 0, _ => .error 3
 | _ + 1, [] => .error 3
 | f + 1, c :: r => if c = 34 then .ok ([], r) else match pieceV (c :: r) with
   | .error e => .error e
   | .ok (t, r1) => match unqB f r1 with
     | .error e => .error e
     | .ok (u, r2) => .ok (t ++ u, r2)
def unqV : List UInt8 → Except Int (List UInt8 × List UInt8)
 | [] => .error 3
 | c :: r => if c ≠ 34 then .error 41 else unqB (r.length + 1) r
section
theorem hex1_less {l r : List UInt8} {k : Nat} (h : hex1 l = .ok (k, r)) : r.length < l.length ∧ k < 16 := by
 cases l with
 | nil => cases h
 | cons c l =>
   simp only [hex1] at h
   split at h
   · cases h
   · rename_i k' hk
     injection h with h
     injection h with h1 h2
     subst h1 h2
     exact ⟨by simp, hexV_lt hk⟩
theorem half4_less {s : Bool} {l r : List UInt8} {k : Nat} (h : half4 s l = .ok (k, r)) : r.length < l.length ∧ k < 65536 := by
 unfold half4 at h
 split at h
 · cases h
 rename_i a l1 h1
 split at h
 · cases h
 split at h
 · cases h
 rename_i b l2 h2
 split at h
 · cases h
 split at h
 · cases h
 rename_i c l3 h3
 split at h
 · cases h
 rename_i d l4 h4
 injection h with h
 injection h with e1 e2
 subst e1 e2
 have := hex1_less h1
 have := hex1_less h2
 have := hex1_less h3
 have := hex1_less h4
 omega
theorem want1_less {x : UInt8} {l r : List UInt8} (h : want1 x l = .ok r) : r.length < l.length := by
 cases l with
 | nil => cases h
 | cons c l =>
   simp only [want1] at h
   split at h
   · injection h with h
     subst h
     simp
   · cases h
theorem escV_less {l r t : List UInt8} (h : escV l = .ok (t, r)) : r.length < l.length := by
 cases l with
 | nil => cases h
 | cons c l =>
   simp only [escV] at h
   split at h
   · injection h with h; injection h with _ h; subst h; simp
   split at h
   · injection h with h; injection h with _ h; subst h; simp
   split at h
   · cases h
   split at h
   · cases h
   rename_i n r1 h1
   have a1 := (half4_less h1).1
   split at h
   · split at h
     · cases h
     rename_i r2 h2
     have a2 := want1_less h2
     split at h
     · cases h
     rename_i r3 h3
     have a3 := want1_less h3
     split at h
     · cases h
     rename_i k r4 h4
     have a4 := (half4_less h4).1
     injection h with h; injection h with _ h; subst h
     simp; omega
   · injection h with h; injection h with _ h; subst h
     simp; omega
theorem pieceV_less {l r t : List UInt8} (h : pieceV l = .ok (t, r)) : r.length < l.length := by
 cases l with
 | nil => cases h
 | cons c l =>
   simp only [pieceV] at h
   split at h
   · have := escV_less h
     simp; omega
   · simp only [plainV] at h
     split at h
     · cases h
     split at h
     · rename_i hn
       injection h with h; injection h with _ h; subst h
       simp only [List.length_drop, List.length_cons]
       omega
     · split at h <;> cases h
theorem unqB_more : ∀ (f g : Nat) (l : List UInt8), l.length < f → l.length < g → unqB f l = unqB g l
 | 0, _, _, h, _ => absurd h (by omega)
 | _, 0, _, _, h => absurd h (by omega)
 | f + 1, g + 1, [], _, _ => rfl
 | f + 1, g + 1, c :: r, h1, h2 => by
   simp only [unqB]
   split
   · rfl
   split
   · rfl
   · rename_i t r1 hp
     have := pieceV_less hp
     simp only [List.length_cons] at h1 h2 this
     rw [unqB_more f g r1 (by omega) (by omega)]
theorem unqB_less : ∀ (f : Nat) (l r t : List UInt8), unqB f l = .ok (t, r) → r.length < l.length
 | 0, _, _, _, h => by cases h
 | f + 1, [], _, _, h => by cases h
 | f + 1, c :: l, r, t, h => by
   simp only [unqB] at h
   split at h
   · injection h with h; injection h with _ h; subst h; simp
   split at h
   · cases h
   rename_i t1 r1 h1
   split at h
   · cases h
   rename_i u r2 h2
   have a1 := pieceV_less h1
   have a2 := unqB_less f r1 r2 u h2
   injection h with h; injection h with _ h; subst h
   omega
theorem unqV_less {l r t : List UInt8} (h : unqV l = .ok (t, r)) : r.length + 1 < l.length := by
 cases l with
 | nil => cases h
 | cons c l =>
   simp only [unqV] at h
   split at h
   · cases h
   · have := unqB_less _ _ _ _ h
     simp; omega
end
end Go.Proofs.YthlfljmfggmfdaaGreatDoor

/-! ###  -/
namespace Go.Proofs.YthlfljmfggmfdaaGreatDoor
def hexB (n : Nat) : UInt8 := UInt8.ofNat (if n < 10 then 48 + n else 87 + n)
def esc1 (b : UInt8) : List UInt8 :=
 if b = 34 ∨ b = 92 then [92, b] else if b = 8 then [92, 98] else if b = 12 then [92, 102] else if b = 10 then [92, 110] else if b = 13 then [92, 114] else if b = 9 then [92, 116]
 else if b.toNat < 32 then [92, 117, 48, 48, hexB (b.toNat / 16), hexB (b.toNat % 16)] else [b]
theorem esc1_len (b : UInt8) : 1 ≤ (esc1 b).length ∧ (esc1 b).length ≤ 6 := by
 unfold esc1
 repeat' split
 all_goals simp
def escL (l : List UInt8) : List UInt8 := l.flatMap esc1
theorem escL_append (a b : List UInt8) : escL (a ++ b) = escL a ++ escL b := by simp [escL]
theorem escL_one (b : UInt8) : escL [b] = esc1 b := by simp [escL]
theorem escL_len (l : List UInt8) : l.length ≤ (escL l).length ∧ (escL l).length ≤ 6 * l.length := by
 induction l with
 | nil => simp [escL]
 | cons b l ih =>
   have h := esc1_len b
   rw [show escL (b :: l) = esc1 b ++ escL l by simp [escL], List.length_append, List.length_cons]
   omega
theorem escL_high {l : List UInt8} (h : ∀ b ∈ l, 128 ≤ b.toNat) : escL l = l := by
 induction l with
 | nil => rfl
 | cons b l ih =>
   have hb := h b (by simp)
   have e : esc1 b = [b] := by
    have hn : ∀ c : UInt8, c.toNat < 128 → b ≠ c := fun c hc e => by subst e; omega
    unfold esc1
    rw [if_neg (by intro h; rcases h with h | h; exact hn 34 (by decide) h; exact hn 92 (by decide) h), if_neg (hn 8 (by decide)), if_neg (hn 12 (by decide)), if_neg (hn 10 (by decide)), if_neg (hn 13 (by decide)), if_neg (hn 9 (by decide)), if_neg (by omega)]
   rw [show escL (b :: l) = esc1 b ++ escL l by simp [escL], e, ih fun x hx => h x (by simp [hx])]
   rfl
def quoteL (s : ByteArray) : List UInt8 := 34 :: (escL s.data.toList ++ [34])
theorem quoteL_len (s : ByteArray) : s.size + 2 ≤ (quoteL s).length ∧ (quoteL s).length ≤ 6 * s.size + 2 := by
 have h := escL_len s.data.toList
 have e : s.data.toList.length = s.size := Array.length_toList
 rw [e] at h
 simp only [quoteL, List.length_cons, List.length_append, List.length_nil]
 omega
mutual
def J.show : J → List UInt8
 | .mk h l => if h.kind = 1 then [110, 117, 108, 108] else if h.kind = 2 then [102, 97, 108, 115, 101] else if h.kind = 3 then [116, 114, 117, 101] else if h.kind = 4 then Lib.itoa h.n else if h.kind = 5 then quoteL h.s
   else if h.kind = 6 then 91 :: (J.shows false true l ++ [93]) else 123 :: (J.shows true true l ++ [125])
def J.shows (o first : Bool) : List J → List UInt8
 | [] => []
 | j :: l => ((if first then [] else [44]) ++ (if o then quoteL j.key ++ [58] else []) ++ j.show) ++ J.shows o false l
end
def partShow (o first : Bool) (j : J) : List UInt8 := (if first then [] else [44]) ++ (if o then quoteL j.key ++ [58] else []) ++ j.show
theorem shows_nil (o f : Bool) : J.shows o f [] = [] := by simp [J.shows]
theorem shows_cons (o f : Bool) (j : J) (l : List J) : J.shows o f (j :: l) = partShow o f j ++ J.shows o false l := by simp [J.shows, partShow]
theorem shows_snoc (o : Bool) (j : J) : ∀ (l : List J) (f : Bool), J.shows o f (l ++ [j]) = J.shows o f l ++ partShow o (f && l.isEmpty) j
 | [], f => by simp [shows_cons, shows_nil]
 | x :: l, f => by
   rw [List.cons_append, shows_cons, shows_snoc o j l false, shows_cons, List.append_assoc]
   simp
theorem itoa_len {n : Int} (h0 : -9223372036854775808 ≤ n) (h1 : n ≤ 9223372036854775807) : (Lib.itoa n).length ≤ 20 := by
 have key : ∀ u : Nat, u ≤ 9223372036854775808 → (Lib.decDigits u).length ≤ 19 := by
  intro u hu
  rw [Lib.decDigits_length]
  rcases Nat.lt_or_ge 19 (Lib.nDigits u) with h | h
  · exfalso
    have mono : ∀ k v : Nat, k < Lib.nDigits v → 10 ^ k ≤ v ∨ k = 0 := by
     intro k
     induction k with
     | zero => intro v _; exact .inr rfl
     | succ k ih =>
       intro v hv
       by_cases h10 : v < 10
       · rw [Lib.nDigits_small h10] at hv
         omega
       · rw [Lib.nDigits_big h10] at hv
         rcases ih (v / 10) (by omega) with h | rfl
         · left
           rw [Nat.pow_succ]
           omega
         · left
           omega
    rcases mono 19 u h with h | h
    · have : (10 : Nat) ^ 19 = 10000000000000000000 := by decide
      omega
    · omega
  · exact h
 unfold Lib.itoa
 split
 · have := key n.natAbs (by omega)
   simp only [List.length_cons]
   omega
 · have := key n.toNat (by omega)
   omega
def ndRoom (l : List Nd) : Nat := (l.map fun x => 6 * (x.key.size + x.s.size) + 32).sum
theorem ndRoom_cons (x : Nd) (l : List Nd) : ndRoom (x :: l) = 6 * (x.key.size + x.s.size) + 32 + ndRoom l := by simp [ndRoom]
theorem ndRoom_append (a b : List Nd) : ndRoom (a ++ b) = ndRoom a + ndRoom b := by simp [ndRoom]
def NumsOk (l : List Nd) : Prop := ∀ x ∈ l, -9223372036854775808 ≤ x.n ∧ x.n ≤ 9223372036854775807
theorem NumsOk.left {a b : List Nd} (h : NumsOk (a ++ b)) : NumsOk a := fun x hx => h x (by simp [hx])
theorem NumsOk.right {a b : List Nd} (h : NumsOk (a ++ b)) : NumsOk b := fun x hx => h x (by simp [hx])
theorem show_room : (∀ j : J, NumsOk j.flat → j.show.length + 6 * j.key.size + 4 ≤ ndRoom j.flat) ∧ ∀ l : List J, NumsOk (J.flats l) → ∀ o f, (J.shows o f l).length ≤ ndRoom (J.flats l) := by
 refine J.both ?_ ?_ ?_
 · intro h l ih hn
   rw [flat_mk] at hn ⊢
   have hh := hn ⟨h.kind, h.key, h.n, h.s, (J.flats l).length + 1⟩ (by simp)
   have i1 : (Lib.itoa h.n).length ≤ 20 := itoa_len hh.1 hh.2
   have i2 := ih (fun x hx => hn x (by simp [hx])) false true
   have i3 := ih (fun x hx => hn x (by simp [hx])) true true
   have i4 := (quoteL_len h.s).2
   rw [ndRoom_cons]
   have ek : (J.mk h l).key = h.key := rfl
   rw [ek]
   simp only [J.show]
   repeat' split
   all_goals (try simp only [List.length_cons, List.length_append, List.length_nil])
   all_goals omega
 · intro _ o f
   simp [shows_nil]
 · intro j l h1 h2 hn o f
   rw [shows_cons, List.length_append, show J.flats (j :: l) = j.flat ++ J.flats l by simp [J.flats], ndRoom_append]
   rw [show J.flats (j :: l) = j.flat ++ J.flats l by simp [J.flats]] at hn
   have a1 := h1 hn.left
   have a2 := h2 hn.right o false
   have i4 := (quoteL_len j.key).2
   unfold partShow
   simp only [List.length_append]
   split <;> split
   all_goals simp only [List.length_cons, List.length_append, List.length_nil]
   all_goals omega
def maxText : Nat := 1048576
structure Puts (acc out bs : List UInt8) : Prop where
 fits : acc.length + out.length ≤ maxText → bs = acc ++ out
 over : maxText < acc.length + out.length → maxText < bs.length
 more : acc.length ≤ bs.length
 most : bs.length ≤ acc.length + out.length
theorem Puts.all (acc out : List UInt8) : Puts acc out (acc ++ out) := ⟨fun _ => rfl, fun h => by simpa using h, by simp, by simp⟩
theorem Puts.none (acc : List UInt8) : Puts acc [] acc := by simpa using Puts.all acc []
theorem Puts.full {acc : List UInt8} (out : List UInt8) (h : maxText < acc.length) : Puts acc out acc := ⟨fun h' => by omega, fun _ => h, Nat.le_refl _, by omega⟩
theorem Puts.trans {acc a b1 b b2 : List UInt8} (h : Puts acc a b1) (k : Puts b1 b b2) : Puts acc (a ++ b) b2 := by
 refine ⟨fun hf => ?_, fun hf => ?_, Nat.le_trans h.more k.more, ?_⟩
 · rw [List.length_append] at hf
   have e := h.fits (by omega)
   subst e
   rw [k.fits (by rw [List.length_append]; omega), List.append_assoc]
 · rw [List.length_append] at hf
   rcases Nat.lt_or_ge maxText (acc.length + a.length) with h1 | h1
   · exact Nat.lt_of_lt_of_le (h.over h1) k.more
   · have e := h.fits h1
     subst e
     exact k.over (by rw [List.length_append]; omega)
 · rw [List.length_append]
   have h1 := h.most
   have h2 := k.most
   omega
end Go.Proofs.YthlfljmfggmfdaaGreatDoor

/-! ###  -/
namespace Go.Proofs.YthlfljmfggmfdaaGreatDoor
open Go.RowKit
theorem step_push_nodes {o : Oper} {a : Act} {K : Act → World → Prop} {Q : Exit → Act → World → Prop} (w : World) (s x : Operand)
 (ho : o.op = .call { callee := .builtin .append, args := #[s, x], argTypes := #[24, 24] })
 (base : Nat) (v : Value) (r : List Nd) (hs : a.eval s = v) (hown : NodesOwn base w v r)
 (xv : Value) (q : List Nd) (hev : a.eval x = xv) (hx : NodesIs w xv q) (hlen : r.length + q.length ≤ 4194304) (hbase : base ≤ w.heap.size)
 (h : ∀ v' w', NodesOwn base w' v' (r ++ q) → Kept 36 base w w' → K (a.put o.dst v') w') : o.wp Tryz.prog a w K Q := by
 obtain ⟨i0, hi, hz0, hz1, hz2⟩ := info_parts nodeInfo
 refine wp_append_sl w s x 24 ho base 36 i0 _ 5 56 Tryz.underlying24 hi hz0 hz1 hz2 rfl (by omega) v r.length (ndVals r) hs hown
  xv q.length (ndVals q) hev hx (ndVals_length q) (ndVals_cell q) (by unfold maxLen; omega) (by omega) hbase ?_
 intro v' w' own' hg
 refine h v' w' ?_ (Kept.of_grown hown hg hbase)
 unfold NodesOwn
 rw [ndVals_append, List.length_append]
 exact own'
set_option maxRecDepth 100000 in
theorem clone_nodes (v : Value) (r : List Nd) (w : World) (h : NodesIs w v r) (hlen : r.length ≤ 1048576) : Calls Tryz.prog 71 #[v] w (NewNodes w r) := by
 have H := hide h
 obtain ⟨A, cap, rfl, h1, h2, h3⟩ := h
 rcases A with _ | ad
 · have h0 : r.length = 0 := by
    rcases Nat.eq_zero_or_pos r.length with h | h
    · exact h
    · obtain ⟨b, off, hb, _⟩ := h3 (ndVals_ne h)
      cases hb
   have H0 := hide h0
   clear h3 h0
   have kn : ∀ w, (binOp .eql 24 (.slice none r.length cap) (.slice none 0 0)).run Tryz.prog w = .ok (.bool true) w := fun w => Lib.run_eql_slice_nil w _ _ _ _ _ _ _ Tryz.underlying24
   go_enter Tryz.func71, Tryz.ntmps71
   go_wp2
   go_ret
   refine ⟨_, rfl, ?_, Old.refl _⟩
   unfold NodesT
   rw [H0.out, ndVals_nil H0.out]
   exact SlT.nil_ _
 · clear h3
   have kn : ∀ w, (binOp .eql 24 (.slice (some ad) r.length cap) (.slice none 0 0)).run Tryz.prog w = .ok (.bool false) w := fun w => Lib.run_eql_slice_nil w _ _ _ _ _ _ _ Tryz.underlying24
   go_enter Tryz.func71, Tryz.ntmps71
   go_wp2_with (at_builtin; refine wpList_plain rfl (fun K hK => ?_); refine step_push_nodes _ _ _ rfl w.heap.size _ [] rfl (World.ownsRow_lit w #[] 0 (Nat.le_refl _) (by unfold maxLen; omega) rfl) _ r rfl (Sl.old H.out (Old.alloc (Old.refl w) _)) (by simp; omega) (by simp) ?_; intro v' w' own hk; refine hK _ _ ?_; clear hK)
   go_ret
   exact ⟨_, rfl, SlT.of_own own, hk.old (Old.alloc (Old.refl _) _) (Nat.le_refl _)⟩
theorem Sl.piece {w : World} {b o cap : Nat} {t : List Nd} (h : NodesIs w (.slice (some ⟨b, o, none⟩) t.length cap) t) (a n c : Nat) (ha : a + n ≤ t.length) (hc : n ≤ c) (hm : c ≤ maxLen) : NodesIs w (.slice (some ⟨b, o + a * 5, none⟩) n c) ((t.drop a).take n) := by
 obtain ⟨A, cp, he, h1, h2, h3⟩ := h
 injection he with e1 _ _
 have hl : ((t.drop a).take n).length = n := by simp; omega
 refine ⟨_, c, by rw [hl], by rw [hl]; exact hc, hm, fun hne => ⟨b, o + a * 5, rfl, fun j u hu => ?_⟩⟩
 have ht : ndVals t ≠ [] := ndVals_ne (by
  rcases Nat.eq_zero_or_pos n with h | h
  · subst h; simp [ndVals] at hne
  · omega)
 obtain ⟨b', o', e2, h4⟩ := h3 ht
 rw [← e1] at e2
 injection e2 with e2
 injection e2 with e2 e3 _
 subst e2 e3
 rw [Nat.add_assoc]
 refine h4 _ _ ?_
 rw [ndVals_take, ndVals_drop _ _ (by omega), List.getElem?_take] at hu
 split at hu
 · rwa [List.getElem?_drop] at hu
 · cases hu
def Nd.unkey (x : Nd) : Nd := ⟨x.kind, none_, x.n, x.s, x.size⟩
def unkeyL : List Nd → List Nd
 | [] => []
 | x :: r => x.unkey :: r
def J.unkey : J → J
 | .mk h l => .mk ⟨h.kind, none_, h.n, h.s⟩ l
theorem unkey_flat (j : J) : unkeyL j.flat = j.unkey.flat := by
 cases j
 simp [flat_mk, unkeyL, J.unkey, Nd.unkey]
theorem SlT.setKey {lo : Nat} {w : World} {v : Value} {x : Nd} {r : List Nd} (h : NodesT lo w v (x :: r)) : ∃ g off cap, v = .slice (some ⟨g, off, none⟩) (r.length + 1) cap ∧ r.length + 1 ≤ cap ∧ cap ≤ maxLen ∧ lo ≤ g ∧ w.cell? ⟨g, off + 1, none⟩ = some (.string x.key) ∧ w.frozen? ⟨g, off + 1, none⟩ = false ∧
 NodesT lo (w.setCell ⟨g, off + 1, none⟩ (.string ⟨#[]⟩)) v (x.unkey :: r) := by
 obtain ⟨A, cap, rfl, h1, h2, h3⟩ := h
 obtain ⟨g, off, cs, rfl, hlo, hh, hc⟩ := h3 (ndVals_ne (by simp))
 have k1 := hc 1 (.string x.key) (by simp [ndVals, Nd.vals])
 have hlt : off + 1 < cs.size := (Array.getElem?_eq_some_iff.1 k1).1
 refine ⟨g, off, cap, rfl, h1, h2, hlo, by rw [cell_of_heap hh]; exact k1, free_of_heap hh, ⟨_, cap, rfl, h1, h2, fun _ => ⟨g, off, cs.setIfInBounds (off + 1) (.string ⟨#[]⟩), rfl, hlo, by simp [World.setCell, Array.getElem?_modify, hh], fun j u hu => ?_⟩⟩⟩
 have e : ndVals (x.unkey :: r) = (ndVals (x :: r)).set 1 (.string ⟨#[]⟩) := by simp [ndVals, Nd.vals, Nd.unkey, none_]
 rw [e, List.getElem?_set] at hu
 by_cases hj : 1 = j
 · subst hj
   simp [ndVals, Nd.vals] at hu
   subst hu
   simp [hlt]
 · rw [if_neg hj] at hu
   rw [Array.getElem?_setIfInBounds_ne (by omega)]
   exact hc j u hu
def PartT (t : List Nd) (at_ : Int) (ps : List Nd) : Prop :=
 ((chkT t ≠ 0 ∨ at_ < 0 ∨ (t.length : Int) ≤ at_) ∧ ps = []) ∨ ∃ (j j' : J) (a : Nat) (r : List Nd), May t j ∧ at_ = a ∧ a < t.length ∧ t.drop a = j'.flat ++ r ∧ J.Ok vU j' ∧ j'.deep ≤ j.deep ∧ ps = j'.unkey.flat
set_option maxRecDepth 100000 in
set_option maxHeartbeats 400000 in
theorem part_run (v : Value) (t : List Nd) (at_ : Int) (ps : List Nd) (w : World) (ht : NodesIs w v t) (hk : TextsOk t) (hT : Tabs w) (hps : PartT t at_ ps) :
 Calls Tryz.prog 31 #[v, .int .i64 at_] w (NewNodes w ps) := by
 have CC := hide (check_run v t w ht hk hT)
 have HT := hide ht
 obtain ⟨A, ca, rfl, hla, hma, hc⟩ := ht.nodes
 unfold maxLen at hma
 clear ht hk hT
 rcases hps with ⟨hbad, rfl⟩ | ⟨j, j', a, r, hj, rfl, ha, hd, hok, hdp, rfl⟩
 · clear hc
   by_cases h0 : chkT t = 0
   · have C0 := hide (num_as CC.out h0)
     have hb : at_ < 0 ∨ (t.length : Int) ≤ at_ := by
      rcases hbad with h | h
      · exact absurd h0 h
      · exact h
     clear hbad h0 CC
     rcases hb with hb | hb
     · have hb' : decide (at_ < 0) = true := decide_eq_true hb
       go_enter Tryz.func31, Tryz.ntmps31
       go_wp2_with fail
       refine C0.out.mono ?_
       rintro e w1 ⟨rfl, o1⟩
       go_wp2_with fail
       go_ret
       exact ⟨_, rfl, SlT.nil_ _, o1⟩
     · have hb' : ¬ at_ < 0 := by omega
       go_enter Tryz.func31, Tryz.ntmps31
       go_wp2_with fail
       refine C0.out.mono ?_
       rintro e w1 ⟨rfl, o1⟩
       go_wp2_with fail
       go_ret
       exact ⟨_, rfl, SlT.nil_ _, o1⟩
   · have hc' : (chkT t != 0) = true := by simpa using h0
     clear hbad h0
     go_enter Tryz.func31, Tryz.ntmps31
     go_wp2_with fail
     refine CC.out.mono ?_
     rintro e w1 ⟨rfl, o1⟩
     go_wp2_with fail
     go_ret
     exact ⟨_, rfl, SlT.nil_ _, o1⟩
 · have C0 := hide (num_as CC.out (chkT_may hj))
   obtain ⟨_, hx⟩ := head_flat hd
   have hq := flat_pos j'
   obtain ⟨b1, o1, rfl, hc1⟩ := hc.resolve_left (by omega)
   obtain ⟨_, _, _, _, d4⟩ := hc1 a ha
   rw [hx] at d4
   have hbound : a + j'.flat.length ≤ t.length := by
    have e := congrArg List.length hd
    rw [List.length_append, List.length_drop] at e
    omega
   have hpiece : (t.drop a).take j'.flat.length = j'.flat := by rw [hd, List.take_left' rfl]
   obtain ⟨y, ys, hy⟩ : ∃ y ys, j'.flat = y :: ys := by
    obtain ⟨q, hq⟩ := flat_head j'
    exact ⟨_, q, hq⟩
   have HU := hide (show j'.unkey.flat = y.unkey :: ys by rw [← unkey_flat, hy]; rfl)
   have hl4 := hj.2.1
   have CL := hide (show ∀ w' c, Old w w' → j'.flat.length ≤ c → c ≤ 9223372036854775807 → Calls Tryz.prog 71 #[.slice (some ⟨b1, o1 + a * 5, none⟩) j'.flat.length c] w' fun e w2 => ∃ v, e = .returned v ∧ NodesT w.heap.size w2 v (y :: ys) ∧ Old w w2 from fun w' c ho h1 h2 => by
    have hp := (HT.out.piece a j'.flat.length c (by omega) h1 (by unfold maxLen; omega)).old ho
    rw [hpiece] at hp
    refine (clone_nodes _ _ w' hp (by omega)).mono fun _ _ ⟨v, g1, g2, g3⟩ => ⟨v, g1, ?_, Old.trans ho g3⟩
    rw [hy] at g2
    exact g2.mono ho.size)
   clear CC hc hc1 hx hd hpiece hy hok hdp
   obtain ⟨q, hqq⟩ : ∃ q, Hid (j'.flat.length = q) := ⟨_, hide rfl⟩
   rw [hqq.out] at d4 hq hbound CL
   have D4 := hide d4
   clear d4 hqq hj
   have ha0 : ¬ (a : Int) < 0 := by omega
   have ha1 : ¬ (t.length : Int) ≤ (a : Int) := by omega
   go_enter Tryz.func31, Tryz.ntmps31
   go_wp2_with fail
   refine C0.out.mono ?_
   rintro e w1 ⟨rfl, ow1⟩
   have d4 := ow1.cell D4.out
   go_wp2_with fail
   refine (CL.out _ _ ow1 (by omega) (by omega)).mono ?_
   rintro e w2 ⟨v, rfl, h2, o2⟩
   obtain ⟨g, off, cap, rfl, k1, k2, k3, k4, k5, k6⟩ := SlT.setKey h2
   unfold maxLen at k2
   have K6 := hide k6
   have HO := hide (show Old w (w2.setCell ⟨g, off + 1, none⟩ (.string ⟨#[]⟩)) from o2.setCell k3 _)
   clear k6 h2 d4 o2
   go_wp2_with fail
   go_ret
   exact ⟨_, rfl, by rw [HU.out]; exact K6.out, HO.out⟩
end Go.Proofs.YthlfljmfggmfdaaGreatDoor
