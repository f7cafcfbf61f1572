/-  -/
import Derived.Test.YthlfljmfggmfdaaGreatDoorQk02
import Derived.Lib.ItoaNum
import Derived.Test.YthlfljmfggmfdaaGreatDoorQk06
import Derived.Deep.RegionHeld3
/-! ###  -/
namespace Go.Proofs.YthlfljmfggmfdaaGreatDoor
def hexB (n : Nat) : UInt8 := UInt8.ofNat (if n < 10 then 48 + n else 87 + n)
def esc1 (b : UInt8) : List UInt8 :=
 if b = 34 ∨ b = 92 then [92, b] else if b = 8 then [92, 98] else if b = 12 then [92, 102] else if b = 10 then [92, 110] else if b = 13 then [92, 114] else if b = 9 then [92, 116]
 else if b.toNat < 32 then [92, 117, 48, 48, hexB (b.toNat / 16), hexB (b.toNat % 16)] else [b]
theorem esc1_len (b : UInt8) : 1 ≤ (esc1 b).length ∧ (esc1 b).length ≤ 6 := by
 unfold esc1
 repeat' split
 all_goals simp
def escL (l : List UInt8) : List UInt8 := l.flatMap esc1
theorem escL_append (a b : List UInt8) : escL (a ++ b) = escL a ++ escL b := by simp [escL]
theorem escL_one (b : UInt8) : escL [b] = esc1 b := by simp [escL]
theorem escL_len (l : List UInt8) : l.length ≤ (escL l).length ∧ (escL l).length ≤ 6 * l.length := by
 induction l with
 | nil => simp [escL]
 | cons b l ih =>
   have h := esc1_len b
   rw [show escL (b :: l) = esc1 b ++ escL l by simp [escL], List.length_append, List.length_cons]
   omega
theorem escL_high {l : List UInt8} (h : ∀ b ∈ l, 128 ≤ b.toNat) : escL l = l := by
 induction l with
 | nil => rfl
 | cons b l ih =>
   have hb := h b (by simp)
   have e : esc1 b = [b] := by
    have hn : ∀ c : UInt8, c.toNat < 128 → b ≠ c := fun c hc e => by subst e; omega
    unfold esc1
    rw [if_neg (by intro h; rcases h with h | h; exact hn 34 (by decide) h; exact hn 92 (by decide) h), if_neg (hn 8 (by decide)), if_neg (hn 12 (by decide)), if_neg (hn 10 (by decide)), if_neg (hn 13 (by decide)), if_neg (hn 9 (by decide)), if_neg (by omega)]
   rw [show escL (b :: l) = esc1 b ++ escL l by simp [escL], e, ih fun x hx => h x (by simp [hx])]
   rfl
def quoteL (s : ByteArray) : List UInt8 := 34 :: (escL s.data.toList ++ [34])
theorem quoteL_len (s : ByteArray) : s.size + 2 ≤ (quoteL s).length ∧ (quoteL s).length ≤ 6 * s.size + 2 := by
 have h := escL_len s.data.toList
 have e : s.data.toList.length = s.size := Array.length_toList
 rw [e] at h
 simp only [quoteL, List.length_cons, List.length_append, List.length_nil]
 omega
mutual
def J.show : J → List UInt8
 | .mk h l => if h.kind = 1 then [110, 117, 108, 108] else if h.kind = 2 then [102, 97, 108, 115, 101] else if h.kind = 3 then [116, 114, 117, 101] else if h.kind = 4 then Lib.itoa h.n else if h.kind = 5 then quoteL h.s
   else if h.kind = 6 then 91 :: (J.shows false true l ++ [93]) else 123 :: (J.shows true true l ++ [125])
def J.shows (o first : Bool) : List J → List UInt8
 | [] => []
 | j :: l => ((if first then [] else [44]) ++ (if o then quoteL j.key ++ [58] else []) ++ j.show) ++ J.shows o false l
end
def partShow (o first : Bool) (j : J) : List UInt8 := (if first then [] else [44]) ++ (if o then quoteL j.key ++ [58] else []) ++ j.show
theorem shows_nil (o f : Bool) : J.shows o f [] = [] := by simp [J.shows]
theorem shows_cons (o f : Bool) (j : J) (l : List J) : J.shows o f (j :: l) = partShow o f j ++ J.shows o false l := by simp [J.shows, partShow]
theorem shows_snoc (o : Bool) (j : J) : ∀ (l : List J) (f : Bool), J.shows o f (l ++ [j]) = J.shows o f l ++ partShow o (f && l.isEmpty) j
 | [], f => by simp [shows_cons, shows_nil]
 | x :: l, f => by
   rw [List.cons_append, shows_cons, shows_snoc o j l false, shows_cons, List.append_assoc]
   simp
theorem itoa_len {n : Int} (h0 : -9223372036854775808 ≤ n) (h1 : n ≤ 9223372036854775807) : (Lib.itoa n).length ≤ 20 := by
 have key : ∀ u : Nat, u ≤ 9223372036854775808 → (Lib.decDigits u).length ≤ 19 := by
  intro u hu
  rw [Lib.decDigits_length]
  rcases Nat.lt_or_ge 19 (Lib.nDigits u) with h | h
  · exfalso
    have mono : ∀ k v : Nat, k < Lib.nDigits v → 10 ^ k ≤ v ∨ k = 0 := by
     intro k
     induction k with
     | zero => intro v _; exact .inr rfl
     | succ k ih =>
       intro v hv
       by_cases h10 : v < 10
       · rw [Lib.nDigits_small h10] at hv
         omega
       · rw [Lib.nDigits_big h10] at hv
         rcases ih (v / 10) (by omega) with h | rfl
         · left
           rw [Nat.pow_succ]
           omega
         · left
           omega
    rcases mono 19 u h with h | h
    · have : (10 : Nat) ^ 19 = 10000000000000000000 := by decide
      omega
    · omega
  · exact h
 unfold Lib.itoa
 split
 · have := key n.natAbs (by omega)
   simp only [List.length_cons]
   omega
 · have := key n.toNat (by omega)
   omega
def ndRoom (l : List Nd) : Nat := (l.map fun x => 6 * (x.key.size + x.s.size) + 32).sum
theorem ndRoom_cons (x : Nd) (l : List Nd) : ndRoom (x :: l) = 6 * (x.key.size + x.s.size) + 32 + ndRoom l := by simp [ndRoom]
theorem ndRoom_append (a b : List Nd) : ndRoom (a ++ b) = ndRoom a + ndRoom b := by simp [ndRoom]
def NumsOk (l : List Nd) : Prop := ∀ x ∈ l, -9223372036854775808 ≤ x.n ∧ x.n ≤ 9223372036854775807
theorem NumsOk.left {a b : List Nd} (h : NumsOk (a ++ b)) : NumsOk a := fun x hx => h x (by simp [hx])
theorem NumsOk.right {a b : List Nd} (h : NumsOk (a ++ b)) : NumsOk b := fun x hx => h x (by simp [hx])
theorem show_room : (∀ j : J, NumsOk j.flat → j.show.length + 6 * j.key.size + 4 ≤ ndRoom j.flat) ∧ ∀ l : List J, NumsOk (J.flats l) → ∀ o f, (J.shows o f l).length ≤ ndRoom (J.flats l) := by
 refine J.both ?_ ?_ ?_
 · intro h l ih hn
   rw [flat_mk] at hn ⊢
   have hh := hn ⟨h.kind, h.key, h.n, h.s, (J.flats l).length + 1⟩ (by simp)
   have i1 : (Lib.itoa h.n).length ≤ 20 := itoa_len hh.1 hh.2
   have i2 := ih (fun x hx => hn x (by simp [hx])) false true
   have i3 := ih (fun x hx => hn x (by simp [hx])) true true
   have i4 := (quoteL_len h.s).2
   rw [ndRoom_cons]
   have ek : (J.mk h l).key = h.key := rfl
   rw [ek]
   simp only [J.show]
   repeat' split
   all_goals (try simp only [List.length_cons, List.length_append, List.length_nil])
   all_goals omega
 · intro _ o f
   simp [shows_nil]
 · intro j l h1 h2 hn o f
   rw [shows_cons, List.length_append, show J.flats (j :: l) = j.flat ++ J.flats l by simp [J.flats], ndRoom_append]
   rw [show J.flats (j :: l) = j.flat ++ J.flats l by simp [J.flats]] at hn
   have a1 := h1 hn.left
   have a2 := h2 hn.right o false
   have i4 := (quoteL_len j.key).2
   unfold partShow
   simp only [List.length_append]
   split <;> split
   all_goals simp only [List.length_cons, List.length_append, List.length_nil]
   all_goals omega
def maxText : Nat := 1048576
structure Puts (acc out bs : List UInt8) : Prop where
 fits : acc.length + out.length ≤ maxText → bs = acc ++ out
 over : maxText < acc.length + out.length → maxText < bs.length
 more : acc.length ≤ bs.length
 most : bs.length ≤ acc.length + out.length
theorem Puts.all (acc out : List UInt8) : Puts acc out (acc ++ out) := ⟨fun _ => rfl, fun h => by simpa using h, by simp, by simp⟩
theorem Puts.none (acc : List UInt8) : Puts acc [] acc := by simpa using Puts.all acc []
theorem Puts.full {acc : List UInt8} (out : List UInt8) (h : maxText < acc.length) : Puts acc out acc := ⟨fun h' => by omega, fun _ => h, Nat.le_refl _, by omega⟩
theorem Puts.trans {acc a b1 b b2 : List UInt8} (h : Puts acc a b1) (k : Puts b1 b b2) : Puts acc (a ++ b) b2 := by
 refine ⟨fun hf => ?_, fun hf => ?_, Nat.le_trans h.more k.more, ?_⟩
 · rw [List.length_append] at hf
   have e := h.fits (by omega)
   subst e
   rw [k.fits (by rw [List.length_append]; omega), List.append_assoc]
 · rw [List.length_append] at hf
   rcases Nat.lt_or_ge maxText (acc.length + a.length) with h1 | h1
   · exact Nat.lt_of_lt_of_le (h.over h1) k.more
   · have e := h.fits h1
     subst e
     exact k.over (by rw [List.length_append]; omega)
 · rw [List.length_append]
   have h1 := h.most
   have h2 := k.most
   omega
end Go.Proofs.YthlfljmfggmfdaaGreatDoor

/-! ###  -/
namespace Go.Proofs.YthlfljmfggmfdaaGreatDoor
open Go.RowKit
theorem step_push_nodes {o : Oper} {a : Act} {K : Act → World → Prop} {Q : Exit → Act → World → Prop} (w : World) (s x : Operand)
 (ho : o.op = .call { callee := .builtin .append, args := #[s, x], argTypes := #[24, 24] })
 (base : Nat) (v : Value) (r : List Nd) (hs : a.eval s = v) (hown : NodesOwn base w v r)
 (xv : Value) (q : List Nd) (hev : a.eval x = xv) (hx : NodesIs w xv q) (hlen : r.length + q.length ≤ 4194304) (hbase : base ≤ w.heap.size)
 (h : ∀ v' w', NodesOwn base w' v' (r ++ q) → Kept 36 base w w' → K (a.put o.dst v') w') : o.wp Tryz.prog a w K Q := by
 obtain ⟨i0, hi, hz0, hz1, hz2⟩ := info_parts nodeInfo
 refine wp_append_sl w s x 24 ho base 36 i0 _ 5 56 Tryz.underlying24 hi hz0 hz1 hz2 rfl (by omega) v r.length (ndVals r) hs hown
  xv q.length (ndVals q) hev hx (ndVals_length q) (ndVals_cell q) (by unfold maxLen; omega) (by omega) hbase ?_
 intro v' w' own' hg
 refine h v' w' ?_ (Kept.of_grown hown hg hbase)
 unfold NodesOwn
 rw [ndVals_append, List.length_append]
 exact own'
theorem Sl.piece {w : World} {b o cap : Nat} {t : List Nd} (h : NodesIs w (.slice (some ⟨b, o, none⟩) t.length cap) t) (a n c : Nat) (ha : a + n ≤ t.length) (hc : n ≤ c) (hm : c ≤ maxLen) : NodesIs w (.slice (some ⟨b, o + a * 5, none⟩) n c) ((t.drop a).take n) := by
 obtain ⟨A, cp, he, h1, h2, h3⟩ := h
 injection he with e1 _ _
 have hl : ((t.drop a).take n).length = n := by simp; omega
 refine ⟨_, c, by rw [hl], by rw [hl]; exact hc, hm, fun hne => ⟨b, o + a * 5, rfl, fun j u hu => ?_⟩⟩
 have ht : ndVals t ≠ [] := ndVals_ne (by
  rcases Nat.eq_zero_or_pos n with h | h
  · subst h; simp [ndVals] at hne
  · omega)
 obtain ⟨b', o', e2, h4⟩ := h3 ht
 rw [← e1] at e2
 injection e2 with e2
 injection e2 with e2 e3 _
 subst e2 e3
 rw [Nat.add_assoc]
 refine h4 _ _ ?_
 rw [ndVals_take, ndVals_drop _ _ (by omega), List.getElem?_take] at hu
 split at hu
 · rwa [List.getElem?_drop] at hu
 · cases hu
def Nd.unkey (x : Nd) : Nd := ⟨x.kind, none_, x.n, x.s, x.size⟩
def unkeyL : List Nd → List Nd
 | [] => []
 | x :: r => x.unkey :: r
def J.unkey : J → J
 | .mk h l => .mk ⟨h.kind, none_, h.n, h.s⟩ l
theorem unkey_flat (j : J) : unkeyL j.flat = j.unkey.flat := by
 cases j
 simp [flat_mk, unkeyL, J.unkey, Nd.unkey]
theorem SlT.setKey {lo : Nat} {w : World} {v : Value} {x : Nd} {r : List Nd} (h : NodesT lo w v (x :: r)) : ∃ g off cap, v = .slice (some ⟨g, off, none⟩) (r.length + 1) cap ∧ r.length + 1 ≤ cap ∧ cap ≤ maxLen ∧ lo ≤ g ∧ w.cell? ⟨g, off + 1, none⟩ = some (.string x.key) ∧ w.frozen? ⟨g, off + 1, none⟩ = false ∧
 NodesT lo (w.setCell ⟨g, off + 1, none⟩ (.string ⟨#[]⟩)) v (x.unkey :: r) := by
 obtain ⟨A, cap, rfl, h1, h2, h3⟩ := h
 obtain ⟨g, off, cs, rfl, hlo, hh, hc⟩ := h3 (ndVals_ne (by simp))
 have k1 := hc 1 (.string x.key) (by simp [ndVals, Nd.vals])
 have hlt : off + 1 < cs.size := (Array.getElem?_eq_some_iff.1 k1).1
 refine ⟨g, off, cap, rfl, h1, h2, hlo, by rw [cell_of_heap hh]; exact k1, free_of_heap hh, ⟨_, cap, rfl, h1, h2, fun _ => ⟨g, off, cs.setIfInBounds (off + 1) (.string ⟨#[]⟩), rfl, hlo, by simp [World.setCell, Array.getElem?_modify, hh], fun j u hu => ?_⟩⟩⟩
 have e : ndVals (x.unkey :: r) = (ndVals (x :: r)).set 1 (.string ⟨#[]⟩) := by simp [ndVals, Nd.vals, Nd.unkey, none_]
 rw [e, List.getElem?_set] at hu
 by_cases hj : 1 = j
 · subst hj
   simp [ndVals, Nd.vals] at hu
   subst hu
   simp [hlt]
 · rw [if_neg hj] at hu
   rw [Array.getElem?_setIfInBounds_ne (by omega)]
   exact hc j u hu
def PartT (t : List Nd) (at_ : Int) (ps : List Nd) : Prop :=
 ((chkT t ≠ 0 ∨ at_ < 0 ∨ (t.length : Int) ≤ at_) ∧ ps = []) ∨ ∃ (j j' : J) (a : Nat) (r : List Nd), May t j ∧ at_ = a ∧ a < t.length ∧ t.drop a = j'.flat ++ r ∧ J.Ok vU j' ∧ j'.deep ≤ j.deep ∧ ps = j'.unkey.flat
end Go.Proofs.YthlfljmfggmfdaaGreatDoor

/-! ###  -/
namespace Go.Proofs.YthlfljmfggmfdaaGreatDoor
open Go.RowKit
def member (l : List J) (key : ByteArray) : Option J := l.find? fun j => decide (j.key = key)
def GetT (t : List Nd) (key : ByteArray) (ps : List Nd) (is : Bool) : Prop :=
 ((chkT t ≠ 0 ∨ ∃ h l, May t (.mk h l) ∧ h.kind ≠ 7) ∧ ps = [] ∧ is = false) ∨ ∃ h l, May t (.mk h l) ∧ h.kind = 7 ∧ ((member l key = none ∧ ps = [] ∧ is = false) ∨ ∃ j, member l key = some j ∧ ps = j.unkey.flat ∧ is = true)
theorem member_none {l1 : List J} {key : ByteArray} (h : ∀ j ∈ l1, j.key ≠ key) (l2 : List J) : member (l1 ++ l2) key = member l2 key := by
 unfold member
 rw [List.find?_append, List.find?_eq_none.2 (by simpa using h)]
 rfl
theorem member_here {j : J} {l : List J} {key : ByteArray} (h : j.key = key) : member (j :: l) key = some j := by simp [member, h]
def NewNodesB (w0 : World) (l : List Nd) (b : Bool) (e : Ending) (w' : World) : Prop := ∃ v, e = .returned (.tuple #[v, .bool b]) ∧ NodesT w0.heap.size w' v l ∧ Old w0 w'
theorem ints_cell {w : World} {v : Value} {l : List Nat} {lo m : Nat} (h : IntsT lo w v l) (hm : l.length = m) : ∃ A cap, v = .slice A m cap ∧ m ≤ cap ∧ cap ≤ maxLen ∧ (m = 0 ∨ ∃ b off, A = some ⟨b, off, none⟩ ∧ ∀ (i n : Nat), l[i]? = some n → w.cell? ⟨b, off + i, none⟩ = some (.int .i64 (n : Int))) := by
 subst hm
 obtain ⟨A, cap, rfl, h1, h2, h3⟩ := h.sl
 refine ⟨A, cap, rfl, h1, h2, ?_⟩
 cases l with
 | nil => exact .inl rfl
 | cons x l =>
   obtain ⟨b, off, rfl, hc⟩ := h3 (by simp [intVals])
   exact .inr ⟨b, off, rfl, fun i n hn => hc i _ (by simp only [intVals, List.getElem?_map, hn, Option.map_some])⟩
theorem starts_at {a : Nat} {l1 l2 : List J} {j : J} : (starts a (l1 ++ j :: l2))[l1.length]? = some (a + (J.flats l1).length) := by
 rw [starts_append, List.getElem?_append_right (by rw [starts_length]; exact Nat.le_refl _), starts_length, Nat.sub_self]
 rfl
theorem kids_ok {V : ByteArray → Bool} {h : Hd} {l : List J} (hok : J.Ok V (.mk h l)) : J.Oks V l := by
 simp only [J.Ok] at hok
 rcases hok with ⟨_, rfl⟩ | ⟨_, _, h, _⟩ | ⟨_, _, h, _⟩
 · simp [J.Oks]
 · exact h
 · exact h
theorem part_kid {t : List Nd} {h : Hd} {l1 l2 : List J} {j : J} (hm : May t (.mk h (l1 ++ j :: l2))) : PartT t ((0 + 1 + (J.flats l1).length : Nat) : Int) j.unkey.flat := by
 have hd : t.drop 0 = J.flat (.mk h (l1 ++ j :: l2)) ++ [] := by rw [List.drop_zero, List.append_nil]; exact hm.1.2.2
 have hd2 := drop_flat hd
 rw [flats_cons, List.append_assoc] at hd2
 obtain ⟨ha, _⟩ := head_flat hd2
 have hok := oks_mem (kids_ok hm.1.1) j (by simp)
 refine .inr ⟨_, j, _, _, hm, rfl, ha, hd2, hok, ?_, rfl⟩
 have := deep_le_deeps (l := l1 ++ j :: l2) (j := j) (by simp)
 simp only [J.deep]
 omega
end Go.Proofs.YthlfljmfggmfdaaGreatDoor

/-! ###  -/
namespace Go.Proofs.YthlfljmfggmfdaaGreatDoor
open Go.RowKit
def sameNds (a b : List Nd) : Bool := decide (a = b)
theorem same_len {α : Type} [DecidableEq α] {a b : List α} (h : a.length ≠ b.length) : decide (a = b) = false := by
 simp only [decide_eq_false_iff_not]; intro e; exact h (by rw [e])
theorem same_at {α : Type} [DecidableEq α] {a b : List α} {k : Nat} (ha : k < a.length) (hb : k < b.length) (h : a[k] ≠ b[k]) : decide (a = b) = false := by
 simp only [decide_eq_false_iff_not]
 rintro rfl
 exact h rfl
theorem same_end {α : Type} [DecidableEq α] {a b : List α} (hl : a.length = b.length) (h : ∀ j : Nat, j < a.length → a[j]? = b[j]?) : decide (a = b) = true := by
 simp only [decide_eq_true_eq]
 apply List.ext_getElem?
 intro j
 rcases Nat.lt_or_ge j a.length with h1 | h1
 · exact h j h1
 · rw [List.getElem?_eq_none h1, List.getElem?_eq_none (by omega)]
theorem same_next {α : Type} {a b : List α} {k : Nat} (ha : k < a.length) (hb : k < b.length) (h : ∀ j : Nat, j < k → a[j]? = b[j]?) (hc : a[k] = b[k]) : ∀ j : Nat, j < k + 1 → a[j]? = b[j]? := by
 intro j hj
 rcases Nat.lt_or_ge j k with h1 | h1
 · exact h j h1
 · have : j = k := by omega
   subst this
   rw [List.getElem?_eq_getElem ha, List.getElem?_eq_getElem hb, hc]
theorem sameNd_false {a b : Nd} (h : (!sameNd a b) = true) : a ≠ b := by simpa [sameNd] using h
theorem sameNd_true {a b : Nd} (h : (!sameNd a b) = false) : a = b := by simpa [sameNd] using h
set_option maxRecDepth 100000 in
set_option maxHeartbeats 400000 in
theorem ref_Eq (va vb : Value) (a b : List Nd) (w : World) (ha : NodesIs w va a) (hb : NodesIs w vb b) :
 Calls Tryz.prog 20 #[va, vb] w fun e w' => e = .returned (.bool (sameNds a b)) ∧ Old w w' := by
 have hG := nodeGuard
 obtain ⟨A, ca, rfl, hla, hma, ha⟩ := ha.nodes
 obtain ⟨B, cb, rfl, hlb, hmb, hb⟩ := hb.nodes
 unfold maxLen at hma hmb
 go_enter Tryz.func20, Tryz.ntmps20
 by_cases hl : a.length = b.length
 · have hl' : ((a.length : Int) != (b.length : Int)) = false := by simp [hl]
   have HL := hide hl
   have hl1 : a.length ≤ b.length := by omega
   have hl2 : b.length ≤ a.length := by omega
   clear hl
   go_wp2_with fail
   go_loopw [5] (fun i wr => ∃ k : Nat, i = .int .i64 k ∧ k ≤ a.length ∧ Hid (∀ j : Nat, j < k → a[j]? = b[j]?) ∧ Old w wr) (fun i _ => a.length - (intOf i).toNat)
   case atStart => exact ⟨0, rfl, by omega, hide (by intro j hj; omega), Old.refl _⟩
   case round =>
    obtain ⟨k, rfl, hk, HQ, hbl⟩ := hrel
    by_cases hlt : k < a.length
    · have hlt' : k < b.length := by omega
      obtain ⟨b1, o1, rfl, hc1⟩ := ha.resolve_left (by omega)
      obtain ⟨b2, o2, rfl, hc2⟩ := hb.resolve_left (by omega)
      obtain ⟨x0, x1, x2, x3, x4⟩ := hc1 k hlt
      obtain ⟨y0, y1, y2, y3, y4⟩ := hc2 k hlt'
      have hx0 := hbl.cell x0
      have hx1 := hbl.cell x1
      have hx2 := hbl.cell x2
      have hx3 := hbl.cell x3
      have hx4 := hbl.cell x4
      have hy0 := hbl.cell y0
      have hy1 := hbl.cell y1
      have hy2 := hbl.cell y2
      have hy3 := hbl.cell y3
      have hy4 := hbl.cell y4
      have hq := neq_node a[k] b[k]
      obtain ⟨C, hC⟩ : ∃ C, Hid ((!sameNd a[k] b[k]) = C) := ⟨_, hide rfl⟩
      rw [hC.out] at hq
      clear ha hb hc1 hc2 x0 x1 x2 x3 x4 y0 y1 y2 y3 y4
      go_wp2_with fail
      go_quiet (fail)
      clear hx0 hx1 hx2 hx3 hx4 hy0 hy1 hy2 hy3 hy4 hq
      cases C
      · go_wp2_with fail
        go_roundw
        case rel => exact ⟨k + 1, by go_num, by omega, hide (same_next hlt hlt' HQ.out (sameNd_true hC.out)), Old.drewN hbl _⟩
        case measure => simp [intOf]; omega
      · go_wp2_with fail
        go_ret
        exact ⟨ret_bool (same_at hlt hlt' (sameNd_false hC.out)).symm, Old.drewN hbl _⟩
    · go_wp2_with fail
      go_ret
      exact ⟨ret_bool (same_end HL.out (fun j hj => HQ.out j (by omega))).symm, hbl⟩
 · have hl' : ((a.length : Int) != (b.length : Int)) = true := by simp; omega
   go_wp2_with fail
   go_ret
   exact ⟨ret_bool (same_len hl).symm, Old.refl _⟩
set_option maxRecDepth 100000 in
theorem ref_Copy (v : Value) (r : List Nd) (w : World) (h : NodesIs w v r) (hlen : r.length ≤ 1048576) : Calls Tryz.prog 15 #[v] w (NewNodes w r) := by
 have H := hide h
 obtain ⟨A, cap, rfl, rest⟩ := h
 clear rest
 go_enter Tryz.func15, Tryz.ntmps15
 go_wp2_with (at_builtin; refine wpList_plain rfl (fun K hK => ?_); refine step_push_nodes _ _ _ rfl w.heap.size (.slice none 0 0) [] rfl (World.ownsRow_nil _ _ _ _) _ r rfl H.out (by simp; omega) (Nat.le_refl _) ?_; intro v' w' own hk; refine hK _ _ ?_; clear hK)
 go_ret
 exact ⟨_, rfl, SlT.of_own own, hk.old (Old.refl _) (Nat.le_refl _)⟩
structure Spo (lo : Nat) (w wr : World) : Prop where
 low : Below lo w wr
 cells : ∀ (b : Nat) (cs : Array Value) (T : TypeId) (f : Nat × Nat), w.heap[b]? = some (.cells cs T f) → ∃ cs' : Array Value, wr.heap[b]? = some (.cells cs' T f) ∧ cs'.size = cs.size
theorem Spo.refl (lo : Nat) (w : World) : Spo lo w w := ⟨Below.refl _ _, fun _ cs _ _ h => ⟨cs, h, rfl⟩⟩
theorem Spo.set {lo : Nat} {w wr : World} (h : Spo lo w wr) {p i : Nat} (hp : lo ≤ p) (u : Value) : Spo lo w (wr.setCell ⟨p, i, none⟩ u) where
 low := h.low.setCell hp u
 cells := by
  intro b cs1 T1 f1 hb1
  obtain ⟨cs', h1, h2⟩ := h.cells b cs1 T1 f1 hb1
  by_cases e : p = b
  · subst e
    exact ⟨cs'.setIfInBounds i u, by simp [World.setCell, Array.getElem?_modify, h1], by simpa using h2⟩
  · exact ⟨cs', by simp [World.setCell, Array.getElem?_modify, h1, e], h2⟩
theorem Spo.some {lo : Nat} {w wr : World} (h : Spo lo w wr) {p i : Nat} {cs : Array Value} {T : TypeId} (hb : w.heap[p]? = some (.cells cs T (0, 0))) (hi : i < cs.size) : (∃ x, wr.cell? ⟨p, i, none⟩ = some x) ∧ wr.frozen? ⟨p, i, none⟩ = false := by
 obtain ⟨cs', h1, h2⟩ := h.cells p cs T _ hb
 exact ⟨⟨cs'[i], by rw [cell_of_heap h1]; exact Array.getElem?_eq_getElem (by omega)⟩, free_of_heap h1⟩
end Go.Proofs.YthlfljmfggmfdaaGreatDoor

/-! ###  -/
namespace Go.Proofs.YthlfljmfggmfdaaGreatDoor
open Go.RowKit
def PartsIs (w : World) (v : Value) (ps : List (List Nd)) : Prop :=
 ∃ vs : List Value, vs.length = ps.length ∧ Sl w v ps.length vs ∧ ∀ i, (h : i < ps.length) → (h' : i < vs.length) → NodesIs w vs[i] ps[i]
theorem PartsIs.old {w w' : World} {v : Value} {ps : List (List Nd)} (h : PartsIs w v ps) (ho : Old w w') : PartsIs w' v ps := by
 obtain ⟨vs, h1, h2, h3⟩ := h
 exact ⟨vs, h1, h2.old ho, fun i hi hi' => (h3 i hi hi').old ho⟩
theorem PartsIs.open_ {w : World} {v : Value} {ps : List (List Nd)} (h : PartsIs w v ps) : ∃ A cap, v = .slice A ps.length cap ∧ ps.length ≤ cap ∧ cap ≤ maxLen ∧ (ps.length = 0 ∨ ∃ b off, A = some ⟨b, off, none⟩ ∧ ∀ i, (hi : i < ps.length) → ∃ A' c', w.cell? ⟨b, off + i, none⟩ = some (.slice A' ps[i].length c') ∧ ps[i].length ≤ c' ∧ c' ≤ maxLen ∧ NodesIs w (.slice A' ps[i].length c') ps[i]) := by
 obtain ⟨vs, h1, ⟨A, cap, rfl, h2, h3, h4⟩, h5⟩ := h
 refine ⟨A, cap, rfl, h2, h3, ?_⟩
 rcases Nat.eq_zero_or_pos ps.length with h0 | h0
 · exact .inl h0
 · obtain ⟨b, off, rfl, hc⟩ := h4 (by intro e; rw [e] at h1; simp at h1; omega)
   refine .inr ⟨b, off, rfl, fun i hi => ?_⟩
   have hi' : i < vs.length := by omega
   obtain ⟨A', c', e, g1, g2⟩ := (h5 i hi hi').form
   have hn := h5 i hi hi'
   have hcell := hc i vs[i] (List.getElem?_eq_getElem hi')
   rw [e] at hn hcell
   exact ⟨A', c', hcell, g1, g2, hn⟩
def J.rekey (k : ByteArray) : J → J
 | .mk h l => .mk ⟨h.kind, k, h.n, h.s⟩ l
def rekeys : List ByteArray → List J → List J
 | k :: ks, j :: js => j.rekey k :: rekeys ks js
 | _, _ => []
theorem rekeys_length : ∀ (ks : List ByteArray) (js : List J), ks.length = js.length → (rekeys ks js).length = js.length
 | [], [], _ => rfl
 | k :: ks, j :: js, h => by simp only [rekeys, List.length_cons]; rw [rekeys_length ks js (by simpa using h)]
theorem rekeys_get : ∀ (ks : List ByteArray) (js : List J) (i : Nat) (h : i < js.length) (h' : i < ks.length) (h'' : i < (rekeys ks js).length), (rekeys ks js)[i] = js[i].rekey ks[i]
 | k :: ks, j :: js, 0, _, _, _ => rfl
 | k :: ks, j :: js, i + 1, h, h', h'' => by
   simp only [rekeys, List.getElem_cons_succ]
   exact rekeys_get ks js i (by simpa using h) (by simpa using h') (by simpa [rekeys] using h'')
theorem rekey_size (k : ByteArray) (j : J) : (j.rekey k).flat.length = j.flat.length := by cases j; simp [J.rekey, flat_mk]
theorem rekey_vals (k : ByteArray) (j : J) : ndVals (j.rekey k).flat = (ndVals j.flat).set 1 (.string k) := by
 cases j
 simp [J.rekey, flat_mk, ndVals, Nd.vals]
theorem rekey_deep (k : ByteArray) (j : J) : (j.rekey k).deep = j.deep := by cases j; simp [J.rekey, J.deep]
theorem rekeys_deeps : ∀ (ks : List ByteArray) (js : List J), ks.length = js.length → J.deeps (rekeys ks js) = J.deeps js
 | [], [], _ => rfl
 | k :: ks, j :: js, h => by simp only [rekeys, J.deeps, rekey_deep]; rw [rekeys_deeps ks js (by simpa using h)]
def madeTo (kind : Int) (l : List J) (z : Int) : List Nd := ⟨kind, none_, 0, none_, z⟩ :: J.flats l
theorem madeTo_length (kind : Int) (l : List J) (z : Int) : (madeTo kind l z).length = 1 + (J.flats l).length := by simp [madeTo]; omega
theorem madeTo_vals (kind : Int) (l : List J) (z z' : Int) : ndVals (madeTo kind l z') = (ndVals (madeTo kind l z)).set 4 (.int .i64 z') := by simp [madeTo, ndVals, Nd.vals]
theorem madeTo_snoc (kind : Int) (l : List J) (j : J) (k : ByteArray) (z : Int) : ndVals (madeTo kind (l ++ [j.rekey k]) z) = (ndVals (madeTo kind l z ++ j.flat)).set ((1 + (J.flats l).length) * 5 + 1) (.string k) := by
 have e : madeTo kind (l ++ [j.rekey k]) z = madeTo kind l z ++ (j.rekey k).flat := by simp [madeTo, flats_append, flats_one]
 rw [e, ndVals_append, ndVals_append, rekey_vals, List.set_append_right _ _ (by rw [ndVals_length, madeTo_length]; omega), ndVals_length, madeTo_length, Nat.add_sub_cancel_left]
def WholeT (kind : Int) (l : List J) (ps : List Nd) (e : Int) : Prop :=
 (4000 < 1 + (J.flats l).length ∧ ps = [] ∧ e = 5) ∨ (1 + (J.flats l).length ≤ 4000 ∧ 64 ≤ J.deeps l ∧ ps = [] ∧ e = 72) ∨ (1 + (J.flats l).length ≤ 4000 ∧ J.deeps l < 64 ∧ ps = J.flat (.mk ⟨kind, none_, 0, none_⟩ l) ∧ e = 0)
def NewNodesE (w0 : World) (l : List Nd) (n : Int) (e : Ending) (w' : World) : Prop := ∃ v, e = .returned (.tuple #[v, .int .i64 n]) ∧ NodesT w0.heap.size w' v l ∧ Old w0 w'
theorem own_node (w : World) (kind : Int) : NodesOwn w.heap.size (w.alloc (.cells #[.int .i64 kind, .string ⟨#[]⟩, .int .i64 0, .string ⟨#[]⟩, .int .i64 0] 36)) (.slice (some ⟨w.heap.size, 0, none⟩) 1 1) (madeTo kind [] 0) :=
 World.ownsRow_lit w #[.int .i64 kind, .string ⟨#[]⟩, .int .i64 0, .string ⟨#[]⟩, .int .i64 0] 1 (Nat.le_refl _) (by unfold maxLen; omega) rfl
theorem own_set {base T size n : Nat} {w : World} {v : Value} {xs : List Value} (h : w.ownsRow base T size v n xs) (hn : 0 < n) : ∃ g cap, v = .slice (some ⟨g, 0, none⟩) n cap ∧ n ≤ cap ∧ cap ≤ maxLen ∧ base ≤ g ∧ (∀ j u, xs[j]? = some u → w.cell? ⟨g, j, none⟩ = some u) ∧ (∀ j, w.frozen? ⟨g, j, none⟩ = false) ∧ ∀ j u, (w.setCell ⟨g, j, none⟩ u).ownsRow base T size v n (xs.set j u) := by
 obtain ⟨g, cap, rfl, h1, h2, h3, h4⟩ := own_fits h hn
 exact ⟨g, cap, rfl, h1, h2, h3, h4, fun j => h.frozenAt j, fun j u => (h.stored j u).1⟩
theorem flats_take_snoc {l : List J} {k : Nat} (h : k < l.length) : J.flats (l.take (k + 1)) = J.flats (l.take k) ++ l[k].flat := by
 rw [List.take_succ_eq_append_getElem h, flats_append, flats_one]
theorem flats_take_le (l : List J) (k : Nat) : (J.flats (l.take k)).length ≤ (J.flats l).length := by
 have e : J.flats l = J.flats (l.take k) ++ J.flats (l.drop k) := by rw [← flats_append, List.take_append_drop]
 rw [e, List.length_append]
 omega
theorem deeps_take_snoc {l : List J} {k : Nat} (h : k < l.length) : J.deeps (l.take (k + 1)) = max (J.deeps (l.take k)) l[k].deep := by
 rw [List.take_succ_eq_append_getElem h, deeps_append]
 simp [J.deeps]
abbrev TextsIs (w : World) (v : Value) (l : List ByteArray) : Prop := Sl w v l.length (l.map Value.string)
theorem Sl.texts {w : World} {v : Value} {l : List ByteArray} (h : TextsIs w v l) : ∃ A cap, v = .slice A l.length cap ∧ l.length ≤ cap ∧ cap ≤ maxLen ∧ (l.length = 0 ∨ ∃ b off, A = some ⟨b, off, none⟩ ∧ ∀ i, (hi : i < l.length) → w.cell? ⟨b, off + i, none⟩ = some (.string l[i])) := by
 obtain ⟨A, cap, rfl, h1, h2, h3⟩ := h
 refine ⟨A, cap, rfl, h1, h2, ?_⟩
 rcases Nat.eq_zero_or_pos l.length with h0 | h0
 · exact .inl h0
 · obtain ⟨b, off, rfl, hc⟩ := h3 (by intro e; have := congrArg List.length e; simp at this; subst this; simp at h0)
   exact .inr ⟨b, off, rfl, fun i hi => hc i _ (by simp [List.getElem?_eq_getElem hi])⟩
set_option maxRecDepth 100000 in
theorem obj_key (i kb : Nat) (kv : Value) (ks : List ByteArray) (w : World) (hi : i < ks.length) (hkb : w.cell? ⟨kb, 0, none⟩ = some kv) (hkv : TextsIs w kv ks) : Calls Tryz.prog 68 #[.int .i64 i, .pointer (some ⟨kb, 0, none⟩)] w fun e w' => e = .returned (.string ks[i]) ∧ Old w w' := by
 obtain ⟨A, cap, rfl, h1, h2, h3⟩ := hkv.texts
 unfold maxLen at h2
 obtain ⟨b, off, rfl, hc⟩ := h3.resolve_left (by omega)
 have hx := hc i hi
 clear h3 hc hkv
 go_enter Tryz.func68, Tryz.ntmps68
 go_wp2_with fail
 go_ret
 exact ⟨rfl, Old.refl _⟩
set_option maxRecDepth 100000 in
set_option maxHeartbeats 2000000 in
theorem whole_obj (v : Value) (pl : List (List Nd)) (js : List J) (ks : List ByteArray) (ps : List Nd) (er : Int) (w : World) (kb : Nat) (kv : Value) (hkb : w.cell? ⟨kb, 0, none⟩ = some kv) (hkv : TextsIs w kv ks) (hp : PartsIs w v pl) (hlen : pl.length = js.length) (hks : ks.length = js.length) (hmay : ∀ i, (h : i < pl.length) → (h' : i < js.length) → May pl[i] js[i]) (htx : ∀ p ∈ pl, TextsOk p) (hT : Tabs w)
 (hw : WholeT 7 (rekeys ks js) ps er) :
 Calls Tryz.prog 67 #[.int .i64 7, .func (.func 68) #[] #[.pointer (some ⟨kb, 0, none⟩)], v] w (NewNodesE w ps er) := by
 obtain ⟨A, ca, rfl, hla, hma, hc⟩ := hp.open_
 unfold maxLen at hma
 have HC := hide hc
 have HMAY := hide hmay
 have HTX := hide htx
 have HT := hide hT
 have HW := hide hw
 have HKS := hide hks
 have KEYC := hide (fun w' (ho : Old w w') (i : Nat) (hi : i < ks.length) => obj_key i kb kv ks w' hi (ho.cell hkb) (hkv.old ho))
 clear hkb hkv
 obtain ⟨rk, hrk⟩ : ∃ rk, Hid (rekeys ks js = rk) := ⟨_, hide rfl⟩
 have HRK := hide hrk.out
 have HRL := hide (show rk.length = pl.length by rw [← hrk.out, rekeys_length ks js hks, hlen])
 have HRD := hide (show J.deeps rk = J.deeps js by rw [← hrk.out, rekeys_deeps ks js hks])
 have HLEN := hide hlen
 rw [hrk.out] at HW
 clear hp hc hmay htx hT hw hks hlen hrk
 go_enter Tryz.func67, Tryz.ntmps67
 go_wp2_with fail
 go_loopw [8, 9, 18] (fun o d i wr => ∃ (k dd N : Nat), i = .int .i64 k ∧ d = .int .i64 dd ∧ k ≤ pl.length ∧ dd ≤ 64 ∧ N ≤ 3999 ∧ Hid ((J.flats (rk.take k)).length = N) ∧ Hid (J.deeps (rk.take k) = dd) ∧ Hid (NodesOwn w.heap.size wr o (madeTo 7 (rk.take k) 0)) ∧ Hid (Old w wr)) (fun _ _ i _ => pl.length - (intOf i).toNat)
 case atStart => exact ⟨0, 0, 0, rfl, rfl, by omega, by omega, by omega, hide rfl, hide rfl, hide (own_node w 7), hide ((Old.refl w).alloc _)⟩
 case round =>
  obtain ⟨k, dd, N, rfl, rfl, hk, hdd, hN, HN, HDD, HOWN, HO⟩ := hrel
  have HML := hide (show (madeTo 7 (rk.take k) 0).length = N + 1 by rw [madeTo_length, HN.out]; omega)
  have OW := hide (show wr.ownsRow w.heap.size 36 5 _ (N + 1) (ndVals (madeTo 7 (rk.take k) 0)) by have := HOWN.out; unfold NodesOwn at this; rwa [HML.out] at this)
  obtain ⟨g, cap, rfl, s1, s2, s3, s4, s5, s6⟩ := own_set OW.out (by omega)
  unfold maxLen at s2
  by_cases hlt : k < pl.length
  · clear s4 s5 s6
    obtain ⟨b1, o1, rfl, hc1⟩ := HC.out.resolve_left (by omega)
    obtain ⟨A', c', x0, x1, x2, x3⟩ := hc1 k hlt
    have hjl : k < js.length := by have := HLEN.out; omega
    have hkl : k < ks.length := by have := HKS.out; omega
    have hrkl : k < rk.length := by have := HRL.out; omega
    have hm := HMAY.out k hlt hjl
    have HPF := hide (show pl[k] = js[k].flat from hm.1.2.2)
    have HR := hide (show rk[k] = js[k].rekey ks[k] by have := rekeys_get ks js k hjl hkl (by rw [HRK.out]; exact hrkl); simp only [HRK.out] at this; exact this)
    obtain ⟨dj, hdj⟩ : ∃ dj, Hid (js[k].deep = dj) := ⟨_, hide rfl⟩
    have hdj64 : dj ≤ 64 := by rw [← hdj.out]; exact hm.2.2
    have CD := hide (show ∀ w', Old w w' → Calls Tryz.prog 106 #[.slice A' pl[k].length c'] w' fun e w2 => e = .returned (.int .i64 dj) ∧ Old w' w2 from fun w' ho => num_as (deep_run _ _ w' (x3.old ho) (HTX.out _ (List.getElem_mem hlt)) (HT.out.old ho)) (by rw [deepT_may hm, hdj.out]))
    have XN := hide x3
    obtain ⟨q, hq⟩ : ∃ q, Hid (pl[k].length = q) := ⟨_, hide rfl⟩
    have hq0 : 0 < q := by rw [← hq.out, HPF.out]; exact flat_pos _
    have hq4 : q ≤ 4000 := by rw [← hq.out]; exact hm.2.1
    have HRS := hide (show rk[k].flat.length = q by rw [HR.out, rekey_size, ← HPF.out, hq.out])
    have HTOT := hide (show N + q ≤ (J.flats rk).length by have h1 := flats_take_le rk (k + 1); rw [flats_take_snoc hrkl, List.length_append, HN.out, HRS.out] at h1; exact h1)
    rw [hq.out] at x0 x1 CD
    have HX := hide x0
    have e0 := HO.out.cell x0
    unfold maxLen at x2
    clear hc1 x0 x3 hm
    have XQ : ∀ w', Old w w' → NodesIs w' (.slice A' q c') pl[k] := fun w' ho => by rw [← hq.out]; exact XN.out.old ho
    have HXQ := hide XQ
    clear XQ
    by_cases hlim : 4000 < N + 1 + q
    · have hlim' : (4000 : Int) - ((N : Int) + 1) < (q : Int) := by omega
      have FIN := hide (show ps = [] ∧ er = 5 by
       have := HTOT.out
       rcases HW.out with ⟨_, h1, h2⟩ | ⟨h, _⟩ | ⟨h, _⟩
       · exact ⟨h1, h2⟩
       · omega
       · omega)
      go_wp2_with fail
      go_ret2
      exact ⟨_, by rw [FIN.out.2]; rfl, by rw [FIN.out.1]; exact SlT.nil_ _, HO.out⟩
    · have hlim' : ¬ (4000 : Int) - ((N : Int) + 1) < (q : Int) := by omega
      go_wp2_with fail
      refine (CD.out _ HO.out).mono ?_
      rintro e w3 ⟨rfl, o3⟩
      have O3 := hide (Old.trans HO.out o3)
      have OW3 := hide (own_old HOWN.out o3)
      clear o3 e0
      have hl1 : (madeTo 7 (rk.take k) 0).length + pl[k].length ≤ 4194304 := by rw [HML.out, hq.out]; omega
      go_upto_region 11 with (at_builtin; refine wpList_plain rfl (fun K hK => ?_); refine step_push_nodes _ _ _ rfl w.heap.size _ (madeTo 7 (rk.take k) 0) rfl OW3.out _ pl[k] rfl (HXQ.out _ O3.out) hl1 O3.out.size ?_; intro v4 w4 own4 kept4; refine hK _ _ ?_; clear hK)
      have O4 := hide (kept4.old O3.out (Nat.le_refl _))
      have OW4 := hide (show w4.ownsRow w.heap.size 36 5 v4 (N + 1 + q) (ndVals (madeTo 7 (rk.take k) 0 ++ pl[k])) by have h := own4; unfold NodesOwn at h; rwa [List.length_append, HML.out, hq.out] at h)
      clear own4 kept4 hl1
      obtain ⟨g4, cap4, rfl, r1, r2, r3, r4, r5, r6⟩ := own_set OW4.out (by omega)
      unfold maxLen at r2
      clear r4 r5 r6
      go_wp2_with fail
      refine (KEYC.out w4 O4.out k hkl).mono ?_
      rintro e w5 ⟨rfl, o5⟩
      have OW5 := hide (own_old OW4.out o5)
      have O5 := hide (Old.trans O4.out o5)
      obtain ⟨g5, cap5, he, _, _, r3', r4, r5, r6⟩ := own_set OW5.out (by omega)
      injection he with he1 _ he3
      injection he1 with he1
      injection he1 with he1
      subst he1 he3
      have hlt5 : (N + 1) * 5 + 1 < (ndVals (madeTo 7 (rk.take k) 0 ++ pl[k])).length := by rw [ndVals_length, List.length_append, HML.out, hq.out]; omega
      have c5 := r4 ((N + 1) * 5 + 1) _ (List.getElem?_eq_getElem hlt5)
      have f5 := r5 ((N + 1) * 5 + 1)
      have R6 := hide (r6 ((N + 1) * 5 + 1) (.string ks[k]))
      have O6 := hide (O5.out.setCell (p := ⟨g4, (N + 1) * 5 + 1, none⟩) r3' (.string ks[k]))
      generalize (ndVals (madeTo 7 (rk.take k) 0 ++ pl[k]))[(N + 1) * 5 + 1] = zz at c5
      clear r3' r4 r5 r6 o5 hlt5
      have HNEW := hide (show (J.flats (rk.take (k + 1))).length = N + q by rw [flats_take_snoc hrkl, List.length_append, HN.out, HRS.out])
      have HDNEW := hide (show J.deeps (rk.take (k + 1)) = max dd dj by rw [deeps_take_snoc hrkl, HDD.out, HR.out, rekey_deep, hdj.out])
      have HVALS := hide (show ndVals (madeTo 7 (rk.take (k + 1)) 0) = (ndVals (madeTo 7 (rk.take k) 0 ++ pl[k])).set ((N + 1) * 5 + 1) (.string ks[k]) by
       rw [List.take_succ_eq_append_getElem hrkl, HR.out, madeTo_snoc, HN.out, HPF.out, Nat.add_comm 1 N]
       )
      go_wp2_with fail
      go_roundw
      case rel => exact ⟨k + 1, max dd dj, N + q, by go_num, by go_num, by omega, by omega, by omega, HNEW, HDNEW, hide (by unfold NodesOwn; rw [madeTo_length, HNEW.out, HVALS.out, show 1 + (N + q) = N + 1 + q by omega]; exact R6.out), O6⟩
      case measure => simp [intOf]; omega
  · have hkk : k = pl.length := by omega
    have HALL := hide (show rk.take k = rk by rw [List.take_of_length_le (by have := HRL.out; omega)])
    rw [HALL.out] at HN HDD
    by_cases h64 : 64 ≤ dd
    · have h64' : (64 : Int) ≤ (dd : Int) := by omega
      have FIN := hide (show ps = [] ∧ er = 72 by
       have h1 := HN.out
       have h2 := HDD.out
       rcases HW.out with ⟨h, _⟩ | ⟨_, _, h1, h2⟩ | ⟨_, h, _⟩
       · omega
       · exact ⟨h1, h2⟩
       · omega)
      clear s4 s5 s6
      go_wp2_with fail
      go_ret2
      exact ⟨_, by rw [FIN.out.2]; rfl, by rw [FIN.out.1]; exact SlT.nil_ _, HO.out⟩
    · have h64' : ¬ (64 : Int) ≤ (dd : Int) := by omega
      have FIN := hide (show ps = J.flat (.mk ⟨7, none_, 0, none_⟩ rk) ∧ er = 0 by
       have h1 := HN.out
       have h2 := HDD.out
       rcases HW.out with ⟨h, _⟩ | ⟨_, h, _⟩ | ⟨_, _, h1, h2⟩
       · omega
       · omega
       · exact ⟨h1, h2⟩)
      have hlt5 : 4 < (ndVals (madeTo 7 (rk.take k) 0)).length := by rw [ndVals_length, HML.out]; omega
      have c5 := s4 4 _ (List.getElem?_eq_getElem hlt5)
      have f5 := s5 4
      have R6 := hide (s6 4 (.int .i64 ((N : Int) + 1)))
      have O6 := hide (HO.out.setCell (p := ⟨g, 4, none⟩) s3 (.int .i64 ((N : Int) + 1)))
      generalize (ndVals (madeTo 7 (rk.take k) 0))[4] = zz at c5
      have HV := hide (show J.flat (.mk ⟨7, none_, 0, none_⟩ rk) = madeTo 7 (rk.take k) ((N : Int) + 1) by rw [HALL.out, flat_mk, HN.out]; rfl)
      clear s4 s5 s6 hlt5
      go_wp2_with fail
      go_ret2
      refine ⟨_, by rw [FIN.out.2]; rfl, ?_, O6.out⟩
      rw [FIN.out.1, HV.out]
      unfold NodesT
      rw [madeTo_length, madeTo_vals _ _ 0, HALL.out, HN.out, Nat.add_comm 1 N]
      have := SlT.of_own R6.out
      rwa [HALL.out] at this
end Go.Proofs.YthlfljmfggmfdaaGreatDoor
