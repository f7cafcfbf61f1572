/-  -/
import Derived.Test.YthlfljmfggmfdaaGreatDoorQf02
import Derived.Lib.Bytealg
import Derived.Lib.Small
/-! ###  -/
namespace Go.Proofs.YthlfljmfggmfdaaGreatDoor
open Go.RowKit
structure Cell where
 null : Bool
 n : Int
 s : ByteArray
deriving DecidableEq
def Cell.vals (c : Cell) : List Value := [.bool c.null, .int .i64 c.n, .string c.s]
@[reducible] def Cell.val (c : Cell) : Value := .agg #[.bool c.null, .int .i64 c.n, .string c.s]
def rowVals (r : List Cell) : List Value := r.flatMap Cell.vals
theorem bytesD_ext {a b : ByteArray} (h : a.data.toList = b.data.toList) : a = b := by
 obtain ⟨⟨a⟩⟩ := a
 obtain ⟨⟨b⟩⟩ := b
 simp at h
 rw [h]
theorem rowVals_length (r : List Cell) : (rowVals r).length = r.length * 3 := by
 induction r with
 | nil => rfl
 | cons c r ih => simp [rowVals, Cell.vals] at *; omega
theorem rowVals_ne {r : List Cell} (h : 0 < r.length) : rowVals r ≠ [] := by
 intro e
 have := rowVals_length r
 rw [e] at this
 simp at this
 omega
theorem rowVals_get (r : List Cell) (i k : Nat) (hk : k < 3) (hi : i < r.length) : (rowVals r)[i * 3 + k]? = (r[i]).vals[k]? := by
 induction r generalizing i with
 | nil => simp at hi
 | cons c r ih =>
   have hc : (Cell.vals c).length = 3 := rfl
   cases i with
   | zero => simp [rowVals, List.flatMap_cons, List.getElem?_append_left, hc, hk]
   | succ i =>
     have h := ih i (by simpa using hi)
     simp only [rowVals, List.flatMap_cons] at *
     rw [List.getElem?_append_right (by omega)]
     simp only [List.getElem_cons_succ]
     rw [← h]
     congr 1
     omega
theorem rowVals_append (a b : List Cell) : rowVals (a ++ b) = rowVals a ++ rowVals b := by simp [rowVals]
theorem rowVals_cell (r : List Cell) : ∀ u ∈ rowVals r, u.oneCell' = true := by
 intro u hu
 simp only [rowVals, List.mem_flatMap, Cell.vals, List.mem_cons, List.not_mem_nil, or_false] at hu
 obtain ⟨c, _, rfl | rfl | rfl⟩ := hu <;> rfl
abbrev RowIs (w : World) (v : Value) (r : List Cell) : Prop := Sl w v r.length (rowVals r)
theorem Sl.row {w : World} {v : Value} {r : List Cell} (h : RowIs w v r) : ∃ A cap, v = .slice A r.length cap ∧ r.length ≤ cap ∧ cap ≤ maxLen ∧
 (r.length = 0 ∨ ∃ b off, A = some ⟨b, off, none⟩ ∧ ∀ i, (hi : i < r.length) → w.cell? ⟨b, off + i * 3, none⟩ = some (.bool r[i].null) ∧ w.cell? ⟨b, off + i * 3 + 1, none⟩ = some (.int .i64 r[i].n) ∧ w.cell? ⟨b, off + i * 3 + 2, none⟩ = some (.string r[i].s)) := by
 obtain ⟨A, cap, rfl, h1, h2, h3⟩ := h
 refine ⟨A, cap, rfl, h1, h2, ?_⟩
 rcases Nat.eq_zero_or_pos r.length with h0 | h0
 · exact .inl h0
 · obtain ⟨b, off, rfl, hc⟩ := h3 (rowVals_ne h0)
   refine .inr ⟨b, off, rfl, fun i hi => ⟨?_, ?_, ?_⟩⟩
   · have := hc (i * 3 + 0) _ (rowVals_get r i 0 (by omega) hi); simpa using this
   · have := hc (i * 3 + 1) _ (rowVals_get r i 1 (by omega) hi); simpa [Nat.add_assoc] using this
   · have := hc (i * 3 + 2) _ (rowVals_get r i 2 (by omega) hi); simpa [Nat.add_assoc] using this
end Go.Proofs.YthlfljmfggmfdaaGreatDoor

/-! ###  -/
namespace Go.Proofs.YthlfljmfggmfdaaGreatDoor
structure Col where
 id : Int
 name : ByteArray
 kind : Int
 null : Bool
 dflt : Cell
def nameCh (c : UInt8) : Bool := (decide (97 ≤ c) && decide (c ≤ 122)) || (decide (48 ≤ c) && decide (c ≤ 57)) || decide (c = 95)
def isNameL : List UInt8 → Bool
 | [] => false
 | c :: l => (decide (97 ≤ c) && decide (c ≤ 122)) && (c :: l).all nameCh && decide ((c :: l).length ≤ 32)
def isName (s : ByteArray) : Bool := isNameL s.data.toList
def Named (cols : List Col) : Prop := (∀ c ∈ cols, isName c.name = true) ∧ (cols.map Col.name).Nodup
instance (cols : List Col) : Decidable (Named cols) := by unfold Named; exact inferInstance
def namedB (cols : List Col) : Bool := decide (Named cols)
def mayK (k : Int) : Bool := decide (1 ≤ k) && decide (k ≤ 5)
def someOk (V : ByteArray → Bool) (k : Int) (c : Cell) : Bool :=
 if k = 1 then decide (c.s = none_) && decide (0 ≤ c.n) && decide (c.n ≤ 1)
 else if k = 2 then decide (c.s = none_) && decide (-2147483648 ≤ c.n) && decide (c.n ≤ 2147483647)
 else if k = 3 then decide (c.s = none_) && decide (-9223372036854775808 ≤ c.n) && decide (c.n ≤ 9223372036854775807)
 else if k = 4 then decide (c.n = 0) && decide (c.s.size ≤ 1024) && V c.s
 else decide (c.n = 0) && decide (c.s.size ≤ 1024)
def cellOk (V : ByteArray → Bool) (k : Int) (null : Bool) (c : Cell) : Bool :=
 if c.null then null && decide (c.n = 0) && decide (c.s = none_) else someOk V k c
def cellErr (V : ByteArray → Bool) (k : Int) (null : Bool) (c : Cell) : Int := if mayK k then (if cellOk V k null c then 0 else 90) else 2
def firstErr : List Int → Int
 | [] => 0
 | e :: l => if e = 0 then firstErr l else e
def rowErr (V : ByteArray → Bool) (cols : List Col) (r : List Cell) : Int :=
 if cols.length = r.length then firstErr ((cols.zip r).map fun x => cellErr V x.1.kind x.1.null x.2) else 100
theorem firstErr_zero {l : List Int} : firstErr l = 0 ↔ ∀ e ∈ l, e = 0 := by
 induction l with
 | nil => simp [firstErr]
 | cons e l ih =>
   by_cases h : e = 0
   · simp [firstErr, h, ih]
   · simp [firstErr, h]
theorem rowErr_zero {V : ByteArray → Bool} {cols : List Col} {r : List Cell} : rowErr V cols r = 0 ↔ cols.length = r.length ∧ ∀ i, (h : i < cols.length) → (h' : i < r.length) → cellErr V cols[i].kind cols[i].null r[i] = 0 := by
 unfold rowErr
 split
 · rename_i hl
   rw [firstErr_zero]
   constructor
   · intro h
     refine ⟨hl, fun i hi hi' => h _ (List.mem_map.2 ⟨(cols[i], r[i]), ?_, rfl⟩)⟩
     rw [List.mem_iff_getElem]
     exact ⟨i, by simp; omega, by simp⟩
   · rintro ⟨_, h⟩ e he
     obtain ⟨x, hx, rfl⟩ := List.mem_map.1 he
     obtain ⟨i, hi, rfl⟩ := List.mem_iff_getElem.1 hx
     simp at hi
     simpa using h i (by omega) (by omega)
 · rename_i hl
   constructor
   · intro h; omega
   · rintro ⟨h, _⟩; exact absurd h hl
theorem cellErr_zero {V : ByteArray → Bool} {k : Int} {null : Bool} {c : Cell} : cellErr V k null c = 0 ↔ mayK k = true ∧ cellOk V k null c = true := by
 unfold cellErr
 cases mayK k <;> cases cellOk V k null c <;> simp
def hexD (n : Nat) : UInt8 := if n < 10 then (48 + n).toUInt8 else (87 + n).toUInt8
def hexV? (c : UInt8) : Option Nat := if 48 ≤ c.toNat ∧ c.toNat ≤ 57 then some (c.toNat - 48) else if 97 ≤ c.toNat ∧ c.toNat ≤ 102 then some (c.toNat - 87) else none
def hexL : List UInt8 → List UInt8
 | [] => []
 | b :: l => hexD (b.toNat / 16) :: hexD (b.toNat % 16) :: hexL l
def unhexL : List UInt8 → Option (List UInt8)
 | [] => some []
 | [_] => none
 | a :: b :: l => match hexV? a, hexV? b, unhexL l with
   | some x, some y, some r => some ((x * 16 + y).toUInt8 :: r)
   | _, _, _ => none
theorem hexV_hexD {n : Nat} (h : n < 16) : hexV? (hexD n) = some n := by
 match n, h with
 | 0, _ => rfl
 | 1, _ => rfl
 | 2, _ => rfl
 | 3, _ => rfl
 | 4, _ => rfl
 | 5, _ => rfl
 | 6, _ => rfl
 | 7, _ => rfl
 | 8, _ => rfl
 | 9, _ => rfl
 | 10, _ => rfl
 | 11, _ => rfl
 | 12, _ => rfl
 | 13, _ => rfl
 | 14, _ => rfl
 | 15, _ => rfl
 | n + 16, h => exact absurd h (by omega)
theorem hexV_inv {c : UInt8} {n : Nat} (h : hexV? c = some n) : n < 16 ∧ hexD n = c := by
 unfold hexV? at h
 split at h
 · rename_i h1
   injection h with h
   subst h
   refine ⟨by omega, ?_⟩
   unfold hexD
   rw [if_pos (by omega)]
   apply UInt8.toNat.inj
   simp [Nat.toUInt8]
   omega
 · split at h
   · rename_i h1
     injection h with h
     subst h
     refine ⟨by omega, ?_⟩
     unfold hexD
     rw [if_neg (by omega)]
     apply UInt8.toNat.inj
     simp [Nat.toUInt8]
     omega
   · cases h
theorem unhex_hex : ∀ l : List UInt8, unhexL (hexL l) = some l
 | [] => rfl
 | b :: l => by
   have hb := b.toNat_lt
   rw [hexL, unhexL, hexV_hexD (by omega), hexV_hexD (by omega), unhex_hex l]
   simp only
   congr 2
   apply UInt8.toNat.inj
   simp [Nat.toUInt8]
   omega
theorem hex_unhex : ∀ {l r : List UInt8}, unhexL l = some r → hexL r = l
 | [], r, h => by simp [unhexL] at h; subst h; rfl
 | [a], r, h => by simp [unhexL] at h
 | a :: b :: l, r, h => by
   rw [unhexL] at h
   split at h
   · rename_i x y q hx hy hq
     injection h with h
     subst h
     obtain ⟨x1, x2⟩ := hexV_inv hx
     obtain ⟨y1, y2⟩ := hexV_inv hy
     have e : (x * 16 + y).toUInt8.toNat = x * 16 + y := by simp [Nat.toUInt8]; omega
     rw [hexL, e, hex_unhex hq, show (x * 16 + y) / 16 = x by omega, show (x * 16 + y) % 16 = y by omega, x2, y2]
   · cases h
def hexOf (s : ByteArray) : ByteArray := ⟨(hexL s.data.toList).toArray⟩
def cellH (k : Int) (c : Cell) : Hd :=
 if c.null then ⟨1, none_, 0, none_⟩ else if k = 1 then ⟨if c.n = 1 then 3 else 2, none_, 0, none_⟩
 else if k = 2 ∨ k = 3 then ⟨4, none_, c.n, none_⟩ else if k = 4 then ⟨5, none_, 0, c.s⟩ else ⟨5, none_, 0, hexOf c.s⟩
def saidC (k : Int) (h : Hd) : Option Cell :=
 if h.kind = 1 then some ⟨true, 0, none_⟩ else if h.kind = 2 ∨ h.kind = 3 then (if k = 1 then some ⟨false, h.kind - 2, none_⟩ else none)
 else if h.kind = 4 then (if k = 2 ∨ k = 3 then some ⟨false, h.n, none_⟩ else none)
 else if h.kind = 5 then (if k = 4 then some ⟨false, 0, h.s⟩ else if k = 5 then (unhexL h.s.data.toList).map fun l => ⟨false, 0, ⟨l.toArray⟩⟩ else none) else none
def takenC (V : ByteArray → Bool) (k : Int) (null : Bool) (h : Hd) : Option Cell := (saidC k h).filter (cellOk V k null)
theorem saidC_cellH {V : ByteArray → Bool} {k : Int} {null : Bool} {c : Cell} (hk : mayK k = true) (h : cellOk V k null c = true) : saidC k (cellH k c) = some c := by
 obtain ⟨cn, n, s⟩ := c
 have hk' : 1 ≤ k ∧ k ≤ 5 := by simpa [mayK] using hk
 cases cn
 · have h5 : k = 1 ∨ k = 2 ∨ k = 3 ∨ k = 4 ∨ k = 5 := by omega
   rcases h5 with rfl | rfl | rfl | rfl | rfl
   · simp [cellOk, someOk] at h
     have h01 : n = 0 ∨ n = 1 := by omega
     rcases h01 with rfl | rfl <;> simp [saidC, cellH, h.1.1]
   · simp [cellOk, someOk] at h
     simp [saidC, cellH, h.1.1]
   · simp [cellOk, someOk] at h
     simp [saidC, cellH, h.1.1]
   · simp [cellOk, someOk] at h
     simp [saidC, cellH, h.1.1]
   · simp [cellOk, someOk] at h
     simp [saidC, cellH, hexOf, unhex_hex, h.1]
 · simp [cellOk] at h
   simp [saidC, cellH, h.1.2, h.2]
theorem takenC_cellH {V : ByteArray → Bool} {k : Int} {null : Bool} {c : Cell} (hk : mayK k = true) (h : cellOk V k null c = true) : takenC V k null (cellH k c) = some c := by
 unfold takenC
 rw [saidC_cellH hk h]
 simp [h]
theorem cellH_takenC {V : ByteArray → Bool} {k : Int} {null : Bool} {h : Hd} {c : Cell} (hk : mayK k = true) (hl : leafOk V h) (ht : takenC V k null h = some c) : cellH k c = ⟨h.kind, none_, h.n, h.s⟩ ∧ cellOk V k null c = true := by
 unfold takenC at ht
 rw [Option.filter_eq_some_iff] at ht
 obtain ⟨hs, hc⟩ := ht
 refine ⟨?_, hc⟩
 obtain ⟨hk1, hkey, hn, hss⟩ := h
 unfold saidC at hs
 simp only [leafOk] at hl
 rcases hl with ⟨h1 | h1 | h1, h2, h3⟩ | ⟨h1, h2⟩ | ⟨h1, h2, h3⟩ <;> (try simp only at h1 h2) <;> subst h1
 · simp at hs
   subst hs
   simp [cellH, h2, h3]
 · simp at hs
   obtain ⟨rfl, rfl⟩ := hs
   simp [cellH, h2, h3]
 · simp at hs
   obtain ⟨rfl, rfl⟩ := hs
   simp [cellH, h2, h3]
 · simp at hs
   obtain ⟨hk3, rfl⟩ := hs
   rcases hk3 with rfl | rfl <;> simp [cellH, h2]
 · simp at hs
   split at hs
   · rename_i h4
     subst h4
     injection hs with hs
     subst hs
     simp [cellH, h2]
   · split at hs
     · rename_i h5
       subst h5
       simp at hs
       obtain ⟨l, hl, rfl⟩ := hs
       have := hex_unhex hl
       simp [cellH, hexOf, h2, this]
     · cases hs
theorem cellH_inj {V : ByteArray → Bool} {k : Int} {null : Bool} {c d : Cell} (hk : mayK k = true) (hc : cellOk V k null c = true) (hd : cellOk V k null d = true) (e : cellH k c = cellH k d) : c = d := by
 have h1 := saidC_cellH hk hc
 rw [e, saidC_cellH hk hd] at h1
 injection h1 with h1
 exact h1.symm
end Go.Proofs.YthlfljmfggmfdaaGreatDoor

/-! ###  -/
namespace Go.Proofs.YthlfljmfggmfdaaGreatDoor
open Go.RowKit
def nib (c : UInt8) : Nat := (hexV? c).getD 0
def unhexP : List UInt8 → List UInt8
 | a :: b :: l => (nib a * 16 + nib b).toUInt8 :: unhexP l
 | _ => []
def hexC (l : List UInt8) : Prop := ∀ b ∈ l, (hexV? b).isSome = true
theorem unhexL_some : ∀ {l : List UInt8}, l.length % 2 = 0 → hexC l → unhexL l = some (unhexP l)
 | [], _, _ => rfl
 | [_], h, _ => by simp at h
 | a :: b :: l, h, hc => by
   have h1 := hc a (by simp)
   have h2 := hc b (by simp)
   have h3 := unhexL_some (l := l) (by simp at h; omega) (fun x hx => hc x (by simp [hx]))
   obtain ⟨x, hx⟩ := Option.isSome_iff_exists.1 h1
   obtain ⟨y, hy⟩ := Option.isSome_iff_exists.1 h2
   rw [unhexL, hx, hy, h3]
   simp [unhexP, nib, hx, hy]
theorem unhexL_inv : ∀ {l r : List UInt8}, unhexL l = some r → l.length % 2 = 0 ∧ hexC l
 | [], r, _ => ⟨rfl, fun b h => by cases h⟩
 | [_], r, h => by simp [unhexL] at h
 | a :: b :: l, r, h => by
   rw [unhexL] at h
   split at h
   · rename_i x y q hx hy hq
     obtain ⟨h1, h2⟩ := unhexL_inv hq
     refine ⟨by simp; omega, fun c hc => ?_⟩
     rcases List.mem_cons.1 hc with rfl | hc
     · rw [hx]; rfl
     · rcases List.mem_cons.1 hc with rfl | hc
       · rw [hy]; rfl
       · exact h2 c hc
   · cases h
theorem hex_pairs {l : List UInt8} : hexL (unhexP l) = l ↔ unhexL l = some (unhexP l) := by
 constructor
 · intro h
   have := unhex_hex (unhexP l)
   rwa [h] at this
 · intro h
   exact hex_unhex h
theorem unhexP_append : ∀ (a b : List UInt8), a.length % 2 = 0 → unhexP (a ++ b) = unhexP a ++ unhexP b
 | [], b, _ => rfl
 | [_], b, h => by simp at h
 | x :: y :: a, b, h => by
   simp only [List.cons_append, unhexP]
   rw [unhexP_append a b (by simp at h; omega)]
theorem unhexP_len : ∀ (l : List UInt8), (unhexP l).length = l.length / 2
 | [] => by simp [unhexP]
 | [_] => by simp [unhexP]
 | a :: b :: l => by
   simp only [unhexP, List.length_cons, unhexP_len l]
   omega
theorem nib_lt (c : UInt8) : nib c < 16 := by
 unfold nib
 cases h : hexV? c with
 | none => simp
 | some n => exact (hexV_inv h).1
end Go.Proofs.YthlfljmfggmfdaaGreatDoor
