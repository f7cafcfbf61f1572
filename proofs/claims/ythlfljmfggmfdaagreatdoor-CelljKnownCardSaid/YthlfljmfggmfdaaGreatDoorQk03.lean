/-  -/
import Derived.Test.YthlfljmfggmfdaaGreatDoorQk02
import Derived.Lib.Bytealg
import Derived.Lib.Small
import Derived.Shelf.Strings.Builder1
import Derived.Shelf.Strings.Builder2
import Derived.Shelf.Small.Strs
import Derived.Shelf.Strings.BuilderF
import Derived.Shelf.Strings.BuilderK
import Derived.Shelf.Strings.BuilderRune
import Derived.Shelf.Strconv.Itoa0
import Derived.Shelf.Strconv.Itoa1
import Derived.Shelf.LaysM
import Derived.Shelf.Strconv.Itoa2
import Derived.Shelf.Strconv.Itoa3
import Derived.Shelf.Strconv.Itoa4
import Derived.Shelf.Strconv.ParseIntEmpty
import Derived.Shelf.Strconv.Clone
import Derived.Shelf.Strconv.SyntaxError
import Derived.Shelf.LaysC
import Derived.Shelf.Strconv.ToError
import Derived.Shelf.Strconv.Lower
import Derived.Shelf.Strconv.ParseUint10
import Derived.Shelf.Strconv.ParseUint10Empty
import Derived.Shelf.Strconv.ParseUint10Any
import Derived.Shelf.Strconv.ParseInt10
import Derived.Shelf.Strconv.RangeError
import Derived.Shelf.Strconv.ToErrorRange
import Derived.Shelf.Strconv.ParseUintEmpty
import Derived.Shelf.Strconv.ParseUint10b64
import Derived.Shelf.Strconv.ParseUint10b32
import Derived.Shelf.Strconv.ParseUint10b16
import Derived.Shelf.Strconv.ParseUint10b8
import Derived.Shelf.Strconv.ParseUint10At
import Derived.Shelf.Strconv.ParseInt10At64
import Derived.Shelf.Strconv.ParseInt10At32
import Derived.Shelf.Strconv.ParseInt10At16
import Derived.Shelf.Strconv.ParseInt10At8
import Derived.Shelf.Strconv.ParseInt10All
import Derived.Shelf.Strconv.ParseIntPublic10
import Derived.Shelf.Strconv.ErrVarParseInt
import Derived.Shelf.Strings.Search1
import Derived.Shelf.Strings.Prefix
import Derived.Shelf.Bits.Mul64
import Derived.Shelf.Strings.Repeat
import Derived.Shelf.Unicode.ValidAny
import Derived.Shelf.Unicode.DecodeSlow
import Derived.Shelf.Unicode.DecodeAny
import Derived.Test.YthlfljmfggmfdaaGreatDoorProg
/-! ###  -/
namespace Go.Proofs.YthlfljmfggmfdaaGreatDoor
open Go.RowKit
structure Cell where
 null : Bool
 n : Int
 s : ByteArray
deriving DecidableEq
def Cell.vals (c : Cell) : List Value := [.bool c.null, .int .i64 c.n, .string c.s]
@[reducible] def Cell.val (c : Cell) : Value := .agg #[.bool c.null, .int .i64 c.n, .string c.s]
def rowVals (r : List Cell) : List Value := r.flatMap Cell.vals
theorem bytesD_ext {a b : ByteArray} (h : a.data.toList = b.data.toList) : a = b := by
 obtain ⟨⟨a⟩⟩ := a
 obtain ⟨⟨b⟩⟩ := b
 simp at h
 rw [h]
theorem rowVals_length (r : List Cell) : (rowVals r).length = r.length * 3 := by
 induction r with
 | nil => rfl
 | cons c r ih => simp [rowVals, Cell.vals] at *; omega
theorem rowVals_ne {r : List Cell} (h : 0 < r.length) : rowVals r ≠ [] := by
 intro e
 have := rowVals_length r
 rw [e] at this
 simp at this
 omega
theorem rowVals_get (r : List Cell) (i k : Nat) (hk : k < 3) (hi : i < r.length) : (rowVals r)[i * 3 + k]? = (r[i]).vals[k]? := by
 induction r generalizing i with
 | nil => simp at hi
 | cons c r ih =>
   have hc : (Cell.vals c).length = 3 := rfl
   cases i with
   | zero => simp [rowVals, List.flatMap_cons, List.getElem?_append_left, hc, hk]
   | succ i =>
     have h := ih i (by simpa using hi)
     simp only [rowVals, List.flatMap_cons] at *
     rw [List.getElem?_append_right (by omega)]
     simp only [List.getElem_cons_succ]
     rw [← h]
     congr 1
     omega
theorem rowVals_append (a b : List Cell) : rowVals (a ++ b) = rowVals a ++ rowVals b := by simp [rowVals]
theorem rowVals_cell (r : List Cell) : ∀ u ∈ rowVals r, u.oneCell' = true := by
 intro u hu
 simp only [rowVals, List.mem_flatMap, Cell.vals, List.mem_cons, List.not_mem_nil, or_false] at hu
 obtain ⟨c, _, rfl | rfl | rfl⟩ := hu <;> rfl
abbrev RowIs (w : World) (v : Value) (r : List Cell) : Prop := Sl w v r.length (rowVals r)
theorem Sl.row {w : World} {v : Value} {r : List Cell} (h : RowIs w v r) : ∃ A cap, v = .slice A r.length cap ∧ r.length ≤ cap ∧ cap ≤ maxLen ∧
 (r.length = 0 ∨ ∃ b off, A = some ⟨b, off, none⟩ ∧ ∀ i, (hi : i < r.length) → w.cell? ⟨b, off + i * 3, none⟩ = some (.bool r[i].null) ∧ w.cell? ⟨b, off + i * 3 + 1, none⟩ = some (.int .i64 r[i].n) ∧ w.cell? ⟨b, off + i * 3 + 2, none⟩ = some (.string r[i].s)) := by
 obtain ⟨A, cap, rfl, h1, h2, h3⟩ := h
 refine ⟨A, cap, rfl, h1, h2, ?_⟩
 rcases Nat.eq_zero_or_pos r.length with h0 | h0
 · exact .inl h0
 · obtain ⟨b, off, rfl, hc⟩ := h3 (rowVals_ne h0)
   refine .inr ⟨b, off, rfl, fun i hi => ⟨?_, ?_, ?_⟩⟩
   · have := hc (i * 3 + 0) _ (rowVals_get r i 0 (by omega) hi); simpa using this
   · have := hc (i * 3 + 1) _ (rowVals_get r i 1 (by omega) hi); simpa [Nat.add_assoc] using this
   · have := hc (i * 3 + 2) _ (rowVals_get r i 2 (by omega) hi); simpa [Nat.add_assoc] using this
end Go.Proofs.YthlfljmfggmfdaaGreatDoor

/-! ###  -/
namespace Go.Proofs.YthlfljmfggmfdaaGreatDoor
structure Col where
 id : Int
 name : ByteArray
 kind : Int
 null : Bool
 dflt : Cell
def nameCh (c : UInt8) : Bool := (decide (97 ≤ c) && decide (c ≤ 122)) || (decide (48 ≤ c) && decide (c ≤ 57)) || decide (c = 95)
def isNameL : List UInt8 → Bool
 | [] => false
 | c :: l => (decide (97 ≤ c) && decide (c ≤ 122)) && (c :: l).all nameCh && decide ((c :: l).length ≤ 32)
def isName (s : ByteArray) : Bool := isNameL s.data.toList
def Named (cols : List Col) : Prop := (∀ c ∈ cols, isName c.name = true) ∧ (cols.map Col.name).Nodup
instance (cols : List Col) : Decidable (Named cols) := by unfold Named; exact inferInstance
def namedB (cols : List Col) : Bool := decide (Named cols)
def mayK (k : Int) : Bool := decide (1 ≤ k) && decide (k ≤ 5)
def someOk (V : ByteArray → Bool) (k : Int) (c : Cell) : Bool :=
 if k = 1 then decide (c.s = none_) && decide (0 ≤ c.n) && decide (c.n ≤ 1)
 else if k = 2 then decide (c.s = none_) && decide (-2147483648 ≤ c.n) && decide (c.n ≤ 2147483647)
 else if k = 3 then decide (c.s = none_) && decide (-9223372036854775808 ≤ c.n) && decide (c.n ≤ 9223372036854775807)
 else if k = 4 then decide (c.n = 0) && decide (c.s.size ≤ 1024) && V c.s
 else decide (c.n = 0) && decide (c.s.size ≤ 1024)
def cellOk (V : ByteArray → Bool) (k : Int) (null : Bool) (c : Cell) : Bool :=
 if c.null then null && decide (c.n = 0) && decide (c.s = none_) else someOk V k c
def cellErr (V : ByteArray → Bool) (k : Int) (null : Bool) (c : Cell) : Int := if mayK k then (if cellOk V k null c then 0 else 90) else 2
def firstErr : List Int → Int
 | [] => 0
 | e :: l => if e = 0 then firstErr l else e
def rowErr (V : ByteArray → Bool) (cols : List Col) (r : List Cell) : Int :=
 if cols.length = r.length then firstErr ((cols.zip r).map fun x => cellErr V x.1.kind x.1.null x.2) else 100
theorem firstErr_zero {l : List Int} : firstErr l = 0 ↔ ∀ e ∈ l, e = 0 := by
 induction l with
 | nil => simp [firstErr]
 | cons e l ih =>
   by_cases h : e = 0
   · simp [firstErr, h, ih]
   · simp [firstErr, h]
theorem rowErr_zero {V : ByteArray → Bool} {cols : List Col} {r : List Cell} : rowErr V cols r = 0 ↔ cols.length = r.length ∧ ∀ i, (h : i < cols.length) → (h' : i < r.length) → cellErr V cols[i].kind cols[i].null r[i] = 0 := by
 unfold rowErr
 split
 · rename_i hl
   rw [firstErr_zero]
   constructor
   · intro h
     refine ⟨hl, fun i hi hi' => h _ (List.mem_map.2 ⟨(cols[i], r[i]), ?_, rfl⟩)⟩
     rw [List.mem_iff_getElem]
     exact ⟨i, by simp; omega, by simp⟩
   · rintro ⟨_, h⟩ e he
     obtain ⟨x, hx, rfl⟩ := List.mem_map.1 he
     obtain ⟨i, hi, rfl⟩ := List.mem_iff_getElem.1 hx
     simp at hi
     simpa using h i (by omega) (by omega)
 · rename_i hl
   constructor
   · intro h; omega
   · rintro ⟨h, _⟩; exact absurd h hl
theorem cellErr_zero {V : ByteArray → Bool} {k : Int} {null : Bool} {c : Cell} : cellErr V k null c = 0 ↔ mayK k = true ∧ cellOk V k null c = true := by
 unfold cellErr
 cases mayK k <;> cases cellOk V k null c <;> simp
def hexD (n : Nat) : UInt8 := if n < 10 then (48 + n).toUInt8 else (87 + n).toUInt8
def hexV? (c : UInt8) : Option Nat := if 48 ≤ c.toNat ∧ c.toNat ≤ 57 then some (c.toNat - 48) else if 97 ≤ c.toNat ∧ c.toNat ≤ 102 then some (c.toNat - 87) else none
def hexL : List UInt8 → List UInt8
 | [] => []
 | b :: l => hexD (b.toNat / 16) :: hexD (b.toNat % 16) :: hexL l
def unhexL : List UInt8 → Option (List UInt8)
 | [] => some []
 | [_] => none
 | a :: b :: l => match hexV? a, hexV? b, unhexL l with
   | some x, some y, some r => some ((x * 16 + y).toUInt8 :: r)
   | _, _, _ => none
theorem hexV_hexD {n : Nat} (h : n < 16) : hexV? (hexD n) = some n := by
 match n, h with
 | 0, _ => rfl
 | 1, _ => rfl
 | 2, _ => rfl
 | 3, _ => rfl
 | 4, _ => rfl
 | 5, _ => rfl
 | 6, _ => rfl
 | 7, _ => rfl
 | 8, _ => rfl
 | 9, _ => rfl
 | 10, _ => rfl
 | 11, _ => rfl
 | 12, _ => rfl
 | 13, _ => rfl
 | 14, _ => rfl
 | 15, _ => rfl
 | n + 16, h => exact absurd h (by omega)
theorem hexV_inv {c : UInt8} {n : Nat} (h : hexV? c = some n) : n < 16 ∧ hexD n = c := by
 unfold hexV? at h
 split at h
 · rename_i h1
   injection h with h
   subst h
   refine ⟨by omega, ?_⟩
   unfold hexD
   rw [if_pos (by omega)]
   apply UInt8.toNat.inj
   simp [Nat.toUInt8]
   omega
 · split at h
   · rename_i h1
     injection h with h
     subst h
     refine ⟨by omega, ?_⟩
     unfold hexD
     rw [if_neg (by omega)]
     apply UInt8.toNat.inj
     simp [Nat.toUInt8]
     omega
   · cases h
theorem unhex_hex : ∀ l : List UInt8, unhexL (hexL l) = some l
 | [] => rfl
 | b :: l => by
   have hb := b.toNat_lt
   rw [hexL, unhexL, hexV_hexD (by omega), hexV_hexD (by omega), unhex_hex l]
   simp only
   congr 2
   apply UInt8.toNat.inj
   simp [Nat.toUInt8]
   omega
theorem hex_unhex : ∀ {l r : List UInt8}, unhexL l = some r → hexL r = l
 | [], r, h => by simp [unhexL] at h; subst h; rfl
 | [a], r, h => by simp [unhexL] at h
 | a :: b :: l, r, h => by
   rw [unhexL] at h
   split at h
   · rename_i x y q hx hy hq
     injection h with h
     subst h
     obtain ⟨x1, x2⟩ := hexV_inv hx
     obtain ⟨y1, y2⟩ := hexV_inv hy
     have e : (x * 16 + y).toUInt8.toNat = x * 16 + y := by simp [Nat.toUInt8]; omega
     rw [hexL, e, hex_unhex hq, show (x * 16 + y) / 16 = x by omega, show (x * 16 + y) % 16 = y by omega, x2, y2]
   · cases h
def hexOf (s : ByteArray) : ByteArray := ⟨(hexL s.data.toList).toArray⟩
def cellH (k : Int) (c : Cell) : Hd :=
 if c.null then ⟨1, none_, 0, none_⟩ else if k = 1 then ⟨if c.n = 1 then 3 else 2, none_, 0, none_⟩
 else if k = 2 ∨ k = 3 then ⟨4, none_, c.n, none_⟩ else if k = 4 then ⟨5, none_, 0, c.s⟩ else ⟨5, none_, 0, hexOf c.s⟩
def saidC (k : Int) (h : Hd) : Option Cell :=
 if h.kind = 1 then some ⟨true, 0, none_⟩ else if h.kind = 2 ∨ h.kind = 3 then (if k = 1 then some ⟨false, h.kind - 2, none_⟩ else none)
 else if h.kind = 4 then (if k = 2 ∨ k = 3 then some ⟨false, h.n, none_⟩ else none)
 else if h.kind = 5 then (if k = 4 then some ⟨false, 0, h.s⟩ else if k = 5 then (unhexL h.s.data.toList).map fun l => ⟨false, 0, ⟨l.toArray⟩⟩ else none) else none
def takenC (V : ByteArray → Bool) (k : Int) (null : Bool) (h : Hd) : Option Cell := (saidC k h).filter (cellOk V k null)
end Go.Proofs.YthlfljmfggmfdaaGreatDoor

/-! ###  -/
namespace Go.Proofs.YthlfljmfggmfdaaGreatDoor
open Go.RowKit
def nib (c : UInt8) : Nat := (hexV? c).getD 0
def unhexP : List UInt8 → List UInt8
 | a :: b :: l => (nib a * 16 + nib b).toUInt8 :: unhexP l
 | _ => []
def hexC (l : List UInt8) : Prop := ∀ b ∈ l, (hexV? b).isSome = true
theorem unhexL_some : ∀ {l : List UInt8}, l.length % 2 = 0 → hexC l → unhexL l = some (unhexP l)
 | [], _, _ => rfl
 | [_], h, _ => by simp at h
 | a :: b :: l, h, hc => by
   have h1 := hc a (by simp)
   have h2 := hc b (by simp)
   have h3 := unhexL_some (l := l) (by simp at h; omega) (fun x hx => hc x (by simp [hx]))
   obtain ⟨x, hx⟩ := Option.isSome_iff_exists.1 h1
   obtain ⟨y, hy⟩ := Option.isSome_iff_exists.1 h2
   rw [unhexL, hx, hy, h3]
   simp [unhexP, nib, hx, hy]
theorem unhexL_inv : ∀ {l r : List UInt8}, unhexL l = some r → l.length % 2 = 0 ∧ hexC l
 | [], r, _ => ⟨rfl, fun b h => by cases h⟩
 | [_], r, h => by simp [unhexL] at h
 | a :: b :: l, r, h => by
   rw [unhexL] at h
   split at h
   · rename_i x y q hx hy hq
     obtain ⟨h1, h2⟩ := unhexL_inv hq
     refine ⟨by simp; omega, fun c hc => ?_⟩
     rcases List.mem_cons.1 hc with rfl | hc
     · rw [hx]; rfl
     · rcases List.mem_cons.1 hc with rfl | hc
       · rw [hy]; rfl
       · exact h2 c hc
   · cases h
theorem unhexL_none {l : List UInt8} (h : ¬ (l.length % 2 = 0 ∧ hexC l)) : unhexL l = none := by
 cases e : unhexL l with
 | none => rfl
 | some r => exact absurd (unhexL_inv e) h
theorem hex_pairs {l : List UInt8} : hexL (unhexP l) = l ↔ unhexL l = some (unhexP l) := by
 constructor
 · intro h
   have := unhex_hex (unhexP l)
   rwa [h] at this
 · intro h
   exact hex_unhex h
theorem unhexP_append : ∀ (a b : List UInt8), a.length % 2 = 0 → unhexP (a ++ b) = unhexP a ++ unhexP b
 | [], b, _ => rfl
 | [_], b, h => by simp at h
 | x :: y :: a, b, h => by
   simp only [List.cons_append, unhexP]
   rw [unhexP_append a b (by simp at h; omega)]
theorem unhexP_len : ∀ (l : List UInt8), (unhexP l).length = l.length / 2
 | [] => by simp [unhexP]
 | [_] => by simp [unhexP]
 | a :: b :: l => by
   simp only [unhexP, List.length_cons, unhexP_len l]
   omega
theorem nib_lt (c : UInt8) : nib c < 16 := by
 unfold nib
 cases h : hexV? c with
 | none => simp
 | some n => exact (hexV_inv h).1
end Go.Proofs.YthlfljmfggmfdaaGreatDoor

/-! ###  -/
namespace Go.Proofs
open Go.Shelf
def Tryz.lays196_ren : Go.Shelf.Ren := ⟨fun | 196 => 105 | 259 => 128 | n => n, fun | 9 => 9 | 4 => 4 | 3 => 3 | 5 => 5 | 12 => 12 | 119 => 179 | 0 => 0 | 46 => 155 | 139 => 182 | 138 => 181 | 53 => 196 | n => n, fun | 3 => 0 | 4 => 1 | n => n⟩
theorem Tryz.lays196 : Go.Proofs.Lays.n196 Tryz.prog Tryz.lays196_ren := {
 mixed := by kernel_rfl
 f196 := Tryz.func105.trans (congrArg some (by kernel_rfl))
 f259 := Tryz.func128.trans (congrArg some (by kernel_rfl))
 t0 := Tryz.underlying0
 a0 := Tryz.isAgg0
 z0 := Tryz.sizeOf0
 v0 := Tryz.zeroValue0
 t3 := Tryz.underlying3
 a3 := Tryz.isAgg3
 z3 := Tryz.sizeOf3
 v3 := Tryz.zeroValue3
 t4 := Tryz.underlying4
 a4 := Tryz.isAgg4
 z4 := Tryz.sizeOf4
 v4 := Tryz.zeroValue4
 t5 := Tryz.underlying5
 a5 := Tryz.isAgg5
 z5 := Tryz.sizeOf5
 v5 := Tryz.zeroValue5
 t9 := Tryz.underlying9
 a9 := Tryz.isAgg9
 z9 := Tryz.sizeOf9
 v9 := Tryz.zeroValue9
 t12 := Tryz.underlying12
 a12 := Tryz.isAgg12
 z12 := Tryz.sizeOf12
 v12 := Tryz.zeroValue12
 t46 := Tryz.underlying155
 a46 := Tryz.isAgg155
 z46 := Tryz.sizeOf155
 v46 := Tryz.zeroValue155
 t53 := Tryz.underlying196
 a53 := Tryz.isAgg196
 z53 := Tryz.sizeOf196
 v53 := Tryz.zeroValue196
 t119 := Tryz.underlying179
 a119 := Tryz.isAgg179
 z119 := Tryz.sizeOf179
 t138 := Tryz.underlying181
 a138 := Tryz.isAgg181
 z138 := Tryz.sizeOf181
 v138 := Tryz.zeroValue181
 t139 := Tryz.underlying182
 a139 := Tryz.isAgg182
 z139 := Tryz.sizeOf182
 v139 := Tryz.zeroValue182
 g3 := by kernel_rfl
 g4 := by kernel_rfl }
def Tryz.lays242_ren : Go.Shelf.Ren := ⟨fun | 242 => 201 | 278 => 220 | n => n, fun | 37 => 57 | 21 => 21 | 51 => 194 | 4 => 4 | 5 => 5 | 46 => 155 | 72 => 91 | n => n, fun | n => n⟩
theorem Tryz.lays242 : Go.Proofs.Lays.n242 Tryz.prog Tryz.lays242_ren := {
 mixed := by kernel_rfl
 f242 := Tryz.func201.trans (congrArg some (by kernel_rfl))
 f278 := Tryz.func220.trans (congrArg some (by kernel_rfl))
 t4 := Tryz.underlying4
 a4 := Tryz.isAgg4
 z4 := Tryz.sizeOf4
 v4 := Tryz.zeroValue4
 t5 := Tryz.underlying5
 a5 := Tryz.isAgg5
 z5 := Tryz.sizeOf5
 v5 := Tryz.zeroValue5
 t21 := Tryz.underlying21
 a21 := Tryz.isAgg21
 z21 := Tryz.sizeOf21
 v21 := Tryz.zeroValue21
 t37 := Tryz.underlying57
 a37 := Tryz.isAgg57
 z37 := Tryz.sizeOf57
 v37 := Tryz.zeroValue57
 t46 := Tryz.underlying155
 a46 := Tryz.isAgg155
 z46 := Tryz.sizeOf155
 v46 := Tryz.zeroValue155
 t51 := Tryz.underlying194
 a51 := Tryz.isAgg194
 z51 := Tryz.sizeOf194
 v51 := Tryz.zeroValue194 }
def Tryz.lays169_ren : Go.Shelf.Ren := ⟨fun | 169 => 58 | n => n, fun | 70 => 89 | 9 => 9 | 0 => 0 | 72 => 91 | 37 => 57 | 127 => 136 | 3 => 3 | 5 => 5 | n => n, fun | n => n⟩
theorem Tryz.lays169 : Go.Proofs.Lays.n169 Tryz.prog Tryz.lays169_ren := {
 mixed := by kernel_rfl
 f169 := Tryz.func58.trans (congrArg some (by kernel_rfl))
 t0 := Tryz.underlying0
 a0 := Tryz.isAgg0
 z0 := Tryz.sizeOf0
 v0 := Tryz.zeroValue0
 t3 := Tryz.underlying3
 a3 := Tryz.isAgg3
 z3 := Tryz.sizeOf3
 v3 := Tryz.zeroValue3
 t9 := Tryz.underlying9
 a9 := Tryz.isAgg9
 z9 := Tryz.sizeOf9
 v9 := Tryz.zeroValue9
 t37 := Tryz.underlying57
 a37 := Tryz.isAgg57
 z37 := Tryz.sizeOf57
 v37 := Tryz.zeroValue57
 t70 := Tryz.underlying89
 a70 := Tryz.isAgg89
 z70 := Tryz.sizeOf89
 v70 := Tryz.zeroValue89
 t72 := Tryz.underlying91
 a72 := Tryz.isAgg91
 z72 := Tryz.sizeOf91
 v72 := Tryz.zeroValue91
 t127 := Tryz.underlying136
 a127 := Tryz.isAgg136
 z127 := Tryz.sizeOf136
 v127 := Tryz.zeroValue136 }
theorem Tryz.Builder_Extra_169 : Builder.Extra Tryz.prog Tryz.lays169_ren := {
 sizeBuilder := by kernel_rfl
 liesBuilder := by kernel_rfl
 t5 := Tryz.underlying5
 a5 := Tryz.isAgg5
 z5 := Tryz.sizeOf5
 v5 := Tryz.zeroValue5
 infoByte := by kernel_rfl
 cellsByte := by kernel_rfl
 sizeByte := by kernel_rfl
 neB5 := by decide }
def Tryz.lays137_ren : Go.Shelf.Ren := ⟨fun | 137 => 186 | 217 => 213 | 266 => 231 | n => n, fun | 9 => 9 | 5 => 5 | 3 => 3 | n => n, fun | n => n⟩
theorem Tryz.lays137 : Go.Proofs.Lays.n137 Tryz.prog Tryz.lays137_ren := {
 mixed := by kernel_rfl
 f137 := Tryz.func186.trans (congrArg some (by kernel_rfl))
 f217 := Tryz.func213.trans (congrArg some (by kernel_rfl))
 f266 := Tryz.func231.trans (congrArg some (by kernel_rfl))
 t3 := Tryz.underlying3
 a3 := Tryz.isAgg3
 z3 := Tryz.sizeOf3
 v3 := Tryz.zeroValue3
 t5 := Tryz.underlying5
 a5 := Tryz.isAgg5
 z5 := Tryz.sizeOf5
 v5 := Tryz.zeroValue5
 t9 := Tryz.underlying9
 a9 := Tryz.isAgg9
 z9 := Tryz.sizeOf9
 v9 := Tryz.zeroValue9 }
open Go.RowKit in
theorem Tryz.strings_IndexByte (s : ByteArray) (c : Int) (w : World) :
 Calls Tryz.prog 186 #[.string s, .int .u8 c] w fun e w' => e = .returned (.int .i64 (Lib.indexByte s.data.toList c.toNat.toUInt8)) ∧ w' = w := Any.strings_IndexByte Tryz.lays137 s c w
open Go.RowKit in
theorem Tryz.Builder_String_any_k (B b : Nat) (l : List UInt8) (w : World) (h : Lib.IsBuilderF 91 5 B b (Lib.byteCells l) w) (hBw : B ≤ w.heap.size) :
 Calls Tryz.prog 58 #[.pointer (some ⟨b, 0, none⟩)] w fun e w' => e = .returned (.string ⟨l.toArray⟩) ∧ (Lib.IsBuilderF 91 5 B b (Lib.byteCells l) w' ∧ Below B w w' ∧ Lib.OthersKept 5 (some b) w w') := Any.Builder_String_any_k Tryz.lays169 Tryz.Builder_Extra_169 B b l w h hBw
def Tryz.laysM173_ren : Go.Shelf.Ren := ⟨fun | 173 => 98 | 246 => 121 | 283 => 169 | 284 => 170 | 285 => 171 | 286 => 172 | 129 => 157 | 317 => 197 | 318 => 198 | 319 => 199 | 320 => 200 | 337 => 218 | 338 => 219 | n => n, fun | 2 => 2 | 3 => 3 | 9 => 9 | 4 => 4 | 171 => 209 | 0 => 0 | 53 => 196 | 37 => 57 | 5 => 5 | 173 => 211 | 212 => 242 | 51 => 194 | 20 => 20 | 213 => 243 | 46 => 155 | 232 => 264 | 233 => 265 | n => n, fun | 17 => 2 | 18 => 5 | 19 => 6 | n => n⟩
theorem Tryz.laysM173 : Go.Proofs.LaysM.n173 Tryz.prog Tryz.laysM173_ren := {
 mixed := by kernel_rfl
 f129 := Tryz.func157.trans (congrArg some (by kernel_rfl))
 f173 := Tryz.func98.trans (congrArg some (by kernel_rfl))
 f246 := Tryz.func121.trans (congrArg some (by kernel_rfl))
 f283 := Tryz.func169.trans (congrArg some (by kernel_rfl))
 f284 := Tryz.func170.trans (congrArg some (by kernel_rfl))
 f285 := Tryz.func171.trans (congrArg some (by kernel_rfl))
 f286 := Tryz.func172.trans (congrArg some (by kernel_rfl))
 f317 := Tryz.func197.trans (congrArg some (by kernel_rfl))
 f318 := Tryz.func198.trans (congrArg some (by kernel_rfl))
 f319 := Tryz.func199.trans (congrArg some (by kernel_rfl))
 f320 := Tryz.func200.trans (congrArg some (by kernel_rfl))
 f337 := Tryz.func218.trans (congrArg some (by kernel_rfl))
 f338 := Tryz.func219.trans (congrArg some (by kernel_rfl))
 t0 := Tryz.underlying0
 a0 := Tryz.isAgg0
 z0 := Tryz.sizeOf0
 v0 := Tryz.zeroValue0
 t2 := Tryz.underlying2
 a2 := Tryz.isAgg2
 z2 := Tryz.sizeOf2
 v2 := Tryz.zeroValue2
 t3 := Tryz.underlying3
 a3 := Tryz.isAgg3
 z3 := Tryz.sizeOf3
 v3 := Tryz.zeroValue3
 t4 := Tryz.underlying4
 a4 := Tryz.isAgg4
 z4 := Tryz.sizeOf4
 v4 := Tryz.zeroValue4
 t5 := Tryz.underlying5
 a5 := Tryz.isAgg5
 z5 := Tryz.sizeOf5
 v5 := Tryz.zeroValue5
 t9 := Tryz.underlying9
 a9 := Tryz.isAgg9
 z9 := Tryz.sizeOf9
 v9 := Tryz.zeroValue9
 t20 := Tryz.underlying20
 a20 := Tryz.isAgg20
 z20 := Tryz.sizeOf20
 v20 := Tryz.zeroValue20
 t37 := Tryz.underlying57
 a37 := Tryz.isAgg57
 z37 := Tryz.sizeOf57
 v37 := Tryz.zeroValue57
 t46 := Tryz.underlying155
 a46 := Tryz.isAgg155
 z46 := Tryz.sizeOf155
 v46 := Tryz.zeroValue155
 t51 := Tryz.underlying194
 a51 := Tryz.isAgg194
 z51 := Tryz.sizeOf194
 v51 := Tryz.zeroValue194
 t53 := Tryz.underlying196
 a53 := Tryz.isAgg196
 z53 := Tryz.sizeOf196
 v53 := Tryz.zeroValue196
 t171 := Tryz.underlying209
 a171 := Tryz.isAgg209
 z171 := Tryz.sizeOf209
 v171 := Tryz.zeroValue209
 t173 := Tryz.underlying211
 a173 := Tryz.isAgg211
 z173 := Tryz.sizeOf211
 v173 := Tryz.zeroValue211
 t212 := Tryz.underlying242
 a212 := Tryz.isAgg242
 z212 := Tryz.sizeOf242
 v212 := Tryz.zeroValue242
 t213 := Tryz.underlying243
 a213 := Tryz.isAgg243
 z213 := Tryz.sizeOf243
 t232 := Tryz.underlying264
 a232 := Tryz.isAgg264
 z232 := Tryz.sizeOf264
 v232 := Tryz.zeroValue264
 t233 := Tryz.underlying265
 a233 := Tryz.isAgg265
 z233 := Tryz.sizeOf265
 v233 := Tryz.zeroValue265
 g17 := by kernel_rfl
 g18 := by kernel_rfl
 g19 := by kernel_rfl
 i0 := by kernel_rfl
 i2 := by kernel_rfl
 i3 := by kernel_rfl
 i4 := by kernel_rfl
 i5 := by kernel_rfl
 i9 := by kernel_rfl
 i20 := by kernel_rfl
 i37 := by kernel_rfl
 i46 := by kernel_rfl
 i51 := by kernel_rfl
 i53 := by kernel_rfl
 i171 := by kernel_rfl
 i173 := by kernel_rfl
 i212 := by kernel_rfl
 i232 := by kernel_rfl
 i233 := by kernel_rfl
 m17 := by kernel_rfl
 m18 := by kernel_rfl
 m19 := by kernel_rfl }
open Go.RowKit Go.Sort Go.Lib in
theorem Tryz.strconv_FormatInt_10 (n : Int) (h0 : -9223372036854775808 ≤ n) (h1 : n ≤ 9223372036854775807) (w : World) (htab : Lib.TabIs Tryz.prog w "internal/strconv.uint64pow10" .u64 Lib.pow10Tab) :
 Calls Tryz.prog 98 #[.int .i64 n, .int .i64 10] w fun e w' => e = .returned (.string ⟨(Lib.itoa n).toArray⟩) ∧ ∃ k os, w' = grow (w.drewN k) os := Any.strconv_FormatInt_10 Tryz.laysM173 n h0 h1 w htab
def Tryz.laysC174_ren : Go.Shelf.Ren := ⟨fun | 174 => 127 | 247 => 181 | 245 => 182 | 287 => 206 | 279 => 207 | 280 => 208 | 281 => 209 | 282 => 210 | 321 => 222 | 322 => 223 | 316 => 224 | 171 => 226 | 205 => 225 | 243 => 235 | 246 => 121 | 283 => 169 | 284 => 170 | 285 => 171 | 286 => 172 | 129 => 157 | 317 => 197 | 318 => 198 | 319 => 199 | 320 => 200 | 337 => 218 | 338 => 219 | n => n, fun | 9 => 9 | 3 => 3 | 2 => 2 | 75 => 130 | 85 => 176 | 4 => 4 | 167 => 247 | 5 => 5 | 53 => 196 | 175 => 248 | 46 => 155 | 168 => 250 | 37 => 57 | 0 => 0 | 210 => 260 | 21 => 21 | 127 => 136 | 145 => 268 | 143 => 266 | 171 => 209 | 173 => 211 | 212 => 242 | 51 => 194 | 20 => 20 | 213 => 243 | 232 => 264 | 233 => 265 | 80 => 96 | n => n, fun | 15 => 3 | 16 => 4 | 17 => 2 | 18 => 5 | 19 => 6 | n => n⟩
theorem Tryz.laysC174 : Go.Proofs.LaysC.n174 Tryz.prog Tryz.laysC174_ren := {
 mixed := by kernel_rfl
 f129 := Tryz.func157.trans (congrArg some (by kernel_rfl))
 f171 := Tryz.func226.trans (congrArg some (by kernel_rfl))
 f174 := Tryz.func127.trans (congrArg some (by kernel_rfl))
 f205 := Tryz.func225.trans (congrArg some (by kernel_rfl))
 f243 := Tryz.func235.trans (congrArg some (by kernel_rfl))
 f245 := Tryz.func182.trans (congrArg some (by kernel_rfl))
 f246 := Tryz.func121.trans (congrArg some (by kernel_rfl))
 f247 := Tryz.func181.trans (congrArg some (by kernel_rfl))
 f279 := Tryz.func207.trans (congrArg some (by kernel_rfl))
 f280 := Tryz.func208.trans (congrArg some (by kernel_rfl))
 f281 := Tryz.func209.trans (congrArg some (by kernel_rfl))
 f282 := Tryz.func210.trans (congrArg some (by kernel_rfl))
 f283 := Tryz.func169.trans (congrArg some (by kernel_rfl))
 f284 := Tryz.func170.trans (congrArg some (by kernel_rfl))
 f285 := Tryz.func171.trans (congrArg some (by kernel_rfl))
 f286 := Tryz.func172.trans (congrArg some (by kernel_rfl))
 f287 := Tryz.func206.trans (congrArg some (by kernel_rfl))
 f316 := Tryz.func224.trans (congrArg some (by kernel_rfl))
 f317 := Tryz.func197.trans (congrArg some (by kernel_rfl))
 f318 := Tryz.func198.trans (congrArg some (by kernel_rfl))
 f319 := Tryz.func199.trans (congrArg some (by kernel_rfl))
 f320 := Tryz.func200.trans (congrArg some (by kernel_rfl))
 f321 := Tryz.func222.trans (congrArg some (by kernel_rfl))
 f322 := Tryz.func223.trans (congrArg some (by kernel_rfl))
 f337 := Tryz.func218.trans (congrArg some (by kernel_rfl))
 f338 := Tryz.func219.trans (congrArg some (by kernel_rfl))
 t0 := Tryz.underlying0
 a0 := Tryz.isAgg0
 z0 := Tryz.sizeOf0
 v0 := Tryz.zeroValue0
 t2 := Tryz.underlying2
 a2 := Tryz.isAgg2
 z2 := Tryz.sizeOf2
 v2 := Tryz.zeroValue2
 t3 := Tryz.underlying3
 a3 := Tryz.isAgg3
 z3 := Tryz.sizeOf3
 v3 := Tryz.zeroValue3
 t4 := Tryz.underlying4
 a4 := Tryz.isAgg4
 z4 := Tryz.sizeOf4
 v4 := Tryz.zeroValue4
 t5 := Tryz.underlying5
 a5 := Tryz.isAgg5
 z5 := Tryz.sizeOf5
 v5 := Tryz.zeroValue5
 t9 := Tryz.underlying9
 a9 := Tryz.isAgg9
 z9 := Tryz.sizeOf9
 v9 := Tryz.zeroValue9
 t20 := Tryz.underlying20
 a20 := Tryz.isAgg20
 z20 := Tryz.sizeOf20
 v20 := Tryz.zeroValue20
 t21 := Tryz.underlying21
 a21 := Tryz.isAgg21
 z21 := Tryz.sizeOf21
 v21 := Tryz.zeroValue21
 t37 := Tryz.underlying57
 a37 := Tryz.isAgg57
 z37 := Tryz.sizeOf57
 v37 := Tryz.zeroValue57
 t46 := Tryz.underlying155
 a46 := Tryz.isAgg155
 z46 := Tryz.sizeOf155
 v46 := Tryz.zeroValue155
 t51 := Tryz.underlying194
 a51 := Tryz.isAgg194
 z51 := Tryz.sizeOf194
 v51 := Tryz.zeroValue194
 t53 := Tryz.underlying196
 a53 := Tryz.isAgg196
 z53 := Tryz.sizeOf196
 v53 := Tryz.zeroValue196
 t75 := Tryz.underlying130
 a75 := Tryz.isAgg130
 z75 := Tryz.sizeOf130
 v75 := Tryz.zeroValue130
 t85 := Tryz.underlying176
 a85 := Tryz.isAgg176
 z85 := Tryz.sizeOf176
 v85 := Tryz.zeroValue176
 t127 := Tryz.underlying136
 a127 := Tryz.isAgg136
 z127 := Tryz.sizeOf136
 v127 := Tryz.zeroValue136
 t143 := Tryz.underlying266
 a143 := Tryz.isAgg266
 z143 := Tryz.sizeOf266
 v143 := Tryz.zeroValue266
 t145 := Tryz.underlying268
 a145 := Tryz.isAgg268
 z145 := Tryz.sizeOf268
 v145 := Tryz.zeroValue268
 t167 := Tryz.underlying247
 a167 := Tryz.isAgg247
 z167 := Tryz.sizeOf247
 v167 := Tryz.zeroValue247
 t168 := Tryz.underlying250
 a168 := Tryz.isAgg250
 z168 := Tryz.sizeOf250
 v168 := Tryz.zeroValue250
 t171 := Tryz.underlying209
 a171 := Tryz.isAgg209
 z171 := Tryz.sizeOf209
 v171 := Tryz.zeroValue209
 t173 := Tryz.underlying211
 a173 := Tryz.isAgg211
 z173 := Tryz.sizeOf211
 v173 := Tryz.zeroValue211
 t175 := Tryz.underlying248
 a175 := Tryz.isAgg248
 z175 := Tryz.sizeOf248
 v175 := Tryz.zeroValue248
 t210 := Tryz.underlying260
 a210 := Tryz.isAgg260
 z210 := Tryz.sizeOf260
 v210 := Tryz.zeroValue260
 t212 := Tryz.underlying242
 a212 := Tryz.isAgg242
 z212 := Tryz.sizeOf242
 v212 := Tryz.zeroValue242
 t213 := Tryz.underlying243
 a213 := Tryz.isAgg243
 z213 := Tryz.sizeOf243
 t232 := Tryz.underlying264
 a232 := Tryz.isAgg264
 z232 := Tryz.sizeOf264
 v232 := Tryz.zeroValue264
 t233 := Tryz.underlying265
 a233 := Tryz.isAgg265
 z233 := Tryz.sizeOf265
 v233 := Tryz.zeroValue265
 g15 := by kernel_rfl
 g16 := by kernel_rfl
 g17 := by kernel_rfl
 g18 := by kernel_rfl
 g19 := by kernel_rfl
 t80 := Tryz.underlying96
 a80 := Tryz.isAgg96
 z80 := Tryz.sizeOf96
 v80 := Tryz.zeroValue96
 i0 := by kernel_rfl
 i2 := by kernel_rfl
 i3 := by kernel_rfl
 i4 := by kernel_rfl
 i5 := by kernel_rfl
 i9 := by kernel_rfl
 i20 := by kernel_rfl
 i21 := by kernel_rfl
 i37 := by kernel_rfl
 i46 := by kernel_rfl
 i51 := by kernel_rfl
 i53 := by kernel_rfl
 i75 := by kernel_rfl
 i80 := by kernel_rfl
 i85 := by kernel_rfl
 i127 := by kernel_rfl
 i143 := by kernel_rfl
 i145 := by kernel_rfl
 i167 := by kernel_rfl
 i168 := by kernel_rfl
 i171 := by kernel_rfl
 i173 := by kernel_rfl
 i175 := by kernel_rfl
 i210 := by kernel_rfl
 i212 := by kernel_rfl
 i232 := by kernel_rfl
 i233 := by kernel_rfl
 m15 := by kernel_rfl
 m16 := by kernel_rfl
 m17 := by kernel_rfl
 m18 := by kernel_rfl
 m19 := by kernel_rfl
 c0 := by kernel_rfl
 c2 := by kernel_rfl
 c3 := by kernel_rfl
 c4 := by kernel_rfl
 c5 := by kernel_rfl
 c9 := by kernel_rfl
 c20 := by kernel_rfl
 c21 := by kernel_rfl
 c37 := by kernel_rfl
 c46 := by kernel_rfl
 c51 := by kernel_rfl
 c53 := by kernel_rfl
 c75 := by kernel_rfl
 c80 := by kernel_rfl
 c85 := by kernel_rfl
 c127 := by kernel_rfl
 c143 := by kernel_rfl
 c145 := by kernel_rfl
 c167 := by kernel_rfl
 c168 := by kernel_rfl
 c171 := by kernel_rfl
 c173 := by kernel_rfl
 c175 := by kernel_rfl
 c210 := by kernel_rfl
 c212 := by kernel_rfl
 c213 := by kernel_rfl
 c232 := by kernel_rfl
 c233 := by kernel_rfl }
open Go.RowKit in
theorem Tryz.strconv_ParseInt_10_at64_ok (s : ByteArray) (hmax : s.size ≤ 9223372036854775806) (v : Int) (h : Lib.parseIntB 64 s.data.toList = .ok v) (w : World) :
 Calls Tryz.prog 127 #[.string s, .int .i64 10, .int .i64 64] w fun e w' => e = .returned (.tuple #[.int .i64 v, .nilIface]) ∧ (w' = w ∨ ∃ t, w' = Lib.bytesWorld w 5 t) := Any.strconv_ParseInt_10_at64_ok Tryz.laysC174 s hmax v h w
open Go.RowKit in
theorem Tryz.strconv_ParseInt_10_at64_range_var (s : ByteArray) (hlim : s.size ≤ 281474976710656) (h : Lib.parseIntB 64 s.data.toList = .range) (tp : TypeId) (p : Value) (w : World) (hvar : w.var? Tryz.prog "strconv.ErrRange" = some #[.iface tp p]) :
 Calls Tryz.prog 127 #[.string s, .int .i64 10, .int .i64 64] w fun e w' => ∃ N, e = .returned (.tuple #[.int .i64 (Lib.intSat 64 s.data.toList), .iface 250 (.pointer (some ⟨N, 0, none⟩))]) ∧ w.heap.size ≤ N ∧ w'.heap[N]? = some (.cells #[.string ⟨#[80, 97, 114, 115, 101, 73, 110, 116]⟩, .string s, .iface tp p] 260 (0, 0)) ∧ Below w.heap.size w w' := Any.strconv_ParseInt_10_at64_range_var Tryz.laysC174 s hlim h tp p w hvar
def Tryz.lays197_ren : Go.Shelf.Ren := ⟨fun | 197 => 193 | 260 => 215 | n => n, fun | 9 => 9 | 21 => 21 | 3 => 3 | 4 => 4 | 5 => 5 | 105 => 236 | 119 => 179 | 0 => 0 | 46 => 155 | 139 => 182 | 138 => 181 | n => n, fun | 3 => 0 | 4 => 1 | n => n⟩
theorem Tryz.lays197 : Go.Proofs.Lays.n197 Tryz.prog Tryz.lays197_ren := {
 mixed := by kernel_rfl
 f197 := Tryz.func193.trans (congrArg some (by kernel_rfl))
 f260 := Tryz.func215.trans (congrArg some (by kernel_rfl))
 t0 := Tryz.underlying0
 a0 := Tryz.isAgg0
 z0 := Tryz.sizeOf0
 v0 := Tryz.zeroValue0
 t3 := Tryz.underlying3
 a3 := Tryz.isAgg3
 z3 := Tryz.sizeOf3
 v3 := Tryz.zeroValue3
 t4 := Tryz.underlying4
 a4 := Tryz.isAgg4
 z4 := Tryz.sizeOf4
 v4 := Tryz.zeroValue4
 t5 := Tryz.underlying5
 a5 := Tryz.isAgg5
 z5 := Tryz.sizeOf5
 v5 := Tryz.zeroValue5
 t9 := Tryz.underlying9
 a9 := Tryz.isAgg9
 z9 := Tryz.sizeOf9
 v9 := Tryz.zeroValue9
 t21 := Tryz.underlying21
 a21 := Tryz.isAgg21
 z21 := Tryz.sizeOf21
 v21 := Tryz.zeroValue21
 t46 := Tryz.underlying155
 a46 := Tryz.isAgg155
 z46 := Tryz.sizeOf155
 v46 := Tryz.zeroValue155
 t105 := Tryz.underlying236
 a105 := Tryz.isAgg236
 z105 := Tryz.sizeOf236
 v105 := Tryz.zeroValue236
 t119 := Tryz.underlying179
 a119 := Tryz.isAgg179
 z119 := Tryz.sizeOf179
 t138 := Tryz.underlying181
 a138 := Tryz.isAgg181
 z138 := Tryz.sizeOf181
 v138 := Tryz.zeroValue181
 t139 := Tryz.underlying182
 a139 := Tryz.isAgg182
 z139 := Tryz.sizeOf182
 v139 := Tryz.zeroValue182
 g3 := by kernel_rfl
 g4 := by kernel_rfl }
open Go.RowKit Go.Lib in
theorem Tryz.utf8_DecodeRuneInString (s : ByteArray) (w : World) (hT : Lib.Utf8Tabs 0 1 w) :
 Calls Tryz.prog 193 #[.string s] w fun e w' => e = .returned (.tuple #[.int .i32 (Lib.decodeGo s).1, .int .i64 (Lib.decodeGo s).2]) ∧ Below w.heap.size w w' := Any.utf8_DecodeRuneInString Tryz.lays197 s w hT
theorem Tryz.Builder_Extra_242 : Builder.Extra Tryz.prog Tryz.lays242_ren := {
 sizeBuilder := by kernel_rfl
 liesBuilder := by kernel_rfl
 t5 := Tryz.underlying5
 a5 := Tryz.isAgg5
 z5 := Tryz.sizeOf5
 v5 := Tryz.zeroValue5
 infoByte := by kernel_rfl
 cellsByte := by kernel_rfl
 sizeByte := by kernel_rfl
 neB5 := by decide }
end Go.Proofs
