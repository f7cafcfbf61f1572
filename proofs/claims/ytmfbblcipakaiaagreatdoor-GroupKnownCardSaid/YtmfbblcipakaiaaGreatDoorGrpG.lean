/- The name of a key: of two keys there are two names. No program is named here. -/
import Derived.Test.YtmfbblcipakaiaaGreatDoorGrpD
import Derived.Lib.ItoaNum
import Derived.Test.YtmfbblcipakaiaaGreatDoorProg
/-! ### The name of a key: of two keys there are two names. No program is named here. -/
namespace Go.Proofs.YtmfbblcipakaiaaGreatDoor
open Go.Lib

theorem dec_dig (u : Nat) : ∀ d ∈ decDigits u, 48 ≤ d.toNat ∧ d.toNat ≤ 57 := by
  induction u using Nat.strongRecOn with
  | _ u ih =>
    intro d hd
    have hb : ∀ k, k < 10 → (UInt8.ofNat (48 + k)).toNat = 48 + k := fun k hk => by
      rw [UInt8.toNat_ofNat']; omega
    by_cases h : u < 10
    · rw [decDigits, dif_pos h] at hd
      simp only [List.mem_singleton] at hd
      subst hd
      rw [hb u h]; omega
    · rw [decDigits, dif_neg h] at hd
      rcases List.mem_append.1 hd with hd | hd
      · exact ih (u / 10) (by omega) d hd
      · simp only [List.mem_singleton] at hd
        subst hd
        rw [hb (u % 10) (by omega)]; omega
def decNum (l : List UInt8) : Nat := l.foldl (fun a d => a * 10 + (d.toNat - 48)) 0
theorem decNum_dec (u : Nat) : decNum (decDigits u) = u := by
  induction u using Nat.strongRecOn with
  | _ u ih =>
    have hb : ∀ k, k < 10 → (UInt8.ofNat (48 + k)).toNat = 48 + k := fun k hk => by
      rw [UInt8.toNat_ofNat']; omega
    by_cases h : u < 10
    · rw [decDigits, dif_pos h]
      simp only [decNum, List.foldl_cons, List.foldl_nil]
      rw [hb u h]; omega
    · rw [decDigits, dif_neg h]
      have := ih (u / 10) (by omega)
      unfold decNum at this ⊢
      rw [List.foldl_append, this]
      simp only [List.foldl_cons, List.foldl_nil]
      rw [hb (u % 10) (by omega)]; omega
theorem dec_inj {u v : Nat} (h : decDigits u = decDigits v) : u = v := by
  rw [← decNum_dec u, h, decNum_dec]
theorem dec_ne45 (u : Nat) : ∀ d ∈ decDigits u, d ≠ 45 := by
  rintro d hd rfl
  have := (dec_dig u _ hd).1
  simp at this
theorem itoa_inj {n m : Int} (h : itoa n = itoa m) : n = m := by
  unfold itoa at h
  by_cases h1 : n < 0 <;> by_cases h2 : m < 0
  · rw [if_pos h1, if_pos h2] at h
    injection h with _ h
    have := dec_inj h
    omega
  · rw [if_pos h1, if_neg h2] at h
    exact absurd rfl (dec_ne45 m.toNat 45 (by rw [← h]; simp))
  · rw [if_neg h1, if_pos h2] at h
    exact absurd rfl (dec_ne45 n.toNat 45 (by rw [h]; simp))
  · rw [if_neg h1, if_neg h2] at h
    have := dec_inj h
    omega
theorem itoa_blank (n : Int) : ∀ d ∈ itoa n, d ≠ 32 := by
  rintro d hd rfl
  unfold itoa at hd
  have key : ∀ u, (32 : UInt8) ∉ decDigits u := fun u hu => by
    have := (dec_dig u _ hu).1
    simp at this
  split at hd
  · rcases List.mem_cons.1 hd with h | h
    · simp at h
    · exact key _ h
  · exact key _ hd
theorem blank_split {x y : List UInt8} : ∀ {a b : List UInt8}, (∀ d ∈ a, d ≠ 32) → (∀ d ∈ b, d ≠ 32) → a ++ 32 :: x = b ++ 32 :: y → a = b ∧ x = y
  | [], [], _, _, h => ⟨rfl, by simpa using h⟩
  | [], b :: _, _, hb, h => by
    simp only [List.nil_append, List.cons_append, List.cons.injEq] at h
    exact absurd h.1.symm (hb b (by simp))
  | a :: _, [], ha, _, h => by
    simp only [List.nil_append, List.cons_append, List.cons.injEq] at h
    exact absurd h.1 (ha a (by simp))
  | a :: as1, b :: bs, ha, hb, h => by
    simp only [List.cons_append, List.cons.injEq] at h
    obtain ⟨h1, h2⟩ := h
    obtain ⟨h3, h4⟩ := blank_split (fun d hd => ha d (by simp [hd])) (fun d hd => hb d (by simp [hd])) h2
    exact ⟨by rw [h1, h3], h4⟩
def boolL (b : Bool) : List UInt8 := if b then [116, 114, 117, 101] else [102, 97, 108, 115, 101]
theorem boolL_inj {a b : Bool} (h : boolL a = boolL b) : a = b := by cases a <;> cases b <;> simp [boolL] at h ⊢
theorem boolL_blank (b : Bool) : ∀ d ∈ boolL b, d ≠ 32 := by cases b <;> simp [boolL]
theorem boolL_len (b : Bool) : (boolL b).length ≤ 5 := by cases b <;> simp [boolL]
def cellL (c : Cell) : List UInt8 := boolL c.null ++ 32 :: (itoa c.n ++ 32 :: (itoa (c.s.size : Int) ++ 32 :: c.s.data.toList))
def keyL (k : List Cell) : List UInt8 := k.flatMap cellL
theorem keyL_snoc (k : List Cell) (c : Cell) : keyL (k ++ [c]) = keyL k ++ cellL c := by simp [keyL]
theorem keyL_inj : ∀ {a b : List Cell}, keyL a = keyL b → a = b
  | [], [], _ => rfl
  | [], b :: _, h => by simp [keyL, cellL] at h
  | a :: _, [], h => by simp [keyL, cellL] at h
  | a :: as1, b :: bs, h => by
    have h : cellL a ++ keyL as1 = cellL b ++ keyL bs := by simpa [keyL] using h
    simp only [cellL, List.append_assoc, List.cons_append] at h
    obtain ⟨h1, h⟩ := blank_split (boolL_blank _) (boolL_blank _) h
    obtain ⟨h2, h⟩ := blank_split (itoa_blank _) (itoa_blank _) h
    obtain ⟨h3, h⟩ := blank_split (itoa_blank _) (itoa_blank _) h
    have h3 := itoa_inj h3
    have hl : a.s.data.toList.length = b.s.data.toList.length := by
      simp only [Array.length_toList]
      have e1 : a.s.size = b.s.size := by omega
      exact e1
    obtain ⟨h4, h5⟩ := List.append_inj h hl
    have e : a = b := by
      obtain ⟨a1, a2, a3⟩ := a
      obtain ⟨b1, b2, b3⟩ := b
      simp only [Cell.mk.injEq]
      exact ⟨boolL_inj h1, itoa_inj h2, bytes_ext h4⟩
    rw [e, keyL_inj h5]
/-- a key as a text -/
def nameOf (k : List Cell) : ByteArray := ⟨(keyL k).toArray⟩
theorem nameOf_inj {a b : List Cell} (h : nameOf a = nameOf b) : a = b := by
  apply keyL_inj
  have := congrArg (fun x : ByteArray => x.data.toList) h
  simpa [nameOf] using this
theorem nameOf_size (k : List Cell) : (nameOf k).size = (keyL k).length := by
  show (keyL k).toArray.size = _
  simp
end Go.Proofs.YtmfbblcipakaiaaGreatDoor

/-! ### The groups in memory: what a Groups of the program holds; slices of numbers. No walk here. -/
namespace Go.Proofs.YtmfbblcipakaiaaGreatDoor
open Go.RowKit Go.Maps

def numVals (l : List Int) : List Value := l.map fun n => .int .i64 n
theorem numVals_length (l : List Int) : (numVals l).length = l.length := by simp [numVals]
theorem numVals_get {l : List Int} {i : Nat} (h : i < l.length) : (numVals l)[i]? = some (.int .i64 l[i]) := by simp [numVals, h]

/-- a state of a group, as a value -/
def stVal (a b : Value) : Value := .agg #[a, b]
/-- what the groups' map has at a key -/
def GEnt (w : World) (B : Nat → Prop) (k : List Cell) (ns : List Int) (v : Value) : Prop :=
  ∃ a b, v = stVal a b ∧ SlB B w a k.length (rowVals k) ∧ SlB B w b ns.length (numVals ns)
/-- the map bm (of n groups at most) has the groups of f whose keys are in D, and nothing else -/
structure GMap (w : World) (bm n K S : Nat) (f : Gf) (L : List Cell → Bool) (B : Nat → Prop) (M : ByteArray → Option Value) : Prop where
  map : MapIs Tryz.prog 9 w bm n M
  none_ : ∀ k, L k = false → M (nameOf k) = none
  some_ : ∀ k, L k = true → ∃ v, M (nameOf k) = some v ∧ GEnt w B k (numsOf S f k) v
  names : ∀ s v, M s = some v → ∃ k, k.length = K ∧ s = nameOf k ∧ L k = true
/-- block g is a Groups whose map is block bm -/
structure GIs (w : World) (g bm K S n : Nat) (f : Gf) (B : Nat → Prop) : Prop where
  c0 : w.cell? ⟨g, 0, none⟩ = some (.bool true)
  c1 : w.cell? ⟨g, 1, none⟩ = some (.int .i64 K)
  c2 : w.cell? ⟨g, 2, none⟩ = some (.int .i64 S)
  c3 : w.cell? ⟨g, 3, none⟩ = some (.map (some bm))
  map : ∃ M, GMap w bm n K S f (leftB S f) B M
  fit : GFit S f
  len : GLen K f
  low : ∀ b, B b → b < w.heap.size
  nob : ¬ B bm
section
variable {w w' : World} {g bm K S n : Nat} {f : Gf} {B B' : Nat → Prop} {L : List Cell → Bool} {M : ByteArray → Option Value} {k : List Cell} {ns : List Int} {v : Value}
theorem GEnt.chg {X : Nat → Prop} (h : GEnt w B k ns v) (c : Chg X w w') (hd : ∀ b, b < w.heap.size → B b → ¬ X b) : GEnt w' B k ns v := by
  obtain ⟨a, b, rfl, h1, h2⟩ := h
  exact ⟨a, b, rfl, h1.chg c hd, h2.chg c hd⟩
theorem GEnt.mono (h : GEnt w B k ns v) (hB : ∀ b, b < w.heap.size → B b → B' b) : GEnt w B' k ns v := by
  obtain ⟨a, b, rfl, h1, h2⟩ := h
  exact ⟨a, b, rfl, h1.mono hB, h2.mono hB⟩
theorem GEnt.old (h : GEnt w B k ns v) (o : Old w w') : GEnt w' B k ns v := h.chg (X := fun _ => False) (Chg.of_old o) (fun _ _ _ e => e)
theorem GMap.chg {X : Nat → Prop} (h : GMap w bm n K S f L B M) (c : Chg X w w') (hb : ¬ X bm) (hd : ∀ b, b < w.heap.size → B b → ¬ X b) : GMap w' bm n K S f L B M where
  map := h.map.chg c hb
  none_ := h.none_
  some_ := fun k hk => by obtain ⟨v, h1, h2⟩ := h.some_ k hk; exact ⟨v, h1, h2.chg c hd⟩
  names := h.names
theorem GMap.old (h : GMap w bm n K S f L B M) (o : Old w w') : GMap w' bm n K S f L B M := h.chg (X := fun _ => False) (Chg.of_old o) (fun e => e) (fun _ _ _ e => e)
theorem GMap.mono (h : GMap w bm n K S f L B M) {n' : Nat} (hn : n ≤ n') (hB : ∀ b, b < w.heap.size → B b → B' b) : GMap w bm n' K S f L B' M where
  map := h.map.mono hn
  none_ := h.none_
  some_ := fun k hk => by obtain ⟨v, h1, h2⟩ := h.some_ k hk; exact ⟨v, h1, h2.mono hB⟩
  names := h.names
theorem GIs.lt (h : GIs w g bm K S n f B) : bm < w.heap.size := by obtain ⟨M, hM⟩ := h.map; exact hM.map.lt
theorem GIs.gLt (h : GIs w g bm K S n f B) : g < w.heap.size := World.block_lt_of_cell? w _ h.c0
theorem GIs.ne (h : GIs w g bm K S n f B) : g ≠ bm := by
  rintro rfl
  obtain ⟨M, hM⟩ := h.map
  obtain ⟨es, c, hh⟩ := hM.map.isMap
  have := h.c0
  simp [World.cell?, hh] at this
theorem GIs.chg {X : Nat → Prop} (h : GIs w g bm K S n f B) (c : Chg X w w') (hg : ¬ X g) (hb : ¬ X bm) (hd : ∀ b, b < w.heap.size → B b → ¬ X b) : GIs w' g bm K S n f B where
  c0 := (World.cell?_of_block (a := ⟨g, 0, none⟩) (c.block g h.gLt hg)).trans h.c0
  c1 := (World.cell?_of_block (a := ⟨g, 1, none⟩) (c.block g h.gLt hg)).trans h.c1
  c2 := (World.cell?_of_block (a := ⟨g, 2, none⟩) (c.block g h.gLt hg)).trans h.c2
  c3 := (World.cell?_of_block (a := ⟨g, 3, none⟩) (c.block g h.gLt hg)).trans h.c3
  map := by obtain ⟨M, hM⟩ := h.map; exact ⟨M, hM.chg c hb hd⟩
  fit := h.fit
  len := h.len
  low := fun b hb => Nat.lt_of_lt_of_le (h.low b hb) c.size
  nob := h.nob
theorem GIs.old (h : GIs w g bm K S n f B) (o : Old w w') : GIs w' g bm K S n f B := h.chg (X := fun _ => False) (Chg.of_old o) (fun e => e) (fun e => e) (fun _ _ _ e => e)
theorem GIs.mono (h : GIs w g bm K S n f B) {n' : Nat} (hn : n ≤ n') : GIs w g bm K S n' f B :=
  ⟨h.c0, h.c1, h.c2, h.c3, by obtain ⟨M, hM⟩ := h.map; exact ⟨M, hM.mono hn (fun _ _ e => e)⟩, h.fit, h.len, h.low, h.nob⟩
/-- what a look-up in the groups' map gives -/
theorem GMap.look {t e : TypeId} (h : GMap w bm n K S f L B M) (hk : Tryz.prog.underlying 9 = some .string) (ht : Tryz.prog.underlying t = some (.map 9 e)) {z : Value} (hz : (zeroValue e).run Tryz.prog w = .ok z w) (k : List Cell) (hs : (nameOf k).size ≤ maxLen) :
    ∃ v, (Instr.lookup t (.map (some bm)) (.string (nameOf k)) false).run Tryz.prog w = .ok v w ∧ ((L k = false ∧ v = z) ∨ (L k = true ∧ GEnt w B k (numsOf S f k) v)) := by
  refine ⟨_, h.map.look hk ht hz hs, ?_⟩
  cases hL : L k
  · left; rw [h.none_ k hL]; exact ⟨rfl, rfl⟩
  · obtain ⟨v, h1, h2⟩ := h.some_ k hL
    right; rw [h1]; exact ⟨rfl, h2⟩
end

/-! ### which blocks keep what they are -/
/-- the cells' blocks from block lo on are still such, and their slices stand -/
def Kin (lo : Nat) (w wr : World) : Prop := ∀ (b : Nat) (cs : Array Value) (T : TypeId) (f : Nat × Nat), lo ≤ b → w.heap[b]? = some (.cells cs T f) →
  ∃ cs' : Array Value, wr.heap[b]? = some (.cells cs' T f) ∧ cs'.size = cs.size ∧ ∀ (j : Nat) (A : Option Addr) (n c : Nat), cs[j]? = some (.slice A n c) → cs'[j]? = some (.slice A n c)
theorem Kin.refl (lo : Nat) (w : World) : Kin lo w w := fun _ cs _ _ _ h => ⟨cs, h, rfl, fun _ _ _ _ h => h⟩
theorem Kin.trans {lo : Nat} {a b c : World} (h : Kin lo a b) (k : Kin lo b c) : Kin lo a c := fun p cs T f hp hb => by
  obtain ⟨cs1, h1, h2, h3⟩ := h p cs T f hp hb
  obtain ⟨cs2, k1, k2, k3⟩ := k p cs1 T f hp h1
  exact ⟨cs2, k1, k2.trans h2, fun j A n c hj => k3 j A n c (h3 j A n c hj)⟩
theorem Kin.of_chg {lo : Nat} {X : Nat → Prop} {w w' : World} (c : Chg X w w') (h : ∀ b, lo ≤ b → b < w.heap.size → ¬ X b) : Kin lo w w' := fun b cs _ _ hb hh =>
  ⟨cs, (c.block b (block_lt hh) (h b hb (block_lt hh))).trans hh, rfl, fun _ _ _ _ h => h⟩
theorem Kin.set {lo : Nat} {w wr : World} (h : Kin lo w wr) {p i : Nat} {cs : Array Value} {T : TypeId} {f : Nat × Nat} (hb : w.heap[p]? = some (.cells cs T f)) (hi : ∀ (A : Option Addr) (n c : Nat), cs[i]? ≠ some (.slice A n c)) (u : Value) : Kin lo w (wr.setCell ⟨p, i, none⟩ u) := by
  intro b cs1 T1 f1 hlo hb1
  obtain ⟨cs', h1, h2, h3⟩ := h b cs1 T1 f1 hlo hb1
  by_cases e : p = b
  · subst e
    rw [hb] at hb1
    injection hb1 with hb1
    injection hb1 with q1 q2 q3
    subst q1 q2 q3
    refine ⟨cs'.setIfInBounds i u, by simp [World.setCell, Array.getElem?_modify, h1], by simpa using h2, fun j A n c hj => ?_⟩
    have : i ≠ j := by rintro rfl; exact hi A n c hj
    rw [Array.getElem?_setIfInBounds_ne this]
    exact h3 j A n c hj
  · exact ⟨cs', by simp [World.setCell, Array.getElem?_modify, h1, e], h2, h3⟩
theorem Kin.slice {lo : Nat} {w wr : World} (h : Kin lo w wr) {p i : Nat} {cs : Array Value} {T : TypeId} {f : Nat × Nat} (hb : w.heap[p]? = some (.cells cs T f)) (hp : lo ≤ p) {A : Option Addr} {n c : Nat} (hi : cs[i]? = some (.slice A n c)) : wr.cell? ⟨p, i, none⟩ = some (.slice A n c) := by
  obtain ⟨cs', h1, h2, h3⟩ := h p cs T f hp hb
  rw [cell_of_heap h1]
  exact h3 _ _ _ _ hi
theorem Kin.some {lo : Nat} {w wr : World} (h : Kin lo w wr) {p i : Nat} {cs : Array Value} {T : TypeId} (hb : w.heap[p]? = some (.cells cs T (0, 0))) (hp : lo ≤ p) {u : Value} (hi : cs[i]? = some u) : (∃ x, wr.cell? ⟨p, i, none⟩ = some x) ∧ wr.frozen? ⟨p, i, none⟩ = false := by
  obtain ⟨cs', h1, h2, h3⟩ := h p cs T _ hp hb
  have : i < cs.size := (Array.getElem?_eq_some_iff.1 hi).1
  exact ⟨⟨cs'[i], by rw [cell_of_heap h1]; exact Array.getElem?_eq_getElem (by omega)⟩, free_of_heap h1⟩
theorem Chg.set {X : Nat → Prop} {w wr : World} (h : Chg X w wr) {p : Nat} (hp : X p) (i : Nat) (u : Value) : Chg X w (wr.setCell ⟨p, i, none⟩ u) :=
  ⟨h.os, h.tape, h.output, by simpa [World.setCell] using h.size, fun b hb hx => by
    have : p ≠ b := by rintro rfl; exact hx hp
    rw [← h.block b hb hx]
    simp [World.setCell, Array.getElem?_modify, this]⟩
/-- what a walk that spoils blocks leaves -/
structure Spx (lo hi : Nat) (w0 w wr : World) : Prop where
  kin : Kin lo w0 wr
  chg : Chg (fun b => lo ≤ b ∧ b < hi) w wr
theorem Spx.set {lo hi : Nat} {w0 w wr : World} (h : Spx lo hi w0 w wr) {p i : Nat} {cs : Array Value} {T : TypeId} {f : Nat × Nat} (hb : w0.heap[p]? = some (.cells cs T f)) (hp : lo ≤ p) (hh : w0.heap.size ≤ hi) (hn : ∀ (A : Option Addr) (n c : Nat), cs[i]? ≠ some (.slice A n c)) (u : Value) : Spx lo hi w0 w (wr.setCell ⟨p, i, none⟩ u) :=
  ⟨h.kin.set hb hn u, h.chg.set ⟨hp, Nat.lt_of_lt_of_le (block_lt hb) hh⟩ i u⟩
end Go.Proofs.YtmfbblcipakaiaaGreatDoor
