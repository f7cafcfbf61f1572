/- Words for memory that the groups' walks share: what may have changed; slices in given blocks; the groups' map as plain data. -/
import Derived.Test.YtmfbblcipakaiaaGreatDoorGrpL
import Derived.Maps.RangeWalk
import Derived.Maps.Views
import Derived.StringKeys
namespace Go.Proofs.YtmfbblcipakaiaaGreatDoor
open Go.RowKit Go.Maps Go.WideMaps

/-- the blocks that are in X may have changed; the others are as they were -/
structure Chg (X : Nat → Prop) (w w' : World) : Prop where
  os : w'.os = w.os
  tape : w'.tape = w.tape
  output : w'.output = w.output
  size : w.heap.size ≤ w'.heap.size
  block : ∀ b, b < w.heap.size → ¬ X b → w'.heap[b]? = w.heap[b]?
theorem Chg.refl (X : Nat → Prop) (w : World) : Chg X w w := ⟨rfl, rfl, rfl, Nat.le_refl _, fun _ _ _ => rfl⟩
theorem Chg.trans {X Y Z : Nat → Prop} {a b c : World} (h : Chg X a b) (k : Chg Y b c) (h1 : ∀ n, n < a.heap.size → X n → Z n) (h2 : ∀ n, n < a.heap.size → Y n → Z n) : Chg Z a c :=
  ⟨k.os.trans h.os, k.tape.trans h.tape, k.output.trans h.output, Nat.le_trans h.size k.size, fun n hn hz =>
    (k.block n (Nat.lt_of_lt_of_le hn h.size) (fun e => hz (h2 n hn e))).trans (h.block n hn (fun e => hz (h1 n hn e)))⟩
theorem Chg.mono {X Y : Nat → Prop} {a b : World} (h : Chg X a b) (hx : ∀ n, n < a.heap.size → X n → Y n) : Chg Y a b :=
  ⟨h.os, h.tape, h.output, h.size, fun n hn hz => h.block n hn (fun e => hz (hx n hn e))⟩
theorem Chg.of_old {X : Nat → Prop} {a b : World} (h : Old a b) : Chg X a b := ⟨h.os, h.tape, h.output, h.size, fun n hn _ => h.block n hn⟩
theorem Chg.of_below {lo : Nat} {a b : World} (h : Below lo a b) : Chg (fun n => lo ≤ n) a b := ⟨h.os, h.tape, h.output, h.size, fun n _ hz => h.block n (by omega)⟩
theorem Chg.of_grown {r : Nat} {a b : World} (h : a.grownBy b (some r)) : Chg (fun n => n = r) a b := ⟨h.os, h.tape, h.output, h.size, fun n hn hz => h.block n hn (by simpa using hz)⟩
theorem Chg.below {X : Nat → Prop} {lo : Nat} {a b : World} (h : Chg X a b) (hlo : lo ≤ a.heap.size) (hx : ∀ n, n < lo → ¬ X n) : Below lo a b := ⟨h.os, h.tape, h.output, h.size, fun n hn => h.block n (by omega) (hx n hn)⟩
theorem Chg.old {X : Nat → Prop} {a b : World} (h : Chg X a b) (hx : ∀ n, n < a.heap.size → ¬ X n) : Old a b := h.below (Nat.le_refl _) hx
theorem Chg.step {X : Nat → Prop} {a b c : World} (h : Chg X a b) (k : Old b c) : Chg X a c := h.trans (Chg.of_old (X := X) k) (fun _ _ e => e) (fun _ _ e => e)

/-- a slice value of n elements whose cells read as xs, in blocks that are in B -/
def SlB (B : Nat → Prop) (w : World) (v : Value) (n : Nat) (xs : List Value) : Prop :=
  ∃ A cap, v = .slice A n cap ∧ n ≤ cap ∧ cap ≤ maxLen ∧
    (xs ≠ [] → ∃ b off, A = some ⟨b, off, none⟩ ∧ B b ∧ b < w.heap.size ∧ ∀ j u, xs[j]? = some u → w.cell? ⟨b, off + j, none⟩ = some u)
section
variable {B B' : Nat → Prop} {w w' : World} {v : Value} {n lo T : Nat} {xs : List Value}
theorem SlB.sl (h : SlB B w v n xs) : Sl w v n xs := by
  obtain ⟨A, cap, rfl, h1, h2, h3⟩ := h
  refine ⟨A, cap, rfl, h1, h2, fun hx => ?_⟩
  obtain ⟨b, off, rfl, _, _, hc⟩ := h3 hx
  exact ⟨b, off, rfl, hc⟩
theorem SlB.keep (h : SlB B w v n xs) (hs : w.heap.size ≤ w'.heap.size) (hk : ∀ b, b < w.heap.size → B b → w'.heap[b]? = w.heap[b]?) : SlB B w' v n xs := by
  obtain ⟨A, cap, rfl, h1, h2, h3⟩ := h
  refine ⟨A, cap, rfl, h1, h2, fun hx => ?_⟩
  obtain ⟨b, off, rfl, hb, hl, hc⟩ := h3 hx
  exact ⟨b, off, rfl, hb, Nat.lt_of_lt_of_le hl hs, fun j u hu => (World.cell?_of_block (a := ⟨b, off + j, none⟩) (hk b hl hb)).trans (hc j u hu)⟩
theorem SlB.chg {X : Nat → Prop} (h : SlB B w v n xs) (c : Chg X w w') (hd : ∀ b, b < w.heap.size → B b → ¬ X b) : SlB B w' v n xs := h.keep c.size fun b h1 h2 => c.block b h1 (hd b h1 h2)
theorem SlB.old (h : SlB B w v n xs) (o : Old w w') : SlB B w' v n xs := h.keep o.size fun b h1 _ => o.block b h1
theorem SlB.mono (h : SlB B w v n xs) (hB : ∀ b, b < w.heap.size → B b → B' b) : SlB B' w v n xs := by
  obtain ⟨A, cap, rfl, h1, h2, h3⟩ := h
  refine ⟨A, cap, rfl, h1, h2, fun hx => ?_⟩
  obtain ⟨b, off, rfl, hb, hl, hc⟩ := h3 hx
  exact ⟨b, off, rfl, hB b hl hb, hl, hc⟩
theorem SlT.slb (h : SlT T lo w v n xs) : SlB (fun b => lo ≤ b) w v n xs := by
  obtain ⟨A, cap, rfl, h1, h2, h3⟩ := h
  refine ⟨A, cap, rfl, h1, h2, fun hx => ?_⟩
  obtain ⟨b, off, cs, rfl, hl, hh, hc⟩ := h3 hx
  exact ⟨b, off, rfl, hl, block_lt hh, fun j u hu => (cell_of_heap hh).trans (hc j u hu)⟩
theorem SlB.nil_ (w : World) : SlB B w (.slice none 0 0) 0 [] := ⟨none, 0, rfl, Nat.le_refl _, Nat.zero_le _, fun h => absurd rfl h⟩
theorem SlB.form (h : SlB B w v n xs) : ∃ A cap, v = .slice A n cap := by obtain ⟨A, cap, rfl, _⟩ := h; exact ⟨A, cap, rfl⟩
end
theorem Sl.chg {X : Nat → Prop} {w w' : World} {v : Value} {n : Nat} {xs : List Value} (h : Sl w v n xs) (c : Chg X w w') (hd : ∀ (b : Nat) cs T f, w.heap[b]? = some (.cells cs T f) → ¬ X b) : Sl w' v n xs := by
  obtain ⟨A, cap, rfl, h1, h2, h3⟩ := h
  refine ⟨A, cap, rfl, h1, h2, fun hx => ?_⟩
  obtain ⟨b, off, rfl, hc⟩ := h3 hx
  refine ⟨b, off, rfl, fun j u hu => ?_⟩
  have hcell := hc j u hu
  have hl := World.block_lt_of_cell? w _ hcell
  refine (World.cell?_of_block (a := ⟨b, off + j, none⟩) (c.block b hl ?_)).trans hcell
  intro hx
  unfold World.cell? at hcell
  split at hcell
  · rename_i cs T f he
    exact hd b cs T f he hx
  · cases hcell

/-! ### maps from texts to values that are not read -/
abbrev DW := DataW Value
/-- an element reads as itself -/
def rawR (v : Value) : Option (DW × List MemPlace) := some (.held v, [])
theorem str_inv {P : Program} {k : TypeId} (hk : P.underlying k = some .string) {key : Value} {kl : Lit} (h : keyOf P k key = some kl) : ∃ s : ByteArray, key = .string s ∧ kl = .string s.data.toList ∧ s.size ≤ maxLen := by
  rw [keyOf_string hk] at h
  cases key <;> simp [mapKey, hk] at h
  exact ⟨_, rfl, h.2.symm, h.1⟩
theorem str_ext {a b : ByteArray} (h : (Lit.string a.data.toList) = .string b.data.toList) : a = b := bytes_ext (by injection h)
def upd (m : ByteArray → Option Value) (s : ByteArray) (v : Option Value) : ByteArray → Option Value := fun x => if x = s then v else m x
/-- the datum D has what m says -/
structure Has (D : DW) (m : ByteArray → Option Value) : Prop where
  has : ∀ s, Maps.has D (.string s.data.toList) = (m s).isSome
  at_ : ∀ s v, m s = some v → ∀ z, D.atKey (.string s.data.toList) z = .held v
theorem Has.put {D : DW} {m : ByteArray → Option Value} (h : Has D m) (hD : IsMap D) (s : ByteArray) (v : Value) : Has (D.put (.string s.data.toList) (.held v)) (upd m s (some v)) where
  has := fun x => by
    unfold upd
    by_cases e : x = s
    · subst e
      rw [Maps.has_put_same hD (by simp [WideAt.IsKeyLit]), if_pos rfl]; rfl
    · rw [Maps.has_put_other (fun hh => e (str_ext hh)), if_neg e, h.has]
  at_ := fun x u hu z => by
    unfold upd at hu
    by_cases e : x = s
    · subst e
      rw [if_pos rfl] at hu
      cases hu
      exact Maps.atKey_put_same hD (by simp [WideAt.IsKeyLit]) _ z
    · rw [if_neg e] at hu
      rw [Maps.atKey_put_other (fun hh => e (str_ext hh)), h.at_ x u hu]
theorem Has.del {D : DW} {m : ByteArray → Option Value} (h : Has D m) (s : ByteArray) : Has (D.del (.string s.data.toList)) (upd m s none) where
  has := fun x => by
    unfold upd
    by_cases e : x = s
    · subst e
      rw [Maps.has_del_same, if_pos rfl]; rfl
    · rw [Maps.has_del_other (fun hh => e (str_ext hh)), if_neg e, h.has]
  at_ := fun x u hu z => by
    unfold upd at hu
    by_cases e : x = s
    · subst e
      rw [if_pos rfl] at hu
      cases hu
    · rw [if_neg e] at hu
      rw [Maps.atKey_del_other (fun hh => e (str_ext hh)), h.at_ x u hu]

section
variable {P : Program} {k : TypeId} {w : World} {b r n cnt : Nat} {m : ByteArray → Option Value} {left : ByteArray → Bool}
/-- block b is a map of texts, of at most n entries, that has what m says -/
def MapIs (P : Program) (k : TypeId) (w : World) (b n : Nat) (m : ByteArray → Option Value) : Prop := ∃ D : DW, w.ownsMap P k rawR b n D ∧ Has D m
theorem MapIs.made (w : World) (P : Program) (k : TypeId) : MapIs P k (w.alloc (.map #[] 0)) w.heap.size 0 (fun _ => none) :=
  ⟨.map [], World.ownsMap_made w P k rawR, fun _ => rfl, fun _ _ h => by cases h⟩
theorem MapIs.mono (h : MapIs P k w b n m) {n' : Nat} (hn : n ≤ n') : MapIs P k w b n' m := by obtain ⟨D, h1, h2⟩ := h; exact ⟨D, h1.mono hn, h2⟩
theorem MapIs.lt (h : MapIs P k w b n m) : b < w.heap.size := by obtain ⟨D, h1, _⟩ := h; exact h1.lt
theorem MapIs.isMap (h : MapIs P k w b n m) : ∃ es c, w.heap[b]? = some (.map es c) := by obtain ⟨D, ⟨es, c, h1, _⟩, _⟩ := h; exact ⟨es, c, h1⟩
theorem MapIs.keep {w' : World} (h : MapIs P k w b n m) (hb : w'.heap[b]? = w.heap[b]?) : MapIs P k w' b n m := by
  obtain ⟨D, ⟨es, c, h1, h2⟩, h3⟩ := h
  exact ⟨D, ⟨es, c, hb.trans h1, h2⟩, h3⟩
theorem MapIs.old {w' : World} (h : MapIs P k w b n m) (o : Old w w') : MapIs P k w' b n m := h.keep (o.block b h.lt)
theorem MapIs.chg {X : Nat → Prop} {w' : World} (h : MapIs P k w b n m) (c : Chg X w w') (hx : ¬ X b) : MapIs P k w' b n m := h.keep (c.block b h.lt hx)
theorem MapIs.congr {m' : ByteArray → Option Value} (h : MapIs P k w b n m) (e : ∀ s, m s = m' s) : MapIs P k w b n m' := by
  have : m = m' := funext e
  subst this
  exact h
theorem MapIs.look {t e : TypeId} (h : MapIs P k w b n m) (hk : P.underlying k = some .string) (ht : P.underlying t = some (.map k e)) {z : Value} (hz : (zeroValue e).run P w = .ok z w) {s : ByteArray} (hs : s.size ≤ maxLen) :
    (Instr.lookup t (.map (some b)) (.string s) false).run P w = .ok ((m s).getD z) w := by
  obtain ⟨D, h1, h2⟩ := h
  obtain ⟨v, ps, hrun, hv⟩ := h1.lookup (string_keyed hk) ht hz (zd := .held z) (zp := []) rfl (keyOf_string_mk hk hs)
  rw [hrun]
  simp only [rawR, Option.some.injEq, Prod.mk.injEq] at hv
  have hv1 := hv.1
  cases hm : m s with
  | none =>
    rw [Maps.atKey_of_not_has (by rw [h2.has, hm]; rfl)] at hv1
    injection hv1 with hv1
    rw [hv1]; rfl
  | some u =>
    rw [h2.at_ s u hm] at hv1
    injection hv1 with hv1
    rw [hv1]; rfl
theorem MapIs.put {t e : TypeId} (h : MapIs P k w b n m) (hk : P.underlying k = some .string) (ht : P.underlying t = some (.map k e)) (hn : n < maxLen) {s : ByteArray} (hs : s.size ≤ maxLen) (v : Value) :
    ∃ w', (Instr.mapUpdate t (.map (some b)) (.string s) v).run P w = .ok () w' ∧ MapIs P k w' b (n + 1) (upd m s (some v)) ∧ w.grownBy w' (some b) := by
  obtain ⟨D, h1, h2⟩ := h
  obtain ⟨w', hrun, h3, h4⟩ := h1.update (string_keyed hk) ht hn (keyOf_string_mk hk hs) (d := .held v) (ps := []) rfl
  exact ⟨w', hrun, ⟨_, h3, h2.put h1.isMap s v⟩, h4⟩
theorem MapIs.del {t e : TypeId} (h : MapIs P k w b n m) (hk : P.underlying k = some .string) (ht : P.underlying t = some (.map k e)) {s : ByteArray} (hs : s.size ≤ maxLen) (ty : TypeId) :
    ∃ w', (Builtin.delete_ #[t, k] ty #[.map (some b), .string s]).run P w = .ok (.tuple #[]) w' ∧ MapIs P k w' b n (upd m s none) ∧ w.grownBy w' (some b) := by
  obtain ⟨D, h1, h2⟩ := h
  obtain ⟨w', hrun, h3, h4⟩ := h1.drop (string_keyed hk) ht (keyOf_string_mk hk hs) ty
  exact ⟨w', hrun, ⟨_, h3, h2.del s⟩, h4.grown⟩

/-- a range over it is under way -/
def MapRng (P : Program) (k : TypeId) (w : World) (b r n : Nat) (m : ByteArray → Option Value) (left : ByteArray → Bool) (cnt : Nat) : Prop :=
  ∃ (D : DW) (lf : Lit → Bool), w.ranges P k rawR b r n D lf cnt ∧ Has D m ∧ ∀ s, lf (.string s.data.toList) = left s
theorem MapRng.left_eq (h : MapRng P k w b r n m left cnt) : w.rangeLeft b r = cnt := by obtain ⟨D, lf, h1, _⟩ := h; exact h1.left_eq
theorem MapRng.lt (h : MapRng P k w b r n m left cnt) : r < w.heap.size := by obtain ⟨D, lf, h1, _⟩ := h; exact h1.lt
theorem MapRng.is (h : MapRng P k w b r n m left cnt) : MapIs P k w b n m := by obtain ⟨D, lf, h1, h2, _⟩ := h; exact ⟨D, h1.owns, h2⟩
theorem MapRng.keep {w' : World} {row : Option Nat} (h : MapRng P k w b r n m left cnt) (hg : w.grownBy w' row) (hb : some b ≠ row) (hr : some r ≠ row) : MapRng P k w' b r n m left cnt := by
  obtain ⟨D, lf, h1, h2, h3⟩ := h
  exact ⟨D, lf, h1.kept hg hb hr, h2, h3⟩
theorem MapRng.chg {X : Nat → Prop} {w' : World} (h : MapRng P k w b r n m left cnt) (c : Chg X w w') (hb : ¬ X b) (hr : ¬ X r) : MapRng P k w' b r n m left cnt := by
  obtain ⟨D, lf, h1, h2, h3⟩ := h
  have l1 := h1.owns.lt
  have l2 := h1.lt
  obtain ⟨es, clock, since, seen, c0, q1, F, q2, q3, q4, rest⟩ := h1
  exact ⟨D, lf, ⟨es, clock, since, seen, c0, (c.block b l1 hb).trans q1, F, q2, q3, (c.block r l2 hr).trans q4, rest⟩, h2, h3⟩
theorem MapRng.old {w' : World} (h : MapRng P k w b r n m left cnt) (o : Old w w') : MapRng P k w' b r n m left cnt := h.chg (X := fun _ => False) (Chg.of_old o) (fun e => e) (fun e => e)
theorem MapIs.range {t e : TypeId} (h : MapIs P k w b n m) (hk : P.underlying k = some .string) (ht : P.underlying t = some (.map k e)) :
    ∃ w', (Instr.range t (.map (some b))).run P w = .ok (.pointer (some ⟨w.heap.size, 0, none⟩)) w' ∧ (∃ cnt, MapRng P k w' b w.heap.size n m (fun s => (m s).isSome) cnt) ∧ Old w w' ∧ w'.heap.size = w.heap.size + 1 := by
  obtain ⟨D, h1, h2⟩ := h
  obtain ⟨w', hrun, h3, h4, h5⟩ := h1.range (string_keyed hk) ht
  exact ⟨w', hrun, ⟨_, D, _, h3, h2, h2.has⟩, ⟨h4.os, h4.tape, h4.output, h4.size, fun j hj => h4.block j hj (by simp)⟩, h5⟩
theorem MapRng.next (h : MapRng P k w b r n m left cnt) (hk : P.underlying k = some .string) (ty : TypeId) :
    ((∀ s, left s = false) ∧ (Instr.next (.pointer (some ⟨r, 0, none⟩)) false ty).run P w = .ok (.tuple #[.bool false]) w) ∨
    ∃ s v w' cnt', s.size ≤ maxLen ∧ left s = true ∧ m s = some v ∧ (Instr.next (.pointer (some ⟨r, 0, none⟩)) false ty).run P w = .ok (.tuple #[.bool true, .string s, v]) w' ∧
      MapRng P k w' b r n m (fun x => left x && !decide (x = s)) cnt' ∧ cnt' < cnt ∧ w.grownBy w' (some r) ∧ w'.heap.size = w.heap.size ∧ (Instr.entry (.pointer (some ⟨r, 0, none⟩))).run P w' = .ok (.tuple #[.string s, v]) w' := by
  obtain ⟨D, lf, h1, h2, h3⟩ := h
  rcases h1.next (string_keyed hk) ty with ⟨_, hl, hrun⟩ | ⟨key, v, kl, y, w', cnt', hkey, hlk, hv, hat, hrun, hrg, hlt, hgr, hsz, hen⟩
  · exact .inl ⟨fun s => by rw [← h3, hl], hrun⟩
  · obtain ⟨s, rfl, rfl, hsl⟩ := str_inv hk hkey
    refine .inr ⟨s, v, w', cnt', hsl, by rw [← h3, hlk], ?_, hrun, ⟨D, _, hrg, h2, fun x => ?_⟩, hlt, hgr, hsz, hen⟩
    · have hh : Maps.has D (.string s.data.toList) = true := Maps.has_true_of_atKey hat
      rw [h2.has] at hh
      obtain ⟨u, hu⟩ := Option.isSome_iff_exists.1 hh
      have h4 := h2.at_ s u hu .nil
      rw [hat .nil] at h4
      simp only [rawR, Option.some.injEq] at hv
      subst hv
      injection h4 with h4
      rw [hu, h4]
    · show (lf (.string x.data.toList) && !(Lit.string x.data.toList).sameKey (.string s.data.toList)) = _
      rw [h3]
      congr 2
      show (x.data.toList == s.data.toList) = decide (x = s)
      by_cases e : x = s
      · subst e; simp
      · have : ¬ x.data.toList = s.data.toList := fun hh => e (bytes_ext hh)
        rw [beq_eq_false_iff_ne.2 this, decide_eq_false e]
end

/-! ### at the operations -/
section
variable {P : Program} (w : World) {o : Oper} {a : Act} {K : Act → World → Prop} {Q : Exit → Act → World → Prop}
theorem step_map_put (mo x vo : Operand) (t : TypeId) (hop : o.op = Op.mapUpdate t mo x vo) (k e : TypeId) (hk : P.underlying k = some .string) (ht : P.underlying t = some (.map k e)) (b n : Nat) (m : ByteArray → Option Value)
    (hm : a.eval mo = .map (some b)) (h : MapIs P k w b n m) (hn : n < maxLen) (s : ByteArray) (hs : s.size ≤ maxLen) (v : Value) (hx : a.eval x = .string s) (hv : a.eval vo = v)
    (hK : ∀ w', MapIs P k w' b (n + 1) (upd m s (some v)) → w.grownBy w' (some b) → K (a.put o.dst undef) w') : o.wp P a w K Q := by
  obtain ⟨w', hrun, r1, r2⟩ := h.put hk ht hn hs v
  unfold Oper.wp
  simp [execOp, hop, hm, hx, hv, hrun, Result.andThen]
  exact hK w' r1 r2
theorem step_map_del (mo x : Operand) (t k : TypeId) (hop : o.op = Op.call { callee := Callee.builtin Builtin.delete, args := #[mo, x], argTypes := #[t, k] }) (e : TypeId) (hk : P.underlying k = some .string) (ht : P.underlying t = some (.map k e)) (b n : Nat) (m : ByteArray → Option Value)
    (hm : a.eval mo = .map (some b)) (h : MapIs P k w b n m) (s : ByteArray) (hs : s.size ≤ maxLen) (hx : a.eval x = .string s)
    (hK : ∀ w', MapIs P k w' b n (upd m s none) → w.grownBy w' (some b) → K (a.put o.dst (.tuple #[])) w') : o.wp P a w K Q := by
  obtain ⟨w', hrun, r1, r2⟩ := h.del hk ht hs o.type
  unfold Oper.wp
  simp [execOp, hop, resolve, invoke, builtin, hm, hx, hrun, Result.andThen]
  exact hK w' r1 r2
theorem step_map_range (mo : Operand) (t : TypeId) (hop : o.op = Op.range t mo) (k e : TypeId) (hk : P.underlying k = some .string) (ht : P.underlying t = some (.map k e)) (b n : Nat) (m : ByteArray → Option Value)
    (hm : a.eval mo = .map (some b)) (h : MapIs P k w b n m)
    (hK : ∀ w' cnt, MapRng P k w' b w.heap.size n m (fun s => (m s).isSome) cnt → Old w w' → w'.heap.size = w.heap.size + 1 → K (a.put o.dst (.pointer (some ⟨w.heap.size, 0, none⟩))) w') : o.wp P a w K Q := by
  obtain ⟨w', hrun, ⟨cnt, r1⟩, r2, r3⟩ := h.range hk ht
  unfold Oper.wp
  simp [execOp, hop, hm, hrun, Result.andThen]
  exact hK w' cnt r1 r2 r3
theorem step_map_next {β : Type} (it : Operand) (hop : o.op = Op.next it false) (k : TypeId) (hk : P.underlying k = some .string) (mkV : β → Value) (b r n : Nat) (m : ByteArray → Option Value) (left : ByteArray → Bool) (cnt : Nat)
    (inv : ∀ s v, m s = some v → ∃ c, v = mkV c) (hit : a.eval it = .pointer (some ⟨r, 0, none⟩)) (h : MapRng P k w b r n m left cnt)
    (hDone : (∀ s, left s = false) → K (a.put o.dst (.tuple #[.bool false])) w)
    (hMore : ∀ (s : ByteArray) (c : β) (w' : World) (cnt' : Nat), s.size ≤ maxLen → left s = true → m s = some (mkV c) → MapRng P k w' b r n m (fun x => left x && !decide (x = s)) cnt' → cnt' < cnt →
      w.grownBy w' (some r) → w'.heap.size = w.heap.size → (Instr.entry (.pointer (some ⟨r, 0, none⟩))).run P w' = .ok (.tuple #[.string s, mkV c]) w' → K (a.put o.dst (.tuple #[.bool true, .string s, mkV c])) w') : o.wp P a w K Q := by
  unfold Oper.wp
  rcases h.next hk o.type with ⟨hl, hrun⟩ | ⟨s, v, w', cnt', hsl, hlk, hv, hrun, hrg, hlt, hgr, hsz, hen⟩
  · simp [execOp, hop, hit, hrun, Result.andThen]
    exact hDone hl
  · obtain ⟨c, rfl⟩ := inv s v hv
    simp [execOp, hop, hit, hrun, Result.andThen]
    exact hMore s c w' cnt' hsl hlk hv hrg hlt hgr hsz hen
end
end Go.Proofs.YtmfbblcipakaiaaGreatDoor
