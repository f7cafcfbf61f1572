/-  -/
import Derived.Test.YthlfljmfggmfdaaGreatDoorQk19
import Derived.Test.YthlfljmfggmfdaaGreatDoorQk20
import Derived.Test.YthlfljmfggmfdaaGreatDoorQk16
import Derived.Deep.RegionHeld3
import Derived.Test.YthlfljmfggmfdaaGreatDoorQk11
/-! ###  -/
namespace Go.Proofs.YthlfljmfggmfdaaGreatDoor
open Go.RowKit
def partsC (cols : List Col) (r : List Cell) : List (List Nd) := (cols.zip r).map fun x => leafC x.1.kind x.2
def RowT (cols : List Col) (r : List Cell) (out : List Nd) (e : Int) : Prop :=
 (namedB cols = false ∧ out = [] ∧ e = 2) ∨ (namedB cols = true ∧ rowErr vU cols r ≠ 0 ∧ out = [] ∧ e = rowErr vU cols r) ∨
 (namedB cols = true ∧ rowErr vU cols r = 0 ∧ ObjT (cols.map Col.name) (partsC cols r) out e)
theorem ObjT_any (ks : List ByteArray) (pl : List (List Nd)) : ∃ out e, ObjT ks pl out e := by
 by_cases hl : ks.length = pl.length
 · have key : ∀ n : Nat, (∀ j : Nat, j < n → objErr ks pl j = 0) ∨ ∃ i, i < n ∧ (∀ j, j < i → objErr ks pl j = 0) ∧ objErr ks pl i ≠ 0 := by
    intro n
    induction n with
    | zero => exact .inl fun j h => by omega
    | succ n ih =>
      rcases ih with ih | ⟨i, h1, h2, h3⟩
      · by_cases hc : objErr ks pl n = 0
        · refine .inl fun j hj => ?_
          rcases Nat.lt_or_ge j n with h | h
          · exact ih j h
          · have : j = n := by omega
            subst this
            exact hc
        · exact .inr ⟨n, by omega, ih, hc⟩
      · exact .inr ⟨i, by omega, h2, h3⟩
   rcases key pl.length with h | ⟨i, h1, h2, h3⟩
   · obtain ⟨js, hj⟩ := allMay_of (pl := pl) (fun i hi => by
      have := h i hi
      unfold objErr at this
      split at this
      · omega
      · split at this
        · omega
        · rwa [getD_at hi] at this)
     by_cases w1 : 4000 < 1 + (J.flats (rekeys ks js)).length
     · exact ⟨[], 5, .inr ⟨hl, .inr ⟨h, js, hj, .inl ⟨w1, rfl, rfl⟩⟩⟩⟩
     · by_cases w2 : 64 ≤ J.deeps (rekeys ks js)
       · exact ⟨[], 72, .inr ⟨hl, .inr ⟨h, js, hj, .inr (.inl ⟨by omega, w2, rfl, rfl⟩)⟩⟩⟩
       · exact ⟨_, 0, .inr ⟨hl, .inr ⟨h, js, hj, .inr (.inr ⟨by omega, by omega, rfl, rfl⟩)⟩⟩⟩
   · exact ⟨[], _, .inr ⟨hl, .inl ⟨i, h1, h2, h3, rfl, rfl⟩⟩⟩
 · exact ⟨[], 2, .inl ⟨hl, rfl, rfl⟩⟩
theorem RowT_any (cols : List Col) (r : List Cell) : ∃ out e, RowT cols r out e := by
 cases hn : namedB cols
 · exact ⟨[], 2, .inl ⟨hn, rfl, rfl⟩⟩
 · by_cases h0 : rowErr vU cols r = 0
   · obtain ⟨out, e, h⟩ := ObjT_any (cols.map Col.name) (partsC cols r)
     exact ⟨out, e, .inr (.inr ⟨hn, h0, h⟩)⟩
   · exact ⟨[], _, .inr (.inl ⟨hn, h0, rfl, rfl⟩)⟩
theorem name_low {s : ByteArray} (h : isName s = true) : ∀ b ∈ s.data.toList, b.toNat < 128 := by
 intro b hb
 obtain ⟨_, _, h3⟩ := (isName_iff s).1 h
 obtain ⟨i, hi⟩ := List.mem_iff_getElem?.1 hb
 have hil : i < s.size := by
  rw [show s.size = s.data.toList.length from Array.length_toList.symm]
  exact (List.getElem?_eq_some_iff.1 hi).1
 have hv := (list_get s hil).symm.trans hi
 injection hv with hv
 have := h3 i hil
 rw [okAt, hv] at this
 unfold letB moreB at this
 omega
theorem name_vU {s : ByteArray} (h : isName s = true) : vU s = true := by
 show Lib.validD s.data.toList = true
 rw [Lib.validD_ascii s.data.toList.length _ (fun b hb => name_low h b (List.mem_of_mem_take hb)), List.drop_length]
 rfl
theorem name_size {s : ByteArray} (h : isName s = true) : s.size ≤ 32 := ((isName_iff s).1 h).2.1
theorem cellH_leaf {k : Int} {null : Bool} {c : Cell} (hk : mayK k = true) (h : cellOk vU k null c = true) : leafOk vU (cellH k c) := by
 obtain ⟨cn, n, s⟩ := c
 cases cn
 · have h5 : k = 1 ∨ k = 2 ∨ k = 3 ∨ k = 4 ∨ k = 5 := by simp [mayK] at hk; omega
   simp only [cellOk, Bool.false_eq_true, if_false] at h
   rcases h5 with rfl | rfl | rfl | rfl | rfl
   · refine .inl ⟨?_, rfl, rfl⟩
     show (if n = 1 then (3 : Int) else 2) = 1 ∨ (if n = 1 then (3 : Int) else 2) = 2 ∨ (if n = 1 then (3 : Int) else 2) = 3
     split <;> simp
   · exact .inr (.inl ⟨rfl, rfl⟩)
   · exact .inr (.inl ⟨rfl, rfl⟩)
   · refine .inr (.inr ⟨rfl, rfl, ?_⟩)
     simp [someOk] at h
     exact h.2
   · exact .inr (.inr ⟨rfl, rfl, vU_hex s⟩)
 · exact .inl ⟨.inl rfl, rfl, rfl⟩
theorem cellH_size {k : Int} {null : Bool} {c : Cell} (hk : mayK k = true) (h : cellOk vU k null c = true) : (cellH k c).s.size ≤ 2048 := by
 obtain ⟨cn, n, s⟩ := c
 cases cn
 · have h5 : k = 1 ∨ k = 2 ∨ k = 3 ∨ k = 4 ∨ k = 5 := by simp [mayK] at hk; omega
   simp only [cellOk, Bool.false_eq_true, if_false] at h
   rcases h5 with rfl | rfl | rfl | rfl | rfl
   · show (0 : Nat) ≤ _; omega
   · show (0 : Nat) ≤ _; omega
   · show (0 : Nat) ≤ _; omega
   · simp [someOk] at h
     show s.size ≤ _
     omega
   · simp [someOk] at h
     show (hexOf s).size ≤ _
     have h2 := h.2
     rw [show s.size = s.data.toList.length from Array.length_toList.symm] at h2
     simp only [hexOf, ByteArray.size, List.size_toArray, hexL_len]
     omega
 · show (0 : Nat) ≤ _; omega
def leafJC (h : Hd) : J := .mk ⟨h.kind, none_, h.n, h.s⟩ []
theorem leaf_may {h : Hd} (hl : leafOk vU h) : May (leafT h.kind h.n h.s) (leafJC h) := by
 refine ⟨⟨?_, rfl, rfl⟩, by show 1 ≤ 4000; omega, by show 0 + 1 ≤ 64; omega⟩
 unfold leafJC
 rw [J.Ok]
 exact .inl ⟨hl, rfl⟩
def memC (c : Col) (x : Cell) : J := .mk ⟨(cellH c.kind x).kind, c.name, (cellH c.kind x).n, (cellH c.kind x).s⟩ []
def memsC (cols : List Col) (r : List Cell) : List J := (cols.zip r).map fun x => memC x.1 x.2
def objC (cols : List Col) (r : List Cell) : J := .mk ⟨7, none_, 0, none_⟩ (memsC cols r)
theorem partsC_len {cols : List Col} {r : List Cell} (h : cols.length = r.length) : (partsC cols r).length = cols.length := by simp [partsC, h]
theorem partsC_at {cols : List Col} {r : List Cell} {i : Nat} (h1 : i < cols.length) (h2 : i < r.length) (h : i < (partsC cols r).length) : (partsC cols r)[i] = leafC cols[i].kind r[i] := by simp [partsC]
theorem rekeys_C : ∀ (cols : List Col) (r : List Cell), cols.length = r.length → rekeys (cols.map Col.name) ((cols.zip r).map fun x => leafJC (cellH x.1.kind x.2)) = memsC cols r
 | [], [], _ => rfl
 | c :: cols, x :: r, h => by
   have := rekeys_C cols r (by simpa using h)
   simp only [memsC, List.map_cons, List.zip_cons_cons, rekeys] at *
   rw [this]
   rfl
theorem flats_leaf : ∀ (l : List J), (∀ j ∈ l, j.kids = []) → (J.flats l).length = l.length ∧ J.deeps l ≤ 1
 | [], _ => ⟨rfl, by simp [J.deeps]⟩
 | .mk h k :: l, hl => by
   have h1 := flats_leaf l (fun j hj => hl j (by simp [hj]))
   have h2 : k = [] := hl (.mk h k) (by simp)
   subst h2
   simp only [J.flats, J.flat, J.deeps, J.deep, List.length_append, List.length_cons, List.length_nil]
   omega
theorem memsC_kids (cols : List Col) (r : List Cell) : ∀ j ∈ memsC cols r, j.kids = [] := by
 intro j hj
 simp only [memsC, List.mem_map] at hj
 obtain ⟨x, _, rfl⟩ := hj
 rfl
theorem memsC_len {cols : List Col} {r : List Cell} (h : cols.length = r.length) : (memsC cols r).length = cols.length := by simp [memsC, h]
theorem names_nodup {cols : List Col} (h : namedB cols = true) : (cols.map Col.name).Nodup := (of_decide_eq_true h).2
theorem names_ok {cols : List Col} (h : namedB cols = true) : ∀ c ∈ cols, isName c.name = true := (of_decide_eq_true h).1
theorem take_key {l : List ByteArray} (h : l.Nodup) {i : Nat} (hi : i < l.length) : hasKey (l.take i) l[i] = false := by
 rw [hasKey_not]
 intro hm
 obtain ⟨j, hj, e⟩ := List.mem_iff_getElem.1 hm
 simp only [List.length_take] at hj
 rw [List.getElem_take] at e
 have := (List.pairwise_iff_getElem.1 h) j i (by omega) hi (by omega)
 exact this e
theorem cells_ok {cols : List Col} {r : List Cell} (h : rowErr vU cols r = 0) {i : Nat} (hi : i < cols.length) (hi' : i < r.length) : mayK cols[i].kind = true ∧ cellOk vU cols[i].kind cols[i].null r[i] = true := cellErr_zero.1 ((rowErr_zero.1 h).2 i hi hi')
theorem row_objT {cols : List Col} {r : List Cell} (hn : namedB cols = true) (hr : rowErr vU cols r = 0) (hl : cols.length ≤ 3999) : ObjT (cols.map Col.name) (partsC cols r) (objC cols r).flat 0 := by
 have hlen := (rowErr_zero.1 hr).1
 refine .inr ⟨by rw [partsC_len hlen]; simp, .inr ⟨fun i hi => ?_, (cols.zip r).map (fun x => leafJC (cellH x.1.kind x.2)), ⟨by rw [partsC_len hlen]; simp [hlen], fun i hi hi' => ?_⟩, ?_⟩⟩
 · rw [partsC_len hlen] at hi
   have hi2 : i < (cols.map Col.name).length := by simpa using hi
   have hir : i < r.length := by omega
   rw [objErr_chk hi2 (by rw [partsC_len hlen]; exact hi) ?_ (take_key (names_nodup hn) hi2), partsC_at hi hir]
   · obtain ⟨c1, c2⟩ := cells_ok hr hi hir
     exact chkT_may (leaf_may (cellH_leaf c1 c2))
   · rw [List.getElem_map]
     exact name_vU (names_ok hn _ (List.getElem_mem hi))
 · rw [partsC_len hlen] at hi
   have hir : i < r.length := by omega
   obtain ⟨c1, c2⟩ := cells_ok hr hi hir
   rw [partsC_at hi hir]
   simp only [List.getElem_map, List.getElem_zip]
   exact leaf_may (cellH_leaf c1 c2)
 · rw [rekeys_C _ _ hlen]
   obtain ⟨f1, f2⟩ := flats_leaf _ (memsC_kids cols r)
   rw [memsC_len hlen] at f1
   exact .inr (.inr ⟨by rw [f1]; omega, by omega, rfl, rfl⟩)
theorem RowT_fine {cols : List Col} {r : List Cell} (hn : namedB cols = true) (hr : rowErr vU cols r = 0) (hl : cols.length ≤ 3999) : RowT cols r (objC cols r).flat 0 := .inr (.inr ⟨hn, hr, row_objT hn hr hl⟩)
theorem partsC_texts {cols : List Col} {r : List Cell} (hr : rowErr vU cols r = 0) : ∀ p ∈ partsC cols r, TextsOk p := by
 intro p hp
 obtain ⟨i, hi, rfl⟩ := List.mem_iff_getElem.1 hp
 have hlen := (rowErr_zero.1 hr).1
 have hi2 := hi
 rw [partsC_len hlen] at hi2
 rw [partsC_at hi2 (by omega)]
 obtain ⟨c1, c2⟩ := cells_ok hr hi2 (show i < r.length by omega)
 have := cellH_size c1 c2
 intro x hx
 simp only [leafC, leafT, List.mem_singleton] at hx
 subst hx
 exact ⟨by show (0 : Nat) ≤ _; omega, by show (cellH _ _).s.size ≤ _; unfold maxLen; omega⟩
theorem keysOk_nodup {V : ByteArray → Bool} : ∀ {l had : List ByteArray}, (∀ k ∈ l, V k = true) → l.Nodup → (∀ k ∈ l, k ∉ had) → keysOk V had l
 | [], _, _, _, _ => trivial
 | k :: l, had, h1, h2, h3 => by
   rw [List.nodup_cons] at h2
   refine ⟨h1 k (by simp), h3 k (by simp), keysOk_nodup (fun x hx => h1 x (by simp [hx])) h2.2 fun x hx => ?_⟩
   rw [List.mem_append, List.mem_singleton]
   rintro (h | h)
   · exact h3 x (by simp [hx]) h
   · subst h
     exact h2.1 hx
theorem oks_all {V : ByteArray → Bool} : ∀ {l : List J}, (∀ j ∈ l, J.Ok V j) → J.Oks V l
 | [], _ => trivial
 | j :: l, h => ⟨h j (by simp), oks_all fun x hx => h x (by simp [hx])⟩
theorem memsC_keys {cols : List Col} {r : List Cell} (h : cols.length = r.length) : (memsC cols r).map J.key = cols.map Col.name := by
 unfold memsC
 rw [List.map_map]
 have : (J.key ∘ fun x : Col × Cell => memC x.1 x.2) = Col.name ∘ Prod.fst := rfl
 rw [this, ← List.map_map, List.map_fst_zip (by omega)]
theorem objC_may {cols : List Col} {r : List Cell} (hn : namedB cols = true) (hr : rowErr vU cols r = 0) (hl : cols.length ≤ 3999) : May (objC cols r).flat (objC cols r) := by
 have hlen := (rowErr_zero.1 hr).1
 obtain ⟨f1, f2⟩ := flats_leaf _ (memsC_kids cols r)
 rw [memsC_len hlen] at f1
 refine ⟨⟨?_, rfl, rfl⟩, by rw [objC, J.flat, List.length_cons, f1]; omega, by rw [objC, J.deep]; omega⟩
 rw [objC, J.Ok]
 refine .inr (.inr ⟨rfl, ⟨rfl, rfl⟩, oks_all fun j hj => ?_, ?_⟩)
 · simp only [memsC, List.mem_map] at hj
   obtain ⟨x, hx, rfl⟩ := hj
   obtain ⟨i, hi, rfl⟩ := List.mem_iff_getElem.1 hx
   simp only [List.length_zip] at hi
   simp only [List.getElem_zip]
   obtain ⟨c1, c2⟩ := cells_ok hr (show i < cols.length by omega) (show i < r.length by omega)
   rw [memC, J.Ok]
   exact .inl ⟨cellH_leaf c1 c2, rfl⟩
 · rw [memsC_keys hlen]
   refine keysOk_nodup (fun k hk => ?_) (names_nodup hn) (fun _ _ h => by cases h)
   obtain ⟨c, hc, rfl⟩ := List.mem_map.1 hk
   exact name_vU (names_ok hn c hc)
def findM (l : List J) (k : ByteArray) : Option J := l.find? fun j => decide (j.key = k)
def takenM (l : List J) (c : Col) : Option Cell := (findM l c.name).bind fun j => takenC vU c.kind c.null j.hd
def takenAll : List Col → List J → Option (List Cell)
 | [], _ => some []
 | c :: cs, l => (takenM l c).bind fun x => (takenAll cs l).map fun r => x :: r
def RowOf (cols : List Col) (t : List Nd) (out : List Cell) (e : Int) : Prop :=
 ((namedB cols = false ∨ ∃ c ∈ cols, mayK c.kind = false) ∧ out = [] ∧ e = 2) ∨
 (namedB cols = true ∧ (∀ c ∈ cols, mayK c.kind = true) ∧
   ((chkT t ≠ 0 ∧ out = [] ∧ e = chkT t) ∨ ∃ h l, May t (.mk h l) ∧
      (((h.kind ≠ 7 ∨ l.length ≠ cols.length ∨ ∃ c ∈ cols, findM l c.name = none) ∧ out = [] ∧ e = 200) ∨
       (h.kind = 7 ∧ l.length = cols.length ∧ (∀ c ∈ cols, findM l c.name ≠ none) ∧ ((takenAll cols l = none ∧ out = [] ∧ e = 90) ∨ (takenAll cols l = some out ∧ e = 0))))))
theorem RowOf_any (cols : List Col) (t : List Nd) : ∃ out e, RowOf cols t out e := by
 by_cases h1 : namedB cols = false ∨ ∃ c ∈ cols, mayK c.kind = false
 · exact ⟨[], 2, .inl ⟨h1, rfl, rfl⟩⟩
 · have hn : namedB cols = true := by
    cases h : namedB cols
    · exact absurd (.inl h) h1
    · rfl
   have hk : ∀ c ∈ cols, mayK c.kind = true := fun c hc => by
    cases h : mayK c.kind
    · exact absurd (.inr ⟨c, hc, h⟩) h1
    · rfl
   by_cases h0 : chkT t = 0
   · obtain ⟨⟨h, l⟩, hm⟩ := may_of h0
     by_cases h2 : h.kind ≠ 7 ∨ l.length ≠ cols.length ∨ ∃ c ∈ cols, findM l c.name = none
     · exact ⟨[], 200, .inr ⟨hn, hk, .inr ⟨h, l, hm, .inl ⟨h2, rfl, rfl⟩⟩⟩⟩
     · have h3 : h.kind = 7 ∧ l.length = cols.length ∧ ∀ c ∈ cols, findM l c.name ≠ none := by
        refine ⟨Classical.byContradiction fun q => h2 (.inl q), Classical.byContradiction fun q => h2 (.inr (.inl q)), fun c hc q => h2 (.inr (.inr ⟨c, hc, q⟩))⟩
       cases ht : takenAll cols l with
       | none => exact ⟨[], 90, .inr ⟨hn, hk, .inr ⟨h, l, hm, .inr ⟨h3.1, h3.2.1, h3.2.2, .inl ⟨ht, rfl, rfl⟩⟩⟩⟩⟩
       | some r => exact ⟨r, 0, .inr ⟨hn, hk, .inr ⟨h, l, hm, .inr ⟨h3.1, h3.2.1, h3.2.2, .inr ⟨ht, rfl⟩⟩⟩⟩⟩
   · exact ⟨[], _, .inr ⟨hn, hk, .inl ⟨h0, rfl, rfl⟩⟩⟩
theorem takenAll_append (a b : List Col) (l : List J) : takenAll (a ++ b) l = (takenAll a l).bind fun x => (takenAll b l).map fun y => x ++ y := by
 induction a with
 | nil => cases h : takenAll b l <;> simp [takenAll, h]
 | cons c a ih =>
   rw [List.cons_append, takenAll, takenAll, ih]
   cases takenM l c <;> cases takenAll a l <;> cases takenAll b l <;> simp
theorem takenAll_len : ∀ {cols : List Col} {l : List J} {r : List Cell}, takenAll cols l = some r → r.length = cols.length
 | [], l, r, h => by simp [takenAll] at h; subst h; rfl
 | c :: cols, l, r, h => by
   rw [takenAll] at h
   cases h1 : takenM l c <;> rw [h1] at h <;> simp at h
   obtain ⟨r', h2, rfl⟩ := h
   simp [takenAll_len h2]
theorem takenAll_next {cols : List Col} {l : List J} {k : Nat} {r : List Cell} (hk : k < cols.length) (h : takenAll (cols.take k) l = some r) : takenAll (cols.take (k + 1)) l = (takenM l cols[k]).map fun x => r ++ [x] := by
 rw [List.take_succ_eq_append_getElem hk, takenAll_append, h]
 simp only [takenAll]
 cases takenM l cols[k] <;> simp
theorem takenAll_none {cols : List Col} {l : List J} {k : Nat} (h : takenAll (cols.take k) l = none) : takenAll cols l = none := by
 rw [← List.take_append_drop k cols, takenAll_append, h]
 rfl
end Go.Proofs.YthlfljmfggmfdaaGreatDoor

/-! ###  -/
namespace Go.Proofs.YthlfljmfggmfdaaGreatDoor
open Go.RowKit
abbrev Nv (h : Hd) (z : Int) : Value := .agg #[.int .i64 h.kind, .string h.key, .int .i64 h.n, .string h.s, .int .i64 z]
structure SB (w0 : World) (k : Int) (nl : Bool) (c : Cell) (w' : World) : Prop where
 old : Old w0 w'
 ty : w'.heap[w0.heap.size]? = some (.cells #[.int .i64 k, .bool nl] 54)
 res : ∃ d, CBox w' (w0.heap.size + 1 + 1) d
 val : CBox w' (w0.heap.size + 1 + 1 + 1) c
section
variable {w0 a b : World} {k : Int} {nl : Bool} {c : Cell}
theorem SB.step (h : SB w0 k nl c a) (o : Old a b) : SB w0 k nl c b :=
 ⟨Old.trans h.old o, (o.block _ (block_lt h.ty)).trans h.ty, by obtain ⟨d, hd⟩ := h.res; exact ⟨d, hd.old o⟩, h.val.old o⟩
theorem SB.drew (h : SB w0 k nl c a) : SB w0 k nl c a.drew := h.step (Old.drew (Old.refl _))
theorem heap_set_other {w : World} {p i q : Nat} {v : Value} (h : p ≠ q) : (w.setCell ⟨p, i, none⟩ v).heap[q]? = w.heap[q]? := by
 simp [World.setCell, Array.getElem?_modify, h]
theorem SB.store (h : SB w0 k nl c a) (d : Cell) : SB w0 k nl c (((a.setCell ⟨w0.heap.size + 1 + 1, 0, none⟩ (.bool d.null)).setCell ⟨w0.heap.size + 1 + 1, 1, none⟩ (.int .i64 d.n)).setCell ⟨w0.heap.size + 1 + 1, 2, none⟩ (.string d.s)) := by
 have hle : w0.heap.size ≤ w0.heap.size + 1 + 1 := by omega
 refine ⟨Old.setCell (Old.setCell (Old.setCell h.old hle _) hle _) hle _, ?_, ?_, ?_⟩
 · rw [heap_set_other (by omega), heap_set_other (by omega), heap_set_other (by omega)]; exact h.ty
 · obtain ⟨e, he⟩ := h.res
   exact ⟨d, set3_heap he _ _ _⟩
 · show (World.heap _)[_]? = _
   rw [heap_set_other (by omega), heap_set_other (by omega), heap_set_other (by omega)]
   exact h.val
theorem SB.free (h : SB w0 k nl c a) (i : Nat) : a.frozen? ⟨w0.heap.size + 1 + 1, i, none⟩ = false := by obtain ⟨d, hd⟩ := h.res; exact hd.free i
theorem SB.there (h : SB w0 k nl c a) (i : Nat) (hi : i < 3) : a.cell? ⟨w0.heap.size + 1 + 1, i, none⟩ = some ((a.cell? ⟨w0.heap.size + 1 + 1, i, none⟩).getD undef) := by
 obtain ⟨d, hd⟩ := h.res
 obtain ⟨h0, h1, h2⟩ := hd.cells
 match i, hi with
 | 0, _ => rw [h0]; rfl
 | 1, _ => rw [h1]; rfl
 | 2, _ => rw [h2]; rfl
end
theorem SB.start (w : World) (k : Int) (nl : Bool) (N : Obj) (c : Cell) : SB w k nl c ((((w.alloc (.cells #[.int .i64 k, .bool nl] 54)).alloc N).alloc (.cells #[.bool false, .int .i64 0, .string ⟨#[]⟩] 38)).alloc (.cells #[.bool c.null, .int .i64 c.n, .string c.s] 38)) := by
 have e1 : ∀ o, (w.alloc o).heap.size = w.heap.size + 1 := fun o => by simp
 have e2 : ∀ o o', ((w.alloc o).alloc o').heap.size = w.heap.size + 1 + 1 := fun o o' => by simp
 have e3 : ∀ o o' o'', (((w.alloc o).alloc o').alloc o'').heap.size = w.heap.size + 1 + 1 + 1 := fun o o' o'' => by simp
 refine ⟨Old.alloc (Old.alloc (Old.alloc (Old.alloc (Old.refl _) _) _) _) _, ?_, ⟨⟨false, 0, ⟨#[]⟩⟩, ?_⟩, ?_⟩
 · exact ((Old.alloc (Old.alloc (Old.alloc (Old.refl _) _) _) _).block _ (by simp)).trans (heap_alloc_new _ _)
 · refine ((Old.alloc (Old.refl _) _).block _ (by simp)).trans ?_
   rw [← e2]
   exact heap_alloc_new _ _
 · show (World.heap _)[_]? = _
   rw [← e3]
   exact heap_alloc_new _ _
def TakenP (w : World) (k : Int) (nl : Bool) (h : Hd) (e : Ending) (w' : World) : Prop :=
 ∃ c, e = .returned (.tuple #[Cl c, .bool (takenC vU k nl h).isSome]) ∧ (∀ c', takenC vU k nl h = some c' → c = c') ∧ Old w w'
theorem taken_of {k : Int} {nl : Bool} {h : Hd} {c : Cell} (hs : saidC k h = some c) : (takenC vU k nl h).isSome = cellOk vU k nl c ∧ ∀ c', takenC vU k nl h = some c' → c = c' := by
 unfold takenC
 rw [hs]
 cases hc : cellOk vU k nl c <;> simp [hc]
theorem taken_no {k : Int} {nl : Bool} {h : Hd} (hs : saidC k h = none) : (takenC vU k nl h).isSome = false ∧ ∀ (c c' : Cell), takenC vU k nl h = some c' → c = c' := by
 unfold takenC
 rw [hs]
 simp
theorem err_ok {k : Int} {nl : Bool} {c : Cell} (hk : mayK k = true) : (cellErr vU k nl c == 0) = cellOk vU k nl c := by
 unfold cellErr
 rw [hk]
 cases cellOk vU k nl c <;> simp
set_option maxRecDepth 100000 in
set_option maxHeartbeats 4000000 in
theorem taken_null (k : Int) (nl : Bool) (key s : ByteArray) (n z : Int) (hk : mayK k = true) (w : World) (hT : Tabs w) : Calls Tryz.prog 45 #[Ty k nl, Nv ⟨1, key, n, s⟩ z] w (TakenP w k nl ⟨1, key, n, s⟩) := by
 obtain ⟨t1, t2⟩ := taken_of (nl := nl) (show saidC k ⟨1, key, n, s⟩ = some ⟨true, 0, none_⟩ from rfl)
 have T1 := hide t1
 have T2 := hide t2
 have CK := hide (fun (w' : World) (o : Old w w') => ccheck_run k nl ⟨true, 0, none_⟩ w' (hT.old o))
 have HE := err_ok (nl := nl) (c := ⟨true, 0, none_⟩) hk
 generalize cellErr vU k nl ⟨true, 0, none_⟩ = E at *
 generalize cellOk vU k nl ⟨true, 0, none_⟩ = B at *
 clear t1 t2
 unfold Ret none_ Cl Ty at CK
 simp only at CK
 unfold Ty Nv
 go_enter Tryz.func45, Tryz.ntmps45
 go_wp2_with fail
 have S0 := hide (SB.start w k nl (.cells #[.int .i64 1, .string key, .int .i64 n, .string s, .int .i64 z] 36) ⟨true, 0, ⟨#[]⟩⟩)
 obtain ⟨W, hW⟩ : ∃ W, W = ((((w.alloc (.cells #[.int .i64 k, .bool nl] 54)).alloc (.cells #[.int .i64 1, .string key, .int .i64 n, .string s, .int .i64 z] 36)).alloc (.cells #[.bool false, .int .i64 0, .string ⟨#[]⟩] 38)).alloc (.cells #[.bool true, .int .i64 0, .string ⟨#[]⟩] 38)) := ⟨_, rfl⟩
 rw [← hW] at S0 ⊢
 clear hW
 have h0 := S0.out
 have y0 : ∀ w', SB w k nl ⟨true, 0, ⟨#[]⟩⟩ w' → w'.cell? ⟨w.heap.size, 0, none⟩ = some (.int .i64 k) := fun w' q => (cell_of_heap q.ty).trans rfl
 have y1 : ∀ w', SB w k nl ⟨true, 0, ⟨#[]⟩⟩ w' → w'.cell? ⟨w.heap.size, 1, none⟩ = some (.bool nl) := fun w' q => (cell_of_heap q.ty).trans rfl
 have y2 : ∀ w', SB w k nl ⟨true, 0, ⟨#[]⟩⟩ w' → w'.cell? ⟨w.heap.size + 1 + 1 + 1, 0, none⟩ = some (.bool true) := fun w' q => q.val.cells.1
 have y3 : ∀ w', SB w k nl ⟨true, 0, ⟨#[]⟩⟩ w' → w'.cell? ⟨w.heap.size + 1 + 1 + 1, 1, none⟩ = some (.int .i64 0) := fun w' q => q.val.cells.2.1
 have y4 : ∀ w', SB w k nl ⟨true, 0, ⟨#[]⟩⟩ w' → w'.cell? ⟨w.heap.size + 1 + 1 + 1, 2, none⟩ = some (.string ⟨#[]⟩) := fun w' q => q.val.cells.2.2
 have yf : ∀ w' i, SB w k nl ⟨true, 0, ⟨#[]⟩⟩ w' → w'.frozen? ⟨w.heap.size + 1 + 1, i, none⟩ = false := fun w' i q => q.free i
 obtain ⟨f0, z0⟩ : ∃ f : World → Value, ∀ w', SB w k nl ⟨true, 0, ⟨#[]⟩⟩ w' → w'.cell? ⟨w.heap.size + 1 + 1, 0, none⟩ = some (f w') := ⟨_, fun w' q => q.there 0 (by decide)⟩
 obtain ⟨f1, z1⟩ : ∃ f : World → Value, ∀ w', SB w k nl ⟨true, 0, ⟨#[]⟩⟩ w' → w'.cell? ⟨w.heap.size + 1 + 1, 1, none⟩ = some (f w') := ⟨_, fun w' q => q.there 1 (by decide)⟩
 obtain ⟨f2, z2⟩ : ∃ f : World → Value, ∀ w', SB w k nl ⟨true, 0, ⟨#[]⟩⟩ w' → w'.cell? ⟨w.heap.size + 1 + 1, 2, none⟩ = some (f w') := ⟨_, fun w' q => q.there 2 (by decide)⟩
 have hd := hide (Old.drew h0.old)
 go_region_held3 (fun w' => SB w k nl ⟨true, 0, ⟨#[]⟩⟩ w')
  (first | assumption | (exact SB.drew h0) | (exact SB.step (SB.drew h0) o9) | (exact SB.store (by assumption) ⟨true, 0, ⟨#[]⟩⟩) | (fail "none"))
  (first
    | (go_at_call 74; (with_reducible refine (CK.out _ hd.out).mono ?_); rintro e w9 ⟨rfl, o9⟩)
    | (fail "none"))
 all_goals
  have S9 := hide (SB.step (SB.drew h0) o9)
  have O6 := hide (S9.out.store ⟨true, 0, ⟨#[]⟩⟩).old
  obtain ⟨d, hdd⟩ := S9.out.res
  clear y0 y1 y2 y3 y4 yf z0 z1 z2
  go_wp2_with fail
  refine bodyPost_ret (results_box2 rfl _ _ (w.heap.size + 1 + 1) _ _ _ rfl (set3_heap hdd _ _ _)) rfl ?_
  exact ⟨_, by rw [T1.out]; rfl, T2.out, O6.out⟩
end Go.Proofs.YthlfljmfggmfdaaGreatDoor
