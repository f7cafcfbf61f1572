/-  -/
import Derived.Test.YthlfljmfggmfdaaGreatDoorQf38
import Derived.Test.YthlfljmfggmfdaaGreatDoorQf14
import Derived.Maps.AppendAt
/-! ###  -/
namespace Go.Proofs.YthlfljmfggmfdaaGreatDoor
open Go.RowKit
theorem cellH_num {k : Int} {null : Bool} {c : Cell} (hk : mayK k = true) (h : cellOk vU k null c = true) : -9223372036854775808 ≤ (cellH k c).n ∧ (cellH k c).n ≤ 9223372036854775807 := by
 obtain ⟨cn, n, s⟩ := c
 cases cn
 · have h5 : k = 1 ∨ k = 2 ∨ k = 3 ∨ k = 4 ∨ k = 5 := by simp [mayK] at hk; omega
   simp only [cellOk, Bool.false_eq_true, if_false] at h
   rcases h5 with rfl | rfl | rfl | rfl | rfl
   · show (-9223372036854775808 : Int) ≤ 0 ∧ (0 : Int) ≤ 9223372036854775807
     omega
   · simp [someOk] at h
     show (-9223372036854775808 : Int) ≤ n ∧ n ≤ 9223372036854775807
     omega
   · simp [someOk] at h
     show (-9223372036854775808 : Int) ≤ n ∧ n ≤ 9223372036854775807
     omega
   · show (-9223372036854775808 : Int) ≤ 0 ∧ (0 : Int) ≤ 9223372036854775807
     omega
   · show (-9223372036854775808 : Int) ≤ 0 ∧ (0 : Int) ≤ 9223372036854775807
     omega
 · show (-9223372036854775808 : Int) ≤ 0 ∧ (0 : Int) ≤ 9223372036854775807
   omega
theorem flats_all {P : Nd → Prop} : ∀ l : List J, (∀ j ∈ l, ∃ h, j = .mk h [] ∧ P ⟨h.kind, h.key, h.n, h.s, 1⟩) → ∀ x ∈ J.flats l, P x
 | [], _, x, hx => by simp [J.flats] at hx
 | j :: l, h, x, hx => by
   rw [flats_cons, List.mem_append] at hx
   rcases hx with hx | hx
   · obtain ⟨hd, rfl, h1⟩ := h j (by simp)
     rw [flat_mk] at hx
     simp [J.flats] at hx
     subst hx
     exact h1
   · exact flats_all l (fun i hi => h i (by simp [hi])) x hx
theorem objC_every {cols : List Col} {r : List Cell} (hn : namedB cols = true) (hr : rowErr vU cols r = 0) : ∀ x ∈ (objC cols r).flat, x.key.size ≤ 32 ∧ x.s.size ≤ 2048 ∧ -9223372036854775808 ≤ x.n ∧ x.n ≤ 9223372036854775807 := by
 intro x hx
 unfold objC at hx
 rw [flat_mk, List.mem_cons] at hx
 rcases hx with rfl | hx
 · exact ⟨Nat.zero_le _, Nat.zero_le _, by show (-9223372036854775808 : Int) ≤ 0; omega, by show (0 : Int) ≤ 9223372036854775807; omega⟩
 · refine flats_all (P := fun x : Nd => x.key.size ≤ 32 ∧ x.s.size ≤ 2048 ∧ -9223372036854775808 ≤ x.n ∧ x.n ≤ 9223372036854775807) _ (fun j hj => ?_) x hx
   obtain ⟨⟨c, d⟩, hp, rfl⟩ := List.mem_map.1 hj
   obtain ⟨i, hi, he⟩ := List.getElem_of_mem hp
   rw [List.getElem_zip] at he
   injection he with h1 h2
   rw [List.length_zip] at hi
   have a := cells_ok hr (show i < cols.length by omega) (show i < r.length by omega)
   rw [h1, h2] at a
   have hc : c ∈ cols := by rw [← h1]; exact List.getElem_mem _
   exact ⟨_, rfl, name_size (names_ok hn c hc), cellH_size a.1 a.2, cellH_num a.1 a.2⟩
theorem objC_texts {cols : List Col} {r : List Cell} (hn : namedB cols = true) (hr : rowErr vU cols r = 0) : TextsOk (objC cols r).flat := fun x hx => by
 have := objC_every hn hr x hx
 unfold maxLen
 omega
theorem objC_fit {cols : List Col} {r : List Cell} (hn : namedB cols = true) (hr : rowErr vU cols r = 0) : NdFit (objC cols r).flat := fun x hx => by
 have := objC_every hn hr x hx
 exact ⟨this.2.2, by omega⟩
theorem kinds_ok {cols : List Col} {r : List Cell} (hr : rowErr vU cols r = 0) : ∀ c ∈ cols, mayK c.kind = true := fun c hc => by
 obtain ⟨i, hi, rfl⟩ := List.mem_iff_getElem.1 hc
 exact (cells_ok hr hi (by have := (rowErr_zero.1 hr).1; omega)).1
theorem named_sub {a b : List Col} (h : namedB b = true) (hs : a.Sublist b) : namedB a = true :=
 decide_eq_true ⟨fun c hc => names_ok h c (hs.subset hc), List.Pairwise.sublist (hs.map Col.name) (names_nodup h)⟩
theorem less_at {α : Type} {l : List α} {i j : Nat} (h : j < (l.eraseIdx i).length) : ∃ k, ∃ (hk : k < l.length), (l.eraseIdx i)[j] = l[k] ∧ k = (if j < i then j else j + 1) := by
 rw [List.length_eraseIdx] at h
 by_cases hji : j < i
 · have hjl : j < l.length := by split at h <;> omega
   refine ⟨j, hjl, ?_, by rw [if_pos hji]⟩
   rw [List.getElem_eraseIdx, dif_pos hji]
 · have hjl : j + 1 < l.length := by split at h <;> omega
   refine ⟨j + 1, hjl, ?_, by rw [if_neg hji]⟩
   rw [List.getElem_eraseIdx, dif_neg hji]
theorem row_less {cols : List Col} {r : List Cell} (hr : rowErr vU cols r = 0) (i : Nat) : rowErr vU (cols.eraseIdx i) (r.eraseIdx i) = 0 := by
 obtain ⟨hl, hc⟩ := rowErr_zero.1 hr
 refine rowErr_zero.2 ⟨by rw [List.length_eraseIdx, List.length_eraseIdx, hl], fun j h h' => ?_⟩
 obtain ⟨k, hk, e1, e2⟩ := less_at h
 obtain ⟨k', hk', e1', e2'⟩ := less_at h'
 have : k' = k := by rw [e2, e2']
 subst this
 rw [e1, e1']
 exact hc k' hk hk'
theorem row_two {cols cols' : List Col} {r r' : List Cell} (hr : rowErr vU cols r = 0) (hr' : rowErr vU cols' r' = 0) : rowErr vU (cols ++ cols') (r ++ r') = 0 := by
 obtain ⟨hl, hc⟩ := rowErr_zero.1 hr
 obtain ⟨hl', hc'⟩ := rowErr_zero.1 hr'
 refine rowErr_zero.2 ⟨by rw [List.length_append, List.length_append, hl, hl'], fun j h h' => ?_⟩
 by_cases hj : j < cols.length
 · rw [List.getElem_append_left hj, List.getElem_append_left (by omega)]
   exact hc j hj (by omega)
 · rw [List.getElem_append_right (by omega), List.getElem_append_right (by omega)]
   rw [List.length_append] at h h'
   have e : j - r.length = j - cols.length := by omega
   have g : ∀ (n : Nat) (hn : n < r'.length), n = j - cols.length → cellErr vU (cols'[j - cols.length]'(by omega)).kind (cols'[j - cols.length]'(by omega)).null r'[n] = 0 := by
    intro n hn en
    subst en
    exact hc' _ (by omega) (by omega)
   exact g _ (by omega) e
theorem named_two {a b : List Col} (ha : namedB a = true) (hb : namedB b = true) (h : ∀ c ∈ a, ∀ d ∈ b, c.name ≠ d.name) : namedB (a ++ b) = true := by
 refine decide_eq_true ⟨fun c hc => ?_, ?_⟩
 · rcases List.mem_append.1 hc with hc | hc
   · exact names_ok ha c hc
   · exact names_ok hb c hc
 · rw [List.map_append]
   refine List.nodup_append.2 ⟨names_nodup ha, names_nodup hb, fun x hx y hy => ?_⟩
   obtain ⟨c, hc, rfl⟩ := List.mem_map.1 hx
   obtain ⟨d, hd, rfl⟩ := List.mem_map.1 hy
   exact h c hc d hd
def Col.named (c : Col) (s : ByteArray) : Col := ⟨c.id, s, c.kind, c.null, c.dflt⟩
theorem row_set {cols : List Col} {r : List Cell} (hr : rowErr vU cols r = 0) {i : Nat} (hi : i < cols.length) (s : ByteArray) : rowErr vU (cols.set i (cols[i].named s)) r = 0 := by
 obtain ⟨hl, hc⟩ := rowErr_zero.1 hr
 refine rowErr_zero.2 ⟨by rw [List.length_set, hl], fun j h h' => ?_⟩
 rw [List.length_set] at h
 rw [List.getElem_set]
 split
 · rename_i e
   subst e
   exact hc _ h h'
 · exact hc _ h h'
theorem set_mem {α : Type} {l : List α} {i : Nat} {x y : α} (h : y ∈ l.set i x) : y = x ∨ ∃ j, ∃ (hj : j < l.length), j ≠ i ∧ y = l[j] := by
 obtain ⟨j, hj, rfl⟩ := List.mem_iff_getElem.1 h
 rw [List.length_set] at hj
 rw [List.getElem_set]
 split
 · exact .inl rfl
 · rename_i e
   exact .inr ⟨j, hj, fun h => e h.symm, rfl⟩
theorem named_set {cols : List Col} (hn : namedB cols = true) {i : Nat} (hi : i < cols.length) {s : ByteArray} (hs : isName s = true) (h : ∀ c ∈ cols, c.name ≠ s) : namedB (cols.set i (cols[i].named s)) = true := by
 refine decide_eq_true ⟨fun c hc => ?_, ?_⟩
 · rcases set_mem hc with rfl | ⟨j, hj, _, rfl⟩
   · exact hs
   · exact names_ok hn _ (List.getElem_mem hj)
 · have hd := List.pairwise_iff_getElem.1 (names_nodup hn)
   have g : ∀ k, (hk : k < cols.length) → ((cols.set i (cols[i].named s)).map Col.name)[k]'(by simp; omega) = if i = k then s else cols[k].name := by
    intro k hk
    rw [List.getElem_map, List.getElem_set]
    split <;> rfl
   refine List.pairwise_iff_getElem.2 fun a b ha hb hab => ?_
   rw [List.length_map, List.length_set] at ha hb
   rw [g a ha, g b hb]
   split
   · split
     · omega
     · exact fun e => h _ (List.getElem_mem hb) e.symm
   · split
     · exact h _ (List.getElem_mem ha)
     · have := hd a b (by simpa using ha) (by simpa using hb) hab
       simpa using this
theorem RowOf_count {cols cols' : List Col} {r r' : List Cell} (hn : namedB cols = true) (hr : rowErr vU cols r = 0) (hn' : namedB cols' = true) (hr' : rowErr vU cols' r' = 0) (hl : cols'.length ≤ 3999) (hd : cols'.length ≠ cols.length) : RowOf cols (objC cols' r').flat [] 200 :=
 .inr ⟨hn, kinds_ok hr, .inr ⟨_, _, objC_may hn' hr' hl, .inl ⟨.inr (.inl (by rw [memsC_len (rowErr_zero.1 hr').1]; exact hd)), rfl, rfl⟩⟩⟩
theorem find_no {cols : List Col} {r : List Cell} (h : cols.length = r.length) {s : ByteArray} (hs : ∀ c ∈ cols, c.name ≠ s) : findM (memsC cols r) s = none := by
 unfold findM
 rw [List.find?_eq_none]
 intro j hj hk
 have hm : j.key ∈ (memsC cols r).map J.key := List.mem_map.2 ⟨j, hj, rfl⟩
 rw [memsC_keys h] at hm
 obtain ⟨c, hc, e⟩ := List.mem_map.1 hm
 exact hs c hc (e.trans (of_decide_eq_true hk))
theorem RowOf_name {cols cols' : List Col} {r r' : List Cell} (hn : namedB cols = true) (hr : rowErr vU cols r = 0) (hn' : namedB cols' = true) (hr' : rowErr vU cols' r' = 0) (hl : cols'.length ≤ 3999) {c : Col} (hc : c ∈ cols) (hd : ∀ d ∈ cols', d.name ≠ c.name) : RowOf cols (objC cols' r').flat [] 200 :=
 .inr ⟨hn, kinds_ok hr, .inr ⟨_, _, objC_may hn' hr' hl, .inl ⟨.inr (.inr ⟨c, hc, find_no (rowErr_zero.1 hr').1 hd⟩), rfl, rfl⟩⟩⟩
theorem zip_less {α β : Type} : ∀ (a : List α) (b : List β) (i : Nat), (a.eraseIdx i).zip (b.eraseIdx i) = (a.zip b).eraseIdx i
 | [], b, i => by simp
 | x :: a, [], i => by simp
 | x :: a, y :: b, 0 => by simp
 | x :: a, y :: b, i + 1 => by simp [zip_less a b i]
theorem map_less {α β : Type} (f : α → β) : ∀ (a : List α) (i : Nat), (a.eraseIdx i).map f = (a.map f).eraseIdx i
 | [], i => by simp
 | x :: a, 0 => by simp
 | x :: a, i + 1 => by simp [map_less f a i]
theorem parts_less (cols : List Col) (r : List Cell) (i : Nat) : partsC (cols.eraseIdx i) (r.eraseIdx i) = (partsC cols r).eraseIdx i := by
 unfold partsC
 rw [zip_less, map_less]
theorem less_next {α : Type} {l : List α} {i k : Nat} (h : k < l.length) : (i = k → (l.take (k + 1)).eraseIdx i = (l.take k).eraseIdx i) ∧ (i ≠ k → (l.take (k + 1)).eraseIdx i = (l.take k).eraseIdx i ++ [l[k]]) := by
 rw [List.take_succ_eq_append_getElem h]
 have hk : (l.take k).length = k := by simp; omega
 refine ⟨fun e => ?_, fun e => ?_⟩
 · subst e
   rw [List.eraseIdx_append_of_length_le (by omega), hk, Nat.sub_self, show (l.take i).eraseIdx i = l.take i from List.eraseIdx_of_length_le (by omega)]
   simp
 · by_cases hi : i < k
   · rw [List.eraseIdx_append_of_lt_length (by omega)]
   · rw [List.eraseIdx_of_length_le (by simp; omega), List.eraseIdx_of_length_le (by omega)]
theorem set_next' {α : Type} {l : List α} {i k : Nat} {z : α} (h : k < l.length) : (i = k → (l.take (k + 1)).set i z = (l.take k).set i z ++ [z]) ∧ (i ≠ k → (l.take (k + 1)).set i z = (l.take k).set i z ++ [l[k]]) := by
 rw [List.take_succ_eq_append_getElem h]
 have hk : (l.take k).length = k := by simp; omega
 refine ⟨fun e => ?_, fun e => ?_⟩
 · subst e
   rw [List.set_append_right _ _ (by omega), hk, Nat.sub_self, show (l.take i).set i z = l.take i from List.set_eq_of_length_le (by omega)]
   simp
 · by_cases hi : i < k
   · rw [List.set_append_left _ _ (by omega)]
   · rw [List.set_eq_of_length_le (by simp; omega), List.set_eq_of_length_le (by omega)]
def z8 : ByteArray := ⟨#[122, 56]⟩
def z9 : ByteArray := ⟨#[122, 57]⟩
def noC : Cell := ⟨true, 0, ⟨#[]⟩⟩
def colZ (s : ByteArray) : Col := ⟨0, s, 1, true, ⟨false, 0, ⟨#[]⟩⟩⟩
theorem z9_name : isName z9 = true := by decide +kernel
theorem colZ_named : namedB [colZ z8, colZ z9] = true := by decide +kernel
theorem colZ_row : rowErr vU [colZ z8, colZ z9] [noC, noC] = 0 := by kernel_rfl
theorem colZ_parts : partsC [colZ z8, colZ z9] [noC, noC] = [leafT 1 0 none_, leafT 1 0 none_] := by kernel_rfl
theorem made_size (L : List Trip) {m : Nat} (hm : m ≤ 20) : ∀ c ∈ mCols L m, c.name.size = 3 := by
 intro c hc
 obtain ⟨i, hi, rfl⟩ := List.mem_map.1 hc
 obtain ⟨K, b, n, hK, hn, e1, _⟩ := made_at L i
 rw [e1]
 exact (mName_ok i (by have := List.mem_range.1 hi; omega) n hn).2.1
theorem size_unlike {a b : ByteArray} {n : Nat} (h : a.size = 3) (hb : b.size = n) (hn : n ≠ 3) : a ≠ b := by
 intro e
 subst e
 omega
structure ObjR (cols : List Col) (ks : List ByteArray) (pl : List (List Nd)) (t : List Nd) (out : List Cell) (e : Int) : Prop where
 keys : ∀ s ∈ ks, s.size ≤ maxLen
 texts : ∀ p ∈ pl, TextsOk p
 obj : ObjT ks pl t 0
 ok : TextsOk t
 fit : NdFit t
 row : RowOf cols t out e
theorem objR_of {cols cols' : List Col} {r' out : List Cell} {e : Int} (hn : namedB cols' = true) (hr : rowErr vU cols' r' = 0) (hl : cols'.length ≤ 3999) (h : RowOf cols (objC cols' r').flat out e) : ObjR cols (cols'.map Col.name) (partsC cols' r') (objC cols' r').flat out e :=
 ⟨fun s hs => by
  obtain ⟨c, hc, rfl⟩ := List.mem_map.1 hs
  have := name_size (names_ok hn c hc)
  unfold maxLen
  omega, partsC_texts hr, row_objT hn hr hl, objC_texts hn hr, objC_fit hn hr, h⟩
structure MadeR (cols : List Col) (r : List Cell) : Prop where
 named : namedB cols = true
 row : rowErr vU cols r = 0
 few : cols.length ≤ 20
 size : ∀ c ∈ cols, c.name.size = 3
theorem madeR (L : List Trip) : MadeR (mCols L (mLen L)) (mRow L (mLen L)) := by
 have hm : mLen L ≤ 20 := by unfold mLen; omega
 exact ⟨made_named L hm, made_row L (mLen L), by rw [mCols_len]; exact hm, made_size L hm⟩
section
variable {cols : List Col} {r : List Cell}
theorem MadeR.names (h : MadeR cols r) : ∀ c ∈ cols, c.name.size ≤ maxLen := fun c hc => by
 have := h.size c hc
 unfold maxLen
 omega
theorem MadeR.none0 (h : MadeR cols r) (h0 : cols.length = 0) : cols = [] ∧ r = [] := by
 have := (rowErr_zero.1 h.row).1
 exact ⟨List.eq_nil_of_length_eq_zero h0, List.eq_nil_of_length_eq_zero (by omega)⟩
theorem miss_less (h : MadeR cols r) {x : Nat} (hx : x < cols.length ∨ cols.length = 0) : ∃ t e, ObjR cols ((cols.map Col.name).eraseIdx x) ((partsC cols r).eraseIdx x) t [] e ∧ (e = 200 ∨ cols.length = 0) := by
 rw [← map_less, ← parts_less]
 have hn := named_sub h.named (List.eraseIdx_sublist cols x)
 have hr := row_less h.row x
 have hf := h.few
 have hle := List.length_eraseIdx_le cols x
 rcases hx with hx | h0
 · have hlen : (cols.eraseIdx x).length ≠ cols.length := by rw [List.length_eraseIdx_of_lt hx]; omega
   exact ⟨_, 200, objR_of hn hr (by omega) (RowOf_count h.named h.row hn hr (by omega) hlen), .inl rfl⟩
 · obtain ⟨e1, e2⟩ := h.none0 h0
   subst e1 e2
   exact ⟨_, 0, objR_of hn hr (by omega) (RowOf_mems h.named h.row (by simp)), .inr rfl⟩
theorem miss_more (h : MadeR cols r) (x : Nat) : ∃ t, ObjR cols ((cols.map Col.name).eraseIdx x ++ [z8, z9]) ((partsC cols r).eraseIdx x ++ [leafT 1 0 none_, leafT 1 0 none_]) t [] 200 := by
 have hn := named_sub h.named (List.eraseIdx_sublist cols x)
 have hr := row_less h.row x
 have hf := h.few
 have hle := List.length_eraseIdx_le cols x
 have hn2 : namedB (cols.eraseIdx x ++ [colZ z8, colZ z9]) = true := named_two hn colZ_named fun c hc d hd => by
  have h3 := h.size c ((List.eraseIdx_sublist cols x).subset hc)
  simp only [List.mem_cons, List.not_mem_nil, or_false] at hd
  rcases hd with rfl | rfl
  · exact size_unlike h3 (show z8.size = 2 from rfl) (by omega)
  · exact size_unlike h3 (show z9.size = 2 from rfl) (by omega)
 have hr2 := row_two hr colZ_row
 have e1 : ((cols.map Col.name).eraseIdx x ++ [z8, z9]) = (cols.eraseIdx x ++ [colZ z8, colZ z9]).map Col.name := by
  rw [List.map_append, map_less]
  rfl
 have e2 : ((partsC cols r).eraseIdx x ++ [leafT 1 0 none_, leafT 1 0 none_]) = partsC (cols.eraseIdx x ++ [colZ z8, colZ z9]) (r.eraseIdx x ++ [noC, noC]) := by
  rw [← parts_less, ← colZ_parts]
  unfold partsC
  rw [List.zip_append (rowErr_zero.1 hr).1, List.map_append]
 rw [e1, e2]
 have hlen : (cols.eraseIdx x ++ [colZ z8, colZ z9]).length ≠ cols.length := by
  rw [List.length_append, List.length_eraseIdx]
  show (if x < cols.length then cols.length - 1 else cols.length) + 2 ≠ cols.length
  split <;> omega
 have hl2 : (cols.eraseIdx x ++ [colZ z8, colZ z9]).length ≤ 3999 := by
  rw [List.length_append]
  show _ + 2 ≤ _
  omega
 exact ⟨_, objR_of hn2 hr2 hl2 (RowOf_count h.named h.row hn2 hr2 hl2 hlen)⟩
theorem miss_other (h : MadeR cols r) {x : Nat} (hx : x < cols.length ∨ cols.length = 0) : ∃ t e, ObjR cols ((cols.map Col.name).set x z9) (partsC cols r) t [] e ∧ (e = 200 ∨ cols.length = 0) := by
 have hf := h.few
 rcases hx with hx | h0
 · have hn : namedB (cols.set x (cols[x].named z9)) = true := named_set h.named hx z9_name fun c hc => size_unlike (h.size c hc) (show z9.size = 2 from rfl) (by omega)
   have hr := row_set h.row hx z9
   have e1 : (cols.map Col.name).set x z9 = (cols.set x (cols[x].named z9)).map Col.name := by rw [List.map_set]; rfl
   have e2 : partsC cols r = partsC (cols.set x (cols[x].named z9)) r := by
    refine List.ext_getElem ?_ fun i h1 h2 => ?_
    · rw [partsC_len (rowErr_zero.1 h.row).1, partsC_len (rowErr_zero.1 hr).1, List.length_set]
    · have hi : i < cols.length := by rw [partsC_len (rowErr_zero.1 h.row).1] at h1; exact h1
      have hir : i < r.length := by have := (rowErr_zero.1 h.row).1; omega
      rw [partsC_at hi hir, partsC_at (by rw [List.length_set]; exact hi) hir, List.getElem_set]
      split
      · rename_i e
        subst e
        rfl
      · rfl
   rw [e1, e2]
   have hl : (cols.set x (cols[x].named z9)).length ≤ 3999 := by rw [List.length_set]; omega
   refine ⟨_, 200, objR_of hn hr hl (RowOf_name h.named h.row hn hr hl (List.getElem_mem hx) fun d hd => ?_), .inl rfl⟩
   rcases set_mem hd with rfl | ⟨j, hj, hne, rfl⟩
   · exact (size_unlike (h.size _ (List.getElem_mem hx)) (show z9.size = 2 from rfl) (by omega)).symm
   · intro e
     have hd := List.pairwise_iff_getElem.1 (names_nodup h.named)
     rcases Nat.lt_or_gt_of_ne hne with hlt | hgt
     · have := hd j x (by simpa using hj) (by simpa using hx) hlt
       simp at this
       exact this e
     · have := hd x j (by simpa using hx) (by simpa using hj) hgt
       simp at this
       exact this e.symm
 · obtain ⟨e1, e2⟩ := h.none0 h0
   subst e1 e2
   exact ⟨_, 0, objR_of (cols := []) (cols' := []) (r' := []) h.named h.row (by simp) (RowOf_mems h.named h.row (by simp)), .inr rfl⟩
end
end Go.Proofs.YthlfljmfggmfdaaGreatDoor

/-! ###  -/
namespace Go.Proofs.YthlfljmfggmfdaaGreatDoor
open Go.RowKit
def TwoRows (v u : Value) : Prop := ∀ g, v.ownBlock = some g → u.ownBlock ≠ some g
theorem TwoRows.symm {v u : Value} (h : TwoRows v u) : TwoRows u v := fun g hg hv => h g hv hg
theorem own_else {base T size n : Nat} {w w' : World} {v u : Value} {xs : List Value} (h : w.ownsRow base T size u n xs) (hg : w.grownBy w' v.ownBlock) (ha : TwoRows u v) : w'.ownsRow base T size u n xs := by
 obtain ⟨hl, h2⟩ := h
 refine ⟨hl, ?_⟩
 rcases h2 with h2 | ⟨g, cap, cur, rfl, hb, hh, r⟩
 · exact .inl h2
 · refine .inr ⟨g, cap, cur, rfl, hb, ?_, r⟩
   rw [hg.block g (block_lt hh) (fun e => ha g rfl e.symm)]
   exact hh
theorem step_push_two {o : Oper} {a : Act} {K : Act → World → Prop} {Q : Exit → Act → World → Prop} (w : World) (s x : Operand)
 (ho : o.op = .call { callee := .builtin .append, args := #[s, x], argTypes := #[60, 60] })
 (base : Nat) (v u : Value) (ps qs : List (List Nd)) (hs : a.eval s = v) (hown : PartsOwn base w v ps) (hother : PartsOwn base w u qs) (hap : TwoRows v u) (g cap : Nat) (pv : Value) (p : List Nd) (hx : a.eval x = .slice (some ⟨g, 0, none⟩) 1 cap) (h0 : w.cell? ⟨g, 0, none⟩ = some pv)
 (hp : NodesT base w pv p) (hlen : ps.length + 1 ≤ 4194304) (hbase : base ≤ w.heap.size)
 (h : ∀ v' w', PartsOwn base w' v' (ps ++ [p]) → PartsOwn base w' u qs → TwoRows v' u → Kept 24 base w w' → K (a.put o.dst v') w') : o.wp Tryz.prog a w K Q := by
 obtain ⟨i0, hi, hz0, hz1, hz2⟩ := info_parts partInfo
 obtain ⟨vs, g1, g2, g3⟩ := hown
 have hone : ∀ y ∈ [pv], y.oneCell' = true := by
  intro y hy
  simp at hy
  subst hy
  obtain ⟨A, c, rfl, _⟩ := hp
  rfl
 obtain ⟨v', w', hr, own', hg, _, hblk⟩ := run_append_own_at (P := Tryz.prog) (w := w) base 60 o.type 24 i0 (.slice none 0 0) 1 24 Tryz.underlying60 hi hz0 hz1 hz2 rfl (by omega) v ps.length vs g2 ⟨g, 0, none⟩ 1 cap [pv] rfl (fun j y hy => by
  match j, hy with
  | 0, hy => simp at hy; subst hy; exact h0
  | j + 1, hy => simp at hy) hone (by unfold maxLen; omega) (by omega) hbase
 have k := Kept.of_grown g2 hg hbase
 unfold Oper.wp execOp
 simp only [ho, resolve, invoke, builtin, Sem.run_bind, Sem.run_pure, Result.andThen_ok, List.map_toArray, List.map_cons, List.map_nil, hs, hx, hr]
 refine h v' w' ⟨vs ++ [pv], by simp [g1], ?_, fun i hi hi' => ?_⟩ ?_ ?_ k
 · rw [List.length_append]; exact own'
 · rcases Nat.lt_or_ge i ps.length with hl | hl
   · rw [List.getElem_append_left (by omega), List.getElem_append_left hl]
     exact k.slT (g3 i hl (by omega)) (by decide)
   · have e1 : (ps ++ [p])[i] = p := by
      rw [List.getElem_append_right hl]
      simp
     have e2 : (vs ++ [pv])[i] = pv := by
      rw [List.getElem_append_right (by omega)]
      simp
     rw [e1, e2]
     exact k.slT hp (by decide)
 · obtain ⟨us, k1, k2, k3⟩ := hother
   exact ⟨us, k1, own_else k2 hg hap.symm, fun i hi hi' => k.slT (k3 i hi hi') (by decide)⟩
 · intro g' hg' hu
   rcases hblk with hb | hb
   · exact hap g' (hb.symm.trans hg') hu
   · rw [hb] at hg'
     injection hg' with hg'
     obtain ⟨us, k1, k2, k3⟩ := hother
     have := (k2.lt g' hu).2
     omega
end Go.Proofs.YthlfljmfggmfdaaGreatDoor
