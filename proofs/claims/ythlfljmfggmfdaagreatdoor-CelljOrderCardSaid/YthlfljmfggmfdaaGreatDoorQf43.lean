/-  -/
import Derived.Test.YthlfljmfggmfdaaGreatDoorQf39
import Derived.Test.YthlfljmfggmfdaaGreatDoorQf42
import Derived.Test.YthlfljmfggmfdaaGreatDoorQf08
import Derived.Test.YthlfljmfggmfdaaGreatDoorQf34
import Derived.StillTailTactics
import Derived.Deep.DeepCutAuto
/-! ###  -/
namespace Go.Proofs.YthlfljmfggmfdaaGreatDoor
open Go.RowKit
def rotL {α : Type} (r : Nat) (l : List α) : List α := l.drop r ++ l.take r
theorem rotL_len {α : Type} (r : Nat) (l : List α) : (rotL r l).length = l.length := by simp [rotL]; omega
theorem rotL_perm {α : Type} (r : Nat) (l : List α) : (rotL r l).Perm l := by
 unfold rotL
 exact List.perm_append_comm.trans (by rw [List.take_append_drop])
theorem rotL_get {α : Type} {r i : Nat} {l : List α} (hr : r < l.length) (hi : i < l.length) (h : (i + r) % l.length < l.length) (h' : i < (rotL r l).length) : (rotL r l)[i] = l[(i + r) % l.length] := by
 unfold rotL at h' ⊢
 by_cases hlt : i < l.length - r
 · have e : (i + r) % l.length = i + r := Nat.mod_eq_of_lt (by omega)
   rw [List.getElem_append_left (by simp; omega), List.getElem_drop]
   congr 1
   omega
 · have e : (i + r) % l.length = i + r - l.length := by rw [Nat.mod_eq_sub_mod (by omega), Nat.mod_eq_of_lt (by omega)]
   rw [List.getElem_append_right (by simp; omega), List.getElem_take]
   congr 1
   simp
   omega
theorem ord_perm_same {l l' : List J} (hp : l.Perm l') (h : AptJ l) : ordJ (J.sorts l) = ordJ (J.sorts l') := by
 have h' : AptJ l' := hp.pairwise h fun {a b} hab => hab.symm
 refine up_unique ?_ (ordJ_up (apt_sorts h)) (ordJ_up (apt_sorts h'))
 refine (ordJ_perm _).trans (List.Perm.trans ?_ (ordJ_perm _).symm)
 rw [sorts_map, sorts_map]
 exact hp.map _
theorem perm_of_sub {α : Type} : ∀ {a b : List α}, a.Nodup → (∀ x ∈ a, x ∈ b) → b.length ≤ a.length → a.Perm b
 | [], b, _, _, h => by
   obtain rfl : b = [] := List.eq_nil_of_length_eq_zero (by simpa using h)
   exact .nil
 | x :: a, b, hn, hs, hl => by
   obtain ⟨s, t, rfl⟩ := List.append_of_mem (hs x (by simp))
   rw [List.nodup_cons] at hn
   have h := perm_of_sub (a := a) (b := s ++ t) hn.2 (fun y hy => by
    have h1 := hs y (by simp [hy])
    rw [List.mem_append, List.mem_cons] at h1
    rw [List.mem_append]
    rcases h1 with h1 | rfl | h1
    · exact .inl h1
    · exact absurd hy hn.1
    · exact .inr h1) (by simp at hl ⊢; omega)
   exact (h.cons x).trans List.perm_middle.symm
theorem leaf_sort {h : Hd} : (J.mk h []).sort = .mk h [] := by
 rw [J.sort, J.sorts]
 split <;> rfl
theorem memsC_sorts (cols : List Col) (r : List Cell) : J.sorts (memsC cols r) = memsC cols r := by
 rw [sorts_map]
 conv => rhs; rw [← List.map_id (memsC cols r)]
 refine List.map_congr_left fun j hj => ?_
 have hk := memsC_kids cols r j hj
 obtain ⟨h, k⟩ := j
 have : k = [] := hk
 subst this
 exact leaf_sort
theorem objC_sort (cols : List Col) (r : List Cell) : (objC cols r).sort = .mk ⟨7, none_, 0, none_⟩ (ordJ (memsC cols r)) := by
 unfold objC
 rw [J.sort, if_pos rfl, memsC_sorts]
theorem mems_apt {cols : List Col} {r : List Cell} (hn : namedB cols = true) (hr : rowErr vU cols r = 0) : AptJ (memsC cols r) := by
 have h : ((memsC cols r).map J.key).Nodup := by rw [memsC_keys (rowErr_zero.1 hr).1]; exact names_nodup hn
 exact List.pairwise_map.1 h
theorem mems_nodup {cols : List Col} {r : List Cell} (hn : namedB cols = true) (hr : rowErr vU cols r = 0) : ((memsC cols r).map J.key).Nodup := by
 rw [memsC_keys (rowErr_zero.1 hr).1]; exact names_nodup hn
theorem mem_at {cols : List Col} {r : List Cell} {i : Nat} (h1 : i < cols.length) (h2 : i < r.length) : memC cols[i] r[i] ∈ memsC cols r := by
 unfold memsC
 rw [List.mem_map]
 exact ⟨(cols[i], r[i]), List.mem_iff_getElem.2 ⟨i, by simp; omega, by simp⟩, rfl⟩
theorem RowOf_perm {cols : List Col} {r : List Cell} (hn : namedB cols = true) (hr : rowErr vU cols r = 0) {l : List J} (hp : l.Perm (memsC cols r)) {t : List Nd} (hm : May t (.mk ⟨7, none_, 0, none_⟩ l)) : RowOf cols t r 0 := by
 have hk : (l.map J.key).Nodup := ((hp.map J.key).nodup_iff).2 (mems_nodup hn hr)
 refine RowOf_back hn hr hm (fun x hx => find_unique hk (hp.mem_iff.2 hx)) ?_
 rw [hp.length_eq, memsC_len (rowErr_zero.1 hr).1]
theorem sorted_back {cols : List Col} {r : List Cell} (hn : namedB cols = true) (hr : rowErr vU cols r = 0) (hl : cols.length ≤ 3999) : RowOf cols (objC cols r).sort.flat r 0 := by
 have hm := (objC_may hn hr hl).sorted
 rw [objC_sort] at hm ⊢
 exact RowOf_perm hn hr (ordJ_perm _) hm
theorem zip_drop {α β : Type} : ∀ (n : Nat) (a : List α) (b : List β), (a.drop n).zip (b.drop n) = (a.zip b).drop n
 | 0, _, _ => by simp
 | n + 1, [], b => by simp
 | n + 1, x :: a, [] => by simp
 | n + 1, x :: a, y :: b => by simp [zip_drop n a b]
theorem zip_take {α β : Type} : ∀ (n : Nat) (a : List α) (b : List β), (a.take n).zip (b.take n) = (a.zip b).take n
 | 0, _, _ => by simp
 | n + 1, [], b => by simp
 | n + 1, x :: a, [] => by simp
 | n + 1, x :: a, y :: b => by simp [zip_take n a b]
theorem mems_rot {cols : List Col} {r : List Cell} (h : cols.length = r.length) (s : Nat) : memsC (rotL s cols) (rotL s r) = rotL s (memsC cols r) := by
 unfold memsC rotL
 rw [List.zip_append (by simp [h]), List.map_append, zip_drop, zip_take, List.map_drop, List.map_take]
theorem rot_back {cols : List Col} {r : List Cell} (hn : namedB cols = true) (hr : rowErr vU cols r = 0) (s : Nat) {t : List Nd} (hm : May t (objC (rotL s cols) (rotL s r))) : RowOf cols t r 0 := by
 unfold objC at hm
 rw [mems_rot (rowErr_zero.1 hr).1] at hm
 exact RowOf_perm hn hr (rotL_perm _ _) hm
theorem rot_named {cols : List Col} (hn : namedB cols = true) (s : Nat) : namedB (rotL s cols) = true :=
 decide_eq_true ⟨fun c hc => names_ok hn c ((rotL_perm s cols).mem_iff.1 hc), (((rotL_perm s cols).map Col.name).nodup_iff).2 (names_nodup hn)⟩
theorem rot_row {cols : List Col} {r : List Cell} (hr : rowErr vU cols r = 0) {s : Nat} (hs : s < cols.length) : rowErr vU (rotL s cols) (rotL s r) = 0 := by
 obtain ⟨hl, hc⟩ := rowErr_zero.1 hr
 refine rowErr_zero.2 ⟨by rw [rotL_len, rotL_len, hl], fun i h h' => ?_⟩
 rw [rotL_len] at h
 have h1 : (i + s) % cols.length < cols.length := Nat.mod_lt _ (by omega)
 have h2 : (i + s) % r.length < r.length := Nat.mod_lt _ (by omega)
 rw [rotL_get hs h h1, rotL_get (by omega) (by omega) h2]
 have g : ∀ a, (ha : a < r.length) → a = (i + s) % cols.length → cellErr vU cols[(i + s) % cols.length].kind cols[(i + s) % cols.length].null r[a] = 0 := by
  intro a ha e
  subst e
  exact hc _ h1 ha
 exact g _ h2 (by rw [hl])
theorem cellH_key (k : Int) (c : Cell) : (cellH k c).key = none_ := by
 unfold cellH
 repeat' split
 all_goals rfl
def sameCells (r s : List Cell) : Bool := decide (r = s)
theorem objC_inj {cols : List Col} {r s : List Cell} (hn : namedB cols = true) (hr : rowErr vU cols r = 0) (hs : rowErr vU cols s = 0) (e : (objC cols r).sort = (objC cols s).sort) : r = s := by
 rw [objC_sort, objC_sort] at e
 injection e with _ e
 have hp : (memsC cols r).Perm (memsC cols s) := ((ordJ_perm _).symm.trans (by rw [e])).trans (ordJ_perm _)
 obtain ⟨hlr, hcr⟩ := rowErr_zero.1 hr
 obtain ⟨hls, hcs⟩ := rowErr_zero.1 hs
 refine List.ext_getElem (by omega) fun i h1 h2 => ?_
 have hi : i < cols.length := by omega
 have m1 := hp.mem_iff.1 (mem_at (cols := cols) hi h1)
 have m2 := mem_at (cols := cols) (r := s) hi h2
 have f1 := find_unique (mems_nodup hn hs) m1
 have f2 := find_unique (mems_nodup hn hs) m2
 rw [show (memC cols[i] r[i]).key = (memC cols[i] s[i]).key from rfl, f2] at f1
 injection f1 with f1
 unfold memC at f1
 injection f1 with f1 _
 injection f1 with a1 _ a3 a4
 obtain ⟨c1, c2⟩ := cells_ok hr hi h1
 obtain ⟨_, d2⟩ := cells_ok hs hi h2
 refine cellH_inj c1 c2 d2 ?_
 have k1 : (cellH cols[i].kind r[i]).key = none_ := cellH_key _ _
 have k2 : (cellH cols[i].kind s[i]).key = none_ := cellH_key _ _
 generalize cellH cols[i].kind r[i] = A at *
 generalize cellH cols[i].kind s[i] = B at *
 obtain ⟨A1, A2, A3, A4⟩ := A
 obtain ⟨B1, B2, B3, B4⟩ := B
 simp only at a1 a3 a4 k1 k2
 subst a1 a3 a4 k1 k2
 rfl
theorem same_rows {cols : List Col} {r s : List Cell} (hn : namedB cols = true) (hr : rowErr vU cols r = 0) (hs : rowErr vU cols s = 0) (hl : cols.length ≤ 3999) {B : Bool} (h : SameT (objC cols r).flat (objC cols s).flat B) : B = sameCells r s := by
 rw [h.known (objC_may hn hr hl) (objC_may hn hs hl)]
 unfold sameNds sameCells
 rw [decide_eq_decide]
 constructor
 · intro e
   exact objC_inj hn hr hs (flat_inj e)
 · intro e
   rw [e]
theorem taken_each : ∀ {cols : List Col} {l : List J} {r : List Cell}, takenAll cols l = some r → ∀ i, (h1 : i < cols.length) → (h2 : i < r.length) → takenM l cols[i] = some r[i]
 | [], l, r, _, i, h1, _ => absurd h1 (by simp)
 | c :: cols, l, r, h, i, h1, h2 => by
   rw [takenAll] at h
   cases hc : takenM l c with
   | none => rw [hc] at h; simp at h
   | some x =>
     rw [hc] at h
     cases ht : takenAll cols l with
     | none => rw [ht] at h; simp at h
     | some r' =>
       rw [ht] at h
       simp at h
       subst h
       match i with
       | 0 => exact hc
       | i + 1 => exact taken_each ht i (by simpa using h1) (by simpa using h2)
theorem kid_leaf {V : ByteArray → Bool} {j : J} (hj : J.Ok V j) (h : j.hd.kind < 6) : leafOk V j.hd ∧ j.kids = [] := by
 obtain ⟨hd, k⟩ := j
 rw [J.Ok] at hj
 rcases hj with ⟨h1, h2⟩ | ⟨h1, _⟩ | ⟨h1, _⟩
 · exact ⟨h1, h2⟩
 · have : hd.kind < 6 := h
   omega
 · have : hd.kind < 6 := h
   omega
theorem said_kind {k : Int} {h : Hd} {c : Cell} (e : saidC k h = some c) : h.kind < 6 := by
 unfold saidC at e
 split at e
 · omega
 · split at e
   · omega
   · split at e
     · omega
     · split at e
       · omega
       · cases e
theorem taken_mem {cols : List Col} {l : List J} (hk : ∀ c ∈ cols, mayK c.kind = true) (hok : ∀ j ∈ l, J.Ok vU j) {r : List Cell} (ht : takenAll cols l = some r) {i : Nat} (h1 : i < cols.length) (h2 : i < r.length) : memC cols[i] r[i] ∈ l ∧ cellErr vU cols[i].kind cols[i].null r[i] = 0 := by
 have h := taken_each ht i h1 h2
 have hkc := hk _ (List.getElem_mem h1)
 unfold takenM at h
 cases hf : findM l cols[i].name with
 | none => rw [hf] at h; cases h
 | some j =>
   rw [hf] at h
   have h : takenC vU cols[i].kind cols[i].null j.hd = some r[i] := h
   unfold findM at hf
   have hjl := List.mem_of_find?_eq_some hf
   have hjd0 := List.find?_some hf
   have hjd : decide (j.key = cols[i].name) = true := hjd0
   have hjk := of_decide_eq_true hjd
   have hlt : j.hd.kind < 6 := by
    unfold takenC at h
    rw [Option.filter_eq_some_iff] at h
    exact said_kind h.1
   obtain ⟨l1, l2⟩ := kid_leaf (hok j hjl) hlt
   obtain ⟨e1, e2⟩ := cellH_takenC hkc l1 h
   refine ⟨?_, cellErr_zero.2 ⟨hkc, e2⟩⟩
   have : memC cols[i] r[i] = j := by
    unfold memC
    rw [e1]
    obtain ⟨⟨a, b, c, d⟩, k⟩ := j
    have h5 : k = [] := l2
    have h6 : b = cols[i].name := hjk
    subst h5
    rw [h6]
    rfl
   rw [this]
   exact hjl
theorem oks_each {V : ByteArray → Bool} : ∀ {l : List J}, J.Oks V l → ∀ j ∈ l, J.Ok V j
 | [], _, _, h => by cases h
 | i :: l, h, j, hj => by
   rw [J.Oks] at h
   rcases List.mem_cons.1 hj with rfl | hj
   · exact h.1
   · exact oks_each h.2 j hj
theorem read_row {cols : List Col} {t : List Nd} {r : List Cell} (h : RowOf cols t r 0) : namedB cols = true ∧ rowErr vU cols r = 0 ∧ chkT t = 0 ∧ (cols.length ≤ 3999 → ∀ B, SameT t (objC cols r).flat B → B = true) := by
 rcases h with ⟨_, _, h⟩ | ⟨hn, hk, ⟨h0, _, h⟩ | ⟨hd, l, hm, ⟨_, _, h⟩ | ⟨h7, hlen, hfd, ⟨_, _, h⟩ | ⟨ht, _⟩⟩⟩⟩
 · cases h
 · exact absurd h.symm h0
 · cases h
 · cases h
 · have hlr := takenAll_len ht
   have hoks := oks_each (ok_oks hm.1.1)
   have hr : rowErr vU cols r = 0 := rowErr_zero.2 ⟨hlr.symm, fun i h1 h2 => (taken_mem hk hoks ht h1 h2).2⟩
   refine ⟨hn, hr, chkT_may hm, fun hl B hB => ?_⟩
   have hp : (memsC cols r).Perm l := by
    refine perm_of_sub ?_ (fun x hx => ?_) (by rw [memsC_len hlr.symm]; omega)
    · exact (mems_apt hn hr).imp fun {a b} hab e => hab (by rw [e])
    · obtain ⟨y, hy, rfl⟩ := List.mem_map.1 hx
      obtain ⟨i, hi, rfl⟩ := List.mem_iff_getElem.1 hy
      rw [List.length_zip] at hi
      rw [List.getElem_zip]
      exact (taken_mem hk hoks ht (by omega) (by omega)).1
   have e : (J.mk hd l).sort = (objC cols r).sort := by
    have hhd : hd = ⟨7, none_, 0, none_⟩ := by
     have h1 := hm.1.1
     rw [J.Ok] at h1
     have hkey : hd.key = none_ := hm.1.2.1
     rcases h1 with ⟨h1, _⟩ | ⟨h1, _⟩ | ⟨_, h1, _⟩
     · unfold leafOk at h1
       omega
     · omega
     · obtain ⟨p1, p2⟩ := h1
       obtain ⟨a, b, c, d⟩ := hd
       simp only at h7 hkey p1 p2
       subst h7 hkey p1 p2
       rfl
    subst hhd
    unfold objC
    rw [J.sort, J.sort, if_pos rfl, if_pos rfl, ord_perm_same hp (mems_apt hn hr)]
   rw [hB.known hm (objC_may hn hr hl), e]
   simp [sameNds]
theorem sort_every {cols : List Col} {r : List Cell} (hn : namedB cols = true) (hr : rowErr vU cols r = 0) : ∀ x ∈ (objC cols r).sort.flat, x.key.size ≤ 32 ∧ x.s.size ≤ 2048 ∧ -9223372036854775808 ≤ x.n ∧ x.n ≤ 9223372036854775807 := by
 intro x hx
 rw [objC_sort, flat_mk, List.mem_cons] at hx
 rcases hx with rfl | hx
 · exact ⟨Nat.zero_le _, Nat.zero_le _, by show (-9223372036854775808 : Int) ≤ 0; omega, by show (0 : Int) ≤ 9223372036854775807; omega⟩
 · refine flats_all (P := fun x : Nd => x.key.size ≤ 32 ∧ x.s.size ≤ 2048 ∧ -9223372036854775808 ≤ x.n ∧ x.n ≤ 9223372036854775807) _ (fun j hj => ?_) x hx
   have hj := (ordJ_perm _).mem_iff.1 hj
   obtain ⟨⟨c, d⟩, hp, rfl⟩ := List.mem_map.1 hj
   obtain ⟨i, hi, he⟩ := List.getElem_of_mem hp
   rw [List.getElem_zip] at he
   injection he with h1 h2
   rw [List.length_zip] at hi
   have a := cells_ok hr (show i < cols.length by omega) (show i < r.length by omega)
   rw [h1, h2] at a
   have hc : c ∈ cols := by rw [← h1]; exact List.getElem_mem _
   exact ⟨_, rfl, name_size (names_ok hn c hc), cellH_size a.1 a.2, cellH_num a.1 a.2⟩
theorem sorted_ok {cols : List Col} {r : List Cell} (h : MadeR cols r) {ps : List Nd} (hs : SortedT (objC cols r).flat ps) : TextsOk ps ∧ NdFit ps ∧ RowOf cols ps r 0 := by
 have hf := h.few
 have hm := objC_may h.named h.row (by omega)
 obtain ⟨j, hj, rfl⟩ := hs.good (chkT_may hm)
 have e : j = objC cols r := flat_inj (hj.1.2.2.symm.trans hm.1.2.2)
 subst e
 refine ⟨fun x hx => ?_, fun x hx => ?_, sorted_back h.named h.row (by omega)⟩
 · have := sort_every h.named h.row x hx
   unfold maxLen
   omega
 · have := sort_every h.named h.row x hx
   exact ⟨this.2.2, by omega⟩
theorem map_rot {α β : Type} (f : α → β) (s : Nat) (l : List α) : (rotL s l).map f = rotL s (l.map f) := by simp [rotL]
theorem parts_rot {cols : List Col} {r : List Cell} (h : cols.length = r.length) (s : Nat) : partsC (rotL s cols) (rotL s r) = rotL s (partsC cols r) := by
 unfold partsC rotL
 rw [List.zip_append (by simp [h]), List.map_append, zip_drop, zip_take, List.map_drop, List.map_take]
theorem order_obj {cols : List Col} {r : List Cell} (h : MadeR cols r) {s : Nat} (hs : s < cols.length ∨ cols.length = 0) : ∃ t, ObjR cols (rotL s (cols.map Col.name)) (rotL s (partsC cols r)) t r 0 := by
 have hf := h.few
 have hl := (rowErr_zero.1 h.row).1
 rw [← map_rot, ← parts_rot hl]
 have hn := rot_named h.named s
 have hr : rowErr vU (rotL s cols) (rotL s r) = 0 := by
  rcases hs with hs | h0
  · exact rot_row h.row hs
  · obtain ⟨e1, e2⟩ := h.none0 h0
    subst e1 e2
    simpa [rotL] using h.row
 have hlen : (rotL s cols).length ≤ 3999 := by rw [rotL_len]; omega
 exact ⟨_, objR_of hn hr hlen (rot_back h.named h.row s (objC_may hn hr hlen))⟩
theorem get_leaf {cols : List Col} {r : List Cell} (h : MadeR cols r) {i : Nat} (h1 : i < cols.length) (h2 : i < r.length) : GetT (objC cols r).flat cols[i].name (leafC cols[i].kind r[i]) true := by
 have hf := h.few
 have hm := objC_may h.named h.row (by omega)
 have hf := find_unique (mems_nodup h.named h.row) (mem_at (cols := cols) h1 h2)
 refine .inr ⟨_, _, hm, rfl, .inr ⟨memC cols[i] r[i], hf, ?_, rfl⟩⟩
 simp [memC, J.unkey, J.flat, J.flats, leafC, leafT]
theorem take_next {α : Type} {l : List α} {k : Nat} {x : α} (h : k < l.length) (hx : l[k] = x) : l.take (k + 1) = l.take k ++ [x] := by
 rw [List.take_succ_eq_append_getElem h, hx]
theorem rot_next {α : Type} {l : List α} {s k q : Nat} (hs : s < l.length) (hk : k < l.length) (hq : q = (k + s) % l.length) (hql : q < l.length) : (rotL s l).take (k + 1) = (rotL s l).take k ++ [l[q]] := by
 subst hq
 exact take_next (by rw [rotL_len]; exact hk) (rotL_get hs hk hql _)
end Go.Proofs.YthlfljmfggmfdaaGreatDoor

/-! ###  -/
namespace Go.Proofs.YthlfljmfggmfdaaGreatDoor
open Go.RowKit
theorem RowOf_bad {cols : List Col} {t : List Nd} {out : List Cell} {er : Int} (h : RowOf cols t out er) (h0 : er ≠ 0) : out = [] := by
 rcases h with ⟨_, h, _⟩ | ⟨_, _, ⟨_, h, _⟩ | ⟨_, _, _, ⟨_, h, _⟩ | ⟨_, _, _, ⟨_, h, _⟩ | ⟨_, h⟩⟩⟩⟩
 · exact h
 · exact h
 · exact h
 · exact h
 · exact absurd h h0
set_option maxRecDepth 100000 in
set_option maxHeartbeats 4000000 in
theorem says_run (u tv : Value) (L : List Trip) (t : List Nd) (w : World) (h : TripsIs w u L) (ht : NodesIs w tv t) (hn : NumsOk t) (hE : Errs w) (hT : Tabs w) (hP : PowTab w) :
 Calls Tryz.prog 7 #[.agg #[u], tv] w fun e w' => e = .returned (.bool true) ∧ Old w w' := by
 have HT := hide hT
 have HN := hide ht
 have CM := hide (fun (w' : World) (o : Old w w') => made_run u L w' (Sl.old h o))
 have CW := hide (fun (w' : World) (o : Old w w') => works19_run w' (hE.old o) (hT.old o) (hP.old o))
 have CN := hide (fun (w' : World) (o : Old w w') => nodes19_run tv t w' (ht.old o))
 have OK := hide (madeR L)
 unfold MadeT at CM
 generalize mCols L (mLen L) = cols at *
 generalize mRow L (mLen L) = r at *
 have HTX := hide (nodes19_texts t)
 have HFT := hide (nodes19_fit hn)
 obtain ⟨T, hTT⟩ : ∃ T, T = nodes19L t := ⟨_, rfl⟩
 rw [← hTT] at HTX HFT CN
 clear h hT hE hP hn ht hTT
 obtain ⟨out, er, hr⟩ := RowOf_any cols T
 have HR := hide hr
 clear hr
 unfold Ret at CW
 obtain ⟨A, n, c, rfl⟩ : ∃ A n c, tv = .slice A n c := by
  obtain ⟨A, c, rfl, _⟩ := HN.out
  exact ⟨_, _, _, rfl⟩
 go_enter Tryz.func7, Tryz.ntmps7
 go_wp2_with fail
 refine (CM.out _ (Old.alloc (Old.refl _) _)).mono ?_
 rintro e w1 ⟨cv, rv, rfl, c1, r1, o1⟩
 have O1 := hide (Old.trans (Old.alloc (Old.refl _) _) o1)
 have C1 := hide c1.sl
 clear o1 c1 r1
 go_wp2_with fail
 refine (CN.out _ O1.out).mono ?_
 rintro e w2 ⟨v2, rfl, t2, o2⟩
 have O2 := hide (Old.trans O1.out o2)
 have C2 := hide (Sl.old C1.out o2)
 have T2 := hide t2.sl
 clear t2 o2
 go_wp2_with fail
 refine (row_run cv v2 cols T out er w2 C2.out T2.out HTX.out HFT.out OK.out.names (by have := OK.out.few; omega) (HT.out.old O2.out) HR.out).mono ?_
 rintro e w3 ⟨v3, rfl, r3, o3⟩
 have O3 := hide (Old.trans O2.out o3)
 have C3 := hide (Sl.old C2.out o3)
 have T3 := hide (Sl.old T2.out o3)
 have R3 := hide r3.sl
 clear r3 o3
 obtain ⟨AR, cr, rfl, hRl, hRm, _⟩ := R3.out.row
 unfold maxLen at hRm
 by_cases h0 : er = 0
 · subst h0
   obtain ⟨q1, q2, q3, q4⟩ := read_row HR.out
   have hfew := OK.out.few
   have HB := hide (q4 (by omega))
   have HRT := hide (RowT_fine q1 q2 (by omega))
   have HTO := hide (objC_texts q1 q2)
   have HRE := hide q2
   clear q1 q2 q3 q4 hfew
   generalize (objC cols out).flat = t2 at *
   have HRL := hide hRl
   have hRm2 := hRm
   have CR := hide (fun (w' : World) (o : Old w3 w') => rowCheck_run cv (.slice AR out.length cr) cols out w' (C3.out.old o) (R3.out.old o) (HT.out.old (Old.trans O3.out o)))
   rw [HRE.out] at CR
   unfold Ret at CR
   go_wp2_with fail
   refine (tapeR_run cv (.slice AR out.length cr) cols out t2 0 w3 C3.out R3.out OK.out.names (by have := OK.out.few; omega) (HT.out.old O3.out) HRT.out).mono ?_
   rintro e w4 ⟨v4, rfl, t4, o4⟩
   have O4 := hide (Old.trans O3.out o4)
   have OO4 := hide o4
   have T4 := hide t4.sl
   have S4 := hide (Sl.old T3.out o4)
   clear t4 o4
   go_wp2_with fail
   refine (CR.out _ OO4.out).mono ?_
   rintro e w5 ⟨rfl, o5⟩
   have O5 := hide (Old.trans O4.out o5)
   have T5 := hide (Sl.old T4.out o5)
   have S5 := hide (Sl.old S4.out o5)
   clear o5
   go_wp2_with fail
   refine (same_run v2 v4 T t2 w5 S5.out T5.out HTX.out HTO.out (HT.out.old O5.out)).mono ?_
   rintro e w6 ⟨B, hB, rfl, o6⟩
   obtain rfl := HB.out B hB
   have O6 := hide (Old.trans O5.out o6)
   clear o6 hB
   go_wp2_with fail
   refine (CW.out _ O6.out).mono ?_
   rintro e w7 ⟨rfl, o7⟩
   have O7 := hide (Old.trans O6.out o7)
   clear o7
   go_wp2_with fail
   go_ret
   exact ⟨rfl, O7.out⟩
 · obtain rfl := RowOf_bad HR.out h0
   have h1 : (er != 0) = true := by simp [h0]
   clear h0
   go_wp2_with fail
   refine (CW.out _ O3.out).mono ?_
   rintro e w4 ⟨rfl, o4⟩
   have O4 := hide (Old.trans O3.out o4)
   clear o4
   go_wp2_with fail
   go_ret
   exact ⟨rfl, O4.out⟩
end Go.Proofs.YthlfljmfggmfdaaGreatDoor

/-! ###  -/
namespace Go.Proofs.YthlfljmfggmfdaaGreatDoor
open Go.RowKit
theorem tripInfo : (Tryz.prog.info? 69).map (fun i => (i.zero, i.size, i.bytes)) = some (some (.agg #[.int .i64 0, .int .i64 0, .int .i64 0]), 3, 24) := by kernel_rfl
abbrev TripsOwn (base : Nat) (w : World) (v : Value) (l : List Trip) : Prop := w.ownsRow base 69 3 v l.length (tripVals l)
theorem tripVals_append (a b : List Trip) : tripVals (a ++ b) = tripVals a ++ tripVals b := by simp [tripVals]
theorem tripVals_cell (l : List Trip) : ∀ u ∈ tripVals l, u.oneCell' = true := by
 intro u hu
 simp only [tripVals, List.mem_flatMap] at hu
 obtain ⟨x, _, hx⟩ := hu
 simp [tripV] at hx
 rcases hx with rfl | rfl | rfl <;> rfl
theorem step_push_trips {o : Oper} {a : Act} {K : Act → World → Prop} {Q : Exit → Act → World → Prop} (w : World) (s x : Operand)
 (ho : o.op = .call { callee := .builtin .append, args := #[s, x], argTypes := #[42, 42] })
 (base : Nat) (v : Value) (r : List Trip) (hs : a.eval s = v) (hown : TripsOwn base w v r)
 (xv : Value) (q : List Trip) (hev : a.eval x = xv) (hx : TripsIs w xv q) (hlen : r.length + q.length ≤ 1048576) (hbase : base ≤ w.heap.size)
 (h : ∀ v' w', TripsOwn base w' v' (r ++ q) → Kept 69 base w w' → K (a.put o.dst v') w') : o.wp Tryz.prog a w K Q := by
 obtain ⟨i0, hi, hz0, hz1, hz2⟩ := info_parts tripInfo
 refine wp_append_sl w s x 42 ho base 69 i0 _ 3 24 Tryz.underlying42 hi hz0 hz1 hz2 rfl (by omega) v r.length (tripVals r) hs hown
  xv q.length (tripVals q) hev hx (by rw [tripVals_length]) (tripVals_cell q) (by unfold maxLen; omega) (by omega) hbase ?_
 intro v' w' own' hg
 refine h v' w' ?_ (Kept.of_grown hown hg hbase)
 unfold TripsOwn
 rw [tripVals_append, List.length_append]
 exact own'
theorem tripVals_take (l : List Trip) (m : Nat) : tripVals (l.take m) = (tripVals l).take (m * 3) := by
 induction l generalizing m with
 | nil => simp [tripVals]
 | cons x l ih =>
   match m with
   | 0 => simp [tripVals]
   | m + 1 =>
     have e : tripVals (x :: l) = tripV x ++ tripVals l := by simp [tripVals]
     have e2 : tripVals (x :: l.take m) = tripV x ++ tripVals (l.take m) := by simp [tripVals]
     rw [List.take_succ_cons, e, e2, ih m, show (m + 1) * 3 = (tripV x).length + m * 3 by simp [tripV]; omega, List.take_length_add_append]
theorem trips_take {w : World} {A : Option Addr} {n cap : Nat} {L : List Trip} (h : TripsIs w (.slice A n cap) L) {m : Nat} (hm : m ≤ L.length) : TripsIs w (.slice A m cap) (L.take m) := by
 obtain ⟨A', cp, he, h1, h2, h3⟩ := h
 injection he with e1 e2 e3
 subst e1 e2 e3
 have hl : (L.take m).length = m := by simp; omega
 refine ⟨A, cap, by rw [hl], by omega, h2, fun hne => ?_⟩
 obtain ⟨b, off, hA, hc⟩ := h3 (by
  intro e
  apply hne
  rw [tripVals_take, e, List.take_nil])
 refine ⟨b, off, hA, fun j u hu => hc j u ?_⟩
 rw [tripVals_take, List.getElem?_take] at hu
 split at hu
 · exact hu
 · cases hu
def newN (x : Trip) (n : Int) : Trip := (x.1, x.2.1, n)
theorem tripVals_set : ∀ (l : List Trip) (k : Nat) (n : Int), (h : k < l.length) → (tripVals l).set (k * 3 + 2) (.int .i64 n) = tripVals (l.set k (newN l[k] n))
 | x :: l, 0, n, h => by simp [tripVals, tripV, newN]
 | x :: l, k + 1, n, h => by
   have e : tripVals (x :: l) = tripV x ++ tripVals l := by simp [tripVals]
   have e2 : ∀ m, tripVals (x :: m) = tripV x ++ tripVals m := fun m => by simp [tripVals]
   rw [e, List.set_cons_succ, e2, show (k + 1) * 3 + 2 = (tripV x).length + (k * 3 + 2) by simp [tripV]; omega, List.set_append_right _ _ (by omega), Nat.add_sub_cancel_left, tripVals_set l k n (by simpa using h)]
   simp
theorem trips_own {base m : Nat} {w : World} {v : Value} {l : List Trip} (h : TripsOwn base w v l) (hm : l.length = m) (h0 : 0 < m) : ∃ g cap, v = .slice (some ⟨g, 0, none⟩) m cap ∧ m ≤ cap ∧ cap ≤ maxLen ∧ base ≤ g := by
 subst hm
 obtain ⟨g, cap, rfl, h1, h2, h3, _⟩ := own_set h h0
 exact ⟨g, cap, rfl, h1, h2, h3⟩
theorem unlike_row {L : List Trip} {k : Nat} {n : Int} (hk : k < mLen L) : rowErr vU (mCols L (mLen L)) (mRow ((L.take (mLen L)).set k (newN (L.getD k (0, 0, 0)) n)) (mLen L)) = 0 := by
 have hm : mLen L ≤ L.length := by unfold mLen; omega
 generalize hL' : (L.take (mLen L)).set k (newN (L.getD k (0, 0, 0)) n) = L'
 have h' := rowErr_zero.1 (made_row L' (mLen L))
 refine rowErr_zero.2 ⟨by rw [mCols_len, mRow_len], fun i h1 h2 => ?_⟩
 have hi : i < mLen L := by rw [mCols_len] at h1; exact h1
 have g := h'.2 i (by rw [mCols_len]; exact hi) h2
 have q1 : (mCols L (mLen L))[i] = mCol L i := by simp [mCols]
 have q2 : (mCols L' (mLen L))[i]'(by rw [mCols_len]; exact hi) = mCol L' i := by simp [mCols]
 rw [q2] at g
 rw [q1]
 have e : (L'.getD i (0, 0, 0)).1 = (L.getD i (0, 0, 0)).1 ∧ (L'.getD i (0, 0, 0)).2.1 = (L.getD i (0, 0, 0)).2.1 := by
  subst hL'
  simp only [List.getD_eq_getElem?_getD, List.getElem?_set]
  split
  · rename_i ek
    subst ek
    rw [if_pos (by simp; omega)]
    simp [newN]
  · rw [List.getElem?_take, if_pos hi]
    exact ⟨rfl, rfl⟩
 have e1 : (mCol L' i).kind = (mCol L i).kind := by
  show mK _ = mK _
  unfold mK
  rw [e.1]
 have e2 : (mCol L' i).null = (mCol L i).null := by
  show mB _ = mB _
  unfold mB
  rw [e.2]
 rwa [e1, e2] at g
theorem mLen_set (L : List Trip) (k : Nat) (x : Trip) : mLen ((L.take (mLen L)).set k x) = mLen L := by
 unfold mLen
 rw [List.length_set, List.length_take]
 omega
set_option maxRecDepth 100000 in
set_option maxHeartbeats 4000000 in
theorem unlike_run (u : Value) (L : List Trip) (at_ n : Int) (w : World) (h : TripsIs w u L) (hE : Errs w) (hT : Tabs w) (hP : PowTab w) :
 Calls Tryz.prog 8 #[.agg #[u], .int .i64 at_, .int .i64 n] w fun e w' => e = .returned (.bool true) ∧ Old w w' := by
 have HT := hide hT
 have HU := hide h
 have CM := hide (fun (w' : World) (o : Old w w') => made_run u L w' (Sl.old h o))
 have CM2 := hide (fun (v' : Value) (L' : List Trip) (w' : World) (h' : TripsIs w' v' L') => made_run v' L' w' h')
 have CW := hide (fun (w' : World) (o : Old w w') => works19_run w' (hE.old o) (hT.old o) (hP.old o))
 have OK := hide (madeR L)
 obtain ⟨M, hM⟩ : ∃ M, Hid (mLen L = M) := ⟨_, hide rfl⟩
 have hML := hide (show M ≤ L.length by rw [← hM.out]; unfold mLen; omega)
 have HUR := hide (fun (k : Nat) (hk : k < M) => show rowErr vU (mCols L M) (mRow ((L.take M).set k (newN (L.getD k (0, 0, 0)) n)) M) = 0 from by rw [← hM.out] at hk ⊢; exact unlike_row hk)
 have HUL := hide (fun (k : Nat) (x : Trip) => show mLen ((L.take M).set k x) = M from by rw [← hM.out]; exact mLen_set L k x)
 unfold MadeT at CM CM2
 rw [hM.out] at CM OK
 have hcl := hide (mCols_len L M)
 have hrl := hide (mRow_len L M)
 generalize mCols L M = cols at *
 generalize mRow L M = r at *
 have hM20 : M ≤ 20 := by have := OK.out.few; rwa [hcl.out] at this
 obtain ⟨t, ht⟩ : ∃ t, Hid ((objC cols r).flat = t) := ⟨_, hide rfl⟩
 have HTX := hide (show TextsOk t by rw [← ht.out]; exact objC_texts OK.out.named OK.out.row)
 have HRT := hide (show RowT cols r t 0 by rw [← ht.out]; exact RowT_fine OK.out.named OK.out.row (by have := OK.out.few; omega))
 clear h hT hE hP
 unfold Ret at CW
 obtain ⟨A, cu, rfl, hLc, hcm, _⟩ := HU.out
 unfold maxLen at hcm
 obtain ⟨N, hN⟩ : ∃ N, Hid (L.length = N) := ⟨_, hide rfl⟩
 have HUN := hide (show TripsIs w (.slice A N cu) L by rw [← hN.out]; exact HU.out)
 rw [hN.out] at CM hLc ⊢
 have hMN : M ≤ N := by rw [← hN.out]; exact hML.out
 have HBX := hide (heap_alloc_new w (.cells #[.slice A N cu] 44))
 go_enter Tryz.func8, Tryz.ntmps8
 go_wp2_with fail
 refine (CM.out _ (Old.alloc (Old.refl _) _)).mono ?_
 rintro e w1 ⟨cv, rv, rfl, c1, r1, o1⟩
 have hbx1 : w1.cell? ⟨w.heap.size, 0, none⟩ = some (.slice A N cu) := o1.cell ((cell_of_heap HBX.out).trans rfl)
 have O1 := hide (Old.trans (Old.alloc (Old.refl _) _) o1)
 have C1 := hide c1.sl
 have R1 := hide r1.sl
 clear o1 c1 r1
 obtain ⟨AR, cr, rfl, hRl, hRm, _⟩ := R1.out.row
 unfold maxLen at hRm
 rw [hrl.out] at hRl
 have R1 := hide (show RowIs w1 (.slice AR M cr) r by rw [← hrl.out]; exact R1.out)
 simp only [hrl.out] at ⊢
 by_cases hM0 : M = 0
 · subst hM0
   go_wp2_with fail
   refine (CW.out _ O1.out).mono ?_
   rintro e w2 ⟨rfl, o2⟩
   have O2 := hide (Old.trans O1.out o2)
   clear o2
   go_wp2_with fail
   go_ret
   exact ⟨rfl, O2.out⟩
 · have hMi : ((M : Int) == 0) = false := by rw [beq_eq_false_iff_ne]; omega
   go_wp2_with fail
   refine (bring_is at_ M w1 (by omega) (by omega)).mono ?_
   rintro e w2 ⟨rfl, rfl⟩
   obtain ⟨k, hk⟩ : ∃ k, Hid (brg at_ M = k) := ⟨_, hide rfl⟩
   have hkM : k < M := by rw [← hk.out]; exact brg_lt _ (by omega)
   rw [hk.out]
   have hbx2 := Old.cell (Old.alloc (Old.refl w1) (.cells #[] 69)) hbx1
   have UT := hide (trips_take (Sl.old HUN.out O1.out) hML.out)
   have hLN := hide (show (L.take M).length = M by rw [List.length_take]; have := hML.out; omega)
   go_upto_region 6 with (at_builtin; refine wpList_plain rfl (fun K hK => ?_); refine step_push_trips _ _ _ rfl w1.heap.size _ [] rfl (World.ownsRow_lit w1 #[] 0 (Nat.le_refl _) (by unfold maxLen; omega) rfl) _ (L.take M) rfl (Sl.old UT.out (Old.alloc (Old.refl _) _)) (by rw [hLN.out]; simp; omega) (by simp) ?_; intro v2 w2 own2 kept2; obtain ⟨g2, c2, rfl, q2, r2, lo2⟩ := trips_own own2 hLN.out (by omega); refine hK _ _ ?_; clear hK)
   have hlt2 : g2 < w2.heap.size := (own2.lt g2 rfl).2
   have O2 := hide (kept2.old (Old.alloc (Old.refl w1) _) (Nat.le_refl _))
   obtain ⟨W3, hW3⟩ : ∃ W, W = w2.alloc (.cells #[.slice (some ⟨g2, 0, none⟩) M c2] 44) := ⟨_, rfl⟩
   rw [← hW3]
   have O23 : Old w2 W3 := by rw [hW3]; exact Old.alloc (Old.refl _) _
   have BX3 : SBox W3 w2.heap.size (.slice (some ⟨g2, 0, none⟩) M c2) := by rw [hW3]; exact heap_alloc_new w2 _
   obtain ⟨p, hp⟩ : ∃ p, p = w2.heap.size := ⟨_, rfl⟩
   rw [← hp] at BX3 hlt2 ⊢
   clear hW3 hp
   have own3 : TripsOwn w1.heap.size W3 (.slice (some ⟨g2, 0, none⟩) M c2) (L.take M) := own_old own2 O23
   obtain ⟨g3, c3, he, _, _, _, q4, q5, q6⟩ := own_set own3 (by rw [hLN.out]; omega)
   injection he with he h2 h3
   injection he with he
   injection he with he
   subst he
   clear h2 h3
   have hkl : k < (L.take M).length := by rw [hLN.out]; exact hkM
   have y1 := BX3.cell
   have y2 := q4 (k * 3 + 2) (.int .i64 (L.take M)[k].2.2) ((tripVals_get _ k 2 (by omega) hkl).trans rfl)
   have y3 := q5 (k * 3 + 2)
   have own4 := hide (show TripsOwn w1.heap.size (W3.setCell ⟨g2, k * 3 + 2, none⟩ (.int .i64 n)) (.slice (some ⟨g2, 0, none⟩) M c2) ((L.take M).set k (newN (L.getD k (0, 0, 0)) n)) by
    have h5 := q6 (k * 3 + 2) (.int .i64 n)
    rw [tripVals_set _ _ _ hkl] at h5
    have e : (L.take M)[k] = L.getD k (0, 0, 0) := by
     rw [List.getElem_take, List.getD_eq_getElem?_getD, List.getElem?_eq_getElem]
     rfl
    rw [e] at h5
    unfold TripsOwn
    rw [List.length_set]
    exact h5)
   have BX4 := hide (show SBox (W3.setCell ⟨g2, k * 3 + 2, none⟩ (.int .i64 n)) p (.slice (some ⟨g2, 0, none⟩) M c2) by
    show (World.heap _)[_]? = _
    rw [heap_set_other (by omega)]
    exact BX3)
   have O4 := hide (show Old w1 (W3.setCell ⟨g2, k * 3 + 2, none⟩ (.int .i64 n)) from Old.setCell (Old.trans O2.out O23) lo2 _)
   have y4 := BX4.out.cell
   have y5 := HUR.out k hkM
   have y6 := HUL.out k (newN (L.getD k (0, 0, 0)) n)
   have CM3 := hide (CM2.out _ _ _ (SlT.of_own own4.out).sl)
   rw [y6] at CM3
   generalize (L.take M).set k (newN (L.getD k (0, 0, 0)) n) = L2 at *
   have HUR2 := hide y5
   clear y5 y6 q4 q5 q6 own2 own3 kept2 O23 BX3 UT
   go_wp2_with fail
   refine CM3.out.mono ?_
   rintro e w5 ⟨cv2, sv, rfl, _, s5, o5⟩
   have OO5 := hide (Old.trans O4.out o5)
   have S5 := hide s5.sl
   obtain ⟨s, hs⟩ : ∃ s, Hid (mRow L2 M = s) := ⟨_, hide rfl⟩
   rw [hs.out] at S5 HUR2
   have O5 := hide (Old.trans O1.out OO5.out)
   have C5 := hide (Sl.old C1.out OO5.out)
   have R5 := hide (Sl.old R1.out OO5.out)
   clear s5 o5 CM3 own4 BX4 O4 O2 y1 y2 y3 y4
   obtain ⟨t2, ht2⟩ : ∃ t, Hid ((objC cols s).flat = t) := ⟨_, hide rfl⟩
   have HTX2 := hide (show TextsOk t2 by rw [← ht2.out]; exact objC_texts OK.out.named HUR2.out)
   have HRT2 := hide (show RowT cols s t2 0 by rw [← ht2.out]; exact RowT_fine OK.out.named HUR2.out (by have := OK.out.few; omega))
   have HSM := hide (fun (B : Bool) (hB : SameT t t2 B) => show B = sameRow r s from same_rows OK.out.named OK.out.row HUR2.out (by have := OK.out.few; omega) (by rw [ht.out, ht2.out]; exact hB))
   have SI5 := hide (show RowIs w5 sv s from S5.out)
   clear S5
   go_wp2_with fail
   refine (tapeR_run cv _ cols r t 0 w5 C5.out R5.out OK.out.names (by have := OK.out.few; omega) (HT.out.old O5.out) HRT.out).mono ?_
   rintro e w6 ⟨v6, rfl, t6, o6⟩
   have OO6 := hide o6
   have O6 := hide (Old.trans O5.out o6)
   have T6 := hide t6.sl
   clear t6 o6
   go_wp2_with fail
   refine (tapeR_run cv sv cols s t2 0 w6 (Sl.old C5.out OO6.out) (Sl.old SI5.out OO6.out) OK.out.names (by have := OK.out.few; omega) (HT.out.old O6.out) HRT2.out).mono ?_
   rintro e w7 ⟨v7, rfl, t7, o7⟩
   have OO7 := hide (Old.trans OO6.out o7)
   have O7 := hide (Old.trans O6.out o7)
   have T7 := hide t7.sl
   have T67 := hide (Sl.old T6.out o7)
   clear t7 o7
   go_wp2_with fail
   refine (same_run v6 v7 t t2 w7 T67.out T7.out HTX.out HTX2.out (HT.out.old O7.out)).mono ?_
   rintro e w8 ⟨B, hB, rfl, o8⟩
   obtain rfl := HSM.out B hB
   have OO8 := hide (Old.trans OO7.out o8)
   have O8 := hide (Old.trans O7.out o8)
   clear o8 hB
   have EQ := hide (eqRow (.slice AR M cr) sv r s w8 (Sl.old R5.out OO8.out) (Sl.old SI5.out OO8.out))
   clear HSM
   generalize sameRow r s = b at *
   have hbb : (b == b) = true := by simp
   go_wp2_with fail
   refine EQ.out.mono ?_
   rintro e w9 ⟨rfl, o9⟩
   have O9 := hide (Old.trans O8.out o9)
   clear o9
   go_wp2_with fail
   refine (CW.out _ O9.out).mono ?_
   rintro e w10 ⟨rfl, o10⟩
   have O10 := hide (Old.trans O9.out o10)
   clear o10
   go_wp2_with fail
   go_ret
   exact ⟨rfl, O10.out⟩
end Go.Proofs.YthlfljmfggmfdaaGreatDoor
