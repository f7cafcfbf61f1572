/-  -/
import Derived.Test.YthlfljmfggmfdaaGreatDoorQf14
import Derived.Test.YthlfljmfggmfdaaGreatDoorQf13
import Derived.Laws.ResultCell
import Derived.Deep.RegionHeld3
import Derived.Test.YthlfljmfggmfdaaGreatDoorQf10
/-! ###  -/
namespace Go.Proofs.YthlfljmfggmfdaaGreatDoor
open Go.RowKit
theorem named_iff (cols : List Col) : namedB cols = true ↔ ∀ i, (hi : i < cols.length) → isName (cols[i]).name = true ∧ ∀ k, (hk : k < i) → (cols[k]).name ≠ (cols[i]).name := by
 unfold namedB
 rw [decide_eq_true_eq]
 unfold Named
 rw [List.Nodup, List.pairwise_iff_getElem]
 constructor
 · rintro ⟨h1, h2⟩ i hi
   refine ⟨h1 _ (List.getElem_mem hi), fun k hk => ?_⟩
   have := h2 k i (by simp; omega) (by simpa using hi) hk
   simpa using this
 · intro h
   refine ⟨fun c hc => ?_, fun k i hk hi hki => ?_⟩
   · obtain ⟨i, hi, rfl⟩ := List.mem_iff_getElem.1 hc
     exact (h i hi).1
   · have := (h i (by simpa using hi)).2 k hki
     simpa using this
theorem str_ne {a b : ByteArray} (h : a ≠ b) : (a.toList == b.toList) = false := by
 rw [beq_eq_false_iff_ne]
 intro e
 exact h (bytesD_ext (by rw [← ByteArray.toList_eq, ← ByteArray.toList_eq, e]))
end Go.Proofs.YthlfljmfggmfdaaGreatDoor

/-! ###  -/
namespace Go.Proofs.YthlfljmfggmfdaaGreatDoor
open Go.RowKit
theorem results_box2 {fn : Func} {p u : Tmp} (h : fn.results = #[.cell p 38, .tmp u]) (tmps : Array Value) (w : World) (b : Nat) (v0 v1 v2 : Value) (hp : tmps.getD p undef = .pointer (some ⟨b, 0, none⟩)) (hb : w.heap[b]? = some (.cells #[v0, v1, v2] 38)) :
 (results fn tmps).run Tryz.prog w = .ok (.tuple #[.agg #[v0, v1, v2], tmps.getD u undef]) w := by
 rw [results_cell_tmp h, hp]
 simp [asAddr, Result.andThen, run_loadVar_row w b 38 38 #[v0, v1, v2] (0, 0) _ hb Tryz.underlying38 rfl cellSize]
theorem xT_null (l : List UInt8) : ((xT l).toList == (⟨#[110, 117, 108, 108]⟩ : ByteArray).toList) = false := by
 rw [ByteArray.toList_eq, ByteArray.toList_eq]
 simp [xT]
theorem xT_null2 (l : List UInt8) : ((xT l).toList == [110, 117, 108, 108]) = false := by
 rw [ByteArray.toList_eq]
 simp [xT]
theorem xhex_xT (l : List UInt8) : xhex ⟨(unhexP l).toArray⟩ = xT (hexL (unhexP l)) := by simp [xhex, xT]
theorem xT_inj {a b : List UInt8} (h : xT a = xT b) : a = b := by
 have := congrArg (fun x : ByteArray => x.data.toList) h
 simpa [xT] using this
def readOk (l : List UInt8) : Prop := unhexL l = some (unhexP l) ∧ (unhexP l).length ≤ 1024
instance (l : List UInt8) : Decidable (readOk l) := by unfold readOk; exact inferInstance
def readV (l : List UInt8) : Value := if readOk l then .tuple #[Cl ⟨false, 0, ⟨(unhexP l).toArray⟩⟩, .int .i64 0] else .tuple #[Cl ⟨false, 0, ⟨#[]⟩⟩, .int .i64 4]
theorem szB_len (l : List UInt8) : szB ⟨false, 0, ⟨l.toArray⟩⟩ = decide (l.length ≤ 1024) := by simp [szB, ByteArray.size]
set_option maxRecDepth 100000 in
set_option maxHeartbeats 4000000 in
theorem read5_run (l : List UInt8) (hl : l.length ≤ 1073741824) (w : World) (hT : Tabs w) : Calls Tryz.prog 92 #[Ty 5 false, .string (xT l)] w (Ret (readV l) w) := by
 have HT := hide hT
 have CM := hide (fun w' => (show Calls Tryz.prog 43 #[Ty 5 false] w' (Ret (.bool true) w') from may_run 5 false w'))
 have CO := hide (fun w' => of_5 false w')
 have CU := hide (fun w' => unhex_run l hl w')
 have CT := hide (fun (w' : World) (o : Old w w') => text5_run false 0 ⟨(unhexP l).toArray⟩ w' (hT.old o))
 have hnn := xT_null l
 have hnn2 := xT_null2 l
 have HX := hide (xhex_xT l)
 have HI := hide (fun (h : hexL (unhexP l) = l) => hex_pairs.1 h)
 have HJ := hide (fun (h : unhexL l = some (unhexP l)) => show xT (hexL (unhexP l)) = xT l by rw [hex_pairs.2 h])
 have HK := hide (fun (h : xT (hexL (unhexP l)) = xT l) => xT_inj h)
 rw [szB_len] at CT
 have hf2 := field_2
 obtain ⟨P, hP⟩ : ∃ P : List UInt8, unhexP l = P := ⟨_, rfl⟩
 have HR := hide (show readV l = if unhexL l = some P ∧ P.length ≤ 1024 then .tuple #[Cl ⟨false, 0, ⟨P.toArray⟩⟩, .int .i64 0] else .tuple #[Cl ⟨false, 0, ⟨#[]⟩⟩, .int .i64 4] by rw [← hP]; rfl)
 obtain ⟨V, hV⟩ : ∃ V, readV l = V := ⟨_, rfl⟩
 rw [hP] at CU CT HX HI HJ HK
 rw [hV] at HR ⊢
 obtain ⟨X, hX⟩ : ∃ X, xT l = X := ⟨_, rfl⟩
 rw [hX] at CU hnn hnn2 HK HJ ⊢
 obtain ⟨Y, hY⟩ : ∃ Y, xhex ⟨P.toArray⟩ = Y := ⟨_, rfl⟩
 rw [hY] at CT HX
 clear hT hP hV hX hY
 unfold Ret Cl Ty at *
 go_enter Tryz.func92, Tryz.ntmps92
 go_wp2_with fail
 refine (CM.out _).mono ?_
 rintro e w1 ⟨rfl, o1⟩
 have O1 := hide (Old.trans (Old.alloc (Old.alloc (Old.refl w) _) _) o1)
 have hsz : (w.alloc (.cells #[.int .i64 5, .bool false] 54)).heap.size = w.heap.size + 1 := by simp
 have T1 := hide (show w1.heap[w.heap.size]? = some (.cells #[.int .i64 5, .bool false] 54) from (o1.block _ (by simp; omega)).trans (((Old.alloc (Old.refl _) _).block _ (by simp)).trans (heap_alloc_new _ _)))
 have B1 := hide (show CBox w1 (w.heap.size + 1) ⟨false, 0, ⟨#[]⟩⟩ from (o1.block _ (by simp)).trans (by rw [← hsz]; exact heap_alloc_new _ _))
 clear o1 hsz
 have t0 := cell_of_heap (i := 0) T1.out
 have t1 := cell_of_heap (i := 1) T1.out
 go_wp2_with fail
 refine (CO.out _).mono ?_
 rintro e w2 ⟨rfl, o2⟩
 have O2 := hide (Old.trans O1.out o2)
 have T2 := hide ((o2.block _ (block_lt T1.out)).trans T1.out)
 have B2 := hide (B1.out.old o2)
 clear o2 t0 t1 T1 B1
 go_wp2_with fail
 refine (CU.out _).mono ?_
 rintro e w3 ⟨rfl, o3⟩
 have O3 := hide (Old.trans O2.out o3)
 obtain ⟨w4, hw4⟩ : ∃ w4, w4 = w3.alloc (.cells #[.bool false, .int .i64 0, .string ⟨P.toArray⟩] 38) := ⟨_, rfl⟩
 have O4 := hide (show Old w w4 by rw [hw4]; exact Old.alloc O3.out _)
 have T4 := hide (show w4.heap[w.heap.size]? = some (.cells #[.int .i64 5, .bool false] 54) by rw [hw4]; exact ((Old.alloc (Old.refl w3) _).block _ (Nat.lt_of_lt_of_le (block_lt T2.out) o3.size)).trans ((o3.block _ (block_lt T2.out)).trans T2.out))
 have B4 := hide (show CBox w4 (w.heap.size + 1) ⟨false, 0, ⟨#[]⟩⟩ by rw [hw4]; exact (B2.out.old o3).old (Old.alloc (Old.refl _) _))
 have C4 := hide (show CBox w4 w3.heap.size ⟨false, 0, ⟨P.toArray⟩⟩ by rw [hw4]; exact heap_alloc_new _ _)
 clear o3 T2 B2
 go_upto_region 4 with fail
 rw [← hw4]
 clear hw4
 have t0 := cell_of_heap (i := 0) T4.out
 have t1 := cell_of_heap (i := 1) T4.out
 obtain ⟨c0, c1, c2⟩ := C4.out.cells
 go_wp2_with fail
 refine (CT.out _ O4.out).mono ?_
 rintro e w5 ⟨rfl, o5⟩
 have O5 := hide (Old.trans O4.out o5)
 have B5 := hide (B4.out.old o5)
 have C5 := hide (C4.out.old o5)
 clear o5 t0 t1 c0 c1 c2 T4 B4 C4 CT
 obtain ⟨b0, b1, b2⟩ := B5.out.cells
 have fz := B5.out.free
 have hso := hide (fun v0 v1 v2 => show Old w (((w5.setCell ⟨w.heap.size + 1, 0, none⟩ v0).setCell ⟨w.heap.size + 1, 1, none⟩ v1).setCell ⟨w.heap.size + 1, 2, none⟩ v2) from Old.setCell (Old.setCell (Old.setCell O5.out (Nat.le_succ _) _) (Nat.le_succ _) _) (Nat.le_succ _) _)
 have hsh := hide (fun v0 v1 v2 => set3_heap B5.out v0 v1 v2)
 by_cases hsz : P.length ≤ 1024
 · by_cases hxy : Y = X
   · obtain ⟨c0, c1, c2⟩ := C5.out.cells
     have hu := HI.out (HK.out (by rw [← HX.out]; exact hxy))
     have HV := hide (HR.out.trans (if_pos ⟨hu, hsz⟩))
     have hd : decide (P.length ≤ 1024) = true := decide_eq_true hsz
     subst hxy
     clear HX HK HI HJ HR hu
     go_wp2_with fail
     refine bodyPost_ret (results_box2 rfl _ _ (w.heap.size + 1) _ _ _ rfl (hsh.out _ _ _)) rfl ?_
     exact ⟨by rw [HV.out]; rfl, hso.out _ _ _⟩
   · have hne := str_ne hxy
     have HV := hide (HR.out.trans (if_neg (fun h => hxy (by rw [HX.out, HJ.out h.1]))))
     have hd : decide (P.length ≤ 1024) = true := decide_eq_true hsz
     clear HX HK HI HJ HR
     go_wp2_with fail
     refine bodyPost_ret (results_box2 rfl _ _ (w.heap.size + 1) _ _ _ rfl (hsh.out _ _ _)) rfl ?_
     exact ⟨by rw [HV.out]; rfl, hso.out _ _ _⟩
 · have HV := hide (HR.out.trans (if_neg (fun h => hsz h.2)))
   have hd : decide (P.length ≤ 1024) = false := decide_eq_false hsz
   clear HX HK HI HJ HR
   go_wp2_with fail
   refine bodyPost_ret (results_box2 rfl _ _ (w.heap.size + 1) _ _ _ rfl (hsh.out _ _ _)) rfl ?_
   exact ⟨by rw [HV.out]; rfl, hso.out _ _ _⟩
end Go.Proofs.YthlfljmfggmfdaaGreatDoor

/-! ###  -/
namespace Go.Proofs.YthlfljmfggmfdaaGreatDoor
open Go.RowKit
def partsC (cols : List Col) (r : List Cell) : List (List Nd) := (cols.zip r).map fun x => leafC x.1.kind x.2
def RowT (cols : List Col) (r : List Cell) (out : List Nd) (e : Int) : Prop :=
 (namedB cols = false ∧ out = [] ∧ e = 2) ∨ (namedB cols = true ∧ rowErr vU cols r ≠ 0 ∧ out = [] ∧ e = rowErr vU cols r) ∨
 (namedB cols = true ∧ rowErr vU cols r = 0 ∧ ObjT (cols.map Col.name) (partsC cols r) out e)
theorem name_low {s : ByteArray} (h : isName s = true) : ∀ b ∈ s.data.toList, b.toNat < 128 := by
 intro b hb
 obtain ⟨_, _, h3⟩ := (isName_iff s).1 h
 obtain ⟨i, hi⟩ := List.mem_iff_getElem?.1 hb
 have hil : i < s.size := by
  rw [show s.size = s.data.toList.length from Array.length_toList.symm]
  exact (List.getElem?_eq_some_iff.1 hi).1
 have hv := (list_get s hil).symm.trans hi
 injection hv with hv
 have := h3 i hil
 rw [okAt, hv] at this
 unfold letB moreB at this
 omega
theorem name_vU {s : ByteArray} (h : isName s = true) : vU s = true := by
 show Lib.validD s.data.toList = true
 rw [Lib.validD_ascii s.data.toList.length _ (fun b hb => name_low h b (List.mem_of_mem_take hb)), List.drop_length]
 rfl
theorem name_size {s : ByteArray} (h : isName s = true) : s.size ≤ 32 := ((isName_iff s).1 h).2.1
theorem cellH_leaf {k : Int} {null : Bool} {c : Cell} (hk : mayK k = true) (h : cellOk vU k null c = true) : leafOk vU (cellH k c) := by
 obtain ⟨cn, n, s⟩ := c
 cases cn
 · have h5 : k = 1 ∨ k = 2 ∨ k = 3 ∨ k = 4 ∨ k = 5 := by simp [mayK] at hk; omega
   simp only [cellOk, Bool.false_eq_true, if_false] at h
   rcases h5 with rfl | rfl | rfl | rfl | rfl
   · refine .inl ⟨?_, rfl, rfl⟩
     show (if n = 1 then (3 : Int) else 2) = 1 ∨ (if n = 1 then (3 : Int) else 2) = 2 ∨ (if n = 1 then (3 : Int) else 2) = 3
     split <;> simp
   · exact .inr (.inl ⟨rfl, rfl⟩)
   · exact .inr (.inl ⟨rfl, rfl⟩)
   · refine .inr (.inr ⟨rfl, rfl, ?_⟩)
     simp [someOk] at h
     exact h.2
   · exact .inr (.inr ⟨rfl, rfl, vU_hex s⟩)
 · exact .inl ⟨.inl rfl, rfl, rfl⟩
theorem cellH_size {k : Int} {null : Bool} {c : Cell} (hk : mayK k = true) (h : cellOk vU k null c = true) : (cellH k c).s.size ≤ 2048 := by
 obtain ⟨cn, n, s⟩ := c
 cases cn
 · have h5 : k = 1 ∨ k = 2 ∨ k = 3 ∨ k = 4 ∨ k = 5 := by simp [mayK] at hk; omega
   simp only [cellOk, Bool.false_eq_true, if_false] at h
   rcases h5 with rfl | rfl | rfl | rfl | rfl
   · show (0 : Nat) ≤ _; omega
   · show (0 : Nat) ≤ _; omega
   · show (0 : Nat) ≤ _; omega
   · simp [someOk] at h
     show s.size ≤ _
     omega
   · simp [someOk] at h
     show (hexOf s).size ≤ _
     have h2 := h.2
     rw [show s.size = s.data.toList.length from Array.length_toList.symm] at h2
     simp only [hexOf, ByteArray.size, List.size_toArray, hexL_len]
     omega
 · show (0 : Nat) ≤ _; omega
def leafJC (h : Hd) : J := .mk ⟨h.kind, none_, h.n, h.s⟩ []
theorem leaf_may {h : Hd} (hl : leafOk vU h) : May (leafT h.kind h.n h.s) (leafJC h) := by
 refine ⟨⟨?_, rfl, rfl⟩, by show 1 ≤ 4000; omega, by show 0 + 1 ≤ 64; omega⟩
 unfold leafJC
 rw [J.Ok]
 exact .inl ⟨hl, rfl⟩
def memC (c : Col) (x : Cell) : J := .mk ⟨(cellH c.kind x).kind, c.name, (cellH c.kind x).n, (cellH c.kind x).s⟩ []
def memsC (cols : List Col) (r : List Cell) : List J := (cols.zip r).map fun x => memC x.1 x.2
def objC (cols : List Col) (r : List Cell) : J := .mk ⟨7, none_, 0, none_⟩ (memsC cols r)
theorem partsC_len {cols : List Col} {r : List Cell} (h : cols.length = r.length) : (partsC cols r).length = cols.length := by simp [partsC, h]
theorem partsC_at {cols : List Col} {r : List Cell} {i : Nat} (h1 : i < cols.length) (h2 : i < r.length) (h : i < (partsC cols r).length) : (partsC cols r)[i] = leafC cols[i].kind r[i] := by simp [partsC]
theorem rekeys_C : ∀ (cols : List Col) (r : List Cell), cols.length = r.length → rekeys (cols.map Col.name) ((cols.zip r).map fun x => leafJC (cellH x.1.kind x.2)) = memsC cols r
 | [], [], _ => rfl
 | c :: cols, x :: r, h => by
   have := rekeys_C cols r (by simpa using h)
   simp only [memsC, List.map_cons, List.zip_cons_cons, rekeys] at *
   rw [this]
   rfl
theorem flats_leaf : ∀ (l : List J), (∀ j ∈ l, j.kids = []) → (J.flats l).length = l.length ∧ J.deeps l ≤ 1
 | [], _ => ⟨rfl, by simp [J.deeps]⟩
 | .mk h k :: l, hl => by
   have h1 := flats_leaf l (fun j hj => hl j (by simp [hj]))
   have h2 : k = [] := hl (.mk h k) (by simp)
   subst h2
   simp only [J.flats, J.flat, J.deeps, J.deep, List.length_append, List.length_cons, List.length_nil]
   omega
theorem memsC_kids (cols : List Col) (r : List Cell) : ∀ j ∈ memsC cols r, j.kids = [] := by
 intro j hj
 simp only [memsC, List.mem_map] at hj
 obtain ⟨x, _, rfl⟩ := hj
 rfl
theorem memsC_len {cols : List Col} {r : List Cell} (h : cols.length = r.length) : (memsC cols r).length = cols.length := by simp [memsC, h]
theorem names_nodup {cols : List Col} (h : namedB cols = true) : (cols.map Col.name).Nodup := (of_decide_eq_true h).2
theorem names_ok {cols : List Col} (h : namedB cols = true) : ∀ c ∈ cols, isName c.name = true := (of_decide_eq_true h).1
theorem take_key {l : List ByteArray} (h : l.Nodup) {i : Nat} (hi : i < l.length) : hasKey (l.take i) l[i] = false := by
 rw [hasKey_not]
 intro hm
 obtain ⟨j, hj, e⟩ := List.mem_iff_getElem.1 hm
 simp only [List.length_take] at hj
 rw [List.getElem_take] at e
 have := (List.pairwise_iff_getElem.1 h) j i (by omega) hi (by omega)
 exact this e
theorem cells_ok {cols : List Col} {r : List Cell} (h : rowErr vU cols r = 0) {i : Nat} (hi : i < cols.length) (hi' : i < r.length) : mayK cols[i].kind = true ∧ cellOk vU cols[i].kind cols[i].null r[i] = true := cellErr_zero.1 ((rowErr_zero.1 h).2 i hi hi')
theorem row_objT {cols : List Col} {r : List Cell} (hn : namedB cols = true) (hr : rowErr vU cols r = 0) (hl : cols.length ≤ 3999) : ObjT (cols.map Col.name) (partsC cols r) (objC cols r).flat 0 := by
 have hlen := (rowErr_zero.1 hr).1
 refine .inr ⟨by rw [partsC_len hlen]; simp, .inr ⟨fun i hi => ?_, (cols.zip r).map (fun x => leafJC (cellH x.1.kind x.2)), ⟨by rw [partsC_len hlen]; simp [hlen], fun i hi hi' => ?_⟩, ?_⟩⟩
 · rw [partsC_len hlen] at hi
   have hi2 : i < (cols.map Col.name).length := by simpa using hi
   have hir : i < r.length := by omega
   rw [objErr_chk hi2 (by rw [partsC_len hlen]; exact hi) ?_ (take_key (names_nodup hn) hi2), partsC_at hi hir]
   · obtain ⟨c1, c2⟩ := cells_ok hr hi hir
     exact chkT_may (leaf_may (cellH_leaf c1 c2))
   · rw [List.getElem_map]
     exact name_vU (names_ok hn _ (List.getElem_mem hi))
 · rw [partsC_len hlen] at hi
   have hir : i < r.length := by omega
   obtain ⟨c1, c2⟩ := cells_ok hr hi hir
   rw [partsC_at hi hir]
   simp only [List.getElem_map, List.getElem_zip]
   exact leaf_may (cellH_leaf c1 c2)
 · rw [rekeys_C _ _ hlen]
   obtain ⟨f1, f2⟩ := flats_leaf _ (memsC_kids cols r)
   rw [memsC_len hlen] at f1
   exact .inr (.inr ⟨by rw [f1]; omega, by omega, rfl, rfl⟩)
theorem RowT_fine {cols : List Col} {r : List Cell} (hn : namedB cols = true) (hr : rowErr vU cols r = 0) (hl : cols.length ≤ 3999) : RowT cols r (objC cols r).flat 0 := .inr (.inr ⟨hn, hr, row_objT hn hr hl⟩)
theorem partsC_texts {cols : List Col} {r : List Cell} (hr : rowErr vU cols r = 0) : ∀ p ∈ partsC cols r, TextsOk p := by
 intro p hp
 obtain ⟨i, hi, rfl⟩ := List.mem_iff_getElem.1 hp
 have hlen := (rowErr_zero.1 hr).1
 have hi2 := hi
 rw [partsC_len hlen] at hi2
 rw [partsC_at hi2 (by omega)]
 obtain ⟨c1, c2⟩ := cells_ok hr hi2 (show i < r.length by omega)
 have := cellH_size c1 c2
 intro x hx
 simp only [leafC, leafT, List.mem_singleton] at hx
 subst hx
 exact ⟨by show (0 : Nat) ≤ _; omega, by show (cellH _ _).s.size ≤ _; unfold maxLen; omega⟩
theorem keysOk_nodup {V : ByteArray → Bool} : ∀ {l had : List ByteArray}, (∀ k ∈ l, V k = true) → l.Nodup → (∀ k ∈ l, k ∉ had) → keysOk V had l
 | [], _, _, _, _ => trivial
 | k :: l, had, h1, h2, h3 => by
   rw [List.nodup_cons] at h2
   refine ⟨h1 k (by simp), h3 k (by simp), keysOk_nodup (fun x hx => h1 x (by simp [hx])) h2.2 fun x hx => ?_⟩
   rw [List.mem_append, List.mem_singleton]
   rintro (h | h)
   · exact h3 x (by simp [hx]) h
   · subst h
     exact h2.1 hx
theorem oks_all {V : ByteArray → Bool} : ∀ {l : List J}, (∀ j ∈ l, J.Ok V j) → J.Oks V l
 | [], _ => trivial
 | j :: l, h => ⟨h j (by simp), oks_all fun x hx => h x (by simp [hx])⟩
theorem memsC_keys {cols : List Col} {r : List Cell} (h : cols.length = r.length) : (memsC cols r).map J.key = cols.map Col.name := by
 unfold memsC
 rw [List.map_map]
 have : (J.key ∘ fun x : Col × Cell => memC x.1 x.2) = Col.name ∘ Prod.fst := rfl
 rw [this, ← List.map_map, List.map_fst_zip (by omega)]
theorem objC_may {cols : List Col} {r : List Cell} (hn : namedB cols = true) (hr : rowErr vU cols r = 0) (hl : cols.length ≤ 3999) : May (objC cols r).flat (objC cols r) := by
 have hlen := (rowErr_zero.1 hr).1
 obtain ⟨f1, f2⟩ := flats_leaf _ (memsC_kids cols r)
 rw [memsC_len hlen] at f1
 refine ⟨⟨?_, rfl, rfl⟩, by rw [objC, J.flat, List.length_cons, f1]; omega, by rw [objC, J.deep]; omega⟩
 rw [objC, J.Ok]
 refine .inr (.inr ⟨rfl, ⟨rfl, rfl⟩, oks_all fun j hj => ?_, ?_⟩)
 · simp only [memsC, List.mem_map] at hj
   obtain ⟨x, hx, rfl⟩ := hj
   obtain ⟨i, hi, rfl⟩ := List.mem_iff_getElem.1 hx
   simp only [List.length_zip] at hi
   simp only [List.getElem_zip]
   obtain ⟨c1, c2⟩ := cells_ok hr (show i < cols.length by omega) (show i < r.length by omega)
   rw [memC, J.Ok]
   exact .inl ⟨cellH_leaf c1 c2, rfl⟩
 · rw [memsC_keys hlen]
   refine keysOk_nodup (fun k hk => ?_) (names_nodup hn) (fun _ _ h => by cases h)
   obtain ⟨c, hc, rfl⟩ := List.mem_map.1 hk
   exact name_vU (names_ok hn c hc)
def findM (l : List J) (k : ByteArray) : Option J := l.find? fun j => decide (j.key = k)
def takenM (l : List J) (c : Col) : Option Cell := (findM l c.name).bind fun j => takenC vU c.kind c.null j.hd
def takenAll : List Col → List J → Option (List Cell)
 | [], _ => some []
 | c :: cs, l => (takenM l c).bind fun x => (takenAll cs l).map fun r => x :: r
def RowOf (cols : List Col) (t : List Nd) (out : List Cell) (e : Int) : Prop :=
 ((namedB cols = false ∨ ∃ c ∈ cols, mayK c.kind = false) ∧ out = [] ∧ e = 2) ∨
 (namedB cols = true ∧ (∀ c ∈ cols, mayK c.kind = true) ∧
   ((chkT t ≠ 0 ∧ out = [] ∧ e = chkT t) ∨ ∃ h l, May t (.mk h l) ∧
      (((h.kind ≠ 7 ∨ l.length ≠ cols.length ∨ ∃ c ∈ cols, findM l c.name = none) ∧ out = [] ∧ e = 200) ∨
       (h.kind = 7 ∧ l.length = cols.length ∧ (∀ c ∈ cols, findM l c.name ≠ none) ∧ ((takenAll cols l = none ∧ out = [] ∧ e = 90) ∨ (takenAll cols l = some out ∧ e = 0))))))
theorem RowOf_any (cols : List Col) (t : List Nd) : ∃ out e, RowOf cols t out e := by
 by_cases h1 : namedB cols = false ∨ ∃ c ∈ cols, mayK c.kind = false
 · exact ⟨[], 2, .inl ⟨h1, rfl, rfl⟩⟩
 · have hn : namedB cols = true := by
    cases h : namedB cols
    · exact absurd (.inl h) h1
    · rfl
   have hk : ∀ c ∈ cols, mayK c.kind = true := fun c hc => by
    cases h : mayK c.kind
    · exact absurd (.inr ⟨c, hc, h⟩) h1
    · rfl
   by_cases h0 : chkT t = 0
   · obtain ⟨⟨h, l⟩, hm⟩ := may_of h0
     by_cases h2 : h.kind ≠ 7 ∨ l.length ≠ cols.length ∨ ∃ c ∈ cols, findM l c.name = none
     · exact ⟨[], 200, .inr ⟨hn, hk, .inr ⟨h, l, hm, .inl ⟨h2, rfl, rfl⟩⟩⟩⟩
     · have h3 : h.kind = 7 ∧ l.length = cols.length ∧ ∀ c ∈ cols, findM l c.name ≠ none := by
        refine ⟨Classical.byContradiction fun q => h2 (.inl q), Classical.byContradiction fun q => h2 (.inr (.inl q)), fun c hc q => h2 (.inr (.inr ⟨c, hc, q⟩))⟩
       cases ht : takenAll cols l with
       | none => exact ⟨[], 90, .inr ⟨hn, hk, .inr ⟨h, l, hm, .inr ⟨h3.1, h3.2.1, h3.2.2, .inl ⟨ht, rfl, rfl⟩⟩⟩⟩⟩
       | some r => exact ⟨r, 0, .inr ⟨hn, hk, .inr ⟨h, l, hm, .inr ⟨h3.1, h3.2.1, h3.2.2, .inr ⟨ht, rfl⟩⟩⟩⟩⟩
   · exact ⟨[], _, .inr ⟨hn, hk, .inl ⟨h0, rfl, rfl⟩⟩⟩
theorem takenAll_append (a b : List Col) (l : List J) : takenAll (a ++ b) l = (takenAll a l).bind fun x => (takenAll b l).map fun y => x ++ y := by
 induction a with
 | nil => cases h : takenAll b l <;> simp [takenAll, h]
 | cons c a ih =>
   rw [List.cons_append, takenAll, takenAll, ih]
   cases takenM l c <;> cases takenAll a l <;> cases takenAll b l <;> simp
theorem takenAll_len : ∀ {cols : List Col} {l : List J} {r : List Cell}, takenAll cols l = some r → r.length = cols.length
 | [], l, r, h => by simp [takenAll] at h; subst h; rfl
 | c :: cols, l, r, h => by
   rw [takenAll] at h
   cases h1 : takenM l c <;> rw [h1] at h <;> simp at h
   obtain ⟨r', h2, rfl⟩ := h
   simp [takenAll_len h2]
theorem takenAll_next {cols : List Col} {l : List J} {k : Nat} {r : List Cell} (hk : k < cols.length) (h : takenAll (cols.take k) l = some r) : takenAll (cols.take (k + 1)) l = (takenM l cols[k]).map fun x => r ++ [x] := by
 rw [List.take_succ_eq_append_getElem hk, takenAll_append, h]
 simp only [takenAll]
 cases takenM l cols[k] <;> simp
theorem takenAll_none {cols : List Col} {l : List J} {k : Nat} (h : takenAll (cols.take k) l = none) : takenAll cols l = none := by
 rw [← List.take_append_drop k cols, takenAll_append, h]
 rfl
theorem find_unique : ∀ {l : List J} {j : J}, (l.map J.key).Nodup → j ∈ l → findM l j.key = some j
 | [], _, _, h => by cases h
 | i :: l, j, hn, h => by
   rw [List.map_cons, List.nodup_cons] at hn
   unfold findM
   rw [List.find?_cons]
   by_cases e : i.key = j.key
   · rw [decide_eq_true e]
     rcases List.mem_cons.1 h with h | h
     · rw [h]
     · exact absurd (List.mem_map.2 ⟨j, h, e.symm⟩) hn.1
   · rw [decide_eq_false e]
     rcases List.mem_cons.1 h with h | h
     · exact absurd (by rw [h]) e
     · exact find_unique hn.2 h
theorem takenM_mem {cols : List Col} {r : List Cell} (hr : rowErr vU cols r = 0) {l : List J} (hl : ∀ x ∈ memsC cols r, findM l x.key = some x) {i : Nat} (h1 : i < cols.length) (h2 : i < r.length) : takenM l cols[i] = some r[i] := by
 obtain ⟨c1, c2⟩ := cells_ok hr h1 h2
 have hx := hl (memC cols[i] r[i]) (by
  unfold memsC
  rw [List.mem_map]
  exact ⟨(cols[i], r[i]), List.mem_iff_getElem.2 ⟨i, by simp; omega, by simp⟩, rfl⟩)
 unfold takenM
 rw [show cols[i].name = (memC cols[i] r[i]).key from rfl, hx]
 have := takenC_cellH c1 c2
 unfold takenC at *
 exact this
theorem takenAll_mems {cols : List Col} {r : List Cell} (hr : rowErr vU cols r = 0) {l : List J} (hl : ∀ x ∈ memsC cols r, findM l x.key = some x) : takenAll cols l = some r := by
 have hlen := (rowErr_zero.1 hr).1
 have key : ∀ k, k ≤ cols.length → takenAll (cols.take k) l = some (r.take k) := by
  intro k
  induction k with
  | zero => intro _; rfl
  | succ k ih =>
    intro hk
    rw [takenAll_next (by omega) (ih (by omega)), takenM_mem hr hl (by omega) (show k < r.length by omega), List.take_succ_eq_append_getElem (show k < r.length by omega)]
    rfl
 have := key cols.length (Nat.le_refl _)
 rwa [List.take_length, hlen, List.take_length] at this
theorem RowOf_back {cols : List Col} {r : List Cell} (hn : namedB cols = true) (hr : rowErr vU cols r = 0) {t : List Nd} {l : List J} (hm : May t (.mk ⟨7, none_, 0, none_⟩ l)) (hp : ∀ x ∈ memsC cols r, findM l x.key = some x) (hlen : l.length = cols.length) : RowOf cols t r 0 := by
 have hlr := (rowErr_zero.1 hr).1
 refine .inr ⟨hn, fun c hc => ?_, .inr ⟨_, l, hm, .inr ⟨rfl, hlen, fun c hc => ?_, .inr ⟨takenAll_mems hr hp, rfl⟩⟩⟩⟩
 · obtain ⟨i, hi, rfl⟩ := List.mem_iff_getElem.1 hc
   exact (cells_ok hr hi (by omega)).1
 · obtain ⟨i, hi, rfl⟩ := List.mem_iff_getElem.1 hc
   have := takenM_mem hr hp hi (by omega)
   intro h
   unfold takenM at this
   rw [h] at this
   cases this
theorem RowOf_mems {cols : List Col} {r : List Cell} (hn : namedB cols = true) (hr : rowErr vU cols r = 0) (hl : cols.length ≤ 3999) : RowOf cols (objC cols r).flat r 0 :=
 RowOf_back hn hr (objC_may hn hr hl) (fun x hx => find_unique (by rw [memsC_keys (rowErr_zero.1 hr).1]; exact names_nodup hn) hx) (memsC_len (rowErr_zero.1 hr).1)
end Go.Proofs.YthlfljmfggmfdaaGreatDoor

/-! ###  -/
namespace Go.Proofs.YthlfljmfggmfdaaGreatDoor
open Go.RowKit
abbrev Nv (h : Hd) (z : Int) : Value := .agg #[.int .i64 h.kind, .string h.key, .int .i64 h.n, .string h.s, .int .i64 z]
structure SB (w0 : World) (k : Int) (nl : Bool) (c : Cell) (w' : World) : Prop where
 old : Old w0 w'
 ty : w'.heap[w0.heap.size]? = some (.cells #[.int .i64 k, .bool nl] 54)
 res : ∃ d, CBox w' (w0.heap.size + 1 + 1) d
 val : CBox w' (w0.heap.size + 1 + 1 + 1) c
section
variable {w0 a b : World} {k : Int} {nl : Bool} {c : Cell}
theorem SB.step (h : SB w0 k nl c a) (o : Old a b) : SB w0 k nl c b :=
 ⟨Old.trans h.old o, (o.block _ (block_lt h.ty)).trans h.ty, by obtain ⟨d, hd⟩ := h.res; exact ⟨d, hd.old o⟩, h.val.old o⟩
theorem SB.drew (h : SB w0 k nl c a) : SB w0 k nl c a.drew := h.step (Old.drew (Old.refl _))
theorem heap_set_other {w : World} {p i q : Nat} {v : Value} (h : p ≠ q) : (w.setCell ⟨p, i, none⟩ v).heap[q]? = w.heap[q]? := by
 simp [World.setCell, Array.getElem?_modify, h]
theorem SB.store (h : SB w0 k nl c a) (d : Cell) : SB w0 k nl c (((a.setCell ⟨w0.heap.size + 1 + 1, 0, none⟩ (.bool d.null)).setCell ⟨w0.heap.size + 1 + 1, 1, none⟩ (.int .i64 d.n)).setCell ⟨w0.heap.size + 1 + 1, 2, none⟩ (.string d.s)) := by
 have hle : w0.heap.size ≤ w0.heap.size + 1 + 1 := by omega
 refine ⟨Old.setCell (Old.setCell (Old.setCell h.old hle _) hle _) hle _, ?_, ?_, ?_⟩
 · rw [heap_set_other (by omega), heap_set_other (by omega), heap_set_other (by omega)]; exact h.ty
 · obtain ⟨e, he⟩ := h.res
   exact ⟨d, set3_heap he _ _ _⟩
 · show (World.heap _)[_]? = _
   rw [heap_set_other (by omega), heap_set_other (by omega), heap_set_other (by omega)]
   exact h.val
theorem SB.free (h : SB w0 k nl c a) (i : Nat) : a.frozen? ⟨w0.heap.size + 1 + 1, i, none⟩ = false := by obtain ⟨d, hd⟩ := h.res; exact hd.free i
theorem SB.there (h : SB w0 k nl c a) (i : Nat) (hi : i < 3) : a.cell? ⟨w0.heap.size + 1 + 1, i, none⟩ = some ((a.cell? ⟨w0.heap.size + 1 + 1, i, none⟩).getD undef) := by
 obtain ⟨d, hd⟩ := h.res
 obtain ⟨h0, h1, h2⟩ := hd.cells
 match i, hi with
 | 0, _ => rw [h0]; rfl
 | 1, _ => rw [h1]; rfl
 | 2, _ => rw [h2]; rfl
end
theorem SB.start (w : World) (k : Int) (nl : Bool) (N : Obj) (c : Cell) : SB w k nl c ((((w.alloc (.cells #[.int .i64 k, .bool nl] 54)).alloc N).alloc (.cells #[.bool false, .int .i64 0, .string ⟨#[]⟩] 38)).alloc (.cells #[.bool c.null, .int .i64 c.n, .string c.s] 38)) := by
 have e1 : ∀ o, (w.alloc o).heap.size = w.heap.size + 1 := fun o => by simp
 have e2 : ∀ o o', ((w.alloc o).alloc o').heap.size = w.heap.size + 1 + 1 := fun o o' => by simp
 have e3 : ∀ o o' o'', (((w.alloc o).alloc o').alloc o'').heap.size = w.heap.size + 1 + 1 + 1 := fun o o' o'' => by simp
 refine ⟨Old.alloc (Old.alloc (Old.alloc (Old.alloc (Old.refl _) _) _) _) _, ?_, ⟨⟨false, 0, ⟨#[]⟩⟩, ?_⟩, ?_⟩
 · exact ((Old.alloc (Old.alloc (Old.alloc (Old.refl _) _) _) _).block _ (by simp)).trans (heap_alloc_new _ _)
 · refine ((Old.alloc (Old.refl _) _).block _ (by simp)).trans ?_
   rw [← e2]
   exact heap_alloc_new _ _
 · show (World.heap _)[_]? = _
   rw [← e3]
   exact heap_alloc_new _ _
def TakenP (w : World) (k : Int) (nl : Bool) (h : Hd) (e : Ending) (w' : World) : Prop :=
 ∃ c, e = .returned (.tuple #[Cl c, .bool (takenC vU k nl h).isSome]) ∧ (∀ c', takenC vU k nl h = some c' → c = c') ∧ Old w w'
theorem taken_of {k : Int} {nl : Bool} {h : Hd} {c : Cell} (hs : saidC k h = some c) : (takenC vU k nl h).isSome = cellOk vU k nl c ∧ ∀ c', takenC vU k nl h = some c' → c = c' := by
 unfold takenC
 rw [hs]
 cases hc : cellOk vU k nl c <;> simp [hc]
theorem taken_no {k : Int} {nl : Bool} {h : Hd} (hs : saidC k h = none) : (takenC vU k nl h).isSome = false ∧ ∀ (c c' : Cell), takenC vU k nl h = some c' → c = c' := by
 unfold takenC
 rw [hs]
 simp
theorem err_ok {k : Int} {nl : Bool} {c : Cell} (hk : mayK k = true) : (cellErr vU k nl c == 0) = cellOk vU k nl c := by
 unfold cellErr
 rw [hk]
 cases cellOk vU k nl c <;> simp
set_option maxRecDepth 100000 in
set_option maxHeartbeats 4000000 in
theorem taken_null (k : Int) (nl : Bool) (key s : ByteArray) (n z : Int) (hk : mayK k = true) (w : World) (hT : Tabs w) : Calls Tryz.prog 45 #[Ty k nl, Nv ⟨1, key, n, s⟩ z] w (TakenP w k nl ⟨1, key, n, s⟩) := by
 obtain ⟨t1, t2⟩ := taken_of (nl := nl) (show saidC k ⟨1, key, n, s⟩ = some ⟨true, 0, none_⟩ from rfl)
 have T1 := hide t1
 have T2 := hide t2
 have CK := hide (fun (w' : World) (o : Old w w') => ccheck_run k nl ⟨true, 0, none_⟩ w' (hT.old o))
 have HE := err_ok (nl := nl) (c := ⟨true, 0, none_⟩) hk
 generalize cellErr vU k nl ⟨true, 0, none_⟩ = E at *
 generalize cellOk vU k nl ⟨true, 0, none_⟩ = B at *
 clear t1 t2
 unfold Ret none_ Cl Ty at CK
 simp only at CK
 unfold Ty Nv
 go_enter Tryz.func45, Tryz.ntmps45
 go_wp2_with fail
 have S0 := hide (SB.start w k nl (.cells #[.int .i64 1, .string key, .int .i64 n, .string s, .int .i64 z] 36) ⟨true, 0, ⟨#[]⟩⟩)
 obtain ⟨W, hW⟩ : ∃ W, W = ((((w.alloc (.cells #[.int .i64 k, .bool nl] 54)).alloc (.cells #[.int .i64 1, .string key, .int .i64 n, .string s, .int .i64 z] 36)).alloc (.cells #[.bool false, .int .i64 0, .string ⟨#[]⟩] 38)).alloc (.cells #[.bool true, .int .i64 0, .string ⟨#[]⟩] 38)) := ⟨_, rfl⟩
 rw [← hW] at S0 ⊢
 clear hW
 have h0 := S0.out
 have y0 : ∀ w', SB w k nl ⟨true, 0, ⟨#[]⟩⟩ w' → w'.cell? ⟨w.heap.size, 0, none⟩ = some (.int .i64 k) := fun w' q => (cell_of_heap q.ty).trans rfl
 have y1 : ∀ w', SB w k nl ⟨true, 0, ⟨#[]⟩⟩ w' → w'.cell? ⟨w.heap.size, 1, none⟩ = some (.bool nl) := fun w' q => (cell_of_heap q.ty).trans rfl
 have y2 : ∀ w', SB w k nl ⟨true, 0, ⟨#[]⟩⟩ w' → w'.cell? ⟨w.heap.size + 1 + 1 + 1, 0, none⟩ = some (.bool true) := fun w' q => q.val.cells.1
 have y3 : ∀ w', SB w k nl ⟨true, 0, ⟨#[]⟩⟩ w' → w'.cell? ⟨w.heap.size + 1 + 1 + 1, 1, none⟩ = some (.int .i64 0) := fun w' q => q.val.cells.2.1
 have y4 : ∀ w', SB w k nl ⟨true, 0, ⟨#[]⟩⟩ w' → w'.cell? ⟨w.heap.size + 1 + 1 + 1, 2, none⟩ = some (.string ⟨#[]⟩) := fun w' q => q.val.cells.2.2
 have yf : ∀ w' i, SB w k nl ⟨true, 0, ⟨#[]⟩⟩ w' → w'.frozen? ⟨w.heap.size + 1 + 1, i, none⟩ = false := fun w' i q => q.free i
 obtain ⟨f0, z0⟩ : ∃ f : World → Value, ∀ w', SB w k nl ⟨true, 0, ⟨#[]⟩⟩ w' → w'.cell? ⟨w.heap.size + 1 + 1, 0, none⟩ = some (f w') := ⟨_, fun w' q => q.there 0 (by decide)⟩
 obtain ⟨f1, z1⟩ : ∃ f : World → Value, ∀ w', SB w k nl ⟨true, 0, ⟨#[]⟩⟩ w' → w'.cell? ⟨w.heap.size + 1 + 1, 1, none⟩ = some (f w') := ⟨_, fun w' q => q.there 1 (by decide)⟩
 obtain ⟨f2, z2⟩ : ∃ f : World → Value, ∀ w', SB w k nl ⟨true, 0, ⟨#[]⟩⟩ w' → w'.cell? ⟨w.heap.size + 1 + 1, 2, none⟩ = some (f w') := ⟨_, fun w' q => q.there 2 (by decide)⟩
 have hd := hide (Old.drew h0.old)
 go_region_held3 (fun w' => SB w k nl ⟨true, 0, ⟨#[]⟩⟩ w')
  (first | assumption | (exact SB.drew h0) | (exact SB.step (SB.drew h0) o9) | (exact SB.store (by assumption) ⟨true, 0, ⟨#[]⟩⟩) | (fail "none"))
  (first
    | (go_at_call 74; (with_reducible refine (CK.out _ hd.out).mono ?_); rintro e w9 ⟨rfl, o9⟩)
    | (fail "none"))
 all_goals
  have S9 := hide (SB.step (SB.drew h0) o9)
  have O6 := hide (S9.out.store ⟨true, 0, ⟨#[]⟩⟩).old
  obtain ⟨d, hdd⟩ := S9.out.res
  clear y0 y1 y2 y3 y4 yf z0 z1 z2
  go_wp2_with fail
  refine bodyPost_ret (results_box2 rfl _ _ (w.heap.size + 1 + 1) _ _ _ rfl (set3_heap hdd _ _ _)) rfl ?_
  exact ⟨_, by rw [T1.out]; rfl, T2.out, O6.out⟩
end Go.Proofs.YthlfljmfggmfdaaGreatDoor
