/-  -/
import Derived.Test.YthlfljmfggmfdaaGreatDoorQk15
import Derived.Test.YthlfljmfggmfdaaGreatDoorQk21
import Derived.Test.YthlfljmfggmfdaaGreatDoorQk16
import Derived.Deep.RegionHeld3
import Derived.Deep.RegionWith
/-! ###  -/
namespace Go.Proofs.YthlfljmfggmfdaaGreatDoor
open Go.RowKit
def errL (cols : List Col) (r : List Cell) : List Int := (cols.zip r).map fun x => cellErr vU x.1.kind x.1.null x.2
theorem errL_len {cols : List Col} {r : List Cell} (h : cols.length = r.length) : (errL cols r).length = r.length := by simp [errL, h]
theorem errL_at {cols : List Col} {r : List Cell} {k : Nat} (h1 : k < cols.length) (h2 : k < r.length) (h3 : k < (errL cols r).length) : (errL cols r)[k] = cellErr vU cols[k].kind cols[k].null r[k] := by simp [errL]
theorem first_step {l : List Int} {k : Nat} (h : k < l.length) (hf : firstErr l = firstErr (l.drop k)) : (l[k] = 0 → firstErr l = firstErr (l.drop (k + 1))) ∧ (l[k] ≠ 0 → firstErr l = l[k]) := by
 rw [List.drop_eq_getElem_cons h, firstErr] at hf
 refine ⟨fun e => ?_, fun e => ?_⟩
 · rw [hf, if_pos e]
 · rw [hf, if_neg e]
theorem first_end {l : List Int} {k : Nat} (h : l.length ≤ k) (hf : firstErr l = firstErr (l.drop k)) : firstErr l = 0 := by
 rw [hf, List.drop_of_length_le h]
 rfl
theorem rowErr_same {cols : List Col} {r : List Cell} (h : cols.length = r.length) : rowErr vU cols r = firstErr (errL cols r) := by
 unfold rowErr errL
 rw [if_pos h]
theorem rowErr_unlike {cols : List Col} {r : List Cell} (h : ¬ cols.length = r.length) : rowErr vU cols r = 100 := by
 unfold rowErr
 rw [if_neg h]
set_option maxRecDepth 100000 in
set_option maxHeartbeats 1000000 in
theorem rowck_run (i : Nat) (c : Cell) (x : Col) (p n b off cap : Nat) (hi : i < n) (w : World) (hp : w.cell? ⟨p, 0, none⟩ = some (.slice (some ⟨b, off, none⟩) n cap)) (hc : ColAt w b (off + i * 7) x) (hT : Tabs w) :
 Calls Tryz.prog 73 #[.int .i64 (i : Int), Cl c, .pointer (some ⟨p, 0, none⟩)] w (Ret (.int .i64 (cellErr vU x.kind x.null c)) w) := by
 have HT := hide hT
 have CK := hide (fun (q : Later (w.alloc (.cells #[.bool c.null, .int .i64 c.n, .string c.s] 38))) => ccheck_run x.kind x.null c q.world ((HT.out.old (Old.alloc (Old.refl _) _)).old q.old))
 unfold Ret at *
 have f0 : ∀ q : Later (w.alloc (.cells #[.bool c.null, .int .i64 c.n, .string c.s] 38)), q.world.cell? ⟨p, 0, none⟩ = some (.slice (some ⟨b, off, none⟩) n cap) := fun q => q.old.cell (Old.cell (Old.alloc (Old.refl _) _) hp)
 have f1 : ∀ q : Later (w.alloc (.cells #[.bool c.null, .int .i64 c.n, .string c.s] 38)), q.world.cell? ⟨b, off + i * 7 + 2, none⟩ = some (.int .i64 x.kind) := fun q => q.old.cell (Old.cell (Old.alloc (Old.refl _) _) hc.2.2.1)
 have f2 : ∀ q : Later (w.alloc (.cells #[.bool c.null, .int .i64 c.n, .string c.s] 38)), q.world.cell? ⟨b, off + i * 7 + 2 + 1, none⟩ = some (.bool x.null) := fun q => q.old.cell (Old.cell (Old.alloc (Old.refl _) _) hc.2.2.2.1)
 have f3 : ∀ q : Later (w.alloc (.cells #[.bool c.null, .int .i64 c.n, .string c.s] 38)), q.world.cell? ⟨w.heap.size, 0, none⟩ = some (.bool c.null) := fun q => q.old.cell (cell_of_heap (heap_alloc_new _ _))
 have f4 : ∀ q : Later (w.alloc (.cells #[.bool c.null, .int .i64 c.n, .string c.s] 38)), q.world.cell? ⟨w.heap.size, 1, none⟩ = some (.int .i64 c.n) := fun q => q.old.cell (cell_of_heap (heap_alloc_new _ _))
 have f5 : ∀ q : Later (w.alloc (.cells #[.bool c.null, .int .i64 c.n, .string c.s] 38)), q.world.cell? ⟨w.heap.size, 2, none⟩ = some (.string c.s) := fun q => q.old.cell (cell_of_heap (heap_alloc_new _ _))
 have hii : (i : Int) < (n : Int) := by omega
 clear hp hc
 generalize cellErr vU x.kind x.null c = E at CK
 go_enter Tryz.func73, Tryz.ntmps73
 go_wp2_with fail
 refine region_later (by kernel_rfl) (by kernel_rfl) ?_
 repeat (go_big_quiet_step (exact Later.call (CK.out _)))
 refine wpQuiet_nil ?_
 rintro wq ⟨⟨_, hwq⟩, rfl⟩
 go_wp2_with fail
 go_ret
 exact ⟨rfl, Old.trans (Old.alloc (Old.refl _) _) hwq⟩
set_option maxRecDepth 100000 in
set_option maxHeartbeats 2000000 in
theorem first_run (cv v : Value) (cols : List Col) (r : List Cell) (hl : cols.length = r.length) (p : Nat) (w : World) (hp : w.cell? ⟨p, 0, none⟩ = some cv) (hc : ColsIs w cv cols) (hr : RowIs w v r) (hT : Tabs w) :
 Calls Tryz.prog 72 #[v, .func (.func 73) #[] #[.pointer (some ⟨p, 0, none⟩)]] w (Ret (.int .i64 (firstErr (errL cols r))) w) := by
 have HT := hide hT
 obtain ⟨A, ca, rfl, hla, hma, hr⟩ := hr.row
 obtain ⟨B, cb, rfl, hlb, hmb, hc⟩ := cols_form hc
 unfold maxLen at hma hmb
 have HR := hide hr
 have HC := hide hc
 have HP := hide hp
 have HL := hide hl
 clear hr hc hp hT hl
 unfold Ret
 go_enter Tryz.func72, Tryz.ntmps72
 go_wp2_with fail
 go_loopw [10] (fun i wr => ∃ k : Nat, i = .int .i64 k ∧ k ≤ r.length ∧ Hid (firstErr (errL cols r) = firstErr ((errL cols r).drop k)) ∧ Hid (Old w wr)) (fun i _ => r.length - (intOf i).toNat)
 case atStart => exact ⟨0, rfl, by omega, hide rfl, hide (Old.refl _)⟩
 case round =>
  obtain ⟨k, rfl, hk, HF, HO⟩ := hrel
  by_cases hlt : k < r.length
  · have hkc : k < cols.length := by rw [HL.out]; exact hlt
    obtain ⟨b1, o1, rfl, hc1⟩ := HR.out.resolve_left (by omega)
    obtain ⟨b2, o2, rfl, hc2⟩ := HC.out.resolve_left (by omega)
    obtain ⟨x0, x1, x2⟩ := hc1 k hlt
    have hcol := hide ((hc2 k hkc).old HO.out)
    have hx0 := Old.cell HO.out x0
    have hx1 := Old.cell HO.out x1
    have hx2 := Old.cell HO.out x2
    have hpp := hide (Old.cell HO.out HP.out)
    have hkl : k < (errL cols r).length := by rw [errL_len HL.out]; exact hlt
    have hE := hide (first_step hkl HF.out)
    rw [errL_at hkc hlt hkl] at hE
    have CK := hide (fun (w' : World) (o : Old wr w') => rowck_run k r[k] cols[k] p cols.length b2 o2 cb hkc w' (o.cell hpp.out) (hcol.out.old o) (HT.out.old (Old.trans HO.out o)))
    generalize r[k] = c at *
    generalize cols[k] = x at *
    generalize cellErr vU x.kind x.null c = E at *
    have hii : (k : Int) < (r.length : Int) := by omega
    clear hc1 hc2 x0 x1 x2 hkl HF hcol hpp
    unfold Ret at CK
    by_cases h0 : E = 0
    · subst h0
      have HF := hide (hE.out.1 rfl)
      clear hE
      go_wp2_with fail
      refine (CK.out _ (Old.alloc (Old.refl _) _)).mono ?_
      rintro e w1 ⟨rfl, q1⟩
      have O1 := hide (Old.trans HO.out (Old.trans (Old.alloc (Old.refl _) _) q1))
      clear q1 CK
      go_wp2_with fail
      go_roundw
      case rel => exact ⟨k + 1, by go_num, by omega, HF, O1⟩
      case measure => simp [intOf]; omega
    · have HF := hide (hE.out.2 h0)
      have h1 : (E != 0) = true := by simp [h0]
      clear hE
      go_wp2_with fail
      refine (CK.out _ (Old.alloc (Old.refl _) _)).mono ?_
      rintro e w1 ⟨rfl, q1⟩
      have O1 := hide (Old.trans HO.out (Old.trans (Old.alloc (Old.refl _) _) q1))
      clear q1 CK
      go_wp2_with fail
      go_ret
      exact ⟨ret_int HF.out.symm, O1.out⟩
  · have hii : ¬ (k : Int) < (r.length : Int) := by omega
    have HZ := hide (first_end (by rw [errL_len HL.out]; omega) HF.out)
    clear HF
    go_wp2_with fail
    go_ret
    exact ⟨ret_int HZ.out.symm, HO.out⟩
set_option maxRecDepth 100000 in
set_option maxHeartbeats 1000000 in
theorem rowCheck_run (cv v : Value) (cols : List Col) (r : List Cell) (w : World) (hc : ColsIs w cv cols) (hr : RowIs w v r) (hT : Tabs w) :
 Calls Tryz.prog 33 #[cv, v] w (Ret (.int .i64 (rowErr vU cols r)) w) := by
 have HC := hide hc
 have HR := hide hr
 have HT := hide hT
 obtain ⟨A, ca, rfl, _, _, _⟩ := hr.row
 obtain ⟨B, cb, rfl, _, _, _⟩ := cols_form hc
 clear hc hr hT
 by_cases hl : cols.length = r.length
 · have hlb : ((cols.length : Int) != (r.length : Int)) = false := by simp [hl]
   have hp := hide (show (w.alloc (.cells #[.slice B cols.length cb] 22)).cell? ⟨w.heap.size, 0, none⟩ = some (.slice B cols.length cb) from cell_of_heap (heap_alloc_new _ _))
   have CF := hide (first_run _ _ cols r hl w.heap.size (w.alloc (.cells #[.slice B cols.length cb] 22)) hp.out (HC.out.old (Old.alloc (Old.refl _) _)) (HR.out.old (Old.alloc (Old.refl _) _)) (HT.out.old (Old.alloc (Old.refl _) _)))
   rw [rowErr_same hl]
   clear hl hp
   unfold Ret at *
   go_enter Tryz.func33, Tryz.ntmps33
   go_wp2_with fail
   refine CF.out.mono ?_
   rintro e w1 ⟨rfl, o1⟩
   have O1 := hide (Old.trans (Old.alloc (Old.refl w) _) o1)
   clear o1
   go_wp2_with fail
   go_ret
   exact ⟨rfl, O1.out⟩
 · have hlb : ((cols.length : Int) != (r.length : Int)) = true := by simp; omega
   rw [rowErr_unlike hl]
   unfold Ret
   go_enter Tryz.func33, Tryz.ntmps33
   go_wp2_with fail
   go_ret
   exact ⟨rfl, Old.alloc (Old.refl _) _⟩
set_option maxRecDepth 100000 in
set_option maxHeartbeats 2000000 in
theorem rrowCheck_run (cv v : Value) (cols : List Col) (r : List Cell) (hw : ∀ c ∈ r, Wf c) (w : World) (hc : ColsIs w cv cols) (hr : RowIs w v r) :
 Calls Tryz.prog 40 #[cv, v] w (Ret (.int .i64 (rowErr vU cols r)) w) := by
 obtain ⟨A, ca, rfl, hla, hma, hr⟩ := hr.row
 obtain ⟨B, cb, rfl, hlb, hmb, hc⟩ := cols_form hc
 unfold maxLen at hma hmb
 have HR := hide hr
 have HC := hide hc
 have HW := hide hw
 clear hr hc hw
 by_cases hl : cols.length = r.length
 · have hln : ((r.length : Int) != (cols.length : Int)) = false := by simp [hl]
   rw [rowErr_same hl]
   have HL := hide hl
   clear hl
   unfold Ret
   go_enter Tryz.func40, Tryz.ntmps40
   go_wp2_with fail
   go_loopw [5] (fun i wr => ∃ k : Nat, i = .int .i64 k ∧ k ≤ r.length ∧ Hid (firstErr (errL cols r) = firstErr ((errL cols r).drop k)) ∧ Hid (Old w wr)) (fun i _ => r.length - (intOf i).toNat)
   case atStart => exact ⟨0, rfl, by omega, hide rfl, hide (Old.refl _)⟩
   case round =>
    obtain ⟨k, rfl, hk, HF, HO⟩ := hrel
    by_cases hlt : k < r.length
    · have hkc : k < cols.length := by rw [HL.out]; exact hlt
      obtain ⟨b1, o1, rfl, hc1⟩ := HR.out.resolve_left (by omega)
      obtain ⟨b2, o2, rfl, hc2⟩ := HC.out.resolve_left (by omega)
      obtain ⟨x0, x1, x2⟩ := hc1 k hlt
      have hcol := (hc2 k hkc).old HO.out
      have hkl : k < (errL cols r).length := by rw [errL_len HL.out]; exact hlt
      have hE := hide (first_step hkl HF.out)
      rw [errL_at hkc hlt hkl] at hE
      have CK := hide (fun (q : Later wr) => rcheck_run cols[k].kind cols[k].null r[k] (HW.out _ (List.getElem_mem hlt)) q.world)
      have f0 : ∀ q : Later wr, q.world.cell? ⟨b1, o1 + k * 3, none⟩ = some (.bool r[k].null) := fun q => (Old.trans HO.out q.old).cell x0
      have f1 : ∀ q : Later wr, q.world.cell? ⟨b1, o1 + k * 3 + 1, none⟩ = some (.int .i64 r[k].n) := fun q => (Old.trans HO.out q.old).cell x1
      have f2 : ∀ q : Later wr, q.world.cell? ⟨b1, o1 + k * 3 + 2, none⟩ = some (.string r[k].s) := fun q => (Old.trans HO.out q.old).cell x2
      have f3 : ∀ q : Later wr, q.world.cell? ⟨b2, o2 + k * 7 + 2, none⟩ = some (.int .i64 cols[k].kind) := fun q => q.old.cell hcol.2.2.1
      have f4 : ∀ q : Later wr, q.world.cell? ⟨b2, o2 + k * 7 + 2 + 1, none⟩ = some (.bool cols[k].null) := fun q => q.old.cell hcol.2.2.2.1
      generalize r[k] = c at *
      generalize cols[k] = x at *
      generalize cellErr vU x.kind x.null c = E at *
      have hii : (k : Int) < (r.length : Int) := by omega
      have hic : (k : Int) < (cols.length : Int) := by omega
      clear hc1 hc2 x0 x1 x2 hkl HF hcol
      unfold Ret at CK
      go_wp2_with fail
      refine region_later (by kernel_rfl) (by kernel_rfl) ?_
      repeat (go_big_quiet_step (exact Later.call (CK.out _)))
      refine wpQuiet_nil ?_
      rintro wq ⟨⟨wq1, hwq⟩, rfl⟩
      have O1 := hide (Old.trans HO.out hwq)
      clear hwq f0 f1 f2 f3 f4 CK
      by_cases h0 : E = 0
      · subst h0
        have HF := hide (hE.out.1 rfl)
        clear hE
        go_wp2_with fail
        go_roundw
        case rel => exact ⟨k + 1, by go_num, by omega, HF, O1⟩
        case measure => simp [intOf]; omega
      · have HF := hide (hE.out.2 h0)
        have h1 : (E != 0) = true := by simp [h0]
        clear hE
        go_wp2_with fail
        go_ret
        exact ⟨ret_int HF.out.symm, O1.out⟩
    · have hii : ¬ (k : Int) < (r.length : Int) := by omega
      have HZ := hide (first_end (by rw [errL_len HL.out]; omega) HF.out)
      clear HF
      go_wp2_with fail
      go_ret
      exact ⟨ret_int HZ.out.symm, HO.out⟩
 · have hln : ((r.length : Int) != (cols.length : Int)) = true := by simp; omega
   rw [rowErr_unlike hl]
   unfold Ret
   go_enter Tryz.func40, Tryz.ntmps40
   go_wp2_with fail
   go_ret
   exact ⟨rfl, Old.refl _⟩
end Go.Proofs.YthlfljmfggmfdaaGreatDoor

/-! ###  -/
namespace Go.Proofs.YthlfljmfggmfdaaGreatDoor
open Go.RowKit
theorem part_next {cols : List Col} {r : List Cell} {k : Nat} (h1 : k < cols.length) (h2 : k < r.length) : (partsC cols r).take (k + 1) = (partsC cols r).take k ++ [leafC cols[k].kind r[k]] := by
 have h : k < (partsC cols r).length := by simp [partsC]; omega
 rw [List.take_succ_eq_append_getElem h, partsC_at h1 h2]
theorem name_next {cols : List Col} {k : Nat} (h1 : k < cols.length) : (cols.map Col.name).take (k + 1) = (cols.map Col.name).take k ++ [cols[k].name] := by
 have h : k < (cols.map Col.name).length := by simpa using h1
 rw [List.take_succ_eq_append_getElem h, List.getElem_map]
theorem names_sizes {cols : List Col} (h : namedB cols = true) : ∀ s ∈ cols.map Col.name, s.size ≤ maxLen := by
 intro s hs
 obtain ⟨c, hc, rfl⟩ := List.mem_map.1 hs
 have := name_size (names_ok h c hc)
 unfold maxLen
 omega
theorem cellOk_size {k : Int} {nl : Bool} {c : Cell} (hk : mayK k = true) (h : cellOk vU k nl c = true) : c.s.size ≤ 1024 := by
 obtain ⟨cn, n, s⟩ := c
 cases cn
 · have h5 : k = 1 ∨ k = 2 ∨ k = 3 ∨ k = 4 ∨ k = 5 := by simp [mayK] at hk; omega
   rcases h5 with rfl | rfl | rfl | rfl | rfl
   all_goals simp [cellOk, someOk] at h
   · rw [h.1.1]; show (0 : Nat) ≤ _; omega
   · rw [h.1.1]; show (0 : Nat) ≤ _; omega
   · rw [h.1.1]; show (0 : Nat) ≤ _; omega
   · exact h.1.2
   · exact h.2
 · simp [cellOk] at h
   rw [h.2]
   show (0 : Nat) ≤ _; omega
set_option maxRecDepth 100000 in
set_option maxHeartbeats 4000000 in
theorem rtape_run (cv v : Value) (cols : List Col) (r : List Cell) (out : List Nd) (er : Int) (w : World) (hc : ColsIs w cv cols) (hr : RowIs w v r) (hw : ∀ c ∈ r, Wf c) (hl : cols.length ≤ 4000) (ht : RowT cols r out er) :
 Calls Tryz.prog 17 #[cv, v] w (NewNodesE w out er) := by
 have CN := hide (fun w' (o : Old w w') => rnamed_run cv cols w' (hc.old o))
 have CR := hide (fun w' (o : Old w w') => rrowCheck_run cv v cols r hw w' (hc.old o) (hr.old o))
 unfold Ret at CN CR
 obtain ⟨A, ca, rfl, hla, hma, hr'⟩ := hr.row
 obtain ⟨B, cb, rfl, hlb, hmb, hc'⟩ := cols_form hc
 unfold maxLen at hma hmb
 have HR := hide hr'
 have HC := hide hc'
 clear hr hc hr' hc' hw
 rcases ht with ⟨hn, rfl, rfl⟩ | ⟨hn, h0, rfl, rfl⟩ | ⟨hn, h0, hobj⟩
 · rw [hn] at CN
   clear hn CR
   go_enter Tryz.func17, Tryz.ntmps17
   go_wp2_with fail
   refine (CN.out _ (Old.refl _)).mono ?_
   rintro e w1 ⟨rfl, o1⟩
   go_wp2_with fail
   go_ret2
   exact ⟨_, rfl, SlT.nil_ _, o1⟩
 · rw [hn] at CN
   obtain ⟨E, hE⟩ : ∃ E, rowErr vU cols r = E := ⟨_, rfl⟩
   rw [hE] at CR h0 ⊢
   have h1 : (E != 0) = true := by simp [h0]
   clear hn hE h0
   go_enter Tryz.func17, Tryz.ntmps17
   go_wp2_with fail
   refine (CN.out _ (Old.refl _)).mono ?_
   rintro e w1 ⟨rfl, o1⟩
   go_wp2_with fail
   refine (CR.out _ o1).mono ?_
   rintro e w2 ⟨rfl, o2⟩
   have O2 := hide (Old.trans o1 o2)
   clear o1 o2
   go_wp2_with fail
   go_ret2
   exact ⟨_, rfl, SlT.nil_ _, O2.out⟩
 · have HN := hide hn
   have H0 := hide h0
   have HOB := hide hobj
   rw [hn] at CN
   rw [h0] at CR
   have HLEN := hide (rowErr_zero.1 h0).1
   clear hn h0 hobj
   go_enter Tryz.func17, Tryz.ntmps17
   go_wp2_with fail
   refine (CN.out _ (Old.refl _)).mono ?_
   rintro e w1 ⟨rfl, o1⟩
   go_wp2_with fail
   refine (CR.out _ o1).mono ?_
   rintro e w2 ⟨rfl, o2⟩
   have O2 := hide (Old.trans o1 o2)
   clear o1 o2 CN CR
   go_wp2_with fail
   go_loopw [7, 8, 9] (fun kv pv iv wr => ∃ k : Nat, iv = .int .i64 k ∧ k ≤ cols.length ∧ Hid (TextsOwn w.heap.size wr kv ((cols.map Col.name).take k)) ∧ Hid (PartsOwn w.heap.size wr pv ((partsC cols r).take k)) ∧ Hid (Old w wr)) (fun _ _ iv _ => cols.length - (intOf iv).toNat)
   case atStart => exact ⟨0, rfl, by omega, hide (own_nil _ _ _ _), hide (PartsOwn.nil_ _ _), O2⟩
   case round =>
    obtain ⟨k, rfl, hk, HTO, HPO, HO⟩ := hrel
    by_cases hlt : k < cols.length
    · have hli : (k : Int) < (cols.length : Int) := by omega
      have hkr : k < r.length := by have := HLEN.out; omega
      have hri : (k : Int) < (r.length : Int) := by omega
      obtain ⟨b1, o1, rfl, hc1⟩ := HC.out.resolve_left (by omega)
      obtain ⟨b2, o2, rfl, hc2⟩ := HR.out.resolve_left (by omega)
      have hcol := hc1 k hlt
      obtain ⟨z0, z1, z2⟩ := hc2 k hkr
      obtain ⟨y1, y2⟩ := cells_ok H0.out hlt hkr
      have hsz := cellOk_size y1 y2
      have HPN := hide (part_next hlt hkr)
      have HTN := hide (name_next hlt)
      have CV := hide (fun w' => rvalue19_run cols[k].kind cols[k].null r[k] y1 (by omega) w')
      unfold Cl Ty at CV
      generalize cols[k] = x at *
      generalize r[k] = c at *
      have e0 := HO.out.cell hcol.2.1
      have HX2 := hide hcol.2.2.1
      have HX3 := hide hcol.2.2.2.1
      have hl1 : ((partsC cols r).take k).length + 1 ≤ 4194304 := by simp [partsC]; omega
      have hl2 : ((cols.map Col.name).take k).length + 1 ≤ 4194304 := by simp; omega
      have Z0 := hide z0
      have Z1 := hide z1
      have Z2 := hide z2
      clear hc1 hc2 hcol z0 z1 z2 y1 y2 hsz
      go_upto_region 12 with (at_builtin; refine wpList_plain rfl (fun K hK => ?_); refine step_push_text _ _ _ rfl w.heap.size _ ((cols.map Col.name).take k) rfl (own_old HTO.out (Old.alloc (Old.refl _) _)) _ _ x.name rfl (by go_simp) hl2 (HO.out.alloc _).size ?_; intro v7 w7 own7 kept7; refine hK _ _ ?_; clear hK)
      have O7 := hide (kept7.old (HO.out.alloc _) (Nat.le_refl _))
      have T7 := hide own7
      have P7 := hide (PartsOwn.kept (HPO.out.old (Old.alloc (Old.refl _) _)) kept7 (by decide) (by decide))
      clear own7 kept7 e0
      have ho := O7.out
      have x2 : ∀ w', Old w w' → w'.cell? ⟨b1, o1 + k * 7 + 2, none⟩ = some (.int .i64 x.kind) := fun w' o => o.cell HX2.out
      have x3 : ∀ w', Old w w' → w'.cell? ⟨b1, o1 + k * 7 + 2 + 1, none⟩ = some (.bool x.null) := fun w' o => o.cell HX3.out
      have f0 : ∀ w', Old w w' → w'.cell? ⟨b2, o2 + k * 3, none⟩ = some (.bool c.null) := fun w' o => o.cell Z0.out
      have f1 : ∀ w', Old w w' → w'.cell? ⟨b2, o2 + k * 3 + 1, none⟩ = some (.int .i64 c.n) := fun w' o => o.cell Z1.out
      have f2 : ∀ w', Old w w' → w'.cell? ⟨b2, o2 + k * 3 + 2, none⟩ = some (.string c.s) := fun w' o => o.cell Z2.out
      go_wp2_with fail
      go_region_held3 (fun w' => Old w w')
       (first | assumption | (exact Old.drew ho) | (exact Old.trans (Old.drew ho) o8) | (exact Old.alloc (Old.trans (Old.drew ho) o8) _) | (exact kept9.old (Old.alloc (Old.trans (Old.drew ho) o8) _) (Nat.le_refl _)))
       (first
         | (go_at_call 41; (with_reducible refine (CV.out _).mono ?_); rintro e w8 ⟨v8, rfl, n8, o8⟩; obtain ⟨A8, c8, rfl, q8, r8⟩ := nodes_form n8 (show (leafC x.kind c).length = 1 from rfl); unfold maxLen at r8)
         | (refine step_push_part _ _ _ rfl w.heap.size _ ((partsC cols r).take k) rfl (P7.out.old (Old.alloc (Old.trans (Old.drew (Old.refl _)) o8) _)) _ _ (.slice A8 1 c8) (leafC x.kind c) rfl (by go_simp) (SlT.mono (SlT.old n8 (Old.alloc (Old.refl _) _)) (O7.out.drew).size) hl1 (((Old.trans O7.out.drew o8)).alloc _).size ?_; intro v9 w9 own9 kept9)
         | (fail "none"))
      all_goals
       have T9 := hide (Kept.own kept9 (own_old T7.out (Old.alloc (Old.trans (Old.drew (Old.refl _)) o8) _)) (by decide))
       have O9 := hide (show Old w w9 by assumption)
       have P9 := hide own9
       clear own9 kept9 x2 x3 f0 f1 f2
       go_wp2_with fail
       go_roundw
       case rel => exact ⟨k + 1, by go_num, by omega, hide (by rw [HTN.out]; exact T9.out), hide (by rw [HPN.out]; exact P9.out), O9⟩
       case measure => simp [intOf]; omega
    · have hli : ¬ (k : Int) < (cols.length : Int) := by omega
      have hkk : k = cols.length := by omega
      have CO := hide (ref_Obj u7 u8 (cols.map Col.name) (partsC cols r) out er wr (by
       have := TextsOwn.is HTO.out
       rwa [hkk, List.take_of_length_le (by simp)] at this) (names_sizes HN.out) (by
       have := HPO.out.is
       rwa [hkk, List.take_of_length_le (by simp [partsC]; omega)] at this) (partsC_texts H0.out) HOB.out)
      go_wp2_with fail
      refine CO.out.mono ?_
      rintro e w3 ⟨v3, rfl, n3, o3⟩
      have N3 := hide (SlT.mono n3 HO.out.size)
      have O3 := hide (Old.trans HO.out o3)
      clear n3 o3
      go_wp2_with fail
      go_ret2
      exact ⟨_, rfl, N3.out, O3.out⟩
end Go.Proofs.YthlfljmfggmfdaaGreatDoor

/-! ###  -/
namespace Go.Proofs.YthlfljmfggmfdaaGreatDoor
open Go.RowKit
theorem kid_drop {t : List Nd} {h : Hd} {l1 l2 : List J} {j : J} (e : t = J.flat (.mk h (l1 ++ j :: l2))) : t.drop (0 + 1 + (J.flats l1).length) = j.flat ++ J.flats l2 := by
 have hd : t.drop 0 = J.flat (.mk h (l1 ++ j :: l2)) ++ [] := by rw [List.drop_zero, List.append_nil]; exact e
 have := drop_flat hd
 rw [flats_cons, List.append_assoc, List.append_nil] at this
 exact this
theorem root_at {t : List Nd} {h : Hd} {l : List J} (e : t = J.flat (.mk h l)) : t[0]? = some ⟨h.kind, h.key, h.n, h.s, (J.flats l).length + 1⟩ := by
 rw [e, flat_mk]
 rfl
end Go.Proofs.YthlfljmfggmfdaaGreatDoor

/-! ###  -/
namespace Go.Proofs.YthlfljmfggmfdaaGreatDoor
open Go.RowKit
theorem nodes_cells {w : World} {A : Option Addr} {n c : Nat} {l : List Nd} (h : NodesIs w (.slice A n c) l) {i : Nat} {x : Nd} (hx : l[i]? = some x) : ∃ b off, A = some ⟨b, off, none⟩ ∧ w.cell? ⟨b, off + i * 5, none⟩ = some (.int .i64 x.kind) ∧ w.cell? ⟨b, off + i * 5 + 1, none⟩ = some (.string x.key) ∧
 w.cell? ⟨b, off + i * 5 + 2, none⟩ = some (.int .i64 x.n) ∧ w.cell? ⟨b, off + i * 5 + 3, none⟩ = some (.string x.s) ∧ w.cell? ⟨b, off + i * 5 + 4, none⟩ = some (.int .i64 x.size) := by
 obtain ⟨hi, hx⟩ := List.getElem?_eq_some_iff.1 hx
 obtain ⟨A', cap, he, h1, h2, h3⟩ := h.nodes
 injection he with e1 e2 e3
 subst e1 e2 e3
 obtain ⟨b, off, rfl, hc⟩ := h3.resolve_left (by omega)
 have := hc i hi
 rw [hx] at this
 exact ⟨b, off, rfl, this⟩
theorem texts_lit (w : World) (l : List ByteArray) (n : Nat) (h : w.heap.size = n) (hl : l.length ≤ 1048576 := by decide) : TextsIs (w.alloc (.cells (l.map Value.string).toArray 9)) (.slice (some ⟨n, 0, none⟩) l.length l.length) l := by
 refine ⟨_, _, rfl, Nat.le_refl _, by unfold maxLen; omega, fun _ => ⟨n, 0, rfl, fun j u hu => ?_⟩⟩
 rw [Nat.zero_add, cell_of_heap (heap_new _ _ _ h)]
 simpa using hu
theorem parts_lit (w : World) (gs : List (Value × List Nd)) (n : Nat) (h : w.heap.size = n) (hp : ∀ p ∈ gs, NodesIs w p.1 p.2) (hl : gs.length ≤ 1048576 := by simp) :
 PartsIs (w.alloc (.cells (gs.map Prod.fst).toArray 24)) (.slice (some ⟨n, 0, none⟩) gs.length gs.length) (gs.map Prod.snd) := by
 refine ⟨gs.map Prod.fst, by simp, ⟨_, _, by rw [List.length_map], by rw [List.length_map]; exact Nat.le_refl _, by unfold maxLen; omega, fun _ => ⟨n, 0, rfl, fun j u hu => ?_⟩⟩, fun i hi hi' => ?_⟩
 · rw [Nat.zero_add, cell_of_heap (heap_new _ _ _ h)]
   simpa using hu
 · have hi2 : i < gs.length := by simpa using hi
   simp only [List.getElem_map]
   exact (hp _ (List.getElem_mem hi2)).old ((Old.refl w).alloc _)
theorem PartsIs.nil_ (w : World) : PartsIs w (.slice none 0 0) [] := ⟨[], rfl, Sl.nil_ w, fun i hi => absurd hi (by simp)⟩
end Go.Proofs.YthlfljmfggmfdaaGreatDoor
