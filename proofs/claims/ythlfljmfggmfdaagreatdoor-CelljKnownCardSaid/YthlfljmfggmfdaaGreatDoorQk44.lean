/-  -/
import Derived.Test.YthlfljmfggmfdaaGreatDoorQk43
import Derived.Test.YthlfljmfggmfdaaGreatDoorQk41
import Derived.OpenShut
import Derived.StillTailTactics
import Derived.Deep.DeepCutAuto
/-! ###  -/
namespace Go.Proofs.YthlfljmfggmfdaaGreatDoor
open Go.RowKit
theorem set_next {α : Type} {vals : α → List Value} {n T : Nat} (hn : ∀ x, (vals x).length = n) {lo m cap : Nat} {w : World} {g off : Nat} {l1 l2 : List α} {x y : α} (i k : Nat) (v : Value) (h : SlT T lo w (.slice (some ⟨g, off, none⟩) m cap) (l1 ++ x :: l2).length ((l1 ++ x :: l2).flatMap vals)) (hk : l1.length = k) (hi : i < n) (hy : vals y = (vals x).set i v) :
 SlT T lo (w.setCell ⟨g, off + k * n + i, none⟩ v) (.slice (some ⟨g, off, none⟩) m cap) (l1 ++ y :: l2).length ((l1 ++ y :: l2).flatMap vals) := by
 obtain ⟨g', off', e, _, _, _, h5⟩ := set_elem hn (y := y) i k v h hk hi hy
 injection e with e
 injection e with e1 e2
 subst e1 e2
 exact h5
theorem store_nd {lo m cap : Nat} {w : World} {A : Option Addr} {l1 l2 : List Nd} {x : Nd} (k : Nat) (h : NodesT lo w (.slice A m cap) (l1 ++ x :: l2)) (hk : l1.length = k) :
 ∃ g off, A = some ⟨g, off, none⟩ ∧ lo ≤ g ∧ (∀ j u, x.vals[j]? = some u → w.cell? ⟨g, off + k * 5 + j, none⟩ = some u) ∧ (∀ j, w.frozen? ⟨g, j, none⟩ = false) ∧ ∀ y : Nd, NodesT lo (W5 w g (off + k * 5) (.int .i64 y.kind) (.string y.key) (.int .i64 y.n) (.string y.s) (.int .i64 y.size)) (.slice A m cap) (l1 ++ y :: l2) := by
 obtain ⟨g, off, rfl, h1, h2, h3, _⟩ := set_elem ndVals_n (x := x) (y := ⟨0, x.key, x.n, x.s, x.size⟩) 0 k (.int .i64 0) h hk (by omega) rfl
 refine ⟨g, off, rfl, h1, h2, h3, fun y => ?_⟩
 have s0 := set_next ndVals_n (y := ⟨y.kind, x.key, x.n, x.s, x.size⟩) 0 k (.int .i64 y.kind) h hk (by omega) rfl
 have s1 := set_next ndVals_n (y := ⟨y.kind, y.key, x.n, x.s, x.size⟩) 1 k (.string y.key) s0 hk (by omega) rfl
 have s2 := set_next ndVals_n (y := ⟨y.kind, y.key, y.n, x.s, x.size⟩) 2 k (.int .i64 y.n) s1 hk (by omega) rfl
 have s3 := set_next ndVals_n (y := ⟨y.kind, y.key, y.n, y.s, x.size⟩) 3 k (.string y.s) s2 hk (by omega) rfl
 exact set_next ndVals_n (y := y) 4 k (.int .i64 y.size) s3 hk (by omega) rfl
theorem store_cell {lo m cap : Nat} {w : World} {A : Option Addr} {l1 l2 : List Cell} {x : Cell} (k : Nat) (h : CellsT lo w (.slice A m cap) (l1 ++ x :: l2)) (hk : l1.length = k) :
 ∃ g off, A = some ⟨g, off, none⟩ ∧ lo ≤ g ∧ (∀ j u, x.vals[j]? = some u → w.cell? ⟨g, off + k * 3 + j, none⟩ = some u) ∧ (∀ j, w.frozen? ⟨g, j, none⟩ = false) ∧ ∀ y : Cell, CellsT lo (W3 w g (off + k * 3) (.bool y.null) (.int .i64 y.n) (.string y.s)) (.slice A m cap) (l1 ++ y :: l2) := by
 obtain ⟨g, off, rfl, h1, h2, h3, _⟩ := set_elem cellVals_n (x := x) (y := ⟨false, x.n, x.s⟩) 0 k (.bool false) h hk (by omega) rfl
 refine ⟨g, off, rfl, h1, h2, h3, fun y => ?_⟩
 have s0 := set_next cellVals_n (y := ⟨y.null, x.n, x.s⟩) 0 k (.bool y.null) h hk (by omega) rfl
 have s1 := set_next cellVals_n (y := ⟨y.null, y.n, x.s⟩) 1 k (.int .i64 y.n) s0 hk (by omega) rfl
 exact set_next cellVals_n (y := y) 2 k (.string y.s) s1 hk (by omega) rfl
theorem other5 {T T' lo n g b : Nat} {w : World} {v : Value} {xs : List Value} {cs : Array Value} {f : Nat × Nat} (h : SlT T lo w v n xs) (hg : w.heap[g]? = some (.cells cs T' f)) (hne : T ≠ T') (v0 v1 v2 v3 v4 : Value) : SlT T lo (W5 w g b v0 v1 v2 v3 v4) v n xs := by
 obtain ⟨c1, h1⟩ := heap_set_here (i := b) hg v0
 obtain ⟨c2, h2⟩ := heap_set_here (i := b + 1) h1 v1
 obtain ⟨c3, h3⟩ := heap_set_here (i := b + 2) h2 v2
 obtain ⟨c4, h4⟩ := heap_set_here (i := b + 3) h3 v3
 exact sl_other (sl_other (sl_other (sl_other (sl_other h hg hne v0) h1 hne v1) h2 hne v2) h3 hne v3) h4 hne v4
theorem nodes_block {lo m cap : Nat} {w : World} {A : Option Addr} {l1 l2 : List Nd} {x : Nd} (h : NodesT lo w (.slice A m cap) (l1 ++ x :: l2)) {g off : Nat} (hA : A = some ⟨g, off, none⟩) : ∃ cs f, w.heap[g]? = some (.cells cs 36 f) := by
 obtain ⟨b, off', cap', cs, f, he, _, hh, _⟩ := slT_block h (ndVals_ne (by simp; omega))
 injection he with e1
 rw [hA] at e1
 injection e1 with e1
 injection e1 with e1
 subst e1
 exact ⟨cs, f, hh⟩
theorem old5 {w0 w : World} {g b : Nat} (h : Old w0 w) (hg : w0.heap.size ≤ g) (v0 v1 v2 v3 v4 : Value) : Old w0 (W5 w g b v0 v1 v2 v3 v4) := Old.setCell (Old.setCell (Old.setCell (Old.setCell (Old.setCell h hg v0) hg v1) hg v2) hg v3) hg v4
theorem old3 {w0 w : World} {g b : Nat} (h : Old w0 w) (hg : w0.heap.size ≤ g) (v0 v1 v2 : Value) : Old w0 (W3 w g b v0 v1 v2) := Old.setCell (Old.setCell (Old.setCell h hg v0) hg v1) hg v2
theorem split_at {α : Type} {l : List α} {k : Nat} (h : k < l.length) : l = l.take k ++ l[k] :: l.drop (k + 1) := by rw [← List.drop_eq_getElem_cons h, List.take_append_drop]
theorem nodes19_texts (t : List Nd) : TextsOk (nodes19L t) := by
 intro x hx
 obtain ⟨y, _, rfl⟩ := List.mem_map.1 hx
 have h1 := cutN_size 40 y.key
 have h2 := cutN_size 2100 y.s
 have e1 : (cutNode y).key = cutN 40 y.key := rfl
 have e2 : (cutNode y).s = cutN 2100 y.s := rfl
 rw [e1, e2]
 simp at h1 h2
 unfold maxLen
 omega
theorem nodes19_fit {t : List Nd} (hn : NumsOk t) : NdFit (nodes19L t) := by
 intro x hx
 obtain ⟨y, hy, rfl⟩ := List.mem_map.1 hx
 have h2 := cutN_size 2100 y.s
 have e2 : (cutNode y).s = cutN 2100 y.s := rfl
 refine ⟨hn y (List.mem_of_mem_take hy), ?_⟩
 rw [e2]
 simp at h2
 omega
theorem cols19_names (l : List Col) : ∀ c ∈ cols19L l, c.name.size ≤ maxLen := by
 intro x hx
 obtain ⟨y, _, rfl⟩ := List.mem_map.1 hx
 have h1 := cutN_size 40 y.name
 have e1 : (cutCol y).name = cutN 40 y.name := rfl
 rw [e1]
 simp at h1
 unfold maxLen
 omega
theorem cells19_wf {r : List Cell} (h : ∀ c ∈ r, Wf c) : ∀ c ∈ cells19L r, Wf c := by
 intro x hx
 obtain ⟨y, hy, rfl⟩ := List.mem_map.1 hx
 exact h y (List.mem_of_mem_take hy)
theorem sameNds_is (l : List Nd) : sameNds l l = true := by simp [sameNds]
theorem sameRow_is (l : List Cell) : sameRow l l = true := by simp [sameRow]
def Works19 : Prop := ∀ w, Errs w → Tabs w → PowTab w → Calls Tryz.prog 23 #[] w (Ret (.bool true) w)
set_option maxRecDepth 100000 in
set_option maxHeartbeats 4000000 in
theorem maps_run (cv rv tv : Value) (cols : List Col) (r : List Cell) (t : List Nd) (w : World) (hc : ColsIs w cv cols) (hr : RowIs w rv r) (ht : NodesIs w tv t) (hw : ∀ c ∈ r, Wf c) (hn : NumsOk t) (hE : Errs w) (hT : Tabs w) (hP : PowTab w) (WK : Works19) :
 Calls Tryz.prog 3 #[cv, rv, tv] w (Ret (.bool true) w) := by
 unfold Ret
 have HE := hide hE
 have HT := hide hT
 have HP := hide hP
 obtain ⟨C, hC⟩ : ∃ C, Hid (cols19L cols = C) := ⟨_, hide rfl⟩
 obtain ⟨R, hR⟩ : ∃ R, Hid (cells19L r = R) := ⟨_, hide rfl⟩
 obtain ⟨T, hTt⟩ : ∃ T, Hid (nodes19L t = T) := ⟨_, hide rfl⟩
 have CA := hide (fun w' (o : Old w w') => cols19_run cv cols w' (hc.old o))
 have CB := hide (fun w' (o : Old w w') => cells19_run rv r w' (hr.old o))
 have CD := hide (fun w' (o : Old w w') => nodes19_run tv t w' (ht.old o))
 have HTX := hide (show TextsOk T by rw [← hTt.out]; exact nodes19_texts t)
 have HTF := hide (show NdFit T by rw [← hTt.out]; exact nodes19_fit hn)
 have HCN := hide (show ∀ c ∈ C, c.name.size ≤ maxLen by rw [← hC.out]; exact cols19_names cols)
 have HRW := hide (show ∀ c ∈ R, Wf c by rw [← hR.out]; exact cells19_wf hw)
 have HCL := hide (show C.length ≤ 34 by rw [← hC.out]; exact cols19L_len cols)
 have HRL := hide (show R.length ≤ 40 by rw [← hR.out]; exact cells19L_len r)
 have HTL := hide (show T.length ≤ 100 by rw [← hTt.out]; exact nodes19L_len t)
 rw [hC.out] at CA
 rw [hR.out] at CB
 rw [hTt.out] at CD
 obtain ⟨out1, er1, hq1⟩ := RowT_any C R
 obtain ⟨out2, er2, hq2⟩ := RowOf_any C T
 have HQ1 := hide hq1
 have HQ2 := hide hq2
 clear hc hr ht hw hn hE hT hP hq1 hq2 hC hR hTt
 unfold NewColsT at CA
 go_enter Tryz.func3, Tryz.ntmps3
 go_wp2_with fail
 refine (CA.out _ (Old.refl _)).mono ?_
 rintro e w1 ⟨v1, rfl, n1, o1⟩
 have O1 := hide o1
 have N1 := hide n1.sl
 clear o1 n1
 go_wp2_with fail
 refine (CB.out _ O1.out).mono ?_
 rintro e w2 ⟨v2, rfl, n2, o2⟩
 have O2 := hide (Old.trans O1.out o2)
 have N1 := hide (N1.out.old o2)
 have N2 := hide n2.sl
 clear o2 n2
 go_wp2_with fail
 refine (CD.out _ O2.out).mono ?_
 rintro e w3 ⟨v3, rfl, n3, o3⟩
 have O3 := hide (Old.trans O2.out o3)
 have N1 := hide (N1.out.old o3)
 have N2 := hide (N2.out.old o3)
 have N3 := hide n3.sl
 have CA2 := hide (fun w' (o : Old w3 w') => copyCols v1 C w' (N1.out.old o) (by have := HCL.out; omega))
 have CB2 := hide (fun w' (o : Old w3 w') => copyRow v2 R w' (N2.out.old o) (by have := HRL.out; omega))
 have CD2 := hide (fun w' (o : Old w3 w') => ref_Copy v3 T w' (N3.out.old o) (by have := HTL.out; omega))
 unfold NewColsT at CA2
 clear o3 n3 CA CB CD
 go_wp2_with fail
 refine (CA2.out _ (Old.refl _)).mono ?_
 rintro e w4 ⟨v4, rfl, n4, o4⟩
 have O4 := hide o4
 have N4 := hide n4.sl
 clear o4 n4
 go_wp2_with fail
 refine (CB2.out _ O4.out).mono ?_
 rintro e w5 ⟨v5, rfl, n5, o5⟩
 have O5 := hide (Old.trans O4.out o5)
 have N4 := hide (N4.out.old o5)
 have N5 := hide n5.sl
 clear o5 n5
 go_wp2_with fail
 refine (CD2.out _ O5.out).mono ?_
 rintro e w6 ⟨v6, rfl, n6, o6⟩
 have O6 := hide (Old.trans O3.out (Old.trans O5.out o6))
 have N1 := hide (N1.out.old (Old.trans O5.out o6))
 have N2 := hide (N2.out.old (Old.trans O5.out o6))
 have N3 := hide (N3.out.old (Old.trans O5.out o6))
 have N4 := hide (N4.out.old o6)
 have N5 := hide (N5.out.old o6)
 have N6 := hide n6.sl
 clear o6 n6 CA2 CB2 CD2
 have T1 := hide (fun w' (o : Old w6 w') => tapeR_run v1 v2 C R out1 er1 w' (N1.out.old o) (N2.out.old o) HCN.out (by have := HCL.out; omega) (HT.out.old (Old.trans O6.out o)) HQ1.out)
 have T2 := hide (fun w' (o : Old w6 w') => rtape_run v4 v5 C R out1 er1 w' (N4.out.old o) (N5.out.old o) HRW.out (by have := HCL.out; omega) HQ1.out)
 have T3 := hide (fun w' (o : Old w6 w') => row_run v1 v3 C T out2 er2 w' (N1.out.old o) (N3.out.old o) HTX.out HTF.out HCN.out (by have := HCL.out; omega) (HT.out.old (Old.trans O6.out o)) HQ2.out)
 have T4 := hide (fun w' (o : Old w6 w') => rrow_run v4 v6 C T out2 er2 w' (N4.out.old o) (N6.out.old o) HTX.out HTF.out (by have := HCL.out; omega) HQ2.out)
 go_wp2_with fail
 refine (T1.out _ (Old.refl _)).mono ?_
 rintro e w7 ⟨v7, rfl, n7, o7⟩
 have O7 := hide o7
 have N7 := hide n7
 clear o7 n7 T1
 go_wp2_with fail
 refine (T2.out _ O7.out).mono ?_
 rintro e w8 ⟨v8, rfl, n8, o8⟩
 have O8 := hide (Old.trans O7.out o8)
 have N7 := hide (SlT.old N7.out o8)
 have N8 := hide n8
 clear o8 n8 T2
 go_wp2_with fail
 refine (T3.out _ O8.out).mono ?_
 rintro e w9 ⟨v9, rfl, n9, o9⟩
 have O9 := hide (Old.trans O8.out o9)
 have N7 := hide (SlT.old N7.out o9)
 have N8 := hide (SlT.old N8.out o9)
 have N9 := hide (SlT.mono n9 O8.out.size)
 clear o9 n9 T3
 go_wp2_with fail
 refine (T4.out _ O9.out).mono ?_
 rintro e w10 ⟨v10, rfl, n10, o10⟩
 have O10 := hide (Old.trans O9.out o10)
 have N7 := hide (SlT.old N7.out o10)
 have N8 := hide (SlT.old N8.out o10)
 have N9 := hide (SlT.old N9.out o10)
 have CE1 := hide (fun w' (o : Old w10 w') => ref_Eq v7 v8 out1 out1 w' (N7.out.sl.old o) (N8.out.sl.old o))
 have CE2 := hide (fun w' (o : Old w10 w') => eqRow v9 v10 out2 out2 w' (N9.out.sl.old o) (n10.sl.old o))
 rw [sameNds_is] at CE1
 rw [sameRow_is] at CE2
 clear o10 n10 T4
 go_wp2_with fail
 refine (CE1.out _ (Old.refl _)).mono ?_
 rintro e w11 ⟨rfl, o11⟩
 have O11 := hide o11
 clear o11 CE1
 go_wp2_with fail
 refine (CE2.out _ O11.out).mono ?_
 rintro e w12 ⟨rfl, o12⟩
 have O12 := hide (Old.trans O11.out o12)
 have O12W := hide (Old.trans O10.out O12.out)
 have N7 := hide (SlT.old N7.out O12.out)
 have N9 := hide (SlT.old N9.out O12.out)
 clear o12 CE2 N8
 obtain ⟨n, hnl⟩ : ∃ n, Hid (out1.length = n) := ⟨_, hide rfl⟩
 obtain ⟨m, hml⟩ : ∃ m, Hid (out2.length = m) := ⟨_, hide rfl⟩
 obtain ⟨A7, c7, rfl, q7, r7⟩ := form_of N7.out hnl.out
 obtain ⟨A9, c9, rfl, q9, r9⟩ := form_of N9.out hml.out
 unfold maxLen at r7 r9
 clear O10 O9 O8 O7
 go_wp2_with fail
 go_loopw [18] (fun iv wr => ∃ (k : Nat) (l : List Nd), iv = .int .i64 k ∧ k ≤ n ∧ Hid (l.length = n) ∧ Hid (NodesT w6.heap.size wr (.slice A7 n c7) l) ∧ Hid (CellsT w6.heap.size wr (.slice A9 m c9) out2) ∧ Hid (Old w6 wr)) (fun iv _ => n - (intOf iv).toNat)
 case atStart => exact ⟨0, out1, rfl, by omega, hnl, N7, N9, O12W⟩
 case round =>
  obtain ⟨k, l, rfl, hk, HL, HN, HX, HO⟩ := hrel
  by_cases hlt : k < n
  · have hli : (k : Int) < (n : Int) := by omega
    have hkl : k < l.length := by rw [HL.out]; exact hlt
    have h := HN.out
    rw [split_at hkl] at h
    obtain ⟨x, hx⟩ : ∃ x, Hid (l[k] = x) := ⟨_, hide rfl⟩
    rw [hx.out] at h
    obtain ⟨g, off, rfl, s1, s2, s3, s4⟩ := store_nd k h (by simp; omega)
    obtain ⟨cs, f, hh⟩ := nodes_block h rfl
    have HN2 := hide (s4 ⟨99, none_, 0, none_, 0⟩)
    have HX2 := hide (other5 (b := off + k * 5) HX.out hh (by decide) (.int .i64 99) (.string none_) (.int .i64 0) (.string none_) (.int .i64 0))
    have HO2 := hide (old5 (b := off + k * 5) HO.out s1 (.int .i64 99) (.string none_) (.int .i64 0) (.string none_) (.int .i64 0))
    have HL2 := hide (show (l.take k ++ (⟨99, none_, 0, none_, 0⟩ : Nd) :: l.drop (k + 1)).length = n by rw [← HL.out]; simp; omega)
    have y0 := s2 0 _ rfl
    have y1 := s2 1 _ rfl
    have y2 := s2 2 _ rfl
    have y3 := s2 3 _ rfl
    have y4 := s2 4 _ rfl
    rw [Nat.add_zero] at y0
    have f0 := s3 (off + k * 5)
    have f1 := s3 (off + k * 5 + 1)
    have f2 := s3 (off + k * 5 + 2)
    have f3 := s3 (off + k * 5 + 3)
    have f4 := s3 (off + k * 5 + 4)
    clear h s1 s2 s3 s4 hh
    go_wp2_with fail
    go_roundw
    case rel => exact ⟨k + 1, _, by go_num, by omega, HL2, HN2, HX2, HO2⟩
    case measure => simp [intOf]; omega
  · have hli : ¬ (k : Int) < (n : Int) := by omega
    obtain ⟨wv, hwv⟩ : ∃ x, x = wr := ⟨_, rfl⟩
    subst hwv
    clear HN
    go_wp2_with fail
    go_loopw [19] (fun iv wr => ∃ (k : Nat) (l : List Cell), iv = .int .i64 k ∧ k ≤ m ∧ Hid (l.length = m) ∧ Hid (CellsT w6.heap.size wr (.slice A9 m c9) l) ∧ Hid (Old w6 wr)) (fun iv _ => m - (intOf iv).toNat)
    case atStart => exact ⟨0, out2, rfl, by omega, hml, HX, HO⟩
    case round =>
     obtain ⟨k2, l2, rfl, hk2, HL2, HX2, HO2⟩ := hrel
     by_cases hlt2 : k2 < m
     · have hli2 : (k2 : Int) < (m : Int) := by omega
       have hkl : k2 < l2.length := by rw [HL2.out]; exact hlt2
       have h := HX2.out
       rw [split_at hkl] at h
       obtain ⟨x, hx⟩ : ∃ x, Hid (l2[k2] = x) := ⟨_, hide rfl⟩
       rw [hx.out] at h
       obtain ⟨g, off, rfl, s1, s2, s3, s4⟩ := store_cell k2 h (by simp; omega)
       have HX3 := hide (s4 ⟨false, -9, none_⟩)
       have HO3 := hide (old3 (b := off + k2 * 3) HO2.out s1 (.bool false) (.int .i64 (-9)) (.string none_))
       have HL3 := hide (show (l2.take k2 ++ (⟨false, -9, none_⟩ : Cell) :: l2.drop (k2 + 1)).length = m by rw [← HL2.out]; simp; omega)
       have y0 := s2 0 _ rfl
       have y1 := s2 1 _ rfl
       have y2 := s2 2 _ rfl
       rw [Nat.add_zero] at y0
       have f0 := s3 (off + k2 * 3)
       have f1 := s3 (off + k2 * 3 + 1)
       have f2 := s3 (off + k2 * 3 + 2)
       clear h s1 s2 s3 s4
       go_wp2_with fail
       go_roundw
       case rel => exact ⟨k2 + 1, _, by go_num, by omega, HL3, HX3, HO3⟩
       case measure => simp [intOf]; omega
     · have hli2 : ¬ (k2 : Int) < (m : Int) := by omega
       have F1 := hide (eqCols_same v1 v4 C wr (N1.out.old HO2.out) (N4.out.old HO2.out))
       have F2 := hide (fun w' (o : Old wr w') => eqRow v2 v5 R R w' (N2.out.old (Old.trans HO2.out o)) (N5.out.old (Old.trans HO2.out o)))
       have F3 := hide (fun w' (o : Old wr w') => ref_Eq v3 v6 T T w' (N3.out.old (Old.trans HO2.out o)) (N6.out.old (Old.trans HO2.out o)))
       have F4 := hide (fun w' (o : Old wr w') => WK w' (HE.out.old (Old.trans O6.out (Old.trans HO2.out o))) (HT.out.old (Old.trans O6.out (Old.trans HO2.out o))) (PowTab.old HP.out (Old.trans O6.out (Old.trans HO2.out o))))
       rw [sameRow_is] at F2
       rw [sameNds_is] at F3
       unfold Ret at F1 F4
       clear HX2
       go_wp2_with fail
       refine F1.out.mono ?_
       rintro e w20 ⟨rfl, o20⟩
       have O20 := hide o20
       clear o20
       go_wp2_with fail
       refine (F2.out _ O20.out).mono ?_
       rintro e w21 ⟨rfl, o21⟩
       have O21 := hide (Old.trans O20.out o21)
       clear o21
       go_wp2_with fail
       refine (F3.out _ O21.out).mono ?_
       rintro e w22 ⟨rfl, o22⟩
       have O22 := hide (Old.trans O21.out o22)
       clear o22
       go_wp2_with fail
       refine (F4.out _ O22.out).mono ?_
       rintro e w23 ⟨rfl, o23⟩
       have O23 := hide (Old.trans O22.out o23)
       clear o23
       go_wp2_with fail
       go_ret
       exact ⟨rfl, Old.trans O6.out (Old.trans HO2.out O23.out)⟩
end Go.Proofs.YthlfljmfggmfdaaGreatDoor

/-! ###  -/
namespace Go.Proofs.YthlfljmfggmfdaaGreatDoor
open Go.RowKit Go.ChangeShapes Go.WideShapes Go.Deep
section
variable {H : Type} {enc : TypeId × Value → H} {w : World} {base : Nat} {spare : Nat → Bool} {held : Bool}
instance : Inhabited Cell := ⟨⟨false, 0, ⟨#[]⟩⟩⟩
instance : Inhabited Col := ⟨⟨0, ⟨#[]⟩, 0, false, ⟨false, 0, ⟨#[]⟩⟩⟩⟩
end
end Go.Proofs.YthlfljmfggmfdaaGreatDoor

/-! ###  -/
namespace Go.Proofs.YthlfljmfggmfdaaGreatDoor
open Go.RowKit Go.ChangeShapes Go.WideShapes Go.Deep
section
variable {H : Type} {enc : TypeId × Value → H} {w : World} {base : Nat} {spare : Nat → Bool} {held : Bool}
end
end Go.Proofs.YthlfljmfggmfdaaGreatDoor

/-! ###  -/
namespace Go.Proofs.YthlfljmfggmfdaaGreatDoor
open Go.RowKit
def TBox (w : World) (b : Nat) (k : Int) (n : Bool) : Prop := w.heap[b]? = some (.cells #[.int .i64 k, .bool n] 54)
def SBox (w : World) (b : Nat) (v : Value) : Prop := w.heap[b]? = some (.cells #[v] 44)
theorem SBox.old {w w' : World} {b : Nat} {v : Value} (h : SBox w b v) (o : Old w w') : SBox w' b v := (o.block _ (block_lt h)).trans h
theorem SBox.cell {w : World} {b : Nat} {v : Value} (h : SBox w b v) : w.cell? ⟨b, 0, none⟩ = some v := (cell_of_heap h).trans rfl
theorem TBox.old {w w' : World} {b : Nat} {k : Int} {n : Bool} (h : TBox w b k n) (o : Old w w') : TBox w' b k n := (o.block _ (block_lt h)).trans h
theorem TBox.cells {w : World} {b : Nat} {k : Int} {n : Bool} (h : TBox w b k n) : w.cell? ⟨b, 0, none⟩ = some (.int .i64 k) ∧ w.cell? ⟨b, 1, none⟩ = some (.bool n) := ⟨(cell_of_heap h).trans rfl, (cell_of_heap h).trans rfl⟩
structure MS (w : World) (p q : Nat) (k : Int) (b : Bool) (c : Cell) (rv : Value) (r : List Cell) (sv : Value) (w' : World) : Prop where
 old : Old w w'
 seed : SBox w' w.heap.size sv
 ty : TBox w' p k b
 cl : CBox w' q c
 row : CellsOwn w.heap.size w' rv r
section
variable {w x y : World} {p q : Nat} {k : Int} {b : Bool} {c : Cell} {rv sv : Value} {r : List Cell}
theorem MS.step (h : MS w p q k b c rv r sv x) (o : Old x y) : MS w p q k b c rv r sv y := ⟨Old.trans h.old o, h.seed.old o, h.ty.old o, h.cl.old o, own_old h.row o⟩
theorem MS.drew (h : MS w p q k b c rv r sv x) : MS w p q k b c rv r sv x.drew := h.step (Old.drew (Old.refl _))
theorem MS.alloc (h : MS w p q k b c rv r sv x) (o : Obj) : MS w p q k b c rv r sv (x.alloc o) := h.step (Old.alloc (Old.refl _) _)
theorem MS.kept (h : MS w p q k b c rv r sv x) (o : Kept 56 w.heap.size x y) : MS w p q k b c rv r sv y :=
 ⟨o.old h.old (Nat.le_refl _), o.other _ _ _ _ h.seed (by decide), o.other _ _ _ _ h.ty (by decide), o.other _ _ _ _ h.cl (by decide), o.own h.row (by decide)⟩
end
end Go.Proofs.YthlfljmfggmfdaaGreatDoor
