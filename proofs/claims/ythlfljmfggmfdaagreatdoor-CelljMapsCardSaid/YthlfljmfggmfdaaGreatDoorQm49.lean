/- CelljMaps: the walk. -/
import Derived.Test.YthlfljmfggmfdaaGreatDoorQm48
import Derived.Test.YthlfljmfggmfdaaGreatDoorRows
import Derived.Test.YthlfljmfggmfdaaGreatDoorQm07
import Derived.Deep.Slices
import Derived.Deep.Fields
import Derived.ChangeSame
import Derived.Below
import Derived.Carry
import Derived.ProofKit
import Derived.OpenShut
import Derived.Lib.LaidU8T
import Derived.Lib.LaidIn
import Derived.PinnedBridge
import Derived.MakeChecks
import Derived.Stop.Joined
import Derived.Test.YthlfljmfggmfdaaGreatDoorQm19
import Derived.Test.YthlfljmfggmfdaaGreatDoorQm38
import Derived.Stop.LaidErr
import Derived.Test.YthlfljmfggmfdaaGreatDoorQm44
/-! ### CelljMaps: the walk. -/
namespace Go.Proofs.YthlfljmfggmfdaaGreatDoor
open Go.RowKit

theorem set_next {α : Type} {vals : α → List Value} {n T : Nat} (hn : ∀ x, (vals x).length = n) {lo m cap : Nat} {w : World} {g off : Nat} {l1 l2 : List α} {x y : α} (i k : Nat) (v : Value) (h : SlT T lo w (.slice (some ⟨g, off, none⟩) m cap) (l1 ++ x :: l2).length ((l1 ++ x :: l2).flatMap vals)) (hk : l1.length = k) (hi : i < n) (hy : vals y = (vals x).set i v) :
    SlT T lo (w.setCell ⟨g, off + k * n + i, none⟩ v) (.slice (some ⟨g, off, none⟩) m cap) (l1 ++ y :: l2).length ((l1 ++ y :: l2).flatMap vals) := by
  obtain ⟨g', off', e, _, _, _, h5⟩ := set_elem hn (y := y) i k v h hk hi hy
  injection e with e
  injection e with e1 e2
  subst e1 e2
  exact h5
theorem store_nd {lo m cap : Nat} {w : World} {A : Option Addr} {l1 l2 : List Nd} {x : Nd} (k : Nat) (h : NodesT lo w (.slice A m cap) (l1 ++ x :: l2)) (hk : l1.length = k) :
    ∃ g off, A = some ⟨g, off, none⟩ ∧ lo ≤ g ∧ (∀ j u, x.vals[j]? = some u → w.cell? ⟨g, off + k * 5 + j, none⟩ = some u) ∧ (∀ j, w.frozen? ⟨g, j, none⟩ = false) ∧ ∀ y : Nd, NodesT lo (W5 w g (off + k * 5) (.int .i64 y.kind) (.string y.key) (.int .i64 y.n) (.string y.s) (.int .i64 y.size)) (.slice A m cap) (l1 ++ y :: l2) := by
  obtain ⟨g, off, rfl, h1, h2, h3, _⟩ := set_elem ndVals_n (x := x) (y := ⟨0, x.key, x.n, x.s, x.size⟩) 0 k (.int .i64 0) h hk (by omega) rfl
  refine ⟨g, off, rfl, h1, h2, h3, fun y => ?_⟩
  have s0 := set_next ndVals_n (y := ⟨y.kind, x.key, x.n, x.s, x.size⟩) 0 k (.int .i64 y.kind) h hk (by omega) rfl
  have s1 := set_next ndVals_n (y := ⟨y.kind, y.key, x.n, x.s, x.size⟩) 1 k (.string y.key) s0 hk (by omega) rfl
  have s2 := set_next ndVals_n (y := ⟨y.kind, y.key, y.n, x.s, x.size⟩) 2 k (.int .i64 y.n) s1 hk (by omega) rfl
  have s3 := set_next ndVals_n (y := ⟨y.kind, y.key, y.n, y.s, x.size⟩) 3 k (.string y.s) s2 hk (by omega) rfl
  exact set_next ndVals_n (y := y) 4 k (.int .i64 y.size) s3 hk (by omega) rfl
theorem store_cell {lo m cap : Nat} {w : World} {A : Option Addr} {l1 l2 : List Cell} {x : Cell} (k : Nat) (h : CellsT lo w (.slice A m cap) (l1 ++ x :: l2)) (hk : l1.length = k) :
    ∃ g off, A = some ⟨g, off, none⟩ ∧ lo ≤ g ∧ (∀ j u, x.vals[j]? = some u → w.cell? ⟨g, off + k * 3 + j, none⟩ = some u) ∧ (∀ j, w.frozen? ⟨g, j, none⟩ = false) ∧ ∀ y : Cell, CellsT lo (W3 w g (off + k * 3) (.bool y.null) (.int .i64 y.n) (.string y.s)) (.slice A m cap) (l1 ++ y :: l2) := by
  obtain ⟨g, off, rfl, h1, h2, h3, _⟩ := set_elem cellVals_n (x := x) (y := ⟨false, x.n, x.s⟩) 0 k (.bool false) h hk (by omega) rfl
  refine ⟨g, off, rfl, h1, h2, h3, fun y => ?_⟩
  have s0 := set_next cellVals_n (y := ⟨y.null, x.n, x.s⟩) 0 k (.bool y.null) h hk (by omega) rfl
  have s1 := set_next cellVals_n (y := ⟨y.null, y.n, x.s⟩) 1 k (.int .i64 y.n) s0 hk (by omega) rfl
  exact set_next cellVals_n (y := y) 2 k (.string y.s) s1 hk (by omega) rfl
theorem other5 {T T' lo n g b : Nat} {w : World} {v : Value} {xs : List Value} {cs : Array Value} {f : Nat × Nat} (h : SlT T lo w v n xs) (hg : w.heap[g]? = some (.cells cs T' f)) (hne : T ≠ T') (v0 v1 v2 v3 v4 : Value) : SlT T lo (W5 w g b v0 v1 v2 v3 v4) v n xs := by
  obtain ⟨c1, h1⟩ := heap_set_here (i := b) hg v0
  obtain ⟨c2, h2⟩ := heap_set_here (i := b + 1) h1 v1
  obtain ⟨c3, h3⟩ := heap_set_here (i := b + 2) h2 v2
  obtain ⟨c4, h4⟩ := heap_set_here (i := b + 3) h3 v3
  exact sl_other (sl_other (sl_other (sl_other (sl_other h hg hne v0) h1 hne v1) h2 hne v2) h3 hne v3) h4 hne v4
theorem nodes_block {lo m cap : Nat} {w : World} {A : Option Addr} {l1 l2 : List Nd} {x : Nd} (h : NodesT lo w (.slice A m cap) (l1 ++ x :: l2)) {g off : Nat} (hA : A = some ⟨g, off, none⟩) : ∃ cs f, w.heap[g]? = some (.cells cs 36 f) := by
  obtain ⟨b, off', cap', cs, f, he, _, hh, _⟩ := slT_block h (ndVals_ne (by simp; omega))
  injection he with e1
  rw [hA] at e1
  injection e1 with e1
  injection e1 with e1
  subst e1
  exact ⟨cs, f, hh⟩
theorem old5 {w0 w : World} {g b : Nat} (h : Old w0 w) (hg : w0.heap.size ≤ g) (v0 v1 v2 v3 v4 : Value) : Old w0 (W5 w g b v0 v1 v2 v3 v4) := Old.setCell (Old.setCell (Old.setCell (Old.setCell (Old.setCell h hg v0) hg v1) hg v2) hg v3) hg v4
theorem old3 {w0 w : World} {g b : Nat} (h : Old w0 w) (hg : w0.heap.size ≤ g) (v0 v1 v2 : Value) : Old w0 (W3 w g b v0 v1 v2) := Old.setCell (Old.setCell (Old.setCell h hg v0) hg v1) hg v2
theorem split_at {α : Type} {l : List α} {k : Nat} (h : k < l.length) : l = l.take k ++ l[k] :: l.drop (k + 1) := by rw [← List.drop_eq_getElem_cons h, List.take_append_drop]
theorem nodes19_texts (t : List Nd) : TextsOk (nodes19L t) := by
  intro x hx
  obtain ⟨y, _, rfl⟩ := List.mem_map.1 hx
  have h1 := cutN_size 40 y.key
  have h2 := cutN_size 2100 y.s
  have e1 : (cutNode y).key = cutN 40 y.key := rfl
  have e2 : (cutNode y).s = cutN 2100 y.s := rfl
  rw [e1, e2]
  simp at h1 h2
  unfold maxLen
  omega
theorem nodes19_fit {t : List Nd} (hn : NumsOk t) : NdFit (nodes19L t) := by
  intro x hx
  obtain ⟨y, hy, rfl⟩ := List.mem_map.1 hx
  have h2 := cutN_size 2100 y.s
  have e2 : (cutNode y).s = cutN 2100 y.s := rfl
  refine ⟨hn y (List.mem_of_mem_take hy), ?_⟩
  rw [e2]
  simp at h2
  omega
theorem cols19_names (l : List Col) : ∀ c ∈ cols19L l, c.name.size ≤ maxLen := by
  intro x hx
  obtain ⟨y, _, rfl⟩ := List.mem_map.1 hx
  have h1 := cutN_size 40 y.name
  have e1 : (cutCol y).name = cutN 40 y.name := rfl
  rw [e1]
  simp at h1
  unfold maxLen
  omega
theorem cells19_wf {r : List Cell} (h : ∀ c ∈ r, Wf c) : ∀ c ∈ cells19L r, Wf c := by
  intro x hx
  obtain ⟨y, hy, rfl⟩ := List.mem_map.1 hx
  exact h y (List.mem_of_mem_take hy)
theorem sameNds_is (l : List Nd) : sameNds l l = true := by simp [sameNds]
theorem sameRow_is (l : List Cell) : sameRow l l = true := by simp [sameRow]
def Works19 : Prop := ∀ w, Errs w → Tabs w → PowTab w → Calls Tryz.prog 23 #[] w (Ret (.bool true) w)
set_option maxRecDepth 100000 in
set_option maxHeartbeats 4000000 in
theorem maps_run (cv rv tv : Value) (cols : List Col) (r : List Cell) (t : List Nd) (w : World) (hc : ColsIs w cv cols) (hr : RowIs w rv r) (ht : NodesIs w tv t) (hw : ∀ c ∈ r, Wf c) (hn : NumsOk t) (hE : Errs w) (hT : Tabs w) (hP : PowTab w) (WK : Works19) :
    Calls Tryz.prog 3 #[cv, rv, tv] w (Ret (.bool true) w) := by
  unfold Ret
  have HE := hide hE
  have HT := hide hT
  have HP := hide hP
  obtain ⟨C, hC⟩ : ∃ C, Hid (cols19L cols = C) := ⟨_, hide rfl⟩
  obtain ⟨R, hR⟩ : ∃ R, Hid (cells19L r = R) := ⟨_, hide rfl⟩
  obtain ⟨T, hTt⟩ : ∃ T, Hid (nodes19L t = T) := ⟨_, hide rfl⟩
  have CA := hide (fun w' (o : Old w w') => cols19_run cv cols w' (hc.old o))
  have CB := hide (fun w' (o : Old w w') => cells19_run rv r w' (hr.old o))
  have CD := hide (fun w' (o : Old w w') => nodes19_run tv t w' (ht.old o))
  have HTX := hide (show TextsOk T by rw [← hTt.out]; exact nodes19_texts t)
  have HTF := hide (show NdFit T by rw [← hTt.out]; exact nodes19_fit hn)
  have HCN := hide (show ∀ c ∈ C, c.name.size ≤ maxLen by rw [← hC.out]; exact cols19_names cols)
  have HRW := hide (show ∀ c ∈ R, Wf c by rw [← hR.out]; exact cells19_wf hw)
  have HCL := hide (show C.length ≤ 34 by rw [← hC.out]; exact cols19L_len cols)
  have HRL := hide (show R.length ≤ 40 by rw [← hR.out]; exact cells19L_len r)
  have HTL := hide (show T.length ≤ 100 by rw [← hTt.out]; exact nodes19L_len t)
  rw [hC.out] at CA
  rw [hR.out] at CB
  rw [hTt.out] at CD
  obtain ⟨out1, er1, hq1⟩ := RowT_any C R
  obtain ⟨out2, er2, hq2⟩ := RowOf_any C T
  have HQ1 := hide hq1
  have HQ2 := hide hq2
  clear hc hr ht hw hn hE hT hP hq1 hq2 hC hR hTt
  unfold NewColsT at CA
  go_enter Tryz.func3, Tryz.ntmps3
  go_wp2_with fail
  refine (CA.out _ (Old.refl _)).mono ?_
  rintro e w1 ⟨v1, rfl, n1, o1⟩
  have O1 := hide o1
  have N1 := hide n1.sl
  clear o1 n1
  go_wp2_with fail
  refine (CB.out _ O1.out).mono ?_
  rintro e w2 ⟨v2, rfl, n2, o2⟩
  have O2 := hide (Old.trans O1.out o2)
  have N1 := hide (N1.out.old o2)
  have N2 := hide n2.sl
  clear o2 n2
  go_wp2_with fail
  refine (CD.out _ O2.out).mono ?_
  rintro e w3 ⟨v3, rfl, n3, o3⟩
  have O3 := hide (Old.trans O2.out o3)
  have N1 := hide (N1.out.old o3)
  have N2 := hide (N2.out.old o3)
  have N3 := hide n3.sl
  have CA2 := hide (fun w' (o : Old w3 w') => copyCols v1 C w' (N1.out.old o) (by have := HCL.out; omega))
  have CB2 := hide (fun w' (o : Old w3 w') => copyRow v2 R w' (N2.out.old o) (by have := HRL.out; omega))
  have CD2 := hide (fun w' (o : Old w3 w') => ref_Copy v3 T w' (N3.out.old o) (by have := HTL.out; omega))
  unfold NewColsT at CA2
  clear o3 n3 CA CB CD
  go_wp2_with fail
  refine (CA2.out _ (Old.refl _)).mono ?_
  rintro e w4 ⟨v4, rfl, n4, o4⟩
  have O4 := hide o4
  have N4 := hide n4.sl
  clear o4 n4
  go_wp2_with fail
  refine (CB2.out _ O4.out).mono ?_
  rintro e w5 ⟨v5, rfl, n5, o5⟩
  have O5 := hide (Old.trans O4.out o5)
  have N4 := hide (N4.out.old o5)
  have N5 := hide n5.sl
  clear o5 n5
  go_wp2_with fail
  refine (CD2.out _ O5.out).mono ?_
  rintro e w6 ⟨v6, rfl, n6, o6⟩
  have O6 := hide (Old.trans O3.out (Old.trans O5.out o6))
  have N1 := hide (N1.out.old (Old.trans O5.out o6))
  have N2 := hide (N2.out.old (Old.trans O5.out o6))
  have N3 := hide (N3.out.old (Old.trans O5.out o6))
  have N4 := hide (N4.out.old o6)
  have N5 := hide (N5.out.old o6)
  have N6 := hide n6.sl
  clear o6 n6 CA2 CB2 CD2
  have T1 := hide (fun w' (o : Old w6 w') => tapeR_run v1 v2 C R out1 er1 w' (N1.out.old o) (N2.out.old o) HCN.out (by have := HCL.out; omega) (HT.out.old (Old.trans O6.out o)) HQ1.out)
  have T2 := hide (fun w' (o : Old w6 w') => rtape_run v4 v5 C R out1 er1 w' (N4.out.old o) (N5.out.old o) HRW.out (by have := HCL.out; omega) HQ1.out)
  have T3 := hide (fun w' (o : Old w6 w') => row_run v1 v3 C T out2 er2 w' (N1.out.old o) (N3.out.old o) HTX.out HTF.out HCN.out (by have := HCL.out; omega) (HT.out.old (Old.trans O6.out o)) HQ2.out)
  have T4 := hide (fun w' (o : Old w6 w') => rrow_run v4 v6 C T out2 er2 w' (N4.out.old o) (N6.out.old o) HTX.out HTF.out (by have := HCL.out; omega) HQ2.out)
  go_wp2_with fail
  refine (T1.out _ (Old.refl _)).mono ?_
  rintro e w7 ⟨v7, rfl, n7, o7⟩
  have O7 := hide o7
  have N7 := hide n7
  clear o7 n7 T1
  go_wp2_with fail
  refine (T2.out _ O7.out).mono ?_
  rintro e w8 ⟨v8, rfl, n8, o8⟩
  have O8 := hide (Old.trans O7.out o8)
  have N7 := hide (SlT.old N7.out o8)
  have N8 := hide n8
  clear o8 n8 T2
  go_wp2_with fail
  refine (T3.out _ O8.out).mono ?_
  rintro e w9 ⟨v9, rfl, n9, o9⟩
  have O9 := hide (Old.trans O8.out o9)
  have N7 := hide (SlT.old N7.out o9)
  have N8 := hide (SlT.old N8.out o9)
  have N9 := hide (SlT.mono n9 O8.out.size)
  clear o9 n9 T3
  go_wp2_with fail
  refine (T4.out _ O9.out).mono ?_
  rintro e w10 ⟨v10, rfl, n10, o10⟩
  have O10 := hide (Old.trans O9.out o10)
  have N7 := hide (SlT.old N7.out o10)
  have N8 := hide (SlT.old N8.out o10)
  have N9 := hide (SlT.old N9.out o10)
  have CE1 := hide (fun w' (o : Old w10 w') => ref_Eq v7 v8 out1 out1 w' (N7.out.sl.old o) (N8.out.sl.old o))
  have CE2 := hide (fun w' (o : Old w10 w') => eqRow v9 v10 out2 out2 w' (N9.out.sl.old o) (n10.sl.old o))
  rw [sameNds_is] at CE1
  rw [sameRow_is] at CE2
  clear o10 n10 T4
  go_wp2_with fail
  refine (CE1.out _ (Old.refl _)).mono ?_
  rintro e w11 ⟨rfl, o11⟩
  have O11 := hide o11
  clear o11 CE1
  go_wp2_with fail
  refine (CE2.out _ O11.out).mono ?_
  rintro e w12 ⟨rfl, o12⟩
  have O12 := hide (Old.trans O11.out o12)
  have O12W := hide (Old.trans O10.out O12.out)
  have N7 := hide (SlT.old N7.out O12.out)
  have N9 := hide (SlT.old N9.out O12.out)
  clear o12 CE2 N8
  obtain ⟨n, hnl⟩ : ∃ n, Hid (out1.length = n) := ⟨_, hide rfl⟩
  obtain ⟨m, hml⟩ : ∃ m, Hid (out2.length = m) := ⟨_, hide rfl⟩
  obtain ⟨A7, c7, rfl, q7, r7⟩ := form_of N7.out hnl.out
  obtain ⟨A9, c9, rfl, q9, r9⟩ := form_of N9.out hml.out
  unfold maxLen at r7 r9
  clear O10 O9 O8 O7
  go_wp2_with fail
  go_loopw [18] (fun iv wr => ∃ (k : Nat) (l : List Nd), iv = .int .i64 k ∧ k ≤ n ∧ Hid (l.length = n) ∧ Hid (NodesT w6.heap.size wr (.slice A7 n c7) l) ∧ Hid (CellsT w6.heap.size wr (.slice A9 m c9) out2) ∧ Hid (Old w6 wr)) (fun iv _ => n - (intOf iv).toNat)
  case atStart => exact ⟨0, out1, rfl, by omega, hnl, N7, N9, O12W⟩
  case round =>
    obtain ⟨k, l, rfl, hk, HL, HN, HX, HO⟩ := hrel
    by_cases hlt : k < n
    · have hli : (k : Int) < (n : Int) := by omega
      have hkl : k < l.length := by rw [HL.out]; exact hlt
      have h := HN.out
      rw [split_at hkl] at h
      obtain ⟨x, hx⟩ : ∃ x, Hid (l[k] = x) := ⟨_, hide rfl⟩
      rw [hx.out] at h
      obtain ⟨g, off, rfl, s1, s2, s3, s4⟩ := store_nd k h (by simp; omega)
      obtain ⟨cs, f, hh⟩ := nodes_block h rfl
      have HN2 := hide (s4 ⟨99, none_, 0, none_, 0⟩)
      have HX2 := hide (other5 (b := off + k * 5) HX.out hh (by decide) (.int .i64 99) (.string none_) (.int .i64 0) (.string none_) (.int .i64 0))
      have HO2 := hide (old5 (b := off + k * 5) HO.out s1 (.int .i64 99) (.string none_) (.int .i64 0) (.string none_) (.int .i64 0))
      have HL2 := hide (show (l.take k ++ (⟨99, none_, 0, none_, 0⟩ : Nd) :: l.drop (k + 1)).length = n by rw [← HL.out]; simp; omega)
      have y0 := s2 0 _ rfl
      have y1 := s2 1 _ rfl
      have y2 := s2 2 _ rfl
      have y3 := s2 3 _ rfl
      have y4 := s2 4 _ rfl
      rw [Nat.add_zero] at y0
      have f0 := s3 (off + k * 5)
      have f1 := s3 (off + k * 5 + 1)
      have f2 := s3 (off + k * 5 + 2)
      have f3 := s3 (off + k * 5 + 3)
      have f4 := s3 (off + k * 5 + 4)
      clear h s1 s2 s3 s4 hh
      go_wp2_with fail
      go_roundw
      case rel => exact ⟨k + 1, _, by go_num, by omega, HL2, HN2, HX2, HO2⟩
      case measure => simp [intOf]; omega
    · have hli : ¬ (k : Int) < (n : Int) := by omega
      obtain ⟨wv, hwv⟩ : ∃ x, x = wr := ⟨_, rfl⟩
      subst hwv
      clear HN
      go_wp2_with fail
      go_loopw [19] (fun iv wr => ∃ (k : Nat) (l : List Cell), iv = .int .i64 k ∧ k ≤ m ∧ Hid (l.length = m) ∧ Hid (CellsT w6.heap.size wr (.slice A9 m c9) l) ∧ Hid (Old w6 wr)) (fun iv _ => m - (intOf iv).toNat)
      case atStart => exact ⟨0, out2, rfl, by omega, hml, HX, HO⟩
      case round =>
        obtain ⟨k2, l2, rfl, hk2, HL2, HX2, HO2⟩ := hrel
        by_cases hlt2 : k2 < m
        · have hli2 : (k2 : Int) < (m : Int) := by omega
          have hkl : k2 < l2.length := by rw [HL2.out]; exact hlt2
          have h := HX2.out
          rw [split_at hkl] at h
          obtain ⟨x, hx⟩ : ∃ x, Hid (l2[k2] = x) := ⟨_, hide rfl⟩
          rw [hx.out] at h
          obtain ⟨g, off, rfl, s1, s2, s3, s4⟩ := store_cell k2 h (by simp; omega)
          have HX3 := hide (s4 ⟨false, -9, none_⟩)
          have HO3 := hide (old3 (b := off + k2 * 3) HO2.out s1 (.bool false) (.int .i64 (-9)) (.string none_))
          have HL3 := hide (show (l2.take k2 ++ (⟨false, -9, none_⟩ : Cell) :: l2.drop (k2 + 1)).length = m by rw [← HL2.out]; simp; omega)
          have y0 := s2 0 _ rfl
          have y1 := s2 1 _ rfl
          have y2 := s2 2 _ rfl
          rw [Nat.add_zero] at y0
          have f0 := s3 (off + k2 * 3)
          have f1 := s3 (off + k2 * 3 + 1)
          have f2 := s3 (off + k2 * 3 + 2)
          clear h s1 s2 s3 s4
          go_wp2_with fail
          go_roundw
          case rel => exact ⟨k2 + 1, _, by go_num, by omega, HL3, HX3, HO3⟩
          case measure => simp [intOf]; omega
        · have hli2 : ¬ (k2 : Int) < (m : Int) := by omega
          have F1 := hide (eqCols_same v1 v4 C wr (N1.out.old HO2.out) (N4.out.old HO2.out))
          have F2 := hide (fun w' (o : Old wr w') => eqRow v2 v5 R R w' (N2.out.old (Old.trans HO2.out o)) (N5.out.old (Old.trans HO2.out o)))
          have F3 := hide (fun w' (o : Old wr w') => ref_Eq v3 v6 T T w' (N3.out.old (Old.trans HO2.out o)) (N6.out.old (Old.trans HO2.out o)))
          have F4 := hide (fun w' (o : Old wr w') => WK w' (HE.out.old (Old.trans O6.out (Old.trans HO2.out o))) (HT.out.old (Old.trans O6.out (Old.trans HO2.out o))) (PowTab.old HP.out (Old.trans O6.out (Old.trans HO2.out o))))
          rw [sameRow_is] at F2
          rw [sameNds_is] at F3
          unfold Ret at F1 F4
          clear HX2
          go_wp2_with fail
          refine F1.out.mono ?_
          rintro e w20 ⟨rfl, o20⟩
          have O20 := hide o20
          clear o20
          go_wp2_with fail
          refine (F2.out _ O20.out).mono ?_
          rintro e w21 ⟨rfl, o21⟩
          have O21 := hide (Old.trans O20.out o21)
          clear o21
          go_wp2_with fail
          refine (F3.out _ O21.out).mono ?_
          rintro e w22 ⟨rfl, o22⟩
          have O22 := hide (Old.trans O21.out o22)
          clear o22
          go_wp2_with fail
          refine (F4.out _ O22.out).mono ?_
          rintro e w23 ⟨rfl, o23⟩
          have O23 := hide (Old.trans O22.out o23)
          clear o23
          go_wp2_with fail
          go_ret
          exact ⟨rfl, Old.trans O6.out (Old.trans HO2.out O23.out)⟩
end Go.Proofs.YthlfljmfggmfdaaGreatDoor

/-! ### What an argument's reading says of it: nodes, texts, rows of nodes; the tables that are laid; the row's last step. -/
/-! ### What an argument's reading says of it: nodes, texts, rows of nodes; the tables that are laid; the row's last step. -/
namespace Go.Proofs.YthlfljmfggmfdaaGreatDoor
open Go.RowKit Go.ChangeShapes Go.WideShapes Go.Deep

section
variable {H : Type} {enc : TypeId × Value → H} {P : Program} {w : World} {base : Nat} {spare : Nat → Bool} {held : Bool}
/-- a slice of structs of fields of one cell each, opened -/
theorem open_slice_fields {t e : TypeId} {fs : Array Field} {fuel : Nat} {cs : List Value} {x : DataW H × List MemPlace} (ht : P.underlying t = some (.slice e)) (he : P.underlying e = some (.struct fs))
    (hone : oneCellFields P fs = true) (hC : P.cellsOf e = fs.size) (h : DataW.trod enc P w base spare held fuel t cs = some x) :
    cs = [.slice none 0 0] ∨
    ∃ (a : Addr) (len cap : Nat), cs = [.slice (some a) len cap] ∧ len ≤ cap ∧ cap ≤ maxLen ∧
      ∀ i, i < len → ∃ (n : Nat), ∀ (j : Nat) (f : Field), fs[j]? = some f → ∃ (v : Value) (y : DataW H × List MemPlace), w.cell? (a.add (i * fs.size + j)) = some v ∧ DataW.trod enc P w base spare held n f.type [v] = some y := by
  rcases open_slice ht h with h0 | ⟨a, len, cap, m, n, D, Pl, hcs, hb, hl, hm, hmm, hx, hi⟩
  · exact .inl h0.1
  · refine .inr ⟨a, len, cap, hcs, hl, hm, fun i him => ?_⟩
    obtain ⟨cs', hc, ht'⟩ := hi i (by rw [hmm]; split <;> omega)
    rw [hC] at hc
    obtain ⟨ys, n', hn', hy, hlen, hyl, hf⟩ := DataW.trod_struct he ht'
    obtain ⟨_, hcl, hat⟩ := World.cells?_some hc
    refine ⟨n', fun j f hj => ?_⟩
    obtain ⟨ho, hk⟩ := hone_of hone j f hj
    have hjl : j < fs.size := (Array.getElem?_eq_some_iff.1 hj).1
    have hcell := hat j hjl
    have hv : cs'[j]? = some (cs'[j]'(by omega)) := List.getElem?_eq_getElem (by omega)
    have h1 := hf j f hj
    rw [ho, hk] at h1
    have hone' : (cs'.drop j).take 1 = [cs'[j]'(by omega)] := by
      rw [List.drop_eq_getElem_cons (by omega)]
      rfl
    rw [hone'] at h1
    have hys : ys[j]? = some (ys[j]'(by omega)) := List.getElem?_eq_getElem (by omega)
    refine ⟨_, _, ?_, h1.trans hys⟩
    rw [← Go.Deep.add_add, hcell, hv]
theorem spot_none {w : World} {a : Addr} {v : Value} (h : w.cell? a = some v) : a.spot = none := by
  unfold World.cell? at h
  split at h
  · split at h
    · cases h
    · rename_i hs; simpa using hs
  · cases h
theorem add_spot {a : Addr} (h : a.spot = none) (n : Nat) : a.add n = ⟨a.block, a.off + n, none⟩ := by
  unfold Addr.add
  split
  · rename_i h0; subst h0; cases a; simp_all
  · rfl
end

section
variable {H : Type} {enc : TypeId × Value → H} {w : World} {base : Nat} {spare : Nat → Bool} {held : Bool}
instance : Inhabited Nd := ⟨⟨0, ⟨#[]⟩, 0, ⟨#[]⟩, 0⟩⟩
theorem open_nodes {fuel : Nat} {cs : List Value} {x : DataW H × List MemPlace} (h : DataW.trod enc Tryz.prog w base spare held fuel 24 cs = some x) : ∃ v r, cs = [v] ∧ NodesIs w v r := by
  rcases open_slice_fields Tryz.underlying24 Tryz.underlying36 (by kernel_rfl) (by kernel_rfl) h with rfl | ⟨a, len, cap, rfl, hl, hm, hf⟩
  · exact ⟨_, [], rfl, Sl.nil_ w⟩
  · have hx : ∀ i, i < len → ∃ c : Nd, w.cell? (a.add (i * 5 + 0)) = some (.int .i64 c.kind) ∧ w.cell? (a.add (i * 5 + 1)) = some (.string c.key) ∧ w.cell? (a.add (i * 5 + 2)) = some (.int .i64 c.n) ∧ w.cell? (a.add (i * 5 + 3)) = some (.string c.s) ∧ w.cell? (a.add (i * 5 + 4)) = some (.int .i64 c.size) := by
      intro i hi
      obtain ⟨n, hf⟩ := hf i hi
      obtain ⟨v0, y0, h0, t0⟩ := hf 0 _ rfl
      obtain ⟨v1, y1, h1, t1⟩ := hf 1 _ rfl
      obtain ⟨v2, y2, h2, t2⟩ := hf 2 _ rfl
      obtain ⟨v3, y3, h3, t3⟩ := hf 3 _ rfl
      obtain ⟨v4, y4, h4, t4⟩ := hf 4 _ rfl
      obtain ⟨k0, e0, _⟩ := DataW.trod_int Tryz.underlying3 t0
      obtain ⟨k1, e1, _⟩ := DataW.trod_string Tryz.underlying9 t1
      obtain ⟨k2, e2, _⟩ := DataW.trod_int Tryz.underlying2 t2
      obtain ⟨k3, e3, _⟩ := DataW.trod_string Tryz.underlying9 t3
      obtain ⟨k4, e4, _⟩ := DataW.trod_int Tryz.underlying3 t4
      injection e0 with e0
      injection e1 with e1
      injection e2 with e2
      injection e3 with e3
      injection e4 with e4
      subst e0 e1 e2 e3 e4
      exact ⟨⟨k0, k1, k2, k3, k4⟩, h0, h1, h2, h3, h4⟩
    obtain ⟨V, hV⟩ := choose_lt hx
    refine ⟨_, (List.range len).map V, rfl, some a, cap, by simp, by simpa using hl, hm, fun hne => ?_⟩
    have hlen : 0 < len := by
      rcases Nat.eq_zero_or_pos len with h0 | h0
      · subst h0; exact absurd rfl hne
      · exact h0
    have hs : a.spot = none := by
      have := (hV 0 hlen).1
      exact spot_none (a := a) (by simpa [Addr.add] using this)
    refine ⟨a.block, a.off, by cases a; simp_all, fun j u hu => ?_⟩
    have hj : j < len * 5 := by
      have := (List.getElem?_eq_some_iff.1 hu).1
      rw [ndVals_length] at this
      simpa using this
    obtain ⟨i, k, rfl, hk⟩ : ∃ i k, j = i * 5 + k ∧ k < 5 := ⟨j / 5, j % 5, by omega, by omega⟩
    have hi : i < len := by omega
    have hg := ndVals_get ((List.range len).map V) i k hk (by simpa using hi)
    rw [hg] at hu
    obtain ⟨c0, c1, c2, c3, c4⟩ := hV i hi
    rw [add_spot hs] at c0 c1 c2 c3 c4
    match k, hk, hu with
    | 0, _, hu => simp [Nd.vals] at hu; subst hu; exact c0
    | 1, _, hu => simp [Nd.vals] at hu; subst hu; exact c1
    | 2, _, hu => simp [Nd.vals] at hu; subst hu; exact c2
    | 3, _, hu => simp [Nd.vals] at hu; subst hu; exact c3
    | 4, _, hu => simp [Nd.vals] at hu; subst hu; exact c4
set_option maxRecDepth 100000 in
theorem nodes_arg {r : Reach} {b0 : Nat} {v : Value} {d : DataW H} {p : List MemPlace} (hv : Value.okWide Tryz.prog w r b0 24 v) (h : DataW.Trod enc Tryz.prog w base spare held 24 v d p) : ∃ l, NodesIs w v l := by
  obtain ⟨a, len, cap, rfl⟩ := okWide_slice Tryz.underlying24 hv
  obtain ⟨fuel, hf⟩ := h
  obtain ⟨v, l, e, h1⟩ := open_nodes hf
  simp [Value.cells] at e
  subst e
  exact ⟨l, h1⟩
/-- an argument below the old heap reads as it did -/
theorem arg_stays {t : TypeId} (hr : Tryz.prog.readableRec t = true) (hrow : t < Tryz.prog.types.size) {W W' : World} {v : Value} {d : DataW H} {ps : List MemPlace} {sp : Nat → Bool}
    (h : DataW.Trod enc Tryz.prog W 0 (fun _ => true) true t v d ps) (hb : Below W.heap.size W W') (hlt : ∀ x ∈ ps, x.block < W.heap.size) (hsp : ∀ x ∈ ps, sp x.block = true) : DataW.Trod enc Tryz.prog W' 0 sp true t v d ps :=
  WideElems.Trod_stays (by kernel_rfl) hr hrow h (fun x hx => hb.same (hlt x hx)) hsp
end

section
variable {H : Type} {enc : TypeId × Value → H} {P : Program}
theorem post_of_below {f : Func} {s : ChangeSpec} {apart fresh handsOn again : Bool} {W W' : World} {args : Array Value} {v : Value} {ds gs : List (DataW H)} {before pa pv : List MemPlace}
    (hW : DataW.Whole enc P f.params.toList s.vars apart W args.toList ds gs before)
    (hres : ∀ (b : Nat) (sp : Nat → Bool) (hd : Bool), DataW.TrodAll enc P W' b sp hd f.resultTypes.toList (v.resultList f.resultTypes.size) (s.fn H (ds ++ gs)).results [])
    (hargs : ∀ sp : Nat → Bool, (∀ p ∈ before, sp p.block = true) → DataW.TrodAll enc P W' 0 sp true f.params.toList args.toList (s.fn H (ds ++ gs)).args pa)
    (hvars : ∀ sp : Nat → Bool, (∀ p ∈ before, sp p.block = true) → DataW.TrodVars enc P W' sp s.vars (s.fn H (ds ++ gs)).vars pv)
    (hps : before = pa ++ pv) (hb : Below W.heap.size W W')
    (hok : ∀ (j : Nat) (t : TypeId) (r : Value), f.resultTypes[j]? = some t → (v.resultList f.resultTypes.size)[j]? = some r → Value.okWide P W' .any 0 t r) :
    s.post enc P f apart fresh handsOn again W args v W' := by
  have hlt : ∀ p ∈ before, p.block < W.heap.size := fun p hp => hW.lt p hp
  have hold : ∀ p ∈ before, (fun b => decide (b < W.heap.size)) p.block = true := fun p hp => by simpa using hlt p hp
  refine ⟨ds, gs, before, [], pa, pv, hW, hres _ _ _, hargs _ hold, hvars _ hold, World.keptBut_mono (fun p hp => ⟨hp, ?_⟩) (hb.frame (· ∈ before)), fun _ => ?_⟩
  · rw [hps, List.mem_append] at hp
    exact Or.inr hp
  · obtain ⟨_, _, _, _, _, hz, hn⟩ := hW
    refine ⟨hok, _, _, ([] ++ pa) ++ pv, ⟨[] ++ pa, pv, trodAll_append (hargs _ (fun _ _ => rfl)) (hres _ _ _), hvars _ (fun _ _ => rfl), rfl, ?_, ?_⟩, ?_⟩
    · intro b off hp
      have hin : MemPlace.cell b off ∈ before := by rw [hps]; simpa using hp
      rw [hb.frozen (hlt _ hin)]
      exact hz b off hin
    · intro ha
      have := hn ha
      rw [hps] at this
      simpa using this
    · intro p hp _
      rw [hps]
      simpa using hp
end


/-! ### the tables that are laid -/
theorem u8extra : U8Extra Tryz.prog Tryz.lays196_ren := ⟨by kernel_rfl, by kernel_rfl, by kernel_rfl, by kernel_rfl, by kernel_rfl, by kernel_rfl, by kernel_rfl⟩
theorem accept_eq : Rows.laid_unicode_utf8_acceptRanges = Lib.acceptData := by kernel_rfl
end Go.Proofs.YthlfljmfggmfdaaGreatDoor

/-! ### What an argument's reading says of it: texts; rows of rows of nodes. -/
namespace Go.Proofs.YthlfljmfggmfdaaGreatDoor
open Go.RowKit Go.ChangeShapes Go.WideShapes Go.Deep

section
variable {H : Type} {enc : TypeId × Value → H} {P : Program} {w : World} {base : Nat} {spare : Nat → Bool} {held : Bool}
end
section
variable {H : Type} {enc : TypeId × Value → H} {w : World} {base : Nat} {spare : Nat → Bool} {held : Bool}
end
end Go.Proofs.YthlfljmfggmfdaaGreatDoor

/-! ### The seven variables that the chapter's rows list: the tables of UTF-8, the powers of ten, the tables of bits, and the two errors of strconv. -/
namespace Go.Proofs.YthlfljmfggmfdaaGreatDoor
open Go.RowKit Go.ChangeShapes Go.WideShapes Go.Deep

def laidSeven : List (String × DataW Unit) := [("math/bits.deBruijn32tab", Rows.laid_math_bits_deBruijn32tab), ("math/bits.deBruijn64tab", Rows.laid_math_bits_deBruijn64tab), ("internal/strconv.uint64pow10", Rows.laid_internal_strconv_uint64pow10), ("unicode/utf8.acceptRanges", Rows.laid_unicode_utf8_acceptRanges), ("strconv.ErrRange", Rows.laid_strconv_ErrRange), ("strconv.ErrSyntax", Rows.laid_strconv_ErrSyntax), ("unicode/utf8.first", Rows.laid_unicode_utf8_first)]
theorem errStar : "*" ++ "errors.errorString" = "*errors.errorString" := by decide
theorem errRow (u : TypeId) (h : Tryz.prog.typeName? 3 u = some "*errors.errorString") : u = 266 :=
  typeName_ptr_named (nm := "errors.errorString") (by rw [errStar]; kernel_rfl) (by kernel_rfl) (by decide) u (by rw [errStar]; exact h)
theorem seven_laid {W : World} (h : laidMetH Tryz.prog laidSeven W) : Tabs W ∧ Errs W := by
  rw [Go.MakeChecks.laidMetH_plain _ _ _ (by kernel_rfl)] at h
  have h4 := Lib.laidMet.reads h (.tail _ (.tail _ (.tail _ (.head _))))
  have h3 := Lib.laidMet.reads h (.tail _ (.tail _ (.tail _ (.tail _ (.tail _ (.tail _ (.head _)))))))
  rw [accept_eq] at h4
  rw [show Rows.laid_unicode_utf8_first = Lib.firstData from Pinned.utf8First_eq] at h3
  have t4 : laidMet Tryz.prog [("strconv.ErrRange", Rows.laid_strconv_ErrRange), ("strconv.ErrSyntax", Rows.laid_strconv_ErrSyntax), ("unicode/utf8.first", Rows.laid_unicode_utf8_first)] W := laidMet.tail (laidMet.tail (laidMet.tail (laidMet.tail h)))
  obtain ⟨a1, s1, e1, _⟩ := laid_sentinel t4 (g := 4) (ti := 130) (tp := 266) (te := 268) (ts := 9) (by kernel_rfl) (by kernel_rfl) Tryz.underlying130 errRow Tryz.underlying266 Tryz.underlying268 rfl rfl Tryz.underlying9 (by kernel_rfl) (by kernel_rfl)
  obtain ⟨a2, s2, e2, _⟩ := laid_sentinel (laidMet.tail t4) (g := 3) (ti := 130) (tp := 266) (te := 268) (ts := 9) (by kernel_rfl) (by kernel_rfl) Tryz.underlying130 errRow Tryz.underlying266 Tryz.underlying268 rfl rfl Tryz.underlying9 (by kernel_rfl) (by kernel_rfl)
  exact ⟨utf8Tabs_of_readsT (U8Types.of196 Tryz.lays196) u8extra h3 h4, ⟨_, _, e2⟩, _, _, e1⟩
def litCells : List (DataW Unit) → List Value
  | [] => []
  | .lit (.int k z) :: l => .int k z :: litCells l
  | _ :: l => litCells l
def aggCells : DataW Unit → List Value
  | .agg l => litCells l
  | _ => []
abbrev rangeS : ByteArray := ⟨#[118, 97, 108, 117, 101, 32, 111, 117, 116, 32, 111, 102, 32, 114, 97, 110, 103, 101]⟩
abbrev syntaxS : ByteArray := ⟨#[105, 110, 118, 97, 108, 105, 100, 32, 115, 121, 110, 116, 97, 120]⟩
/-- the witness: the settled world, the variables holding what their initialisers lay -/
theorem seven_met (os : Os) (args : Array Value) : laidMetH Tryz.prog laidSeven (({ World.holding Tryz.prog os ⟨#[.cells #[.string rangeS] 268, .cells #[.string syntaxS] 268], #[], []⟩ with
    heap := (((((((World.holding Tryz.prog os ⟨#[.cells #[.string rangeS] 268, .cells #[.string syntaxS] 268], #[], []⟩).heap.setIfInBounds 0 (.cells (Lib.firstTab.map fun z => Value.int .u8 z).toArray (Tryz.lays196_ren.t 119))).setIfInBounds 1
      (.cells ((List.range 16).flatMap fun i => [Value.int .u8 (Lib.accLo i), Value.int .u8 (Lib.accHi i)]).toArray (Tryz.lays196_ren.t 139))).setIfInBounds 2 (.cells (aggCells Rows.laid_internal_strconv_uint64pow10).toArray 242)).setIfInBounds 5 (.cells (aggCells Rows.laid_math_bits_deBruijn32tab).toArray 264)).setIfInBounds 6 (.cells (aggCells Rows.laid_math_bits_deBruijn64tab).toArray 265)).setIfInBounds 4 (.cells #[.iface 266 (.pointer (some ⟨(World.holding Tryz.prog os ⟨#[], #[], []⟩).heap.size, 0, none⟩))] 130)).setIfInBounds 3 (.cells #[.iface 266 (.pointer (some ⟨(World.holding Tryz.prog os ⟨#[], #[], []⟩).heap.size + 1, 0, none⟩))] 130) } : World).forCall (fun _ _ => 0) ⟨#[], args, []⟩).memory := by
  rw [Go.MakeChecks.laidMetH_plain _ _ _ (by kernel_rfl)]
  exact (LaidIn.of_run [0, 1, 2, 5, 6, 4, 3, (World.holding Tryz.prog os ⟨#[], #[], []⟩).heap.size, (World.holding Tryz.prog os ⟨#[], #[], []⟩).heap.size + 1] 8 (by kernel_rfl) (by kernel_rfl) (by kernel_rfl) (by kernel_rfl)).met
end Go.Proofs.YthlfljmfggmfdaaGreatDoor

/-! ### The powers of ten, of the seven variables that the row lists. -/
namespace Go.Proofs.YthlfljmfggmfdaaGreatDoor
open Go.RowKit Go.ChangeShapes Go.WideShapes Go.Deep

theorem pow_eq : (Rows.laid_internal_strconv_uint64pow10 : DataW Unit) = Lib.tabData .u64 Lib.pow10Tab := by kernel_rfl
theorem tabIs_reads {P : Program} {W : World} {name : String} {k : IntKind} {zs : List Int} {g : Nat} {t e : TypeId} {n : Nat}
    (hg : P.globalNamed name = some g) (hty : (P.globals[g]?).map (·.type) = some t) (ht : P.underlying t = some (.array n e)) (he : P.underlying e = some (.int k)) (hce : P.cellsOf e = 1) (hct : P.cellsOf t = n)
    (h : Lib.VarReads P W name (Lib.tabData k zs)) : Lib.TabIs P W name k zs := by
  obtain ⟨g', t', cs, fuel, p, hg', ht', hvar, hd⟩ := h
  obtain rfl := Option.some.inj (hg.symm.trans hg')
  obtain rfl := Option.some.inj (hty.symm.trans ht')
  unfold Lib.TabIs
  rw [hvar, ← Lib.cells_of_tab ht he hce hct hd]
theorem seven_pow {W : World} (h : laidMetH Tryz.prog laidSeven W) : PowTab W := by
  rw [Go.MakeChecks.laidMetH_plain _ _ _ (by kernel_rfl)] at h
  have h2 := Lib.laidMet.reads h (.tail _ (.tail _ (.head _)))
  rw [pow_eq] at h2
  exact tabIs_reads (g := 2) (t := 242) (e := 196) (n := 20) (by kernel_rfl) (by kernel_rfl) (by kernel_rfl) Tryz.underlying196 (by kernel_rfl) (by kernel_rfl) h2
end Go.Proofs.YthlfljmfggmfdaaGreatDoor
