/- JreadReads' walk. -/
import Derived.Test.YtdlcibbbebhcoaaGreatDoorRrZ
import Derived.Test.YtdlcibbbebhcoaaGreatDoorWorks7
import Derived.Test.YtdlcibbbebhcoaaGreatDoorChk
import Derived.Test.YtdlcibbbebhcoaaGreatDoorMayL
/-! ### JreadReads' walk. -/
namespace Go.Proofs.YtdlcibbbebhcoaaGreatDoor
open Go.RowKit

theorem nodes_none (w : World) : NodesIs w (.slice none 0 0) [] := ⟨none, 0, rfl, Nat.le_refl _, by unfold maxLen; omega, fun h => absurd rfl h⟩
theorem own_form {base : Nat} {w : World} {v : Value} {l : List Nd} (h : NodesOwn base w v l) (hl : 0 < l.length) : ∃ g cap, v = .slice (some ⟨g, 0, none⟩) l.length cap ∧ l.length ≤ cap ∧ cap ≤ maxLen ∧ base ≤ g ∧ g < w.heap.size := by
  obtain ⟨g, cap, e, h1, h2, h3, _⟩ := own_set h hl
  exact ⟨g, cap, e, h1, h2, h3, (h.lt g (by rw [e]; rfl)).2⟩
theorem parse_small {l : List UInt8} {j : J} (h : parseV l = .ok j) : j.flat.length ≤ 4000 := by
  unfold parseV at h
  split at h
  · cases h
  split at h
  · cases h
  rename_i j' r hp
  split at h
  · injection h with h
    subst h
    have := ((may_both _).1 _ _ _ _ _ hp).2.1
    omega
  · cases h
/-- a row whose nodes are stored over, and another one that lies elsewhere -/
structure Spoilt (w0 : World) (b1 g cap L : Nat) (vb : Value) (lb : List Nd) (w : World) : Prop where
  a : ∃ xs, w.ownsRow w0.heap.size 33 5 (.slice (some ⟨g, 0, none⟩) L cap) L xs
  b : NodesOwn b1 w vb lb
  o : Old w0 w
section
variable {w0 w : World} {b1 g cap L j : Nat} {vb : Value} {lb : List Nd}
theorem Spoilt.set (h : Spoilt w0 b1 g cap L vb lb w) (h0 : w0.heap.size ≤ g) (h1 : g < b1) (hL : 0 < L) (u : Value) : Spoilt w0 b1 g cap L vb lb (w.setCell ⟨g, j, none⟩ u) := by
  obtain ⟨⟨xs, ha⟩, hb, ho⟩ := h
  obtain ⟨g', cap', e, _, _, _, _, _, a6⟩ := own_set ha hL
  injection e with e1 _ _
  injection e1 with e1
  injection e1 with e1
  subst e1
  refine ⟨⟨_, a6 j u⟩, own_set_low hb ?_, ho.setCell (p := ⟨g, j, none⟩) h0 u⟩
  intro e2
  have := (hb.lt g e2).1
  omega
theorem Spoilt.at_ (h : Spoilt w0 b1 g cap L vb lb w) (hL : 0 < L) (hj : j < L * 5) : (∃ u, w.cell? ⟨g, j, none⟩ = some u) ∧ w.frozen? ⟨g, j, none⟩ = false := by
  obtain ⟨⟨xs, ha⟩, hb, ho⟩ := h
  obtain ⟨g', cap', e, _, _, _, a4, a5, _⟩ := own_set ha hL
  injection e with e1 _ _
  injection e1 with e1
  injection e1 with e1
  subst e1
  have hl : j < xs.length := by rw [ha.1]; exact hj
  exact ⟨⟨_, a4 j _ (List.getElem?_eq_getElem hl)⟩, a5 j⟩
end
set_option maxRecDepth 100000 in
set_option maxHeartbeats 2000000 in
theorem jreads_walk (s : ByteArray) (W : World) (hT : Tabs W) (hE : Errs W) : Calls Tryz.prog 4 #[.string s] W fun e w' => e = .returned (.bool true) ∧ Old W w' := by
  have HE := hide hE
  have HT := hide hT
  obtain ⟨k, hk⟩ : ∃ k : Nat, Hid (min s.size 1000 = k) := ⟨_, hide rfl⟩
  have hk1 : k ≤ s.size := by rw [← hk.out]; omega
  have hk2 : k ≤ 1000 := by rw [← hk.out]; omega
  have hmin : min (s.size : Int) 1000 = (k : Int) := by rw [← hk.out]; omega
  obtain ⟨u, hu⟩ : ∃ u, Hid (s.extract 0 k = u) := ⟨_, hide rfl⟩
  have hus : u.size = k := by rw [← hu.out, ByteArray.size_extract]; omega
  have hu30 : u.size ≤ 1073741824 := by omega
  have CP := fun w => jparse_run u w hu30
  have CR := fun w => rparse_run u w (by omega)
  clear hE hT hus
  cases hp : parseV u.data.toList with
  | error x =>
    obtain ⟨p, c⟩ := x
    have CP2 := hide (fun w (hE : Errs w) (hT : Tabs w) => (CP w hE hT).mono fun e w' h => (show e = .returned (.tuple #[.slice none 0 0, .int .i64 (p : Int), .int .i64 c]) ∧ Old w w' from ⟨by
      have h1 := h.1
      unfold JParsed at h1
      rw [hp] at h1
      exact h1, h.2⟩))
    have CR2 := hide (fun w => (CR w).mono fun e w' h => (show e = .returned (.tuple #[.slice none 0 0, .int .i64 (p : Int), .int .i64 c]) ∧ Old w w' from ⟨by
      have h1 := h.1
      unfold JParsed at h1
      rw [hp] at h1
      exact h1, h.2⟩))
    have CE := hide (fun w => ref_Eq (.slice none 0 0) (.slice none 0 0) [] [] w (nodes_none w) (nodes_none w))
    rw [show sameNds [] [] = true from rfl] at CE
    have C1 := hide (CP2.out W HE.out HT.out)
    clear CP CR hp
    go_enter Tryz.func4, Tryz.ntmps4
    go_wp2_with fail
    rw [hu.out]
    refine C1.out.mono ?_
    rintro e w1 ⟨rfl, o1⟩
    have O1 := hide o1
    have C2 := hide (CR2.out w1)
    clear o1 C1
    go_wp2_with fail
    refine C2.out.mono ?_
    rintro e w2 ⟨rfl, o2⟩
    have O2 := hide (Old.trans O1.out o2)
    have C3 := hide (CE.out w2)
    clear o2 C2
    go_wp2_with fail
    refine C3.out.mono ?_
    rintro e w3 ⟨rfl, o3⟩
    have O3 := hide (Old.trans O2.out o3)
    clear o3 C3
    go_wp2_with fail
    go_loop [9] (fun i => i = .int .i64 0) (fun _ => 0)
    case atStart => rfl
    case round =>
      subst hrel
      have C4 := hide (CP2.out w3 (HE.out.old O3.out) (HT.out.old O3.out))
      go_wp2_with fail
      refine C4.out.mono ?_
      rintro e w4 ⟨rfl, o4⟩
      have O4 := hide (Old.trans O3.out o4)
      have C5 := hide (CE.out w4)
      clear o4 C4
      go_wp2_with fail
      refine C5.out.mono ?_
      rintro e w5 ⟨rfl, o5⟩
      have O5 := hide (Old.trans O4.out o5)
      have CW := hide (works_run w5 (HE.out.old O5.out) (HT.out.old O5.out))
      clear o5 C5
      go_wp2_with fail
      refine CW.out.mono ?_
      rintro e w6 ⟨rfl, o6⟩
      have O6 := hide (Old.trans O5.out o6)
      clear o6
      go_wp2_with fail
      go_ret
      exact ⟨rfl, O6.out⟩
  | ok j =>
    have CP2 := hide (fun w (hE : Errs w) (hT : Tabs w) => (CP w hE hT).mono fun e w' h => (show (∃ v, e = .returned (.tuple #[v, .int .i64 0, .int .i64 0]) ∧ NodesOwn w.heap.size w' v j.flat) ∧ Old w w' from ⟨by
      have h1 := h.1
      unfold JParsed at h1
      rw [hp] at h1
      exact h1, h.2⟩))
    have CR2 := hide (fun w => (CR w).mono fun e w' h => (show (∃ v, e = .returned (.tuple #[v, .int .i64 0, .int .i64 0]) ∧ NodesOwn w.heap.size w' v j.flat) ∧ Old w w' from ⟨by
      have h1 := h.1
      unfold JParsed at h1
      rw [hp] at h1
      exact h1, h.2⟩))
    obtain ⟨F, hF⟩ : ∃ F, Hid (j.flat = F) := ⟨_, hide rfl⟩
    have HFP := hide (show 0 < F.length by rw [← hF.out]; exact flat_pos j)
    have HF4 := hide (show F.length ≤ 4000 by rw [← hF.out]; exact parse_small hp)
    rw [hF.out] at CP2 CR2
    have CE := hide (fun w va vb (ha : NodesIs w va F) (hb : NodesIs w vb F) => ref_Eq va vb F F w ha hb)
    rw [sameNds_self] at CE
    have C1 := hide (CP2.out W HE.out HT.out)
    clear CP CR hp
    go_enter Tryz.func4, Tryz.ntmps4
    go_wp2_with fail
    rw [hu.out]
    refine C1.out.mono ?_
    rintro e w1 ⟨⟨va, rfl, n1⟩, o1⟩
    have O1 := hide o1
    have N1 := hide n1
    have C2 := hide (CR2.out w1)
    clear o1 n1 C1
    go_wp2_with fail
    refine C2.out.mono ?_
    rintro e w2 ⟨⟨vb, rfl, n2⟩, o2⟩
    have O2 := hide (Old.trans O1.out o2)
    have N2 := hide n2
    have N1b := hide (own_old N1.out o2)
    have C3 := hide (CE.out w2 va vb (SlT.of_own N1b.out).sl (SlT.of_own n2).sl)
    obtain ⟨g, cap, rfl, hc1, hc2, hg0, hg1⟩ := own_form N1.out HFP.out
    clear o2 n2 C2
    go_wp2_with fail
    refine C3.out.mono ?_
    rintro e w3 ⟨rfl, o3⟩
    have O3 := hide (Old.trans O2.out o3)
    obtain ⟨L, hL⟩ : ∃ L, Hid (F.length = L) := ⟨_, hide rfl⟩
    have HFP2 := hide (show 0 < L by rw [← hL.out]; exact HFP.out)
    have SP := hide (show Spoilt W w1.heap.size g cap L vb F w3 from ⟨⟨ndVals F, by rw [← hL.out]; exact own_old N1b.out o3⟩, own_old N2.out o3, O3.out⟩)
    rw [hL.out] at hc1 ⊢
    have hL4 : L ≤ 4000 := by rw [← hL.out]; exact HF4.out
    unfold maxLen at hc2
    have HG0 := hide hg0
    have HG1 := hide hg1
    clear o3 C3 hg0 hg1
    go_wp2_with fail
    go_loopw [9] (fun i wr => ∃ k : Nat, i = .int .i64 k ∧ k ≤ L ∧ Hid (Spoilt W w1.heap.size g cap L vb F wr)) (fun i _ => L - (intOf i).toNat)
    case atStart => exact ⟨0, rfl, by omega, SP⟩
    case round =>
      clear SP
      obtain ⟨i, rfl, hi, HS⟩ := hrel
      by_cases hlt : i < L
      · have hlti : (i : Int) < (L : Int) := by omega
        obtain ⟨⟨y0, e0⟩, f0⟩ := HS.out.at_ (j := i * 5) HFP2.out (by omega)
        obtain ⟨⟨y1, e1⟩, f1⟩ := HS.out.at_ (j := i * 5 + 1) HFP2.out (by omega)
        obtain ⟨⟨y2, e2⟩, f2⟩ := HS.out.at_ (j := i * 5 + 2) HFP2.out (by omega)
        obtain ⟨⟨y3, e3⟩, f3⟩ := HS.out.at_ (j := i * 5 + 3) HFP2.out (by omega)
        obtain ⟨⟨y4, e4⟩, f4⟩ := HS.out.at_ (j := i * 5 + 4) HFP2.out (by omega)
        have HN := hide (((((HS.out.set (j := i * 5) HG0.out HG1.out HFP2.out (.int .i64 99)).set (j := i * 5 + 1) HG0.out HG1.out HFP2.out (.string ⟨#[]⟩)).set (j := i * 5 + 2) HG0.out HG1.out HFP2.out (.int .i64 0)).set (j := i * 5 + 3) HG0.out HG1.out HFP2.out (.string ⟨#[]⟩)).set (j := i * 5 + 4) HG0.out HG1.out HFP2.out (.int .i64 0))
        go_wp2_with fail
        go_roundw
        case rel => exact ⟨i + 1, by go_num, by omega, HN⟩
        case measure => simp [intOf]; omega
      · have hlti : ¬ (i : Int) < (L : Int) := by omega
        obtain ⟨wq, hwq⟩ : ∃ x, x = wr := ⟨_, rfl⟩
        subst hwq
        have C4 := hide (CP2.out wq (HE.out.old HS.out.o) (HT.out.old HS.out.o))
        go_wp2_with fail
        refine C4.out.mono ?_
        rintro e w4 ⟨⟨vc, rfl, n4⟩, o4⟩
        have O4 := hide (Old.trans HS.out.o o4)
        have C5 := hide (CE.out w4 vc vb (SlT.of_own n4).sl (SlT.of_own (own_old HS.out.b o4)).sl)
        clear o4 n4 C4
        go_wp2_with fail
        refine C5.out.mono ?_
        rintro e w5 ⟨rfl, o5⟩
        have O5 := hide (Old.trans O4.out o5)
        have CW := hide (works_run w5 (HE.out.old O5.out) (HT.out.old O5.out))
        clear o5 C5
        go_wp2_with fail
        refine CW.out.mono ?_
        rintro e w6 ⟨rfl, o6⟩
        have O6 := hide (Old.trans O5.out o6)
        clear o6
        go_wp2_with fail
        go_ret
        exact ⟨rfl, O6.out⟩
end Go.Proofs.YtdlcibbbebhcoaaGreatDoor
