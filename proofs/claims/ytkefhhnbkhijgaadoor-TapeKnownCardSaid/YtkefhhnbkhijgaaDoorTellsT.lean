/- TapeTells: the program and the document tell the same of all nodes. -/
import Derived.Test.YtkefhhnbkhijgaaDoorRmore
import Derived.Test.YtkefhhnbkhijgaaDoorExam
namespace Go.Proofs.YtkefhhnbkhijgaaDoor
open Go.RowKit

theorem SortedT_fun {t p q : List Nd} (h : SortedT t p) (k : SortedT t q) : p = q := by
  rcases h with ⟨j, hj, rfl⟩ | ⟨h0, rfl⟩
  · rcases k with ⟨j', hj', rfl⟩ | ⟨h0', _⟩
    · rw [flat_inj (hj.1.2.2.symm.trans hj'.1.2.2)]
    · exact absurd (chkT_may hj) h0'
  · rcases k with ⟨j', hj', rfl⟩ | ⟨_, rfl⟩
    · exact absurd (chkT_may hj') h0
    · rfl
theorem SameT_fun {a b : List Nd} {B C : Bool} (h : SameT a b B) (k : SameT a b C) : B = C := by
  rcases h with ⟨h0, rfl⟩ | ⟨ja, jb, ha, hb, rfl⟩
  · rcases k with ⟨_, rfl⟩ | ⟨ja, jb, ha, hb, _⟩
    · rfl
    · rcases h0 with h0 | h0
      · exact absurd (chkT_may ha) h0
      · exact absurd (chkT_may hb) h0
  · rcases k with ⟨h0, _⟩ | ⟨ja', jb', ha', hb', rfl⟩
    · rcases h0 with h0 | h0
      · exact absurd (chkT_may ha) h0
      · exact absurd (chkT_may hb) h0
    · rw [flat_inj (ha.1.2.2.symm.trans ha'.1.2.2), flat_inj (hb.1.2.2.symm.trans hb'.1.2.2)]
theorem refEq_true (va vb : Value) (a : List Nd) (w : World) (ha : NodesIs w va a) (hb : NodesIs w vb a) : Calls Tryd.prog 13 #[va, vb] w fun e w' => e = .returned (.bool true) ∧ Old w w' := by
  have := ref_Eq va vb a a w ha hb
  simpa [sameNds] using this

theorem ints_block {lo n c : Nat} {w : World} {A : Option Addr} {l : List Nat} (h : IntsT lo w (.slice A n c) l) (hn : 0 < n) : ∃ b off cs, A = some ⟨b, off, none⟩ ∧ lo ≤ b ∧ w.heap[b]? = some (.cells cs 3 (0, 0)) ∧ ∀ i, i < n → off + i < cs.size := by
  obtain ⟨A', cap, he, h1, h2, h3⟩ := h
  injection he with e1 e2 e3
  subst e1 e2 e3
  have hne : intVals l ≠ [] := by
    intro e
    have := congrArg List.length e
    rw [intVals_length] at this
    simp only [List.length_nil] at this
    omega
  obtain ⟨b, off, cs, rfl, hlo, hh, hc⟩ := h3 hne
  refine ⟨b, off, cs, rfl, hlo, hh, fun i hi => ?_⟩
  have hil : i < (intVals l).length := by rw [intVals_length]; exact hi
  have := hc i _ (List.getElem?_eq_getElem hil)
  exact (Array.getElem?_eq_some_iff.1 this).1

set_option maxRecDepth 100000 in
set_option maxHeartbeats 4000000 in
theorem tapeTells_run (va vb : Value) (t u : List Nd) (key : ByteArray) (w : World) (ht : NodesIs w va t) (hu : NodesIs w vb u) (hT : Tabs w) (WK : WorksOk) :
    Calls Tryd.prog 6 #[va, vb, .string key] w fun e w' => e = .returned (.bool true) ∧ Old w w' := by
  have FA := hide (few_run va t w ht)
  have FB := hide (fun w' (h : Old w w') => few_run vb u w' (hu.old h))
  have HT := hide hT
  obtain ⟨F, hF⟩ : ∃ F, Hid (fewL t = F) := ⟨_, hide rfl⟩
  obtain ⟨G, hG⟩ : ∃ F, Hid (fewL u = F) := ⟨_, hide rfl⟩
  have XF := hide (show TextsOk F by rw [← hF.out]; exact fewL_texts t)
  have XG := hide (show TextsOk G by rw [← hG.out]; exact fewL_texts u)
  have HFL := hide (show F.length ≤ 60 by rw [← hF.out]; exact fewL_len t)
  have HGL := hide (show G.length ≤ 60 by rw [← hG.out]; exact fewL_len u)
  rw [hF.out] at FA
  rw [hG.out] at FB
  obtain ⟨m, hm⟩ : ∃ m, Hid (F.length = m) := ⟨_, hide rfl⟩
  have hm60 : m ≤ 60 := by rw [← hm.out]; exact HFL.out
  clear ht hu hT
  go_enter Tryd.func6, Tryd.ntmps6
  go_wp2_with fail
  refine FA.out.mono ?_
  rintro e w1 ⟨v1, rfl, n1, o1⟩
  obtain ⟨A1, c1, rfl, q1, r1⟩ := nodes_form n1 hm.out
  unfold maxLen at r1
  have N1 := hide (SlT.sl n1)
  have O1 := hide o1
  clear n1 o1
  go_wp2_with fail
  refine (FB.out _ O1.out).mono ?_
  rintro e w2 ⟨v2, rfl, n2, o2⟩
  have N2 := hide (SlT.sl n2)
  have M1 := hide (N1.out.old o2)
  have O2 := hide (Old.trans O1.out o2)
  clear n2 o2 N1 FA FB
  go_wp2_with fail
  refine (ref_Copy _ F _ M1.out (by have := HFL.out; omega)).mono ?_
  rintro e w3 ⟨v3, rfl, n3, o3⟩
  have HA := hide (M1.out.old o3)
  have HB := hide (N2.out.old o3)
  have HW := hide (SlT.sl n3)
  have O3 := hide (Old.trans O2.out o3)
  have HT3 := hide (HT.out.old O3.out)
  clear n3 o3 M1 N2 O1 O2
  obtain ⟨c, hc⟩ : ∃ c, Hid (chkT F = c) := ⟨_, hide rfl⟩
  obtain ⟨d, hd⟩ : ∃ d, Hid (deepT F = d) := ⟨_, hide rfl⟩
  obtain ⟨ks, hks⟩ := kidsT_some F
  have HKS := hide hks
  clear hks
  have C1 := hide (fun w' (h : Old w3 w') => num_as (check_run _ F w' (HA.out.old h) XF.out (HT3.out.old h)) hc.out)
  have C2 := hide (fun w' (h : Old w3 w') => num_as (ref_Check _ F w' (HW.out.old h) XF.out) hc.out)
  have C3 := hide (fun w' (h : Old w3 w') => Kids_run _ F ks w' (HA.out.old h) XF.out (HT3.out.old h) HKS.out)
  have C4 := hide (fun w' (h : Old w3 w') => ref_Kids _ F ks w' (HW.out.old h) XF.out HKS.out)
  have C5 := hide (fun w' (h : Old w3 w') => num_as (deep_run _ F w' (HA.out.old h) XF.out (HT3.out.old h)) (show ((deepT F : Nat) : Int) = (d : Int) by rw [hd.out]))
  have C6 := hide (fun w' (h : Old w3 w') => num_as (ref_Deep _ F w' (HW.out.old h) XF.out) (show ((deepT F : Nat) : Int) = (d : Int) by rw [hd.out]))
  have C7 := hide (fun w' (h : Old w3 w') => same_run _ _ F G w' (HA.out.old h) (HB.out.old h) XF.out XG.out (HT3.out.old h))
  have C8 := hide (fun w' (h : Old w3 w') => ref_Same _ _ F G w' (HW.out.old h) (HB.out.old h) XF.out XG.out)
  have C9 := hide (fun w' (h : Old w3 w') => same_run _ _ G F w' (HB.out.old h) (HA.out.old h) XG.out XF.out (HT3.out.old h))
  have C10 := hide (fun w' (h : Old w3 w') => ref_Same _ _ G F w' (HB.out.old h) (HW.out.old h) XG.out XF.out)
  go_wp2_with fail
  refine (C1.out _ (Old.refl _)).mono ?_
  rintro e w4 ⟨rfl, o4⟩
  go_wp2_with fail
  refine (C2.out _ o4).mono ?_
  rintro e w5 ⟨rfl, o5⟩
  have P5 := hide (Old.trans o4 o5)
  clear o4 o5 C1 C2
  go_wp2_with fail
  refine (C3.out _ P5.out).mono ?_
  rintro e w6 ⟨v6, rfl, n6, o6⟩
  have P6 := hide (Old.trans P5.out o6)
  clear P5
  go_wp2_with fail
  refine (C4.out _ P6.out).mono ?_
  rintro e w7 ⟨v7, rfl, n7, o7⟩
  have CE := hide (ints_true v6 v7 ks w7 (SlT.sl (n6.old o7)) n7.sl)
  have P7 := hide (Old.trans P6.out o7)
  clear n6 n7 o6 o7 P6
  go_wp2_with fail
  refine CE.out.mono ?_
  rintro e w8 ⟨rfl, o8⟩
  have P8 := hide (Old.trans P7.out o8)
  clear o8 P7 CE
  go_wp2_with fail
  refine (C5.out _ P8.out).mono ?_
  rintro e w9 ⟨rfl, o9⟩
  have P9 := hide (Old.trans P8.out o9)
  clear o9 P8
  go_wp2_with fail
  refine (C6.out _ P9.out).mono ?_
  rintro e w10 ⟨rfl, o10⟩
  have P10 := hide (Old.trans P9.out o10)
  clear o10 P9 C5 C6
  go_wp2_with fail
  refine (C7.out _ P10.out).mono ?_
  rintro e w11 ⟨B1, hB1, rfl, o11⟩
  have HB1 := hide hB1
  have P11 := hide (Old.trans P10.out o11)
  clear o11 P10 hB1
  go_wp2_with fail
  refine (C8.out _ P11.out).mono ?_
  rintro e w12 ⟨B2, hB2, rfl, o12⟩
  obtain rfl := SameT_fun HB1.out hB2
  have P12 := hide (Old.trans P11.out o12)
  clear o12 P11 hB2 HB1 C7 C8
  have hbb : (B1 != B1) = false := by cases B1 <;> rfl
  go_wp2_with fail
  refine (C9.out _ P12.out).mono ?_
  rintro e w13 ⟨B3, hB3, rfl, o13⟩
  have HB3 := hide hB3
  have P13 := hide (Old.trans P12.out o13)
  clear o13 P12 hB3
  go_wp2_with fail
  refine (C10.out _ P13.out).mono ?_
  rintro e w14 ⟨B4, hB4, rfl, o14⟩
  obtain rfl := SameT_fun HB3.out hB4
  have P14 := hide (Old.trans P13.out o14)
  clear o14 P13 hB4 HB3 C9 C10
  have hbc : (B3 != B3) = false := by cases B3 <;> rfl
  go_wp2_with fail
  go_loopw [8] (fun i wr => ∃ k : Nat, i = .int .i64 ((k : Int) - 1) ∧ k ≤ m + 3 ∧ Hid (Old w3 wr)) (fun i _ => m + 3 - (intOf i + 1).toNat)
  case atStart => exact ⟨0, rfl, by omega, P14⟩
  case round =>
    obtain ⟨k, rfl, hk, HO⟩ := hrel
    by_cases hlt : k < m + 3
    · obtain ⟨ps, hps⟩ := PartT_some F ((k : Int) - 1)
      have CP := hide (part_run _ F _ ps wr (HA.out.old HO.out) XF.out (HT3.out.old HO.out) hps)
      have CQ := hide (fun w' (h : Old wr w') => ref_Part _ F _ ps w' (HW.out.old (Old.trans HO.out h)) XF.out hps)
      clear hps
      go_wp2_with fail
      refine CP.out.mono ?_
      rintro e w20 ⟨v20, rfl, n20, o20⟩
      have N20 := hide n20
      have O20 := hide o20
      clear n20 o20 CP
      go_wp2_with fail
      refine (CQ.out _ O20.out).mono ?_
      rintro e w21 ⟨v21, rfl, n21, o21⟩
      have CE := hide (refEq_true v20 v21 ps w21 (SlT.sl (N20.out.old o21)) n21.sl)
      have N21 := hide (N20.out.old o21)
      have O21 := hide (Old.trans O20.out o21)
      clear n21 o21 CQ N20
      go_wp2_with fail
      refine CE.out.mono ?_
      rintro e w22 ⟨rfl, o22⟩
      have CS := hide (spoil_run wr.heap.size v20 ps w22 w22 (N21.out.old o22) (Spo.refl _ _))
      have O22 := hide (Old.trans O21.out o22)
      clear o22 CE
      go_wp2_with fail
      refine CS.out.mono ?_
      rintro e w23 ⟨rfl, s23⟩
      have O23 := hide (Old.trans HO.out (Below.trans O22.out s23.low))
      clear s23 CS
      go_wp2_with fail
      go_roundw
      case rel => exact ⟨k + 1, by go_num, by omega, O23⟩
      case measure => simp [intOf]; omega
    · clear hbb hbc P14
      obtain ⟨ps, is, hg⟩ := GetT_some F key
      have CG := hide (get_run _ F key ps is wr (HA.out.old HO.out) XF.out (HT3.out.old HO.out) hg)
      have CH := hide (fun w' (h : Old wr w') => ref_Get _ F key ps is w' (HW.out.old (Old.trans HO.out h)) XF.out hg)
      have CS1 := hide (fun w' (h : Old wr w') => sorted_run _ F w' (HA.out.old (Old.trans HO.out h)) XF.out (HT3.out.old (Old.trans HO.out h)))
      have CS2 := hide (fun w' (h : Old wr w') => ref_Sorted _ F w' (HW.out.old (Old.trans HO.out h)) XF.out)
      have his : (is != is) = false := by cases is <;> rfl
      have hke : k = m + 3 := by omega
      clear hg hke
      go_wp2_with fail
      refine CG.out.mono ?_
      rintro e w30 ⟨b1, rfl, n30, o30⟩
      go_wp2_with fail
      refine (CH.out _ o30).mono ?_
      rintro e w31 ⟨b2, rfl, n31, o31⟩
      have N30 := hide (SlT.old n30 o31)
      have O31 := hide (Old.trans o30 o31)
      have N31 := hide (SlT.sl n31)
      clear n30 o30 n31 o31 CG CH
      go_wp2_with fail
      refine (CS1.out _ O31.out).mono ?_
      rintro e w32 ⟨p1, hp1, v32, rfl, n32, o32⟩
      have HP1 := hide hp1
      have N32 := hide (SlT.mono n32 O31.out.size)
      have CE := hide (refEq_true b1 b2 ps w32 (SlT.sl (N30.out.old o32)) (N31.out.old o32))
      have M30 := hide (N30.out.old o32)
      have O32 := hide (Old.trans O31.out o32)
      clear n32 o32 hp1 CS1 N30 N31
      go_wp2_with fail
      refine CE.out.mono ?_
      rintro e w33 ⟨rfl, o33⟩
      go_wp2_with fail
      refine (CS2.out _ (Old.trans O32.out o33)).mono ?_
      rintro e w34 ⟨p2, hp2, v34, rfl, n34, o34⟩
      obtain rfl := SortedT_fun HP1.out hp2
      have K34 := hide (Old.trans o33 o34)
      have CE2 := hide (refEq_true v32 v34 p1 w34 (SlT.sl (N32.out.old K34.out)) n34.sl)
      clear o33 o34 n34 hp2 CE CS2 his
      go_wp2_with fail
      refine CE2.out.mono ?_
      rintro e w35 ⟨rfl, o35⟩
      have K35 := hide (Old.trans K34.out o35)
      have CP1 := hide (spoil_run wr.heap.size b1 ps w35 w35 (M30.out.old K35.out) (Spo.refl _ _))
      clear o35 CE2
      go_wp2_with fail
      refine CP1.out.mono ?_
      rintro e w36 ⟨rfl, s36⟩
      have CP2 := hide (spoil_run wr.heap.size v32 p1 w35 w36 (N32.out.old K35.out) s36)
      clear s36 CP1
      go_wp2_with fail
      refine CP2.out.mono ?_
      rintro e w37 ⟨rfl, s37⟩
      have O37 := hide (Old.trans HO.out (Below.trans (Old.trans O32.out K35.out) s37.low))
      clear s37 CP2
      go_wp2_with fail
      refine (C3.out _ O37.out).mono ?_
      rintro e w38 ⟨v38, rfl, n38, o38⟩
      obtain ⟨K, hK⟩ : ∃ K, Hid (ks.length = K) := ⟨_, hide rfl⟩
      obtain ⟨A38, c38, rfl, q38, r38, _⟩ := ints_cell n38 hK.out
      unfold maxLen at r38
      have N38 := hide (fun (h : 0 < K) => ints_block n38 h)
      have O38 := hide (Old.trans O37.out o38)
      clear n38 o38
      have hKs : K ≤ 4194304 := by
        rw [← hK.out]
        rcases HKS.out with ⟨h, l, hj, rfl⟩ | ⟨_, rfl⟩
        · rw [starts_length]
          have h1 := len_flats l
          have h2 := hj.2.1
          rw [hj.1.2.2, flat_mk, List.length_cons] at h2
          omega
        · simp
      obtain ⟨wv, hwv⟩ : ∃ y, y = wr := ⟨_, rfl⟩
      subst hwv
      go_wp2_with fail
      go_loopw [16] (fun i wz => ∃ k : Nat, i = .int .i64 k ∧ k ≤ K ∧ Hid (Spo w37.heap.size w38 wz)) (fun i _ => K - (intOf i).toNat)
      case atStart => exact ⟨0, rfl, by omega, hide (Spo.refl _ _)⟩
      case round =>
        obtain ⟨k2, rfl, hk2, HS⟩ := hrel
        by_cases hlt2 : k2 < K
        · obtain ⟨b, off, cs, rfl, hlo, hh, hsz⟩ := N38.out (by omega)
          obtain ⟨⟨x1, e1⟩, f1⟩ := HS.out.some hh (hsz k2 hlt2)
          have HN := hide (HS.out.set (i := off + k2) hlo (.int .i64 (-1)))
          clear hsz hh
          go_wp2_with fail
          go_roundw
          case rel => exact ⟨k2 + 1, by go_num, by omega, HN⟩
          case measure => simp [intOf]; omega
        · have O40 := hide (show Old w3 wr from Below.trans O38.out (HS.out.low.mono O37.out.size))
          have CE3 := hide (refEq_true _ v3 F wr (HA.out.old O40.out) (HW.out.old O40.out))
          go_wp2_with fail
          refine CE3.out.mono ?_
          rintro e w41 ⟨rfl, o41⟩
          have O41 := hide (Old.trans O40.out o41)
          clear o41 CE3
          go_wp2_with fail
          refine (C3.out _ O41.out).mono ?_
          rintro e w42 ⟨v42, rfl, n42, o42⟩
          have O42 := hide (Old.trans O41.out o42)
          go_wp2_with fail
          refine (C4.out _ O42.out).mono ?_
          rintro e w43 ⟨v43, rfl, n43, o43⟩
          have CE4 := hide (ints_true v42 v43 ks w43 (SlT.sl (n42.old o43)) n43.sl)
          have O43 := hide (Old.trans O42.out o43)
          clear n42 o42 n43 o43
          go_wp2_with fail
          refine CE4.out.mono ?_
          rintro e w44 ⟨rfl, o44⟩
          have O44 := hide (Old.trans O43.out o44)
          clear o44 CE4
          go_wp2_with fail
          refine (WK _ (HT3.out.old O44.out)).mono ?_
          rintro e w45 ⟨rfl, o45⟩
          go_wp2_with fail
          go_ret
          exact ⟨rfl, Old.trans O3.out (Old.trans O44.out o45)⟩
end Go.Proofs.YtkefhhnbkhijgaaDoor
