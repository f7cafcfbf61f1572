/- TapeAgain: each value of a tape is put together of its parts as it is. -/
import Derived.Test.YtkefhhnbkhijgaaDoorExam
import Derived.Test.YtkefhhnbkhijgaaDoorAgainL
namespace Go.Proofs.YtkefhhnbkhijgaaDoor
open Go.RowKit

set_option maxRecDepth 100000 in
set_option maxHeartbeats 4000000 in
theorem tapeAgain_run (v : Value) (t : List Nd) (w : World) (ht : NodesIs w v t) (hT : Tabs w) (WK : WorksOk) :
    Calls Tryd.prog 7 #[v] w fun e w' => e = .returned (.bool true) ∧ Old w w' := by
  have HF := hide (few_run v t w ht)
  have HT := hide hT
  obtain ⟨F, hF⟩ : ∃ F, Hid (fewL t = F) := ⟨_, hide rfl⟩
  have HTX := hide (show TextsOk F by rw [← hF.out]; exact fewL_texts t)
  have HFL := hide (show F.length ≤ 60 by rw [← hF.out]; exact fewL_len t)
  rw [hF.out] at HF
  obtain ⟨m, hm⟩ : ∃ m, Hid (F.length = m) := ⟨_, hide rfl⟩
  have hm60 : m ≤ 60 := by rw [← hm.out]; exact HFL.out
  clear ht hT
  go_enter Tryd.func7, Tryd.ntmps7
  go_wp2_with fail
  refine HF.out.mono ?_
  rintro e w1 ⟨v1, rfl, n1, o1⟩
  obtain ⟨A1, c1, rfl, q1, r1⟩ := nodes_form n1 hm.out
  unfold maxLen at r1
  have HN := hide (SlT.sl n1)
  have O1 := hide o1
  have HT1 := hide (HT.out.old o1)
  clear n1 o1 HF
  have CC := hide (check_run _ F w1 HN.out HTX.out HT1.out)
  by_cases h0 : chkT F = 0
  · obtain ⟨j, hj⟩ := may_of h0
    have HJ := hide hj
    have C0 := hide (num_as CC.out h0)
    clear CC h0 hj
    go_wp2_with fail
    refine C0.out.mono ?_
    rintro e w2 ⟨rfl, o2⟩
    have O2 := hide o2
    clear o2 C0
    go_wp2_with fail
    go_loopw [3] (fun i wr => ∃ k : Nat, i = .int .i64 k ∧ k ≤ m ∧ Hid (Old w1 wr)) (fun i _ => m - (intOf i).toNat)
    case atStart => exact ⟨0, rfl, by omega, O2⟩
    case round =>
      obtain ⟨i, rfl, hi, HO⟩ := hrel
      have HOW := hide (Old.trans O1.out HO.out)
      by_cases hlt : i < m
      · have hiF : i < F.length := by rw [hm.out]; exact hlt
        obtain ⟨j', r, hok, hd, hdp⟩ : ∃ j' r, J.Ok vU j' ∧ F.drop i = j'.flat ++ r ∧ j'.deep ≤ j.deep := by
          obtain ⟨j', r, h1, h2, h3⟩ := sub_both.1 j HJ.out.1.1 i (by rw [← HJ.out.1.2.2]; exact hiF)
          exact ⟨j', r, h1, by rw [HJ.out.1.2.2, h2], h3⟩
        have CP := hide (part_run _ F (i : Nat) j'.unkey.flat wr (HN.out.old HO.out) HTX.out (HT1.out.old HO.out) (.inr ⟨j, j', i, r, HJ.out, rfl, hiF, hd, hok, hdp, rfl⟩))
        have MX := hide (sub_may HJ.out hd hok hdp)
        have XTX := hide (texts_at HTX.out hd)
        obtain ⟨_, hx⟩ := head_flat hd
        obtain ⟨N, hN⟩ : ∃ N, Hid (j'.flat.length = N + 1) := ⟨j'.flat.length - 1, hide (by have := flat_pos j'; omega)⟩
        have hN60 : N + 1 ≤ 60 := by
          have e := congrArg List.length hd
          rw [List.length_append, List.length_drop, hN.out, hm.out] at e
          omega
        obtain ⟨b1, f1, rfl, z0, z1, z2, z3, z4⟩ := nodes_cells (HN.out) (List.getElem?_eq_getElem hiF)
        rw [hx] at z4
        simp only [hN.out] at z4
        have Z4 := hide (show w1.cell? ⟨b1, f1 + i * 5 + 4, none⟩ = some (.int .i64 ((N : Int) + 1)) from z4)
        obtain ⟨x, hxx⟩ : ∃ x, Hid (j'.unkey.flat = x) := ⟨_, hide rfl⟩
        obtain ⟨h, l, hhl⟩ : ∃ h l, j'.unkey = .mk h l := by cases j' with | mk h l => exact ⟨_, _, rfl⟩
        have HXL := hide (show x.length = N + 1 by rw [← hxx.out, unkey_size, hN.out])
        rw [hxx.out, hhl] at MX
        rw [hxx.out] at CP XTX
        clear hd hok hdp hx z0 z1 z2 z3 z4 hxx hhl
        go_wp2_with fail
        refine CP.out.mono ?_
        rintro e w3 ⟨v3, rfl, n3, o3⟩
        obtain ⟨A3, c3, rfl, q3, r3⟩ := nodes_form n3 HXL.out
        unfold maxLen at r3
        have XN := hide (SlT.sl n3)
        have O3 := hide (Old.trans HO.out o3)
        have z4 := O3.out.cell Z4.out
        have CX := hide (num_as (check_run _ x w3 XN.out XTX.out (HT1.out.old O3.out)) (chkT_may MX.out))
        clear n3 o3 CP
        go_wp2_with fail
        refine CX.out.mono ?_
        rintro e w4 ⟨rfl, o4⟩
        have O4 := hide (Old.trans O3.out o4)
        have XN4 := hide (XN.out.old o4)
        have CK := hide (Kids_run _ x (starts (0 + 1) l) w4 XN4.out XTX.out (HT1.out.old O4.out) (.inl ⟨h, l, MX.out, rfl⟩))
        clear o4 CX z4 Z4
        go_wp2_with fail
        refine CK.out.mono ?_
        rintro e w5 ⟨v5, rfl, n5, o5⟩
        obtain ⟨L, hL⟩ : ∃ L, Hid (l.length = L) := ⟨_, hide rfl⟩
        obtain ⟨A5, c5, rfl, q5, r5, k5⟩ := ints_cell n5 (show (starts (0 + 1) l).length = L by rw [starts_length, hL.out])
        unfold maxLen at r5
        have K5 := hide k5
        have O5 := hide (Old.trans O4.out o5)
        have XN5 := hide (XN4.out.old o5)
        have hLN : L ≤ N := by
          have h1 := len_flats l
          have h2 := HXL.out
          rw [MX.out.1.2.2, flat_mk, List.length_cons] at h2
          rw [hL.out] at h1
          omega
        clear n5 o5 k5 CK XN XN4
        obtain ⟨wv, hwv⟩ : ∃ y, y = wr := ⟨_, rfl⟩
        subst hwv
        go_wp2_with fail
        go_loopw [6, 7, 8] (fun pv kv kk wz => ∃ k : Nat, kk = .int .i64 k ∧ k ≤ L ∧ Hid (PartsOwn w5.heap.size wz pv ((kidParts l).take k)) ∧ Hid (TextsOwn w5.heap.size wz kv ((l.map J.key).take k)) ∧ Hid (Old w5 wz)) (fun _ _ kk _ => L - (intOf kk).toNat)
        case atStart => exact ⟨0, rfl, by omega, hide (PartsOwn.nil_ _ _), hide (own_nil _ _ _ _), hide (Old.refl _)⟩
        case round =>
          obtain ⟨k, rfl, hk, HPO, HTO, HZ⟩ := hrel
          have HZ1 := hide (Old.trans O5.out HZ.out)
          by_cases hkL : k < L
          · have hkl : k < l.length := by rw [hL.out]; exact hkL
            have hsplit : l = l.take k ++ l[k] :: l.drop (k + 1) := by rw [← List.drop_eq_getElem_cons hkl, List.take_append_drop]
            obtain ⟨jk, hjk⟩ : ∃ jk, Hid (l[k] = jk) := ⟨_, hide rfl⟩
            rw [hjk.out] at hsplit
            have htl : (l.take k).length = k := by simp; omega
            obtain ⟨p, hp⟩ : ∃ p, Hid (0 + 1 + (J.flats (l.take k)).length = p) := ⟨_, hide rfl⟩
            obtain ⟨b5, f5, rfl, kc⟩ := K5.out.resolve_left (by omega)
            have ck := kc k p (by
              have := starts_at (a := 0 + 1) (l1 := l.take k) (l2 := l.drop (k + 1)) (j := jk)
              rw [← hsplit, htl, hp.out] at this
              exact this)
            have hxd : x.drop p = jk.flat ++ J.flats (l.drop (k + 1)) := by
              rw [← hp.out]
              exact kid_drop (h := h) (by rw [← hsplit]; exact MX.out.1.2.2)
            obtain ⟨hpx, hxk⟩ := head_flat hxd
            have hpN : p < N + 1 := by rw [← HXL.out]; exact hpx
            have hp1 : 1 ≤ p := by rw [← hp.out]; omega
            obtain ⟨b3, f3, rfl, y0, y1, y2, y3, y4⟩ := nodes_cells (XN5.out) (List.getElem?_eq_getElem hpx)
            rw [hxk] at y1
            have Y1 := hide (show w5.cell? ⟨b3, f3 + p * 5 + 1, none⟩ = some (.string jk.hd.key) from y1)
            have CK := hide ck
            have ck1 := HZ.out.cell ck
            have hkm : May jk.unkey.flat jk.unkey := kid_may MX.out jk (by rw [hsplit]; simp)
            have CP2 := hide (part_run _ x ((0 + 1 + (J.flats (l.take k)).length : Nat) : Int) jk.unkey.flat wr (XN5.out.old HZ.out) XTX.out (HT1.out.old HZ1.out) (part_kid (h := h) (l1 := l.take k) (l2 := l.drop (k + 1)) (by rw [← hsplit]; exact MX.out)))
            rw [hp.out] at CP2
            obtain ⟨M, hM⟩ : ∃ M, Hid (jk.unkey.flat.length = M) := ⟨_, hide rfl⟩
            have HPN := hide (show (kidParts l).take (k + 1) = (kidParts l).take k ++ [jk.unkey.flat] by
              have hkp : k < (kidParts l).length := by simpa [kidParts] using hkl
              rw [List.take_succ_eq_append_getElem hkp]
              simp only [kidParts, List.getElem_map, hjk.out])
            have HTN := hide (show (l.map J.key).take (k + 1) = (l.map J.key).take k ++ [jk.hd.key] by
              have hkp : k < (l.map J.key).length := by simpa using hkl
              rw [List.take_succ_eq_append_getElem hkp]
              simp only [List.getElem_map, hjk.out]
              rfl)
            have hl1 : ((kidParts l).take k).length + 1 ≤ 4194304 := by simp [kidParts]; omega
            have hl2 : ((l.map J.key).take k).length + 1 ≤ 4194304 := by simp; omega
            clear hsplit htl kc ck hxd hxk y0 y1 y2 y3 y4 hkm
            go_wp2_with fail
            refine CP2.out.mono ?_
            rintro e w6 ⟨v6, rfl, n6, o6⟩
            obtain ⟨A6, c6, rfl, q6, r6⟩ := nodes_form n6 hM.out
            unfold maxLen at r6
            have N6 := hide (SlT.mono (SlT.old n6 (Old.alloc (Old.refl _) (.cells #[.slice A6 M c6] 25))) HZ.out.size)
            have OA := hide (Old.trans o6 (Old.alloc (Old.refl _) (.cells #[.slice A6 M c6] 25)))
            have HPO6 := hide (HPO.out.old OA.out)
            have OZA := hide (Old.trans HZ.out OA.out)
            clear n6 ck1
            go_upto_region 19 with (at_builtin; refine wpList_plain rfl (fun K hK => ?_); refine step_push_part _ _ _ rfl w5.heap.size _ ((kidParts l).take k) rfl HPO6.out _ _ (.slice A6 M c6) jk.unkey.flat rfl (by go_simp) N6.out hl1 OZA.out.size ?_; intro v7 w7 own7 kept7; refine hK _ _ ?_; clear hK)
            have O7 := hide (kept7.old OZA.out (Nat.le_refl _))
            have P7 := hide own7
            have T7 := hide (Kept.own kept7 (own_old HTO.out OA.out) (by decide))
            have ck7 := O7.out.cell CK.out
            have y7 := O7.out.cell Y1.out
            clear own7 kept7
            go_wp2_with (at_builtin; refine wpList_plain rfl (fun K hK => ?_); refine step_push_text _ _ _ rfl w5.heap.size _ ((l.map J.key).take k) rfl (own_old T7.out (Old.alloc (Old.refl _) _)) _ _ jk.hd.key rfl (by go_simp) hl2 (O7.out.alloc _).size ?_; intro v8 w8 own8 kept8; refine hK _ _ ?_; clear hK)
            have O8 := hide (kept8.old (O7.out.alloc _) (Nat.le_refl _))
            have P8 := hide (PartsOwn.kept (P7.out.old (Old.alloc (Old.refl _) _)) kept8 (by decide) (by decide))
            have T8 := hide own8
            clear own8 kept8 ck7 y7
            go_roundw
            case rel => exact ⟨k + 1, by go_num, by omega, hide (by rw [HPN.out]; exact P8.out), hide (by rw [HTN.out]; exact T8.out), O8⟩
            case measure => simp [intOf]; omega
          · have hkk : k = L := by omega
            have HPA := hide (show PartsIs wr u6 (kidParts l) by
              have h := HPO.out.is
              rwa [hkk, ← hL.out, List.take_of_length_le (by simp [kidParts])] at h)
            have HTA := hide (show TextsIs wr u7 (l.map J.key) by
              have h := TextsOwn.is HTO.out
              rwa [hkk, ← hL.out, List.take_of_length_le (by simp)] at h)
            have TXP := hide (kidParts_texts XTX.out MX.out.1.2.2)
            have TXK := hide (kidKeys_texts XTX.out MX.out.1.2.2)
            obtain ⟨b3, f3, rfl, y0, y1, y2, y3, y4⟩ := nodes_cells (XN5.out) (root_at MX.out.1.2.2)
            simp only [Nat.zero_mul, Nat.add_zero] at y0
            obtain ⟨K, hK⟩ : ∃ K, Hid (h.kind = K) := ⟨_, hide rfl⟩
            rw [hK.out] at y0
            have Y0 := hide y0
            have hLk := hkk
            clear y1 y2 y3 y4 hkk y0
            have CLS := hide (fun (out : List Nd) (er : Int) (hl : ListT (kidParts l) out er) => list_run _ (kidParts l) out er wr HPA.out TXP.out (HT1.out.old HZ1.out) hl)
            rcases kind_may MX.out with h6 | h6 | h6
            · rw [hK.out] at h6
              have hl0 : L ≤ 0 := by rw [← hL.out, kids_leaf MX.out (by rw [hK.out]; exact h6)]; exact Nat.le_refl _
              obtain ⟨out, er, hls⟩ := ListT_some (kidParts l)
              have CL := hide (CLS.out out er hls)
              have hk1 : (K == 7) = false := beq_eq_false_iff_ne.2 (by omega)
              have hk2 : ¬ 6 ≤ K := by omega
              have hl1 : ¬ (0 : Int) < (L : Int) := by omega
              clear hls hLk
              go_wp2_with fail
              refine CL.out.mono ?_
              rintro e w8 ⟨v8, rfl, n8, o8⟩
              have O8 := hide (Old.trans HZ.out o8)
              have x0 := O8.out.cell Y0.out
              have O9 := hide (Old.trans O5.out O8.out)
              clear n8 o8
              go_wp2_with fail
              go_roundw
              case rel => exact ⟨i + 1, by go_num, by omega, O9⟩
              case measure => simp [intOf]; omega
            · have CL := hide (CLS.out x 0 (list_again MX.out h6))
              rw [hK.out] at h6
              have hk1 : (K == 7) = false := beq_eq_false_iff_ne.2 (by omega)
              have hk2 : 6 ≤ K := by omega
              have hk3 : ¬ K < 6 := by omega
              clear hLk h6
              go_wp2_with fail
              refine CL.out.mono ?_
              rintro e w8 ⟨v8, rfl, n8, o8⟩
              have O8 := hide (Old.trans HZ.out o8)
              have x0 := O8.out.cell Y0.out
              have CE := hide (eq_true _ v8 x w8 (XN5.out.old O8.out) n8.sl)
              clear n8 o8
              go_wp2_with fail
              refine CE.out.mono ?_
              rintro e w9 ⟨rfl, o9⟩
              have O9 := hide (Old.trans O5.out (Old.trans O8.out o9))
              have x1 := Old.cell o9 x0
              clear o9 x0
              go_wp2_with fail
              go_roundw
              case rel => exact ⟨i + 1, by go_num, by omega, O9⟩
              case measure => simp [intOf]; omega
            · obtain ⟨out, er, hls⟩ := ListT_some (kidParts l)
              have CL := hide (CLS.out out er hls)
              have CO := hide (fun w' (ho : Old wr w') => obj_run _ _ (l.map J.key) (kidParts l) x 0 w' (HTA.out.old ho) TXK.out (HPA.out.old ho) TXP.out (HT1.out.old (Old.trans HZ1.out ho)) (obj_again MX.out h6))
              rw [hK.out] at h6
              have hk1 : (K == 7) = true := by simp [h6]
              have hk2 : 6 ≤ K := by omega
              have hk3 : ¬ K < 6 := by omega
              clear hLk h6 hls
              go_wp2_with fail
              refine CL.out.mono ?_
              rintro e w7 ⟨v7, rfl, n7, o7⟩
              have O7 := hide o7
              have x9 := (Old.trans HZ.out O7.out).cell Y0.out
              clear n7 o7
              go_wp2_with fail
              refine (CO.out _ O7.out).mono ?_
              rintro e w8 ⟨v8, rfl, n8, o8⟩
              have O8 := hide (Old.trans HZ.out (Old.trans O7.out o8))
              have x0 := O8.out.cell Y0.out
              have CE := hide (eq_true _ v8 x w8 (XN5.out.old O8.out) n8.sl)
              clear n8 o8 x9
              go_wp2_with fail
              refine CE.out.mono ?_
              rintro e w9 ⟨rfl, o9⟩
              have O9 := hide (Old.trans O5.out (Old.trans O8.out o9))
              have x1 := Old.cell o9 x0
              clear o9 x0
              go_wp2_with fail
              go_roundw
              case rel => exact ⟨i + 1, by go_num, by omega, O9⟩
              case measure => simp [intOf]; omega
      · go_wp2_with fail
        refine (WK _ (HT.out.old HOW.out)).mono ?_
        rintro e w3 ⟨rfl, o3⟩
        go_wp2_with fail
        go_ret
        exact ⟨rfl, Old.trans HOW.out o3⟩
  · have h0' : (chkT F != 0) = true := by simpa using h0
    have C1 := hide (fun w' (h : Old w1 w') => Kids_run _ F [] w' (HN.out.old h) HTX.out (HT1.out.old h) (.inr ⟨h0, rfl⟩))
    have C2 := hide (fun w' (h : Old w1 w') => sorted_run _ F w' (HN.out.old h) HTX.out (HT1.out.old h))
    have C3 := hide (fun w' (h : Old w1 w') => num_as (deep_run _ F w' (HN.out.old h) HTX.out (HT1.out.old h)) (show ((deepT F : Nat) : Int) = 0 by unfold deepT; rw [if_neg h0]; rfl))
    have C4 := hide (fun w' (h : Old w1 w') => same_run _ _ F F w' (HN.out.old h) (HN.out.old h) HTX.out HTX.out (HT1.out.old h))
    have H0 := hide h0
    clear h0
    go_wp2_with fail
    refine CC.out.mono ?_
    rintro e w2 ⟨rfl, o2⟩
    go_wp2_with fail
    refine (C1.out _ o2).mono ?_
    rintro e w3 ⟨v3, rfl, n3, o3⟩
    obtain ⟨A3, c3, rfl, q3, r3, _⟩ := ints_cell n3 (show ([] : List Nat).length = 0 from rfl)
    unfold maxLen at r3
    have O3 := hide (Old.trans o2 o3)
    clear n3 o2 o3
    go_wp2_with fail
    refine (C2.out _ O3.out).mono ?_
    rintro e w4 ⟨ps, hps, v4, rfl, n4, o4⟩
    have hps0 : ps = [] := by
      rcases hps with ⟨j, hj, _⟩ | ⟨_, h⟩
      · exact absurd (chkT_may hj) H0.out
      · exact h
    subst hps0
    obtain ⟨A4, c4, rfl, q4, r4⟩ := nodes_form (m := 0) n4 rfl
    unfold maxLen at r4
    have O4 := hide (Old.trans O3.out o4)
    clear n4 o4 hps
    go_wp2_with fail
    refine (C3.out _ O4.out).mono ?_
    rintro e w5 ⟨rfl, o5⟩
    have O5 := hide (Old.trans O4.out o5)
    clear o5
    go_wp2_with fail
    refine (C4.out _ O5.out).mono ?_
    rintro e w6 ⟨B, hB, rfl, o6⟩
    have hB0 : B = false := by
      rcases hB with ⟨_, h⟩ | ⟨j, _, hj, _, _⟩
      · exact h
      · exact absurd (chkT_may hj) H0.out
    subst hB0
    have O6 := hide (Old.trans O5.out o6)
    clear o6 hB
    go_wp2_with fail
    refine (WK _ (HT1.out.old O6.out)).mono ?_
    rintro e w7 ⟨rfl, o7⟩
    go_wp2_with fail
    go_ret
    exact ⟨rfl, Old.trans O1.out (Old.trans O6.out o7)⟩
end Go.Proofs.YtkefhhnbkhijgaaDoor
