/-  -/
import Derived.Test.YthlfljmfggmfdaaGreatDoorQf43
import Derived.Test.YthlfljmfggmfdaaGreatDoorQf34
import Derived.Test.YthlfljmfggmfdaaGreatDoorQf14
import Derived.Deep.DeepCutAuto
/-! ###  -/
namespace Go.Proofs.YthlfljmfggmfdaaGreatDoor
open Go.RowKit
set_option maxRecDepth 100000 in
set_option maxHeartbeats 4000000 in
theorem order_run (u : Value) (L : List Trip) (by_ : Int) (w : World) (h : TripsIs w u L) (hE : Errs w) (hT : Tabs w) (hP : PowTab w) :
 Calls Tryz.prog 9 #[.agg #[u], .int .i64 by_] w fun e w' => e = .returned (.bool true) ∧ Old w w' := by
 have HT := hide hT
 have CM := hide (fun (w' : World) (o : Old w w') => made_run u L w' (Sl.old h o))
 have CW := hide (fun (w' : World) (o : Old w w') => works19_run w' (hE.old o) (hT.old o) (hP.old o))
 have OK := hide (madeR L)
 unfold MadeT at CM
 generalize mCols L (mLen L) = cols at *
 generalize mRow L (mLen L) = r at *
 obtain ⟨t, ht⟩ : ∃ t, Hid ((objC cols r).flat = t) := ⟨_, hide rfl⟩
 have HTX := hide (show TextsOk t by rw [← ht.out]; exact objC_texts OK.out.named OK.out.row)
 have HRT := hide (show RowT cols r t 0 by rw [← ht.out]; exact RowT_fine OK.out.named OK.out.row (by have := OK.out.few; omega))
 have HSO := hide (fun ps (hs : SortedT t ps) => sorted_ok OK.out (by rw [ht.out]; exact hs))
 have HGT := hide (fun (i : Nat) (h1 : i < cols.length) (h2 : i < r.length) => show GetT t cols[i].name (leafC cols[i].kind r[i]) true by rw [← ht.out]; exact get_leaf OK.out h1 h2)
 obtain ⟨M, hM⟩ : ∃ M, Hid (cols.length = M) := ⟨_, hide rfl⟩
 have hM20 : M ≤ 20 := by rw [← hM.out]; exact OK.out.few
 have hRL := hide (show r.length = M by rw [← hM.out]; exact (rowErr_zero.1 OK.out.row).1.symm)
 obtain ⟨S, hS⟩ : ∃ S, Hid (brg by_ M = S) := ⟨_, hide rfl⟩
 have hSM : S < M ∨ M = 0 := by
  rcases Nat.eq_zero_or_pos M with h0 | h0
  · exact .inr h0
  · exact .inl (by rw [← hS.out]; exact brg_lt _ h0)
 have CB := hide (show ∀ w', 0 < M → Calls Tryz.prog 30 #[.int .i64 by_, .int .i64 M] w' fun e w2 => e = .returned (.int .i64 S) ∧ w' = w2 from fun w' h0 => by
  have := bring_is by_ M w' h0 (by omega)
  rwa [hS.out] at this)
 obtain ⟨tq, hto⟩ := order_obj OK.out (s := S) (by rw [hM.out]; exact hSM)
 have HTO := hide hto
 clear h hT hE hP hto
 unfold Ret at CW
 obtain ⟨NS, hNS⟩ : ∃ NS, Hid (rotL S (cols.map Col.name) = NS) := ⟨_, hide rfl⟩
 obtain ⟨PS, hPS⟩ : ∃ PS, Hid (rotL S (partsC cols r) = PS) := ⟨_, hide rfl⟩
 rw [hNS.out, hPS.out] at HTO
 have hNL := hide (show NS.length = M by rw [← hNS.out, rotL_len, List.length_map, hM.out])
 have hPL := hide (show PS.length = M by rw [← hPS.out, rotL_len, partsC_len (by rw [hM.out, hRL.out]), hM.out])
 go_enter Tryz.func9, Tryz.ntmps9
 go_wp2_with fail
 refine (CM.out _ (Old.alloc (Old.refl _) _)).mono ?_
 rintro e w1 ⟨cv, rv, rfl, c1, r1, o1⟩
 have O1 := hide (Old.trans (Old.alloc (Old.refl _) _) o1)
 have C1 := hide c1.sl
 have R1 := hide r1.sl
 clear o1 c1 r1
 go_wp2_with fail
 refine (tapeR_run cv rv cols r t 0 w1 C1.out R1.out OK.out.names (by have := OK.out.few; omega) (HT.out.old O1.out) HRT.out).mono ?_
 rintro e w2 ⟨tv, rfl, t2, o2⟩
 have O2 := hide (Old.trans O1.out o2)
 have C2 := hide (Sl.old C1.out o2)
 have R2 := hide (Sl.old R1.out o2)
 have T2 := hide t2.sl
 clear t2 o2
 obtain ⟨AC, cc, rfl, hCl, hCm, hCc⟩ := cols_form C2.out
 unfold maxLen at hCm
 have HCC := hide hCc
 simp only [hM.out] at hCl ⊢
 have HCF := hide (show ColsIs w2 (.slice AC M cc) cols by rw [← hM.out]; exact C2.out)
 clear hCc
 go_wp2_with fail
 go_loopw [9, 10, 11] (fun kv pv iv wr => ∃ k : Nat, iv = .int .i64 k ∧ k ≤ M ∧ Hid (TextsOwn w2.heap.size wr kv (NS.take k)) ∧ Hid (PartsOwn w2.heap.size wr pv (PS.take k)) ∧ Hid (Old w2 wr)) (fun _ _ iv _ => M - (intOf iv).toNat)
 case atStart => exact ⟨0, rfl, by omega, hide (own_nil _ _ _ _), hide (PartsOwn.nil_ _ _), hide (Old.refl _)⟩
 case round =>
  obtain ⟨k, rfl, hk, HTW, HPW, HO⟩ := hrel
  by_cases hlt : k < M
  · have hli : (k : Int) < (M : Int) := by omega
    have hM0 : ¬ (M : Int) = 0 := by omega
    have hSM2 : S < M := by omega
    obtain ⟨q, hq⟩ : ∃ q, Hid (q = (k + S) % M) := ⟨_, hide rfl⟩
    have hqM : q < M := by rw [hq.out]; exact Nat.mod_lt _ (by omega)
    have hqi : ((k : Int) + (S : Int)) % (M : Int) = (q : Int) := by rw [hq.out]; simp
    have hqC : q < cols.length := by rw [hM.out]; exact hqM
    have hqR : q < r.length := by rw [hRL.out]; exact hqM
    obtain ⟨b1, f1, rfl, hc1⟩ := HCC.out.resolve_left (by rw [hM.out]; omega)
    have x1 := ((hc1 q hqC).old HO.out).2.1
    have hqMi : (q : Int) < (M : Int) := by omega
    have HNX := hide (show NS.take (k + 1) = NS.take k ++ [cols[q].name] by
     rw [← hNS.out]
     have := rot_next (l := cols.map Col.name) (s := S) (k := k) (q := q) (by simp [hM.out]; omega) (by simp [hM.out]; omega) (by simp [hM.out]; exact hq.out) (by simpa using hqC)
     simpa using this)
    have HPX := hide (show PS.take (k + 1) = PS.take k ++ [leafC cols[q].kind r[q]] by
     rw [← hPS.out]
     have e := partsC_len (show cols.length = r.length by rw [hM.out, hRL.out])
     rw [hM.out] at e
     have := rot_next (l := partsC cols r) (s := S) (k := k) (q := q) (by rw [e]; omega) (by rw [e]; omega) (by rw [e]; exact hq.out) (by rw [e]; exact hqM)
     rwa [partsC_at hqC hqR] at this)
    have HGQ := hide (HGT.out q hqC hqR)
    generalize cols[q].name = nm at *
    have CG := hide (fun (w' : World) (o : Old w2 w') => get_run tv t nm (leafC cols[q].kind r[q]) true w' (T2.out.old o) HTX.out (HT.out.old (Old.trans O2.out o)) HGQ.out)
    have hlf : (leafC cols[q].kind r[q]).length = 1 := rfl
    generalize leafC cols[q].kind r[q] = lf at *
    have hLF := hide hlf
    have CBk := hide (fun w' => CB.out w' (by omega))
    clear hc1 HGQ hlf hM0 hSM2
    have hM0 : (M : Int) ≠ 0 := by omega
    go_wp2_with fail
    refine (CBk.out _).mono ?_
    rintro e w3 ⟨rfl, rfl⟩
    go_wp2_with fail
    refine (CG.out _ HO.out).mono ?_
    rintro e w3 ⟨v3, rfl, n3, o3⟩
    obtain ⟨A3, c3, rfl, q3, r3⟩ := nodes_form n3 hLF.out
    unfold maxLen at r3
    have O3 := hide (Old.trans HO.out o3)
    have N3 := hide (SlT.mono n3 HO.out.size)
    have T3 := hide (own_old HTW.out o3)
    have P3 := hide (HPW.out.old o3)
    have x3 := (Old.cell o3 x1)
    clear n3 o3 x1
    have hl1 : (NS.take k).length + 1 ≤ 4194304 := by rw [List.length_take]; omega
    have hl2 : (PS.take k).length + 1 ≤ 4194304 := by rw [List.length_take]; omega
    go_upto_region 13 with (at_builtin; refine wpList_plain rfl (fun K hK => ?_); refine step_push_text _ _ _ rfl w2.heap.size _ (NS.take k) rfl (own_old T3.out (Old.alloc (Old.refl _) _)) _ _ nm rfl (by go_simp) hl1 (Old.alloc O3.out _).size ?_; intro v7 w7 own7 kept7; refine hK _ _ ?_; clear hK)
    have O7 := hide (kept7.old (Old.alloc O3.out _) (Nat.le_refl _))
    have T7 := hide own7
    have P7 := hide (PartsOwn.kept (P3.out.old (Old.alloc (Old.refl _) _)) kept7 (by decide) (by decide))
    have N7 := hide (Kept.slT kept7 (SlT.old N3.out (Old.alloc (Old.refl _) _)) (by decide))
    clear own7 kept7
    go_wp2_with (at_builtin; refine wpList_plain rfl (fun K hK => ?_); refine step_push_part _ _ _ rfl w2.heap.size _ (PS.take k) rfl (P7.out.old (Old.alloc (Old.refl _) _)) _ _ (.slice A3 1 c3) lf rfl (by go_simp) (SlT.old N7.out (Old.alloc (Old.refl _) _)) hl2 (Old.alloc O7.out _).size ?_; intro v8 w8 own8 kept8; refine hK _ _ ?_; clear hK)
    have O8 := hide (kept8.old (Old.alloc O7.out _) (Nat.le_refl _))
    have P8 := hide own8
    have T8 := hide (Kept.own kept8 (own_old T7.out (Old.alloc (Old.refl _) _)) (by decide))
    clear own8 kept8
    go_roundw
    case rel => exact ⟨k + 1, by go_num, by omega, hide (by rw [HNX.out]; exact T8.out), hide (by rw [HPX.out]; exact P8.out), O8⟩
    case measure => simp [intOf]; omega
  · have hli : ¬ (k : Int) < (M : Int) := by omega
    have hkk : k = M := by omega
    have TI := hide (show TextsIs wr u9 NS by
     have := TextsOwn.is HTW.out
     rwa [List.take_of_length_le (by rw [hNL.out]; omega)] at this)
    have PI := hide (show PartsIs wr u10 PS by
     have := HPW.out.is
     rwa [List.take_of_length_le (by rw [hPL.out]; omega)] at this)
    have HOW := hide (Old.trans O2.out HO.out)
    have RW := hide (Sl.old R2.out HO.out)
    clear hkk HTW HPW
    go_wp2_with fail
    refine (obj_run _ _ NS PS tq 0 wr TI.out HTO.out.keys PI.out HTO.out.texts (HT.out.old HOW.out) HTO.out.obj).mono ?_
    rintro e w3 ⟨v3, rfl, n3, o3⟩
    have O3 := hide (Old.trans HO.out o3)
    have N3 := hide n3.sl
    clear n3 o3
    go_wp2_with fail
    refine (row_run _ v3 cols tq r 0 w3 (HCF.out.old O3.out) N3.out HTO.out.ok HTO.out.fit OK.out.names (by have := OK.out.few; omega) (HT.out.old (Old.trans O2.out O3.out)) HTO.out.row).mono ?_
    rintro e w4 ⟨av, rfl, a4, o4⟩
    have O4 := hide (Old.trans O3.out o4)
    have A4 := hide a4.sl
    clear a4 o4
    go_wp2_with fail
    refine (sorted_run tv t w4 (T2.out.old O4.out) HTX.out (HT.out.old (Old.trans O2.out O4.out))).mono ?_
    rintro e w5 ⟨ps, hps, v5, rfl, n5, o5⟩
    obtain ⟨q1, q2, q3⟩ := HSO.out ps hps
    have O5 := hide (Old.trans O4.out o5)
    have A5 := hide (Sl.old A4.out o5)
    have N5 := hide n5.sl
    clear n5 o5 hps
    go_wp2_with fail
    refine (row_run _ v5 cols ps r 0 w5 (HCF.out.old O5.out) N5.out q1 q2 OK.out.names (by have := OK.out.few; omega) (HT.out.old (Old.trans O2.out O5.out)) q3).mono ?_
    rintro e w6 ⟨bv, rfl, b6, o6⟩
    have O6 := hide (Old.trans O5.out o6)
    have A6 := hide (Sl.old A5.out o6)
    have B6 := hide b6.sl
    have R6 := hide (Sl.old R2.out O6.out)
    clear b6 o6 q1 q2 q3
    have E1 := hide (fun (w' : World) (o : Old w6 w') => eqRow av rv r r w' (Sl.old A6.out o) (Sl.old R6.out o))
    have E2 := hide (fun (w' : World) (o : Old w6 w') => eqRow bv rv r r w' (Sl.old B6.out o) (Sl.old R6.out o))
    have SR : sameRow r r = true := by simp [sameRow]
    rw [SR] at E1 E2
    clear SR
    have OW6 := hide (Old.trans O2.out O6.out)
    go_wp2_with fail
    refine (E1.out _ (Old.refl _)).mono ?_
    rintro e w7 ⟨rfl, o7⟩
    have O7 := hide o7
    clear o7
    go_wp2_with fail
    refine (E2.out _ O7.out).mono ?_
    rintro e w8 ⟨rfl, o8⟩
    have O8 := hide (Old.trans OW6.out (Old.trans O7.out o8))
    clear o8
    go_wp2_with fail
    refine (CW.out _ O8.out).mono ?_
    rintro e w9 ⟨rfl, o9⟩
    have O9 := hide (Old.trans O8.out o9)
    clear o9
    go_wp2_with fail
    go_ret
    exact ⟨rfl, O9.out⟩
end Go.Proofs.YthlfljmfggmfdaaGreatDoor
