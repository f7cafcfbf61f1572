/- TapeMakes: the walk. -/
import Derived.Test.YtkefhhnbkhijgaaDoorMakesT
import Derived.Deep.DeepCutAuto
namespace Go.Proofs.YtkefhhnbkhijgaaDoor
open Go.RowKit

theorem texts_take {w : World} {A : Option Addr} {n cap : Nat} {t : List ByteArray} (h : TextsIs w (.slice A n cap) t) {m : Nat} (hm : (t.take m).length = m) : TextsIs w (.slice A m cap) (t.take m) := by
  have hmt : m ≤ t.length := by rw [← hm]; simp; omega
  obtain ⟨A', cp, he, h1, h2, h3⟩ := h
  injection he with e1 e2 e3
  subst e1 e2 e3
  refine ⟨A, cap, by rw [hm], by omega, h2, fun hne => ?_⟩
  obtain ⟨b, off, hA, hc⟩ := h3 (by
    intro e
    apply hne
    rw [List.map_take, e, List.take_nil])
  refine ⟨b, off, hA, fun j u hu => hc j u ?_⟩
  rw [List.map_take, List.getElem?_take] at hu
  split at hu
  · exact hu
  · cases hu
theorem texts_form {base m : Nat} {w : World} {v : Value} {l : List ByteArray} (h : TextsOwn base w v l) (hm : l.length = m) : ∃ A cap, v = .slice A m cap ∧ m ≤ cap ∧ cap ≤ maxLen := by
  obtain ⟨A, cap, rfl, h1, h2, _⟩ := SlT.of_own h
  exact ⟨A, cap, by rw [hm], by omega, h2⟩
/-- texts of which the first are cut short -/
def cutTo (l : List ByteArray) (k : Nat) : List ByteArray := (l.take k).map (cutN 40) ++ l.drop k
theorem cutTo_len (l : List ByteArray) (k : Nat) : (cutTo l k).length = l.length := by simp [cutTo]; omega
theorem cutTo_at {l : List ByteArray} {k : Nat} (h : k < l.length) : (cutTo l k)[k]? = some l[k] := by
  have hk : ((l.take k).map (cutN 40)).length = k := by simp; omega
  unfold cutTo
  rw [List.getElem?_append_right (by omega), hk, Nat.sub_self, List.getElem?_drop]
  simp [h]
theorem cutTo_next {l : List ByteArray} {k : Nat} (h : k < l.length) : (cutTo l k).set k (cutN 40 l[k]) = cutTo l (k + 1) := by
  have hk : ((l.take k).map (cutN 40)).length = k := by simp; omega
  unfold cutTo
  rw [List.set_append_right _ _ (by omega), hk, Nat.sub_self, List.drop_eq_getElem_cons h, List.set_cons_zero, List.take_succ_eq_append_getElem h, List.map_append, List.append_assoc]
  rfl
theorem texts_store {base m c : Nat} {w : World} {A : Option Addr} {l : List ByteArray} (h : TextsOwn base w (.slice A m c) l) {k : Nat} {s : ByteArray} (hk : l[k]? = some s) : ∃ g, A = some ⟨g, 0, none⟩ ∧ base ≤ g ∧ w.cell? ⟨g, k, none⟩ = some (.string s) ∧ w.frozen? ⟨g, k, none⟩ = false ∧
    ∀ u, TextsOwn base (w.setCell ⟨g, k, none⟩ (.string u)) (.slice A m c) (l.set k u) ∧ Kept 9 base w (w.setCell ⟨g, k, none⟩ (.string u)) := by
  obtain ⟨hkl, hks⟩ := List.getElem?_eq_some_iff.1 hk
  obtain ⟨g, cap, he, h1, h2, h3, h4, h5, h6⟩ := own_set h (by omega)
  injection he with e1 e2 e3
  subst e1 e2 e3
  refine ⟨g, rfl, h3, h4 k _ (by rw [List.getElem?_map, hk]; rfl), h5 k, fun u => ⟨?_, kept_set h k _⟩⟩
  have := h6 k (.string u)
  unfold TextsOwn
  rw [List.length_set, List.map_set]
  exact this
theorem ObjT_some (ks : List ByteArray) (pl : List (List Nd)) : ∃ out e, ObjT ks pl out e := by
  by_cases hl : ks.length = pl.length
  · have key : ∀ n : Nat, (∀ j : Nat, j < n → objErr ks pl j = 0) ∨ ∃ i, i < n ∧ (∀ j, j < i → objErr ks pl j = 0) ∧ objErr ks pl i ≠ 0 := by
      intro n
      induction n with
      | zero => exact .inl fun j h => by omega
      | succ n ih =>
        rcases ih with ih | ⟨i, h1, h2, h3⟩
        · by_cases hc : objErr ks pl n = 0
          · refine .inl fun j hj => ?_
            rcases Nat.lt_or_ge j n with h | h
            · exact ih j h
            · have : j = n := by omega
              subst this
              exact hc
          · exact .inr ⟨n, by omega, ih, hc⟩
        · exact .inr ⟨i, by omega, h2, h3⟩
    rcases key pl.length with h | ⟨i, h1, h2, h3⟩
    · obtain ⟨js, hj⟩ := allMay_of (pl := pl) (fun i hi => by
        have := h i hi
        unfold objErr at this
        split at this
        · omega
        · split at this
          · omega
          · rwa [getD_at hi] at this)
      by_cases w1 : 4000 < 1 + (J.flats (rekeys ks js)).length
      · exact ⟨[], 5, .inr ⟨hl, .inr ⟨h, js, hj, .inl ⟨w1, rfl, rfl⟩⟩⟩⟩
      · by_cases w2 : 64 ≤ J.deeps (rekeys ks js)
        · exact ⟨[], 72, .inr ⟨hl, .inr ⟨h, js, hj, .inr (.inl ⟨by omega, w2, rfl, rfl⟩)⟩⟩⟩
        · exact ⟨_, 0, .inr ⟨hl, .inr ⟨h, js, hj, .inr (.inr ⟨by omega, by omega, rfl, rfl⟩)⟩⟩⟩
    · exact ⟨[], _, .inr ⟨hl, .inl ⟨i, h1, h2, h3, rfl, rfl⟩⟩⟩
  · exact ⟨[], 2, .inl ⟨hl, rfl, rfl⟩⟩
theorem parts_form {base : Nat} {w : World} {v : Value} {ps : List (List Nd)} {m : Nat} (h : PartsOwn base w v ps) (hm : ps.length = m) : ∃ A cap, v = .slice A m cap ∧ m ≤ cap ∧ cap ≤ maxLen := by
  obtain ⟨vs, _, h2, _⟩ := h
  obtain ⟨A, cap, rfl, h1, h2, _⟩ := SlT.of_own h2
  exact ⟨A, cap, by rw [hm], by omega, h2⟩
theorem parts_at {w : World} {A : Option Addr} {n c : Nat} {ps : List (List Nd)} (h : PartsIs w (.slice A n c) ps) {k : Nat} {p : List Nd} (hk : ps[k]? = some p) : ∃ b off A' c', A = some ⟨b, off, none⟩ ∧ w.cell? ⟨b, off + k, none⟩ = some (.slice A' p.length c') ∧ NodesIs w (.slice A' p.length c') p := by
  obtain ⟨hkl, hks⟩ := List.getElem?_eq_some_iff.1 hk
  obtain ⟨A2, cap, he, h1, h2, h3⟩ := h.open_
  injection he with e1 e2 e3
  subst e1 e2 e3
  obtain ⟨b, off, rfl, hc⟩ := h3.resolve_left (by omega)
  obtain ⟨A', c', g1, _, _, g2⟩ := hc k hkl
  rw [hks] at g1 g2
  exact ⟨b, off, A', c', rfl, g1, g2⟩
theorem str_size (a b : ByteArray) : (a ++ b).size = a.size + b.size := ByteArray.size_append

set_option maxRecDepth 100000 in
set_option maxHeartbeats 4000000 in
theorem tapeMakes_run (kv lv : Value) (ks : List ByteArray) (l : List (List Nd)) (n : Int) (w : World) (hkv : TextsIs w kv ks) (hlv : PartsIs w lv l) (hT : Tabs w) (WK : WorksOk) :
    Calls Tryd.prog 3 #[kv, lv, .int .i64 n] w fun e w' => e = .returned (.bool true) ∧ Old w w' := by
  have HKV := hide hkv
  have HLV := hide hlv
  have HT := hide hT
  obtain ⟨AK, ck, rfl, hlk, hmk, _⟩ := hkv.texts
  obtain ⟨AL, cl, rfl, hll, hml, hlc⟩ := hlv.open_
  have HLC := hide hlc
  unfold maxLen at hmk hml
  obtain ⟨K, hK⟩ : ∃ K, Hid (ks.take 8 = K) := ⟨_, hide rfl⟩
  obtain ⟨m, hm⟩ : ∃ m, Hid (K.length = m) := ⟨_, hide rfl⟩
  have hm8 : m ≤ 8 := by rw [← hm.out, ← hK.out]; simp; omega
  have CC := hide (show Calls Tryd.prog 11 #[.slice AK (min (ks.length : Int) 8).toNat ck] w fun e w' => ∃ v', e = .returned v' ∧ TextsOwn w.heap.size w' v' K ∧ Old w w' by
    have e : (min (ks.length : Int) 8).toNat = m := by rw [← hm.out, ← hK.out]; simp; omega
    rw [e]
    have e3 : ks.take 8 = ks.take m := by
      rw [← hm.out, ← hK.out, List.length_take]
      rcases Nat.le_total 8 ks.length with h | h
      · rw [Nat.min_eq_left h]
      · rw [Nat.min_eq_right h, List.take_of_length_le h, List.take_length]
    have e2 : ks.take m = K := by rw [← hK.out, e3]
    have := texts_take (m := m) HKV.out (by rw [e2]; exact hm.out)
    rw [e2] at this
    exact copyTexts_run _ K w this (by rw [hm.out]; omega))
  have HKS := hide (show ∀ s ∈ K.map (cutN 40), s.size ≤ maxLen from fun s hs => by
    obtain ⟨y, _, rfl⟩ := List.mem_map.1 hs
    have := cutN_size 40 y
    unfold maxLen
    simp at this
    omega)
  clear hkv hlv hT hlc
  go_enter Tryd.func3, Tryd.ntmps3
  go_wp2_with fail
  refine CC.out.mono ?_
  rintro e w1 ⟨v1, rfl, n1, o1⟩
  obtain ⟨A1, c1, rfl, q1, r1⟩ := texts_form n1 hm.out
  unfold maxLen at r1
  have N1 := hide n1
  have O1 := hide o1
  clear n1 o1 CC
  go_upto_block 0 with fail
  go_cut [7, 8] (fun pv qv wc => Hid (PartsOwn w.heap.size wc pv ((l.take 8).map fewL)) ∧ Hid (PartsOwn w.heap.size wc qv ((l.take 8).map fewL)) ∧ Hid (TextsOwn w.heap.size wc (.slice A1 m c1) K) ∧ Hid (Old w wc))
  case first =>
    go_wp2_with fail
    go_loopw [7, 8, 9] (fun pv qv i wr => ∃ k : Nat, i = .int .i64 k ∧ k ≤ l.length ∧ k ≤ 8 ∧ Hid (PartsOwn w.heap.size wr pv ((l.take k).map fewL)) ∧ Hid (PartsOwn w.heap.size wr qv ((l.take k).map fewL)) ∧ Hid (TwoRows pv qv) ∧ Hid (TextsOwn w.heap.size wr (.slice A1 m c1) K) ∧ Hid (Old w wr)) (fun _ _ i _ => l.length - (intOf i).toNat)
    case atStart => exact ⟨0, rfl, by omega, by omega, hide (PartsOwn.nil_ _ _), hide (PartsOwn.nil_ _ _), hide (by intro g hg; simp [Value.ownBlock] at hg), N1, O1⟩
    case round =>
      obtain ⟨k, rfl, hk, hk8, HPO, HQO, HTW, HTO, HO⟩ := hrel
      by_cases hlt : k < l.length
      · by_cases h8 : k < 8
        · obtain ⟨b1, f1, rfl, hc1⟩ := HLC.out.resolve_left (by omega)
          obtain ⟨A', c', x0, x1, x2, x3⟩ := hc1 k hlt
          have X0 := hide x0
          have X3 := hide x3
          have e0 := HO.out.cell x0
          unfold maxLen at x2
          obtain ⟨M, hM⟩ : ∃ M, Hid ((fewL l[k]).length = M) := ⟨_, hide rfl⟩
          have CF := hide (fun w' (h : Old w w') => few_run (.slice A' l[k].length c') l[k] w' (X3.out.old h))
          have HN := hide (show (l.take (k + 1)).map fewL = (l.take k).map fewL ++ [fewL l[k]] by
            rw [List.take_succ_eq_append_getElem hlt, List.map_append]
            rfl)
          have hl1 : ((l.take k).map fewL).length + 1 ≤ 4194304 := by simp; omega
          clear hc1 x0 x3
          go_wp2_with fail
          refine (CF.out _ HO.out).mono ?_
          rintro e w6 ⟨v6, rfl, n6, o6⟩
          obtain ⟨A6, c6, rfl, q6, r6⟩ := nodes_form n6 hM.out
          unfold maxLen at r6
          have N6 := hide (SlT.mono (SlT.old n6 (Old.alloc (Old.refl _) (.cells #[.slice A6 M c6] 25))) HO.out.size)
          have OA := hide (Old.trans o6 (Old.alloc (Old.refl _) (.cells #[.slice A6 M c6] 25)))
          have P6 := hide (HPO.out.old OA.out)
          have Q6 := hide (HQO.out.old OA.out)
          have OZA := hide (Old.trans HO.out OA.out)
          clear n6 e0
          go_upto_region 7 with (at_builtin; refine wpList_plain rfl (fun K hK => ?_); refine step_push_two _ _ _ rfl w.heap.size _ u8 ((l.take k).map fewL) ((l.take k).map fewL) rfl P6.out Q6.out HTW.out _ _ (.slice A6 M c6) (fewL l[k]) rfl (by go_simp) N6.out hl1 OZA.out.size ?_; intro v7 w7 own7 oth7 ap7 kept7; refine hK _ _ ?_; clear hK)
          have O7 := hide (kept7.old OZA.out (Nat.le_refl _))
          have P7 := hide own7
          have Q7 := hide oth7
          have W7 := hide ap7.symm
          have T7 := hide (Kept.own kept7 (own_old HTO.out OA.out) (by decide))
          have e7 := O7.out.cell X0.out
          clear own7 oth7 ap7 kept7 P6 Q6 o6
          go_wp2_with fail
          refine (CF.out _ O7.out).mono ?_
          rintro e w8 ⟨v8, rfl, n8, o8⟩
          obtain ⟨A8, c8, rfl, q8, r8⟩ := nodes_form n8 hM.out
          unfold maxLen at r8
          have N8 := hide (SlT.mono (SlT.old n8 (Old.alloc (Old.refl _) (.cells #[.slice A8 M c8] 25))) O7.out.size)
          have OB := hide (Old.trans o8 (Old.alloc (Old.refl _) (.cells #[.slice A8 M c8] 25)))
          have P8 := hide (P7.out.old OB.out)
          have Q8 := hide (Q7.out.old OB.out)
          have OZB := hide (Old.trans O7.out OB.out)
          clear n8 e7
          go_wp2_with (at_builtin; refine wpList_plain rfl (fun K hK => ?_); refine step_push_two _ _ _ rfl w.heap.size _ v7 ((l.take k).map fewL) ((l.take k).map fewL ++ [fewL l[k]]) rfl Q8.out P8.out W7.out _ _ (.slice A8 M c8) (fewL l[k]) rfl (by go_simp) N8.out hl1 OZB.out.size ?_; intro v9 w9 own9 oth9 ap9 kept9; refine hK _ _ ?_; clear hK)
          have O9 := hide (kept9.old OZB.out (Nat.le_refl _))
          have P9 := hide oth9
          have Q9 := hide own9
          have W9 := hide ap9.symm
          have T9 := hide (Kept.own kept9 (own_old T7.out OB.out) (by decide))
          clear own9 oth9 ap9 kept9 P8 Q8 o8
          go_roundw
          case rel => exact ⟨k + 1, by go_num, by omega, by omega, hide (by rw [HN.out]; exact P9.out), hide (by rw [HN.out]; exact Q9.out), W9, T9, O9⟩
          case measure => simp [intOf]; omega
        · have e8 : k = 8 := by omega
          have HPE := hide (show PartsOwn w.heap.size wr u7 ((l.take 8).map fewL) by rw [← e8]; exact HPO.out)
          have HQE := hide (show PartsOwn w.heap.size wr u8 ((l.take 8).map fewL) by rw [← e8]; exact HQO.out)
          clear e8
          go_wp2_with fail
          go_meet
          exact ⟨HPE, HQE, HTO, HO⟩
      · have e8 : l.take k = l.take 8 := by rw [List.take_of_length_le (by omega), List.take_of_length_le (by omega)]
        have HPE := hide (show PartsOwn w.heap.size wr u7 ((l.take 8).map fewL) by rw [← e8]; exact HPO.out)
        have HQE := hide (show PartsOwn w.heap.size wr u8 ((l.take 8).map fewL) by rw [← e8]; exact HQO.out)
        clear e8
        go_wp2_with fail
        go_meet
        exact ⟨HPE, HQE, HTO, HO⟩
  case rest =>
    obtain ⟨HP, HQ, HK, HO⟩ := hcut
    obtain ⟨PL, hPL⟩ : ∃ P, Hid ((l.take 8).map fewL = P) := ⟨_, hide rfl⟩
    have XP := hide (show ∀ p ∈ PL, TextsOk p from fun p hp => by
      rw [← hPL.out] at hp
      obtain ⟨y, _, rfl⟩ := List.mem_map.1 hp
      exact fewL_texts y)
    rw [hPL.out] at HP HQ
    obtain ⟨L, hL⟩ : ∃ L, Hid (PL.length = L) := ⟨_, hide rfl⟩
    have hL8 : L ≤ 8 := by rw [← hL.out, ← hPL.out]; simp; omega
    obtain ⟨A7, c7, rfl, q7, r7⟩ := parts_form HP.out hL.out
    obtain ⟨A8, c8, rfl, q8, r8⟩ := parts_form HQ.out hL.out
    unfold maxLen at r7 r8
    go_wp2_with fail
    go_loopw [10, 11] (fun sv i wr => ∃ (k : Nat) (S : ByteArray), i = .int .i64 k ∧ sv = .string S ∧ k ≤ m ∧ S.size ≤ 40 * k ∧ Hid (TextsOwn w.heap.size wr (.slice A1 m c1) (cutTo K k)) ∧ Hid (PartsOwn w.heap.size wr (.slice A7 L c7) PL) ∧ Hid (PartsOwn w.heap.size wr (.slice A8 L c8) PL) ∧ Hid (Old w wr)) (fun _ i _ => m - (intOf i).toNat)
    case atStart => exact ⟨0, ⟨#[]⟩, rfl, rfl, by omega, by decide, hide (by unfold cutTo; simpa using HK.out), HP, HQ, HO⟩
    case round =>
      obtain ⟨k, S, rfl, rfl, hk, hS, HK2, HP2, HQ2, HO2⟩ := hrel
      by_cases hlt : k < m
      · have hkK : k < K.length := by rw [hm.out]; exact hlt
        obtain ⟨s, hs⟩ : ∃ s, Hid (K[k] = s) := ⟨_, hide rfl⟩
        have hat := cutTo_at hkK
        rw [hs.out] at hat
        obtain ⟨g, rfl, hg, x1, f1, hst⟩ := texts_store HK2.out hat
        obtain ⟨t1, k1⟩ := hst (s.extract 0 (min (s.size : Int) 40).toNat)
        have HN := hide (show TextsOwn w.heap.size (wr.setCell ⟨g, k, none⟩ (.string (s.extract 0 (min (s.size : Int) 40).toNat))).drew (.slice (some ⟨g, 0, none⟩) m c1) (cutTo K (k + 1)) by
          have h := own_old t1 (Old.drew (Old.refl _))
          have e := cutTo_next hkK
          rw [hs.out] at e
          rw [← e]
          exact h)
        have HP3 := hide (PartsOwn.old (PartsOwn.kept HP2.out k1 (by decide) (by decide)) (Old.drew (Old.refl _)))
        have HQ3 := hide (PartsOwn.old (PartsOwn.kept HQ2.out k1 (by decide) (by decide)) (Old.drew (Old.refl _)))
        have HO3 := hide (Old.drew (k1.old HO2.out (Nat.le_refl _)))
        have hcs : (cutN 40 s).size ≤ 40 := by have := cutN_size 40 s; simpa using this
        have hx2 := Old.cell (Old.drew (Old.refl (wr.setCell ⟨g, k, none⟩ (.string (s.extract 0 (min (s.size : Int) 40).toNat))))) (World.cell?_setCell_same _ _ (.string (s.extract 0 (min (s.size : Int) 40).toNat)) x1)
        clear t1 k1 hat hst
        go_wp2_with fail
        go_region
        generalize (wr.setCell ⟨g, k, none⟩ (.string (s.extract 0 (min (s.size : Int) 40).toNat))).drew = w2 at HN HP3 HQ3 HO3 hx2 ⊢
        clear x1 f1
        have hcs2 : (S ++ s.extract 0 (min (s.size : Int) 40).toNat).size ≤ 40 * (k + 1) := by
          rw [str_size]
          have : (s.extract 0 (min (s.size : Int) 40).toNat).size ≤ 40 := hcs
          omega
        go_wp2_with fail
        go_roundw
        case rel => exact ⟨k + 1, _, by go_num, rfl, by omega, hcs2, HN, HP3, HQ3, HO3⟩
        case measure => simp [intOf]; omega
      · obtain ⟨KS, hKS⟩ : ∃ K', Hid (K.map (cutN 40) = K') := ⟨_, hide rfl⟩
        have KA := hide (show TextsIs wr (.slice A1 m c1) KS by
          have h := TextsOwn.is HK2.out
          have e : cutTo K k = K.map (cutN 40) := by
            unfold cutTo
            rw [List.take_of_length_le (by rw [hm.out]; omega), List.drop_eq_nil_of_le (by rw [hm.out]; omega), List.append_nil]
          rwa [e, hKS.out] at h)
        rw [hKS.out] at HKS
        have PA := hide HP2.out.is
        have QA := hide HQ2.out.is
        have TB := hide (HT.out.old HO2.out)
        have hS2 : S.size ≤ 9223372036854775807 := by omega
        obtain ⟨la, ea, hla⟩ := ListT_some PL
        obtain ⟨lc, ec, hlc⟩ := ObjT_some KS PL
        have CL1 := hide (fun w' (h : Old wr w') => list_run _ PL la ea w' (PA.out.old h) XP.out (TB.out.old h) hla)
        have CL2 := hide (fun w' (h : Old wr w') => ref_List _ PL la ea w' (QA.out.old h) XP.out hla)
        have CO1 := hide (fun w' (h : Old wr w') => obj_run _ _ KS PL lc ec w' (KA.out.old h) HKS.out (PA.out.old h) XP.out (TB.out.old h) hlc)
        have CO2 := hide (fun w' (h : Old wr w') => ref_Obj _ _ KS PL lc ec w' (KA.out.old h) HKS.out (QA.out.old h) XP.out hlc)
        have CS1 := hide (fun w' (h : Old wr w') => str_run S w' hS2 (TB.out.old h))
        have CS2 := hide (fun w' => ref_Str S w' hS2)
        have heq1 : (ea != ea) = false := by simp
        have heq2 : (ec != ec) = false := by simp
        clear hla hlc
        go_wp2_with fail
        refine (null_run _).mono ?_
        rintro e w20 ⟨v20, rfl, n20, o20⟩
        have O20 := hide (o20)
        go_wp2_with fail
        refine (ref_Leaf 1 0 ⟨#[]⟩ _).mono ?_
        rintro e w21 ⟨v21, rfl, n21, o21⟩
        have CE22 := hide (refEq_true v20 v21 (leafT 1 0 none_) w21 (SlT.sl (n20.old o21)) n21.sl)
        have O21 := hide (Old.trans O20.out o21)
        clear n20 n21 o20 o21
        go_wp2_with fail
        refine CE22.out.mono ?_
        rintro e w22 ⟨rfl, o22⟩
        have O22 := hide (Old.trans O21.out o22)
        clear o22 CE22
        go_wp2_with fail
        refine (bool_run (decide (n < 0)) _).mono ?_
        rintro e w23 ⟨v23, rfl, n23, o23⟩
        have O23 := hide (Old.trans O22.out o23)
        go_wp2_with fail
        refine (ref_Bool (decide (n < 0)) _).mono ?_
        rintro e w24 ⟨v24, rfl, n24, o24⟩
        have CE25 := hide (refEq_true v23 v24 (leafT (if (decide (n < 0)) then 3 else 2) 0 none_) w24 (SlT.sl (n23.old o24)) n24.sl)
        have O24 := hide (Old.trans O23.out o24)
        clear n23 n24 o23 o24
        go_wp2_with fail
        refine CE25.out.mono ?_
        rintro e w25 ⟨rfl, o25⟩
        have O25 := hide (Old.trans O24.out o25)
        clear o25 CE25
        go_wp2_with fail
        refine (num_run n _).mono ?_
        rintro e w26 ⟨v26, rfl, n26, o26⟩
        have O26 := hide (Old.trans O25.out o26)
        go_wp2_with fail
        refine (ref_Leaf 4 n ⟨#[]⟩ _).mono ?_
        rintro e w27 ⟨v27, rfl, n27, o27⟩
        have CE28 := hide (refEq_true v26 v27 (leafT 4 n none_) w27 (SlT.sl (n26.old o27)) n27.sl)
        have O27 := hide (Old.trans O26.out o27)
        clear n26 n27 o26 o27
        go_wp2_with fail
        refine CE28.out.mono ?_
        rintro e w28 ⟨rfl, o28⟩
        have O28 := hide (Old.trans O27.out o28)
        clear o28 CE28
        go_wp2_with fail
        refine (CS1.out _ O28.out).mono ?_
        rintro e w29 ⟨v29, rfl, n29, o29⟩
        have O29 := hide (Old.trans O28.out o29)
        go_wp2_with fail
        refine (CS2.out _).mono ?_
        rintro e w30 ⟨v30, rfl, n30, o30⟩
        have CE31 := hide (refEq_true v29 v30 (strT S) w30 (SlT.sl (n29.old o30)) n30.sl)
        have O30 := hide (Old.trans O29.out o30)
        clear n29 n30 o29 o30
        go_wp2_with fail
        refine CE31.out.mono ?_
        rintro e w31 ⟨rfl, o31⟩
        have O31 := hide (Old.trans O30.out o31)
        clear o31 CE31
        go_wp2_with fail
        refine (CL1.out _ O31.out).mono ?_
        rintro e w32 ⟨v32, rfl, n32, o32⟩
        have N32 := hide (SlT.mono n32 O31.out.size)
        have O32 := hide (Old.trans O31.out o32)
        clear n32 o32
        go_wp2_with fail
        refine (CL2.out _ O32.out).mono ?_
        rintro e w33 ⟨v33, rfl, n33, o33⟩
        replace N32 := hide (N32.out.old o33)
        have N33 := hide (SlT.mono n33 O32.out.size)
        have O33 := hide (Old.trans O32.out o33)
        clear n33 o33
        go_wp2_with fail
        refine (CO1.out _ O33.out).mono ?_
        rintro e w34 ⟨v34, rfl, n34, o34⟩
        replace N32 := hide (N32.out.old o34)
        replace N33 := hide (N33.out.old o34)
        have N34 := hide (SlT.mono n34 O33.out.size)
        have O34 := hide (Old.trans O33.out o34)
        clear n34 o34
        go_wp2_with fail
        refine (CO2.out _ O34.out).mono ?_
        rintro e w35 ⟨v35, rfl, n35, o35⟩
        replace N32 := hide (N32.out.old o35)
        replace N33 := hide (N33.out.old o35)
        replace N34 := hide (N34.out.old o35)
        have N35 := hide (SlT.mono n35 O34.out.size)
        have O35 := hide (Old.trans O34.out o35)
        clear n35 o35
        have CE1 := hide (fun w' (h : Old w35 w') => refEq_true v32 v33 la w' (SlT.sl (N32.out.old h)) (SlT.sl (N33.out.old h)))
        have CE2 := hide (fun w' (h : Old w35 w') => refEq_true v34 v35 lc w' (SlT.sl (N34.out.old h)) (SlT.sl (N35.out.old h)))
        go_wp2_with fail
        refine (CE1.out _ (Old.refl _)).mono ?_
        rintro e w40 ⟨rfl, o40⟩
        go_wp2_with fail
        refine (CE2.out _ o40).mono ?_
        rintro e w41 ⟨rfl, o41⟩
        have K41 := hide (Old.trans o40 o41)
        clear o40 o41 CE1 CE2
        have CP1 := hide (spoil_run wr.heap.size v32 la w41 w41 (N32.out.old K41.out) (Spo.refl _ _))
        go_wp2_with fail
        refine CP1.out.mono ?_
        rintro e w42 ⟨rfl, s42⟩
        have CP2 := hide (spoil_run wr.heap.size v34 lc w41 w42 (N34.out.old K41.out) s42)
        clear s42 CP1
        go_wp2_with fail
        refine CP2.out.mono ?_
        rintro e w43 ⟨rfl, s43⟩
        have O43 := hide (show Old wr w43 from Below.trans (Old.trans O35.out K41.out) s43.low)
        clear s43 CP2 heq1 heq2
        obtain ⟨wv, hwv⟩ : ∃ y, y = wr := ⟨_, rfl⟩
        subst hwv
        go_wp2_with fail
        go_loopw [20] (fun i wz => ∃ k : Nat, i = .int .i64 k ∧ k ≤ L ∧ Hid (Old wv wz)) (fun i _ => L - (intOf i).toNat)
        case atStart => exact ⟨0, rfl, by omega, O43⟩
        case round =>
          obtain ⟨k2, rfl, hk2, HZ⟩ := hrel
          by_cases hlt2 : k2 < L
          · have hkP : k2 < PL.length := by rw [hL.out]; exact hlt2
            obtain ⟨b7, f7, A9, c9, rfl, x7, nn7⟩ := parts_at PA.out (List.getElem?_eq_getElem hkP)
            obtain ⟨b8, f8, A10, c10, rfl, x8, nn8⟩ := parts_at QA.out (List.getElem?_eq_getElem hkP)
            have hx7 : ∀ w', Old wr w' → w'.cell? ⟨b7, f7 + k2, none⟩ = some (.slice A9 PL[k2].length c9) := fun w' h => (Old.trans HZ.out h).cell x7
            have hx8 : ∀ w', Old wr w' → w'.cell? ⟨b8, f8 + k2, none⟩ = some (.slice A10 PL[k2].length c10) := fun w' h => (Old.trans HZ.out h).cell x8
            have CE3 := hide (fun w' (h : Old wr w') => refEq_true _ _ PL[k2] w' (nn7.old (Old.trans HZ.out h)) (nn8.old (Old.trans HZ.out h)))
            clear x7 x8 nn7 nn8
            go_wp2_with fail
            go_region_held3 (fun w' => Old wr w')
              (first | assumption | (exact Old.drew (Old.refl _)) | (exact Old.trans (by assumption) (by assumption)))
              (first | (go_at_call 13; refine (CE3.out _ (by assumption)).mono ?_; rintro e w50 ⟨rfl, o50⟩))
            have O51 := hide (Old.trans HZ.out (show Old wr w50 by assumption))
            clear hx7 hx8
            go_wp2_with fail
            go_roundw
            case rel => exact ⟨k2 + 1, by go_num, by omega, O51⟩
            case measure => simp [intOf]; omega
          · go_wp2_with fail
            refine (WK _ (TB.out.old HZ.out)).mono ?_
            rintro e w60 ⟨rfl, o60⟩
            go_wp2_with fail
            go_ret
            exact ⟨rfl, Old.trans HO2.out (Old.trans HZ.out o60)⟩
end Go.Proofs.YtkefhhnbkhijgaaDoor
