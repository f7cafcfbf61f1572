/- The document's made, List and Obj. -/
import Derived.Test.YtkefhhnbkhijgaaDoorRdoc2
namespace Go.Proofs.YtkefhhnbkhijgaaDoor
open Go.RowKit

theorem madeTo_add (kind : Int) (l : List J) (j : J) (z : Int) : madeTo kind (l ++ [j]) z = madeTo kind l z ++ j.flat := by simp [madeTo, flats_append, flats_one]

set_option maxRecDepth 100000 in
set_option maxHeartbeats 2000000 in
theorem made_list (v : Value) (pl : List (List Nd)) (js : List J) (ps : List Nd) (er : Int) (w : World) (hp : PartsIs w v pl) (hlen : pl.length = js.length) (hmay : ∀ i, (h : i < pl.length) → (h' : i < js.length) → May pl[i] js[i])
    (hw : WholeT 6 (js) ps er) :
    Calls Tryd.prog 52 #[.int .i64 6, .slice none 0 0, v] w (NewNodesE w ps er) := by
  obtain ⟨A, ca, rfl, hla, hma, hc⟩ := hp.open_
  unfold maxLen at hma
  have HC := hide hc
  have HMAY := hide hmay
  have HW := hide hw
  obtain ⟨rk, hrk⟩ : ∃ rk, Hid (js = rk) := ⟨_, hide rfl⟩
  have HRK := hide hrk.out
  have HRL := hide (show rk.length = pl.length by rw [← hrk.out, hlen])
  rw [hrk.out] at HW
  clear hrk
  have HLEN := hide hlen
  clear hp hc hmay hw hlen
  go_enter Tryd.func52, Tryd.ntmps52
  go_wp2_with fail
  go_loopw [8, 9, 10] (fun o d i wr => ∃ (k dd N : Nat), i = .int .i64 k ∧ d = .int .i64 dd ∧ k ≤ pl.length ∧ dd ≤ 64 ∧ N ≤ 3999 ∧ Hid ((J.flats (rk.take k)).length = N) ∧ Hid (J.deeps (rk.take k) = dd) ∧ Hid (NodesOwn w.heap.size wr o (madeTo 6 (rk.take k) 0)) ∧ Hid (Old w wr)) (fun _ _ i _ => pl.length - (intOf i).toNat)
  case atStart => exact ⟨0, 0, 0, rfl, rfl, by omega, by omega, by omega, hide rfl, hide rfl, hide (own_node w 6), hide ((Old.refl w).alloc _)⟩
  case round =>
    obtain ⟨k, dd, N, rfl, rfl, hk, hdd, hN, HN, HDD, HOWN, HO⟩ := hrel
    have HML := hide (show (madeTo 6 (rk.take k) 0).length = N + 1 by rw [madeTo_length, HN.out]; omega)
    have OW := hide (show wr.ownsRow w.heap.size 57 5 _ (N + 1) (ndVals (madeTo 6 (rk.take k) 0)) by have := HOWN.out; unfold NodesOwn at this; rwa [HML.out] at this)
    obtain ⟨g, cap, rfl, s1, s2, s3, s4, s5, s6⟩ := own_set OW.out (by omega)
    unfold maxLen at s2
    by_cases hlt : k < pl.length
    · clear s4 s5 s6
      obtain ⟨b1, o1, rfl, hc1⟩ := HC.out.resolve_left (by omega)
      obtain ⟨A', c', x0, x1, x2, x3⟩ := hc1 k hlt
      have hjl : k < js.length := by have := HLEN.out; omega
      have hrkl : k < rk.length := by have := HRL.out; omega
      have hm' := HMAY.out k hlt hjl
      have HPF := hide (show pl[k] = js[k].flat from hm'.1.2.2)
      
      obtain ⟨dj, hdj⟩ : ∃ dj, Hid (js[k].deep = dj) := ⟨_, hide rfl⟩
      have hdj64 : dj ≤ 64 := by rw [← hdj.out]; exact hm'.2.2
      have hpl4 := hm'.2.1
      have CD := hide (show ∀ w', Old w w' → Calls Tryd.prog 59 #[.slice A' pl[k].length c', .int .i64 0, .int .i64 pl[k].length] w' fun e w2 => e = .returned (.int .i64 dj) ∧ Old w' w2 from fun w' ho => by
        have := ref_deep (.slice A' pl[k].length c') pl[k] w x3 hpl4 pl[k].length [js[k]] 0 [] w' ho (tape_len hm'.1) (tape_root hm'.1) (Nat.zero_le _)
        rw [deeps_one, Nat.zero_add, hdj.out] at this
        exact this)
      have XN := hide x3
      obtain ⟨q, hq⟩ : ∃ q, Hid (pl[k].length = q) := ⟨_, hide rfl⟩
      have hq0 : 0 < q := by rw [← hq.out, HPF.out]; exact flat_pos _
      have hq4 : q ≤ 4000 := by rw [← hq.out]; exact hm'.2.1
      have HRS := hide (show rk[k].flat.length = q by simp only [← HRK.out]; rw [← HPF.out, hq.out])
      have HTOT := hide (show N + q ≤ (J.flats rk).length by have h1 := flats_take_le rk (k + 1); rw [flats_take_snoc hrkl, List.length_append, HN.out, HRS.out] at h1; exact h1)
      rw [hq.out] at x0 x1 CD
      have HX := hide x0
      have e0 := HO.out.cell x0
      unfold maxLen at x2
      clear hc1 x0 x3 hm' hpl4
      have HXQ := hide (show ∀ w', Old w w' → NodesIs w' (.slice A' q c') pl[k] from fun w' ho => by rw [← hq.out]; exact XN.out.old ho)
      by_cases hlim : 4000 < N + 1 + q
      · have hlim' : (4000 : Int) < (N : Int) + 1 + (q : Int) := by omega
        have FIN := hide (show ps = [] ∧ er = 5 by
          have := HTOT.out
          rcases HW.out with ⟨_, h1, h2⟩ | ⟨h, _⟩ | ⟨h, _⟩
          · exact ⟨h1, h2⟩
          · omega
          · omega)
        go_wp2_with fail
        go_ret2
        exact ⟨_, by rw [FIN.out.2]; rfl, by rw [FIN.out.1]; exact SlT.nil_ _, HO.out⟩
      · have hlim' : ¬ (4000 : Int) < (N : Int) + 1 + (q : Int) := by omega
        have hl1 : (madeTo 6 (rk.take k) 0).length + pl[k].length ≤ 4194304 := by rw [HML.out, hq.out]; omega
        go_upto_region 10 with (at_builtin; refine wpList_plain rfl (fun K hK => ?_); refine step_push_nodes _ _ _ rfl w.heap.size _ (madeTo 6 (rk.take k) 0) rfl HOWN.out _ pl[k] rfl (HXQ.out _ HO.out) hl1 HO.out.size ?_; intro v4 w4 own4 kept4; refine hK _ _ ?_; clear hK)
        have O4 := hide (kept4.old HO.out (Nat.le_refl _))
        have OW4 := hide (show w4.ownsRow w.heap.size 57 5 v4 (N + 1 + q) (ndVals (madeTo 6 (rk.take k) 0 ++ pl[k])) by have h := own4; unfold NodesOwn at h; rwa [List.length_append, HML.out, hq.out] at h)
        have HNEW := hide (show (J.flats (rk.take (k + 1))).length = N + q by rw [flats_take_snoc hrkl, List.length_append, HN.out, HRS.out])
        have HDNEW := hide (show J.deeps (rk.take (k + 1)) = max dd dj by rw [deeps_take_snoc hrkl, HDD.out, show rk[k].deep = dj by simp only [← HRK.out]; exact hdj.out])
        clear kept4 hl1 e0
        have HVALS := hide (show madeTo 6 (rk.take (k + 1)) 0 = madeTo 6 (rk.take k) 0 ++ pl[k] by
          rw [List.take_succ_eq_append_getElem hrkl, madeTo_add, HPF.out]
          simp only [← HRK.out])
        obtain ⟨A6, cap4, rfl, r1, r2⟩ := nodes_form (m := N + 1 + q) (SlT.of_own own4) (by rw [List.length_append, HML.out, hq.out])
        unfold maxLen at r2
        have HOWN6 := hide (show NodesOwn w.heap.size w4 (.slice A6 (N + 1 + q) cap4) (madeTo 6 (rk.take (k + 1)) 0) by rw [HVALS.out]; exact own4)
        have O6 := hide O4.out
        clear own4
        go_wp2_with fail
        generalize w4 = w6 at O6 HOWN6 ⊢
        have hx0 : ∀ w', Old w6 w' → w'.cell? ⟨b1, o1 + k, none⟩ = some (.slice A' q c') := fun w' h => (Old.trans O6.out h).cell HX.out
        go_region_held3 (fun w' => Old w6 w')
          (first | assumption | (exact Old.drew (Old.refl _)) | (exact Old.trans (Old.drew (Old.refl _)) (by assumption)))
          (first
            | (go_at_call 59; refine (CD.out _ (Old.trans O6.out (by assumption))).mono ?_; rintro e w7 ⟨rfl, ow7⟩))
        have O7 := hide (show Old w6 w7 by assumption)
        clear hx0 ow7
        go_wp2_with fail
        go_roundw
        case rel => exact ⟨k + 1, max dd dj, N + q, by go_num, by go_num, by omega, by omega, by omega, HNEW, HDNEW, hide (own_old HOWN6.out O7.out), hide (Old.trans O6.out O7.out)⟩
        case measure => simp [intOf]; omega
    · have hkk : k = pl.length := by omega
      have HALL := hide (show rk.take k = rk by rw [List.take_of_length_le (by have := HRL.out; omega)])
      rw [HALL.out] at HN HDD
      clear hkk
      by_cases h64 : 64 ≤ dd
      · have h64' : (64 : Int) < (dd : Int) + 1 := by omega
        have h64'' : (64 : Int) ≤ (dd : Int) := by omega
        have FIN := hide (show ps = [] ∧ er = 72 by
          have h1 := HN.out
          have h2 := HDD.out
          rcases HW.out with ⟨h, _⟩ | ⟨_, _, h1, h2⟩ | ⟨_, h, _⟩
          · omega
          · exact ⟨h1, h2⟩
          · omega)
        clear s4 s5 s6
        go_wp2_with fail
        go_ret2
        exact ⟨_, by rw [FIN.out.2]; rfl, by rw [FIN.out.1]; exact SlT.nil_ _, HO.out⟩
      · have h64' : ¬ (64 : Int) < (dd : Int) + 1 := by omega
        have h64'' : ¬ (64 : Int) ≤ (dd : Int) := by omega
        have FIN := hide (show ps = J.flat (.mk ⟨6, none_, 0, none_⟩ rk) ∧ er = 0 by
          have h1 := HN.out
          have h2 := HDD.out
          rcases HW.out with ⟨h, _⟩ | ⟨_, h, _⟩ | ⟨_, _, h1, h2⟩
          · omega
          · omega
          · exact ⟨h1, h2⟩)
        have hlt5 : 4 < (ndVals (madeTo 6 (rk.take k) 0)).length := by rw [ndVals_length, HML.out]; omega
        have c5 := s4 4 _ (List.getElem?_eq_getElem hlt5)
        have f5 := s5 4
        have R6 := hide (s6 4 (.int .i64 ((N : Int) + 1)))
        have O6 := hide (HO.out.setCell (p := ⟨g, 4, none⟩) s3 (.int .i64 ((N : Int) + 1)))
        generalize (ndVals (madeTo 6 (rk.take k) 0))[4] = zz at c5
        have HV := hide (show J.flat (.mk ⟨6, none_, 0, none_⟩ rk) = madeTo 6 (rk.take k) ((N : Int) + 1) by rw [HALL.out, flat_mk, HN.out]; rfl)
        clear s4 s5 s6 hlt5
        go_wp2_with fail
        go_ret2
        refine ⟨_, by rw [FIN.out.2]; rfl, ?_, O6.out⟩
        rw [FIN.out.1, HV.out]
        unfold NodesT
        rw [madeTo_length, madeTo_vals _ _ 0, HALL.out, HN.out, Nat.add_comm 1 N]
        have := SlT.of_own R6.out
        rwa [HALL.out] at this

set_option maxRecDepth 100000 in
set_option maxHeartbeats 2000000 in
theorem made_obj (kv v : Value) (pl : List (List Nd)) (js : List J) (ks : List ByteArray) (ps : List Nd) (er : Int) (w : World) (hkv : TextsIs w kv ks) (hks : ks.length = js.length) (hp : PartsIs w v pl) (hlen : pl.length = js.length) (hmay : ∀ i, (h : i < pl.length) → (h' : i < js.length) → May pl[i] js[i])
    (hw : WholeT 7 (rekeys ks js) ps er) :
    Calls Tryd.prog 52 #[.int .i64 7, kv, v] w (NewNodesE w ps er) := by
  obtain ⟨A, ca, rfl, hla, hma, hc⟩ := hp.open_
  unfold maxLen at hma
  have HC := hide hc
  have HMAY := hide hmay
  have HW := hide hw
  obtain ⟨AK, ck, rfl, hlk, hmk, hck⟩ := hkv.texts
  unfold maxLen at hmk
  have HCK := hide hck
  have HKS := hide hks
  clear hkv hck
  obtain ⟨rk, hrk⟩ : ∃ rk, Hid (rekeys ks js = rk) := ⟨_, hide rfl⟩
  have HRK := hide hrk.out
  have HRL := hide (show rk.length = pl.length by rw [← hrk.out, rekeys_length ks js hks, hlen])
  have HRD := hide (show J.deeps rk = J.deeps js by rw [← hrk.out, rekeys_deeps ks js hks])
  rw [hrk.out] at HW
  have hkl0 : ks.length = pl.length := by rw [hks, hlen]
  obtain ⟨m, hm⟩ : ∃ m, Hid (ks.length = m) := ⟨_, hide rfl⟩
  rw [hm.out] at hlk hkl0 ⊢
  have hkl1 : pl.length ≤ m := by omega
  clear hrk hks hkl0
  have HLEN := hide hlen
  clear hp hc hmay hw hlen
  go_enter Tryd.func52, Tryd.ntmps52
  go_wp2_with fail
  go_loopw [8, 9, 10] (fun o d i wr => ∃ (k dd N : Nat), i = .int .i64 k ∧ d = .int .i64 dd ∧ k ≤ pl.length ∧ dd ≤ 64 ∧ N ≤ 3999 ∧ Hid ((J.flats (rk.take k)).length = N) ∧ Hid (J.deeps (rk.take k) = dd) ∧ Hid (NodesOwn w.heap.size wr o (madeTo 7 (rk.take k) 0)) ∧ Hid (Old w wr)) (fun _ _ i _ => pl.length - (intOf i).toNat)
  case atStart => exact ⟨0, 0, 0, rfl, rfl, by omega, by omega, by omega, hide rfl, hide rfl, hide (own_node w 7), hide ((Old.refl w).alloc _)⟩
  case round =>
    obtain ⟨k, dd, N, rfl, rfl, hk, hdd, hN, HN, HDD, HOWN, HO⟩ := hrel
    have HML := hide (show (madeTo 7 (rk.take k) 0).length = N + 1 by rw [madeTo_length, HN.out]; omega)
    have OW := hide (show wr.ownsRow w.heap.size 57 5 _ (N + 1) (ndVals (madeTo 7 (rk.take k) 0)) by have := HOWN.out; unfold NodesOwn at this; rwa [HML.out] at this)
    obtain ⟨g, cap, rfl, s1, s2, s3, s4, s5, s6⟩ := own_set OW.out (by omega)
    unfold maxLen at s2
    by_cases hlt : k < pl.length
    · clear s4 s5 s6
      obtain ⟨b1, o1, rfl, hc1⟩ := HC.out.resolve_left (by omega)
      obtain ⟨A', c', x0, x1, x2, x3⟩ := hc1 k hlt
      have hjl : k < js.length := by have := HLEN.out; omega
      have hkl : k < ks.length := by have := HKS.out; omega
      have hrkl : k < rk.length := by have := HRL.out; omega
      have hm' := HMAY.out k hlt hjl
      have HPF := hide (show pl[k] = js[k].flat from hm'.1.2.2)
      have HR := hide (show rk[k] = js[k].rekey ks[k] by have := rekeys_get ks js k hjl hkl (by rw [HRK.out]; exact hrkl); simp only [HRK.out] at this; exact this)
      obtain ⟨dj, hdj⟩ : ∃ dj, Hid (js[k].deep = dj) := ⟨_, hide rfl⟩
      have hdj64 : dj ≤ 64 := by rw [← hdj.out]; exact hm'.2.2
      have hpl4 := hm'.2.1
      have CD := hide (show ∀ w', Old w w' → Calls Tryd.prog 59 #[.slice A' pl[k].length c', .int .i64 0, .int .i64 pl[k].length] w' fun e w2 => e = .returned (.int .i64 dj) ∧ Old w' w2 from fun w' ho => by
        have := ref_deep (.slice A' pl[k].length c') pl[k] w x3 hpl4 pl[k].length [js[k]] 0 [] w' ho (tape_len hm'.1) (tape_root hm'.1) (Nat.zero_le _)
        rw [deeps_one, Nat.zero_add, hdj.out] at this
        exact this)
      have XN := hide x3
      obtain ⟨q, hq⟩ : ∃ q, Hid (pl[k].length = q) := ⟨_, hide rfl⟩
      have hq0 : 0 < q := by rw [← hq.out, HPF.out]; exact flat_pos _
      have hq4 : q ≤ 4000 := by rw [← hq.out]; exact hm'.2.1
      have HRS := hide (show rk[k].flat.length = q by rw [HR.out, rekey_size, ← HPF.out, hq.out])
      have HTOT := hide (show N + q ≤ (J.flats rk).length by have h1 := flats_take_le rk (k + 1); rw [flats_take_snoc hrkl, List.length_append, HN.out, HRS.out] at h1; exact h1)
      rw [hq.out] at x0 x1 CD
      have HX := hide x0
      have e0 := HO.out.cell x0
      unfold maxLen at x2
      clear hc1 x0 x3 hm' hpl4
      have HXQ := hide (show ∀ w', Old w w' → NodesIs w' (.slice A' q c') pl[k] from fun w' ho => by rw [← hq.out]; exact XN.out.old ho)
      by_cases hlim : 4000 < N + 1 + q
      · have hlim' : (4000 : Int) < (N : Int) + 1 + (q : Int) := by omega
        have FIN := hide (show ps = [] ∧ er = 5 by
          have := HTOT.out
          rcases HW.out with ⟨_, h1, h2⟩ | ⟨h, _⟩ | ⟨h, _⟩
          · exact ⟨h1, h2⟩
          · omega
          · omega)
        go_wp2_with fail
        go_ret2
        exact ⟨_, by rw [FIN.out.2]; rfl, by rw [FIN.out.1]; exact SlT.nil_ _, HO.out⟩
      · have hlim' : ¬ (4000 : Int) < (N : Int) + 1 + (q : Int) := by omega
        have hl1 : (madeTo 7 (rk.take k) 0).length + pl[k].length ≤ 4194304 := by rw [HML.out, hq.out]; omega
        go_upto_region 10 with (at_builtin; refine wpList_plain rfl (fun K hK => ?_); refine step_push_nodes _ _ _ rfl w.heap.size _ (madeTo 7 (rk.take k) 0) rfl HOWN.out _ pl[k] rfl (HXQ.out _ HO.out) hl1 HO.out.size ?_; intro v4 w4 own4 kept4; refine hK _ _ ?_; clear hK)
        have O4 := hide (kept4.old HO.out (Nat.le_refl _))
        have OW4 := hide (show w4.ownsRow w.heap.size 57 5 v4 (N + 1 + q) (ndVals (madeTo 7 (rk.take k) 0 ++ pl[k])) by have h := own4; unfold NodesOwn at h; rwa [List.length_append, HML.out, hq.out] at h)
        have HNEW := hide (show (J.flats (rk.take (k + 1))).length = N + q by rw [flats_take_snoc hrkl, List.length_append, HN.out, HRS.out])
        have HDNEW := hide (show J.deeps (rk.take (k + 1)) = max dd dj by rw [deeps_take_snoc hrkl, HDD.out, HR.out, rekey_deep, hdj.out])
        clear own4 kept4 hl1 e0
        have HVALS := hide (show ndVals (madeTo 7 (rk.take (k + 1)) 0) = (ndVals (madeTo 7 (rk.take k) 0 ++ pl[k])).set ((N + 1) * 5 + 1) (.string ks[k]) by
          rw [List.take_succ_eq_append_getElem hrkl, HR.out, madeTo_snoc, HN.out, HPF.out, Nat.add_comm 1 N])
        obtain ⟨g4, cap4, rfl, r1, r2, r3, r4, r5, r6⟩ := own_set OW4.out (by omega)
        unfold maxLen at r2
        have hlt5 : (N + 1) * 5 + 1 < (ndVals (madeTo 7 (rk.take k) 0 ++ pl[k])).length := by rw [ndVals_length, List.length_append, HML.out, hq.out]; omega
        have c5 := r4 ((N + 1) * 5 + 1) _ (List.getElem?_eq_getElem hlt5)
        have f5 := r5 ((N + 1) * 5 + 1)
        have R6 := hide (r6 ((N + 1) * 5 + 1) (.string ks[k]))
        have O6 := hide (O4.out.setCell (p := ⟨g4, (N + 1) * 5 + 1, none⟩) r3 (.string ks[k]))
        generalize (ndVals (madeTo 7 (rk.take k) 0 ++ pl[k]))[(N + 1) * 5 + 1] = zz at c5
        obtain ⟨bk, ok, rfl, hkc⟩ := HCK.out.resolve_left (by have := hm.out; omega)
        have kc := O4.out.cell (hkc k hkl)
        have e4 := O4.out.cell HX.out
        clear r3 r4 r5 r6 hlt5 hkc
        go_wp2_with fail
        have HOWN6 := hide (show NodesOwn w.heap.size (w4.setCell ⟨g4, (N + 1) * 5 + 1, none⟩ (.string ks[k])) (.slice (some ⟨g4, 0, none⟩) (N + 1 + q) cap4) (madeTo 7 (rk.take (k + 1)) 0) by
          unfold NodesOwn
          rw [madeTo_length, HNEW.out, HVALS.out, show 1 + (N + q) = N + 1 + q by omega]
          exact R6.out)
        generalize w4.setCell ⟨g4, (N + 1) * 5 + 1, none⟩ (.string ks[k]) = w6 at O6 HOWN6 ⊢
        clear c5 f5 kc e4
        have hx0 : ∀ w', Old w6 w' → w'.cell? ⟨b1, o1 + k, none⟩ = some (.slice A' q c') := fun w' h => (Old.trans O6.out h).cell HX.out
        go_region_held3 (fun w' => Old w6 w')
          (first | assumption | (exact Old.drew (Old.refl _)) | (exact Old.trans (Old.drew (Old.refl _)) (by assumption)))
          (first
            | (go_at_call 59; refine (CD.out _ (Old.trans O6.out (by assumption))).mono ?_; rintro e w7 ⟨rfl, ow7⟩))
        have O7 := hide (show Old w6 w7 by assumption)
        clear hx0 ow7
        go_wp2_with fail
        go_roundw
        case rel => exact ⟨k + 1, max dd dj, N + q, by go_num, by go_num, by omega, by omega, by omega, HNEW, HDNEW, hide (own_old HOWN6.out O7.out), hide (Old.trans O6.out O7.out)⟩
        case measure => simp [intOf]; omega
    · have hkk : k = pl.length := by omega
      have HALL := hide (show rk.take k = rk by rw [List.take_of_length_le (by have := HRL.out; omega)])
      rw [HALL.out] at HN HDD
      clear hkk
      by_cases h64 : 64 ≤ dd
      · have h64' : (64 : Int) < (dd : Int) + 1 := by omega
        have h64'' : (64 : Int) ≤ (dd : Int) := by omega
        have FIN := hide (show ps = [] ∧ er = 72 by
          have h1 := HN.out
          have h2 := HDD.out
          rcases HW.out with ⟨h, _⟩ | ⟨_, _, h1, h2⟩ | ⟨_, h, _⟩
          · omega
          · exact ⟨h1, h2⟩
          · omega)
        clear s4 s5 s6
        go_wp2_with fail
        go_ret2
        exact ⟨_, by rw [FIN.out.2]; rfl, by rw [FIN.out.1]; exact SlT.nil_ _, HO.out⟩
      · have h64' : ¬ (64 : Int) < (dd : Int) + 1 := by omega
        have h64'' : ¬ (64 : Int) ≤ (dd : Int) := by omega
        have FIN := hide (show ps = J.flat (.mk ⟨7, none_, 0, none_⟩ rk) ∧ er = 0 by
          have h1 := HN.out
          have h2 := HDD.out
          rcases HW.out with ⟨h, _⟩ | ⟨_, h, _⟩ | ⟨_, _, h1, h2⟩
          · omega
          · omega
          · exact ⟨h1, h2⟩)
        have hlt5 : 4 < (ndVals (madeTo 7 (rk.take k) 0)).length := by rw [ndVals_length, HML.out]; omega
        have c5 := s4 4 _ (List.getElem?_eq_getElem hlt5)
        have f5 := s5 4
        have R6 := hide (s6 4 (.int .i64 ((N : Int) + 1)))
        have O6 := hide (HO.out.setCell (p := ⟨g, 4, none⟩) s3 (.int .i64 ((N : Int) + 1)))
        generalize (ndVals (madeTo 7 (rk.take k) 0))[4] = zz at c5
        have HV := hide (show J.flat (.mk ⟨7, none_, 0, none_⟩ rk) = madeTo 7 (rk.take k) ((N : Int) + 1) by rw [HALL.out, flat_mk, HN.out]; rfl)
        clear s4 s5 s6 hlt5
        go_wp2_with fail
        go_ret2
        refine ⟨_, by rw [FIN.out.2]; rfl, ?_, O6.out⟩
        rw [FIN.out.1, HV.out]
        unfold NodesT
        rw [madeTo_length, madeTo_vals _ _ 0, HALL.out, HN.out, Nat.add_comm 1 N]
        have := SlT.of_own R6.out
        rwa [HALL.out] at this
end Go.Proofs.YtkefhhnbkhijgaaDoor
