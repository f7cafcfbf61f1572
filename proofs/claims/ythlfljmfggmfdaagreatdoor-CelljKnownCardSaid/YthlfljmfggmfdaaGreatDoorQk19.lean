/-  -/
import Derived.Test.YthlfljmfggmfdaaGreatDoorQk16
import Derived.Deep.RegionHeld3
import Derived.IntWalk
import Derived.Deep.DeepCutAuto
import Derived.Test.YthlfljmfggmfdaaGreatDoorQk18
import Derived.Test.YthlfljmfggmfdaaGreatDoorQk11
/-! ###  -/
namespace Go.Proofs.YthlfljmfggmfdaaGreatDoor
open Go.RowKit
set_option maxRecDepth 100000 in
set_option maxHeartbeats 1000000 in
theorem ref_Get (v : Value) (t : List Nd) (key : ByteArray) (ps : List Nd) (is : Bool) (w : World) (ht : NodesIs w v t) (hk : TextsOk t) (hg : GetT t key ps is) :
 Calls Tryz.prog 49 #[v, .string key] w (NewNodesB w ps is) := by
 have HTN := hide ht
 have HK := hide hk
 obtain ⟨A, ca, rfl, hla, hma, hc⟩ := ht.nodes
 unfold maxLen at hma
 by_cases h0 : chkT t = 0
 · obtain ⟨⟨h, l⟩, hj⟩ := may_of h0
   have HJ := hide hj
   have hd : t.drop 0 = J.flat (.mk h l) ++ [] := by rw [List.drop_zero, List.append_nil]; exact hj.1.2.2
   obtain ⟨hpos, hx⟩ := head_flat (j := .mk h l) hd
   have hl4 := hj.2.1
   have CK := hide (ref_Kids (.slice A t.length ca) t (starts (0 + 1) l) w HTN.out HK.out (.inl ⟨h, l, hj, rfl⟩))
   have CP := hide (show ∀ w' l1 j l2, Old w w' → l = l1 ++ j :: l2 → Calls Tryz.prog 95 #[.slice A t.length ca, .int .i64 ((0 + 1 + (J.flats l1).length : Nat) : Int)] w' fun e w2 => ∃ v, e = .returned v ∧ NodesT w.heap.size w2 v j.unkey.flat ∧ Old w w2 from fun w' l1 j l2 ho e =>
    (ref_Part _ t _ _ w' (HTN.out.old ho) HK.out (part_kid (by rw [← e]; exact HJ.out))).mono fun _ _ ⟨v, h1, h2, h3⟩ => ⟨v, h1, h2.mono ho.size, Old.trans ho h3⟩)
   obtain ⟨b1, o1, rfl, hc1⟩ := hc.resolve_left (by omega)
   obtain ⟨d0, _⟩ := hc1 0 hpos
   rw [hx] at d0
   have D0 := hide (show w.cell? ⟨b1, o1, none⟩ = some (.int .i64 h.kind) by simpa [J.hd] using d0)
   have HC := hide hc1
   have HD := hide hd
   have HG := hide hg
   have hnk : l.length ≤ t.length := by
    have e := congrArg List.length hd
    rw [flat_mk] at e
    have := len_flats l
    simp at e
    omega
   clear hc hc1 d0 hd hx hj hg h0 ht hk
   go_enter Tryz.func49, Tryz.ntmps49
   go_wp2_with fail
   refine CK.out.mono ?_
   rintro e w2 ⟨kv, rfl, hkv, ow2⟩
   obtain ⟨n, hn⟩ : ∃ n, Hid (l.length = n) := ⟨_, hide rfl⟩
   obtain ⟨AK, ck, rfl, k1, k2, k3⟩ := ints_cell hkv (show (starts (0 + 1) l).length = n by rw [starts_length, hn.out])
   unfold maxLen at k2
   have K3 := hide k3
   have O2 := hide ow2
   have hn4 : n ≤ 4000 := by have := hn.out; omega
   clear hkv k3 ow2 hnk
   by_cases hk7 : h.kind = 7
   · have hk7' : (h.kind == 7) = true := by simp [hk7]
     have HMEM := hide (show (member l key = none ∧ ps = [] ∧ is = false) ∨ ∃ j, member l key = some j ∧ ps = j.unkey.flat ∧ is = true by
      rcases HG.out with ⟨hbad, _⟩ | ⟨h', l', hj', _, hm⟩
      · rcases hbad with hb | ⟨h', l', hj', hne⟩
        · exact absurd (chkT_may HJ.out) hb
        · have := flat_inj (HJ.out.1.2.2.symm.trans hj'.1.2.2)
          injection this with e1 _
          exact absurd (by rw [← e1]; exact hk7) hne
      · have := flat_inj (HJ.out.1.2.2.symm.trans hj'.1.2.2)
        injection this with _ e2
        rw [e2]
        exact hm)
     clear hk7
     go_wp2_with fail
     go_loopw [7] (fun i wr => ∃ (l1 l2 : List J) (k : Nat), i = .int .i64 k ∧ k ≤ n ∧ Hid (l = l1 ++ l2) ∧ Hid (l1.length = k) ∧ Hid (∀ j ∈ l1, j.key ≠ key) ∧ Hid (Old w2 wr)) (fun i _ => n - (intOf i).toNat)
     case atStart => exact ⟨[], l, 0, rfl, by omega, hide rfl, hide rfl, hide (by simp), hide (Old.refl _)⟩
     case round =>
      obtain ⟨l1, l2, k, rfl, hk, HL, HL1, HNO, HO⟩ := hrel
      by_cases hkn : k < n
      · cases l2 with
        | nil =>
          exfalso
          have h1 := HL.out
          have h2 := HL1.out
          have h3 := hn.out
          rw [h1] at h3
          simp at h3
          omega
        | cons j l3 =>
          obtain ⟨bk, ok, rfl, hkc⟩ := K3.out.resolve_left (by omega)
          have hst := hkc k (0 + 1 + (J.flats l1).length) (by
           have := starts_at (a := 0 + 1) (l1 := l1) (l2 := l3) (j := j)
           rw [← HL.out, HL1.out] at this
           exact this)
          have HDP : t.drop (0 + 1 + (J.flats l1).length) = j.flat ++ (J.flats l3 ++ []) := by
           have := HD.out
           rw [HL.out] at this
           rw [drop_flat this, flats_cons, List.append_assoc]
          obtain ⟨hpt, hpx⟩ := head_flat HDP
          obtain ⟨_, d1, _⟩ := HC.out _ hpt
          rw [hpx] at d1
          have CPJ := hide (fun w' ho => CP.out w' l1 j l3 ho HL.out)
          obtain ⟨p, hp⟩ : ∃ p, Hid (0 + 1 + (J.flats l1).length = p) := ⟨_, hide rfl⟩
          rw [hp.out] at hst hpt d1 CPJ
          have hst2 := HO.out.cell hst
          have d12 := (Old.trans O2.out HO.out).cell d1
          have d0 := (Old.trans O2.out HO.out).cell D0.out
          clear hkc hst HDP hpx d1
          by_cases hkey : j.key = key
          · have HKEY := hide hkey
            have hke : j.hd.key = key := hkey
            simp only [hke] at d12
            clear hkey hke
            go_wp2_with fail
            refine (CPJ.out _ (Old.trans O2.out HO.out)).mono ?_
            rintro e w3 ⟨pv, rfl, h3, o3⟩
            have P3 := hide h3
            clear h3
            have FIN := hide (show ps = j.unkey.flat ∧ is = true by
             have hm : member l key = some j := by rw [HL.out, member_none HNO.out, member_here HKEY.out]
             rcases HMEM.out with ⟨h, _, _⟩ | ⟨j', h, h5, h6⟩
             · rw [hm] at h; cases h
             · rw [hm] at h
               injection h with h
               subst h
               exact ⟨h5, h6⟩)
            go_wp2_with fail
            go_ret2
            exact ⟨_, by rw [FIN.out.2]; rfl, by rw [FIN.out.1]; exact P3.out, o3⟩
          · have hkey1 : ¬ j.hd.key.toList = key.toList := fun e => hkey (bytes_ext e)
            have hkey2 : (j.hd.key.toList == key.toList) = false := beq_eq_false_iff_ne.2 hkey1
            have HKEY := hide hkey
            clear hkey
            go_wp2_with fail
            go_roundw
            case rel => exact ⟨l1 ++ [j], l3, k + 1, by go_num, by omega, hide (by rw [HL.out]; simp), hide (by simp [HL1.out]), hide (by intro x hx; rcases List.mem_append.1 hx with hx | hx; exact HNO.out x hx; simp at hx; subst hx; exact HKEY.out), HO⟩
            case measure => simp [intOf]; omega
      · have hkk : k = n := by omega
        have FIN := hide (show ps = [] ∧ is = false by
         have hl2 : l2 = [] := by
          have h1 := hn.out
          have h2 := HL1.out
          rw [HL.out, List.length_append] at h1
          exact List.eq_nil_of_length_eq_zero (by omega)
         have hm : member l key = none := by
          rw [HL.out, hl2, member_none HNO.out]
          rfl
         rcases HMEM.out with ⟨_, h5, h6⟩ | ⟨j', h, _, _⟩
         · exact ⟨h5, h6⟩
         · rw [hm] at h; cases h)
        go_wp2_with fail
        go_ret2
        exact ⟨_, by rw [FIN.out.2]; rfl, by rw [FIN.out.1]; exact SlT.nil_ _, Old.trans O2.out HO.out⟩
   · have hk7' : (h.kind == 7) = false := by simp [hk7]
     have FIN := hide (show ps = [] ∧ is = false by
      rcases HG.out with ⟨_, h5, h6⟩ | ⟨h', l', hj', h7, hm⟩
      · exact ⟨h5, h6⟩
      · have := flat_inj (HJ.out.1.2.2.symm.trans hj'.1.2.2)
        injection this with e1 _
        exact absurd (by rw [e1]; exact h7) hk7)
     clear hk7
     go_wp2_with fail
     go_loopw [7] (fun i wr => ∃ k : Nat, i = .int .i64 k ∧ k ≤ n ∧ Hid (Old w2 wr)) (fun i _ => n - (intOf i).toNat)
     case atStart => exact ⟨0, rfl, by omega, hide (Old.refl _)⟩
     case round =>
      obtain ⟨k, rfl, hk, HO⟩ := hrel
      have d0 := (Old.trans O2.out HO.out).cell D0.out
      by_cases hkn : k < n
      · go_wp2_with fail
        go_roundw
        case rel => exact ⟨k + 1, by go_num, by omega, HO⟩
        case measure => simp [intOf]; omega
      · go_wp2_with fail
        go_ret2
        exact ⟨_, by rw [FIN.out.2]; rfl, by rw [FIN.out.1]; exact SlT.nil_ _, Old.trans O2.out HO.out⟩
 · have CK := hide (ref_Kids (.slice A t.length ca) t [] w HTN.out HK.out (.inr ⟨h0, rfl⟩))
   have FIN := hide (show ps = [] ∧ is = false by
    rcases hg with ⟨_, h5, h6⟩ | ⟨h', l', hj', h7, hm⟩
    · exact ⟨h5, h6⟩
    · exact absurd (chkT_may hj') h0)
   clear hg h0 hc ht hk
   go_enter Tryz.func49, Tryz.ntmps49
   go_wp2_with fail
   refine CK.out.mono ?_
   rintro e w2 ⟨kv, rfl, hkv, ow2⟩
   obtain ⟨AK, ck, rfl, k1, k2, _⟩ := ints_cell hkv (show ([] : List Nat).length = 0 from rfl)
   unfold maxLen at k2
   have O2 := hide ow2
   clear hkv ow2
   go_wp2_with fail
   go_loopw [7] (fun i wr => i = .int .i64 0 ∧ Hid (Old w2 wr)) (fun i _ => 0 - (intOf i).toNat)
   case atStart => exact ⟨rfl, hide (Old.refl _)⟩
   case round =>
    obtain ⟨rfl, HO⟩ := hrel
    go_wp2_with fail
    go_ret2
    exact ⟨_, by rw [FIN.out.2]; rfl, by rw [FIN.out.1]; exact SlT.nil_ _, Old.trans O2.out HO.out⟩
end Go.Proofs.YthlfljmfggmfdaaGreatDoor
namespace Go.Proofs.YthlfljmfggmfdaaGreatDoor
open Go.RowKit
set_option maxRecDepth 100000 in
set_option maxHeartbeats 2000000 in
theorem made_obj (kv v : Value) (pl : List (List Nd)) (js : List J) (ks : List ByteArray) (ps : List Nd) (er : Int) (w : World) (hkv : TextsIs w kv ks) (hks : ks.length = js.length) (hp : PartsIs w v pl) (hlen : pl.length = js.length) (hmay : ∀ i, (h : i < pl.length) → (h' : i < js.length) → May pl[i] js[i])
 (hw : WholeT 7 (rekeys ks js) ps er) :
 Calls Tryz.prog 90 #[.int .i64 7, kv, v] w (NewNodesE w ps er) := by
 obtain ⟨A, ca, rfl, hla, hma, hc⟩ := hp.open_
 unfold maxLen at hma
 have HC := hide hc
 have HMAY := hide hmay
 have HW := hide hw
 obtain ⟨AK, ck, rfl, hlk, hmk, hck⟩ := hkv.texts
 unfold maxLen at hmk
 have HCK := hide hck
 have HKS := hide hks
 clear hkv hck
 obtain ⟨rk, hrk⟩ : ∃ rk, Hid (rekeys ks js = rk) := ⟨_, hide rfl⟩
 have HRK := hide hrk.out
 have HRL := hide (show rk.length = pl.length by rw [← hrk.out, rekeys_length ks js hks, hlen])
 have HRD := hide (show J.deeps rk = J.deeps js by rw [← hrk.out, rekeys_deeps ks js hks])
 rw [hrk.out] at HW
 have hkl0 : ks.length = pl.length := by rw [hks, hlen]
 obtain ⟨m, hm⟩ : ∃ m, Hid (ks.length = m) := ⟨_, hide rfl⟩
 rw [hm.out] at hlk hkl0 ⊢
 have hkl1 : pl.length ≤ m := by omega
 clear hrk hks hkl0
 have HLEN := hide hlen
 clear hp hc hmay hw hlen
 go_enter Tryz.func90, Tryz.ntmps90
 go_wp2_with fail
 go_loopw [8, 9, 10] (fun o d i wr => ∃ (k dd N : Nat), i = .int .i64 k ∧ d = .int .i64 dd ∧ k ≤ pl.length ∧ dd ≤ 64 ∧ N ≤ 3999 ∧ Hid ((J.flats (rk.take k)).length = N) ∧ Hid (J.deeps (rk.take k) = dd) ∧ Hid (NodesOwn w.heap.size wr o (madeTo 7 (rk.take k) 0)) ∧ Hid (Old w wr)) (fun _ _ i _ => pl.length - (intOf i).toNat)
 case atStart => exact ⟨0, 0, 0, rfl, rfl, by omega, by omega, by omega, hide rfl, hide rfl, hide (own_node w 7), hide ((Old.refl w).alloc _)⟩
 case round =>
  obtain ⟨k, dd, N, rfl, rfl, hk, hdd, hN, HN, HDD, HOWN, HO⟩ := hrel
  have HML := hide (show (madeTo 7 (rk.take k) 0).length = N + 1 by rw [madeTo_length, HN.out]; omega)
  have OW := hide (show wr.ownsRow w.heap.size 36 5 _ (N + 1) (ndVals (madeTo 7 (rk.take k) 0)) by have := HOWN.out; unfold NodesOwn at this; rwa [HML.out] at this)
  obtain ⟨g, cap, rfl, s1, s2, s3, s4, s5, s6⟩ := own_set OW.out (by omega)
  unfold maxLen at s2
  by_cases hlt : k < pl.length
  · clear s4 s5 s6
    obtain ⟨b1, o1, rfl, hc1⟩ := HC.out.resolve_left (by omega)
    obtain ⟨A', c', x0, x1, x2, x3⟩ := hc1 k hlt
    have hjl : k < js.length := by have := HLEN.out; omega
    have hkl : k < ks.length := by have := HKS.out; omega
    have hrkl : k < rk.length := by have := HRL.out; omega
    have hm' := HMAY.out k hlt hjl
    have HPF := hide (show pl[k] = js[k].flat from hm'.1.2.2)
    have HR := hide (show rk[k] = js[k].rekey ks[k] by have := rekeys_get ks js k hjl hkl (by rw [HRK.out]; exact hrkl); simp only [HRK.out] at this; exact this)
    obtain ⟨dj, hdj⟩ : ∃ dj, Hid (js[k].deep = dj) := ⟨_, hide rfl⟩
    have hdj64 : dj ≤ 64 := by rw [← hdj.out]; exact hm'.2.2
    have hpl4 := hm'.2.1
    have CD := hide (show ∀ w', Old w w' → Calls Tryz.prog 94 #[.slice A' pl[k].length c', .int .i64 0, .int .i64 pl[k].length] w' fun e w2 => e = .returned (.int .i64 dj) ∧ Old w' w2 from fun w' ho => by
     have := ref_deep (.slice A' pl[k].length c') pl[k] w x3 hpl4 pl[k].length [js[k]] 0 [] w' ho (tape_len hm'.1) (tape_root hm'.1) (Nat.zero_le _)
     rw [deeps_one, Nat.zero_add, hdj.out] at this
     exact this)
    have XN := hide x3
    obtain ⟨q, hq⟩ : ∃ q, Hid (pl[k].length = q) := ⟨_, hide rfl⟩
    have hq0 : 0 < q := by rw [← hq.out, HPF.out]; exact flat_pos _
    have hq4 : q ≤ 4000 := by rw [← hq.out]; exact hm'.2.1
    have HRS := hide (show rk[k].flat.length = q by rw [HR.out, rekey_size, ← HPF.out, hq.out])
    have HTOT := hide (show N + q ≤ (J.flats rk).length by have h1 := flats_take_le rk (k + 1); rw [flats_take_snoc hrkl, List.length_append, HN.out, HRS.out] at h1; exact h1)
    rw [hq.out] at x0 x1 CD
    have HX := hide x0
    have e0 := HO.out.cell x0
    unfold maxLen at x2
    clear hc1 x0 x3 hm' hpl4
    have HXQ := hide (show ∀ w', Old w w' → NodesIs w' (.slice A' q c') pl[k] from fun w' ho => by rw [← hq.out]; exact XN.out.old ho)
    by_cases hlim : 4000 < N + 1 + q
    · have hlim' : (4000 : Int) < (N : Int) + 1 + (q : Int) := by omega
      have FIN := hide (show ps = [] ∧ er = 5 by
       have := HTOT.out
       rcases HW.out with ⟨_, h1, h2⟩ | ⟨h, _⟩ | ⟨h, _⟩
       · exact ⟨h1, h2⟩
       · omega
       · omega)
      go_wp2_with fail
      go_ret2
      exact ⟨_, by rw [FIN.out.2]; rfl, by rw [FIN.out.1]; exact SlT.nil_ _, HO.out⟩
    · have hlim' : ¬ (4000 : Int) < (N : Int) + 1 + (q : Int) := by omega
      have hl1 : (madeTo 7 (rk.take k) 0).length + pl[k].length ≤ 4194304 := by rw [HML.out, hq.out]; omega
      go_upto_region 10 with (at_builtin; refine wpList_plain rfl (fun K hK => ?_); refine step_push_nodes _ _ _ rfl w.heap.size _ (madeTo 7 (rk.take k) 0) rfl HOWN.out _ pl[k] rfl (HXQ.out _ HO.out) hl1 HO.out.size ?_; intro v4 w4 own4 kept4; refine hK _ _ ?_; clear hK)
      have O4 := hide (kept4.old HO.out (Nat.le_refl _))
      have OW4 := hide (show w4.ownsRow w.heap.size 36 5 v4 (N + 1 + q) (ndVals (madeTo 7 (rk.take k) 0 ++ pl[k])) by have h := own4; unfold NodesOwn at h; rwa [List.length_append, HML.out, hq.out] at h)
      have HNEW := hide (show (J.flats (rk.take (k + 1))).length = N + q by rw [flats_take_snoc hrkl, List.length_append, HN.out, HRS.out])
      have HDNEW := hide (show J.deeps (rk.take (k + 1)) = max dd dj by rw [deeps_take_snoc hrkl, HDD.out, HR.out, rekey_deep, hdj.out])
      clear own4 kept4 hl1 e0
      have HVALS := hide (show ndVals (madeTo 7 (rk.take (k + 1)) 0) = (ndVals (madeTo 7 (rk.take k) 0 ++ pl[k])).set ((N + 1) * 5 + 1) (.string ks[k]) by
       rw [List.take_succ_eq_append_getElem hrkl, HR.out, madeTo_snoc, HN.out, HPF.out, Nat.add_comm 1 N])
      obtain ⟨g4, cap4, rfl, r1, r2, r3, r4, r5, r6⟩ := own_set OW4.out (by omega)
      unfold maxLen at r2
      have hlt5 : (N + 1) * 5 + 1 < (ndVals (madeTo 7 (rk.take k) 0 ++ pl[k])).length := by rw [ndVals_length, List.length_append, HML.out, hq.out]; omega
      have c5 := r4 ((N + 1) * 5 + 1) _ (List.getElem?_eq_getElem hlt5)
      have f5 := r5 ((N + 1) * 5 + 1)
      have R6 := hide (r6 ((N + 1) * 5 + 1) (.string ks[k]))
      have O6 := hide (O4.out.setCell (p := ⟨g4, (N + 1) * 5 + 1, none⟩) r3 (.string ks[k]))
      generalize (ndVals (madeTo 7 (rk.take k) 0 ++ pl[k]))[(N + 1) * 5 + 1] = zz at c5
      obtain ⟨bk, ok, rfl, hkc⟩ := HCK.out.resolve_left (by have := hm.out; omega)
      have kc := O4.out.cell (hkc k hkl)
      have e4 := O4.out.cell HX.out
      clear r3 r4 r5 r6 hlt5 hkc
      go_wp2_with fail
      have HOWN6 := hide (show NodesOwn w.heap.size (w4.setCell ⟨g4, (N + 1) * 5 + 1, none⟩ (.string ks[k])) (.slice (some ⟨g4, 0, none⟩) (N + 1 + q) cap4) (madeTo 7 (rk.take (k + 1)) 0) by
       unfold NodesOwn
       rw [madeTo_length, HNEW.out, HVALS.out, show 1 + (N + q) = N + 1 + q by omega]
       exact R6.out)
      generalize w4.setCell ⟨g4, (N + 1) * 5 + 1, none⟩ (.string ks[k]) = w6 at O6 HOWN6 ⊢
      clear c5 f5 kc e4
      have hx0 : ∀ w', Old w6 w' → w'.cell? ⟨b1, o1 + k, none⟩ = some (.slice A' q c') := fun w' h => (Old.trans O6.out h).cell HX.out
      go_region_held3 (fun w' => Old w6 w')
       (first | assumption | (exact Old.drew (Old.refl _)) | (exact Old.trans (Old.drew (Old.refl _)) (by assumption)))
       (first
         | (go_at_call 94; refine (CD.out _ (Old.trans O6.out (by assumption))).mono ?_; rintro e w7 ⟨rfl, ow7⟩))
      have O7 := hide (show Old w6 w7 by assumption)
      clear hx0 ow7
      go_wp2_with fail
      go_roundw
      case rel => exact ⟨k + 1, max dd dj, N + q, by go_num, by go_num, by omega, by omega, by omega, HNEW, HDNEW, hide (own_old HOWN6.out O7.out), hide (Old.trans O6.out O7.out)⟩
      case measure => simp [intOf]; omega
  · have hkk : k = pl.length := by omega
    have HALL := hide (show rk.take k = rk by rw [List.take_of_length_le (by have := HRL.out; omega)])
    rw [HALL.out] at HN HDD
    clear hkk
    by_cases h64 : 64 ≤ dd
    · have h64' : (64 : Int) < (dd : Int) + 1 := by omega
      have h64'' : (64 : Int) ≤ (dd : Int) := by omega
      have FIN := hide (show ps = [] ∧ er = 72 by
       have h1 := HN.out
       have h2 := HDD.out
       rcases HW.out with ⟨h, _⟩ | ⟨_, _, h1, h2⟩ | ⟨_, h, _⟩
       · omega
       · exact ⟨h1, h2⟩
       · omega)
      clear s4 s5 s6
      go_wp2_with fail
      go_ret2
      exact ⟨_, by rw [FIN.out.2]; rfl, by rw [FIN.out.1]; exact SlT.nil_ _, HO.out⟩
    · have h64' : ¬ (64 : Int) < (dd : Int) + 1 := by omega
      have h64'' : ¬ (64 : Int) ≤ (dd : Int) := by omega
      have FIN := hide (show ps = J.flat (.mk ⟨7, none_, 0, none_⟩ rk) ∧ er = 0 by
       have h1 := HN.out
       have h2 := HDD.out
       rcases HW.out with ⟨h, _⟩ | ⟨_, h, _⟩ | ⟨_, _, h1, h2⟩
       · omega
       · omega
       · exact ⟨h1, h2⟩)
      have hlt5 : 4 < (ndVals (madeTo 7 (rk.take k) 0)).length := by rw [ndVals_length, HML.out]; omega
      have c5 := s4 4 _ (List.getElem?_eq_getElem hlt5)
      have f5 := s5 4
      have R6 := hide (s6 4 (.int .i64 ((N : Int) + 1)))
      have O6 := hide (HO.out.setCell (p := ⟨g, 4, none⟩) s3 (.int .i64 ((N : Int) + 1)))
      generalize (ndVals (madeTo 7 (rk.take k) 0))[4] = zz at c5
      have HV := hide (show J.flat (.mk ⟨7, none_, 0, none_⟩ rk) = madeTo 7 (rk.take k) ((N : Int) + 1) by rw [HALL.out, flat_mk, HN.out]; rfl)
      clear s4 s5 s6 hlt5
      go_wp2_with fail
      go_ret2
      refine ⟨_, by rw [FIN.out.2]; rfl, ?_, O6.out⟩
      rw [FIN.out.1, HV.out]
      unfold NodesT
      rw [madeTo_length, madeTo_vals _ _ 0, HALL.out, HN.out, Nat.add_comm 1 N]
      have := SlT.of_own R6.out
      rwa [HALL.out] at this
end Go.Proofs.YthlfljmfggmfdaaGreatDoor
namespace Go.Proofs.YthlfljmfggmfdaaGreatDoor
open Go.RowKit
set_option maxRecDepth 100000 in
set_option maxHeartbeats 2000000 in
theorem ref_Obj (kv v : Value) (ks : List ByteArray) (pl : List (List Nd)) (out : List Nd) (er : Int) (w : World) (hkv : TextsIs w kv ks) (hks : ∀ s ∈ ks, s.size ≤ maxLen) (hp : PartsIs w v pl) (htx : ∀ p ∈ pl, TextsOk p) (hl : ObjT ks pl out er) :
 Calls Tryz.prog 42 #[kv, v] w (NewNodesE w out er) := by
 have HP := hide hp
 have HKV := hide hkv
 have HKS := hide hks
 have HTX := hide htx
 have HL := hide hl
 obtain ⟨A, ca, rfl, hla, hma, hc⟩ := hp.open_
 obtain ⟨Bk, cb, rfl, hlb, hmb, hb⟩ := hkv.texts
 unfold maxLen at hma hmb
 have HC := hide hc
 have HB := hide hb
 clear hp hkv hks hc hb htx hl
 by_cases hn : ks.length = pl.length
 · have HN := hide hn
   have hn' : ((ks.length : Int) != (pl.length : Int)) = false := by simp [hn]
   have hl1 : ks.length ≤ pl.length := by omega
   have hl2 : pl.length ≤ ks.length := by omega
   clear hn
   go_enter Tryz.func42, Tryz.ntmps42
   go_wp2_with fail
   go_loopw [6] (fun i wr => ∃ k : Nat, i = .int .i64 k ∧ k ≤ pl.length ∧ Hid (∀ j : Nat, j < k → objErr ks pl j = 0) ∧ Hid (Old w wr)) (fun i _ => pl.length - (intOf i).toNat)
   case atStart => exact ⟨0, rfl, by omega, hide (by intro j h; omega), hide (Old.refl _)⟩
   case round =>
    obtain ⟨k, rfl, hk, HQ, HO⟩ := hrel
    by_cases hlt : k < pl.length
    · have hltk : k < ks.length := by omega
      obtain ⟨bk, ok, rfl, hkc⟩ := HB.out.resolve_left (by omega)
      obtain ⟨bp, op, rfl, hpc⟩ := HC.out.resolve_left (by omega)
      obtain ⟨A', c', x0, x1, x2, x3⟩ := hpc k hlt
      have X0 := hide x0
      have XN := hide x3
      have HKC := hide hkc
      have e0 := HO.out.cell (hkc k hltk)
      obtain ⟨s, hs⟩ : ∃ s, Hid (ks[k] = s) := ⟨_, hide rfl⟩
      rw [hs.out] at e0
      have HSZ := hide (show s.size ≤ maxLen by rw [← hs.out]; exact HKS.out _ (List.getElem_mem hltk))
      have HPT := hide (HTX.out _ (List.getElem_mem hlt))
      have CV := hide (ref_Valid' s wr (by have := HSZ.out; unfold maxLen at this; omega))
      have CC := hide (show ∀ w', Old w w' → Calls Tryz.prog 47 #[.slice A' pl[k].length c'] w' fun e w2 => e = .returned (.int .i64 (chkT pl[k])) ∧ Old w' w2 from fun w' ho => ref_Check _ _ w' (XN.out.old ho) HPT.out)
      unfold maxLen at x2
      clear hkc hpc x0 x3
      cases hv : vU s
      · rw [hv] at CV
        have FIN := hide (obj_first HL.out (by omega) hlt HQ.out (objErr_40 hltk (by rw [hs.out]; exact hv)) (by decide))
        clear hv
        go_wp2_with fail
        refine CV.out.mono ?_
        rintro e w2 ⟨rfl, o2⟩
        have O2 := hide (Old.trans HO.out o2)
        clear o2 e0
        go_wp2_with fail
        go_ret2
        exact ⟨_, by rw [FIN.out.2]; rfl, by rw [FIN.out.1]; exact SlT.nil_ _, O2.out⟩
      · rw [hv] at CV
        have HV := hide hv
        clear hv
        go_wp2_with fail
        refine CV.out.mono ?_
        rintro e w2 ⟨rfl, o2⟩
        have O2 := hide (Old.trans HO.out o2)
        clear o2 e0
        obtain ⟨wv, hwv⟩ : ∃ x, x = wr := ⟨_, rfl⟩
        subst hwv
        go_wp2_with fail
        go_loopw [7] (fun i wz => ∃ m : Nat, i = .int .i64 m ∧ m ≤ k ∧ Hid (s ∉ ks.take m) ∧ Hid (Old w wz)) (fun i _ => k - (intOf i).toNat)
        case atStart => exact ⟨0, rfl, by omega, hide (by simp), O2⟩
        case round =>
         obtain ⟨m, rfl, hm, HNI, HZ⟩ := hrel
         by_cases hmk : m < k
         · have hml : m < ks.length := by omega
           have e1 := HZ.out.cell (HKC.out m hml)
           have e2 := HZ.out.cell (HKC.out k hltk)
           rw [hs.out] at e2
           obtain ⟨s1, hs1⟩ : ∃ s, Hid (ks[m] = s) := ⟨_, hide rfl⟩
           rw [hs1.out] at e1
           by_cases hke : s1 = s
           · have hkt : (s1.toList == s.toList) = true := by rw [hke]; simp
             have FIN := hide (obj_first HL.out (by omega) hlt HQ.out (objErr_71 hltk (by rw [hs.out]; exact HV.out) (by
              rw [hs.out, hasKey_iff, ← hke, ← hs1.out]
              exact List.mem_take_iff_getElem.2 ⟨m, by omega, rfl⟩)) (by decide))
             clear hke
             go_wp2_with fail
             go_quiet (fail)
             go_wp2_with fail
             go_ret2
             exact ⟨_, by rw [FIN.out.2]; rfl, by rw [FIN.out.1]; exact SlT.nil_ _, Old.drewN HZ.out _⟩
           · have HKE := hide hke
             have hkt1 : ¬ s1.toList = s.toList := fun e => hke (bytes_ext e)
             have hkt : (s1.toList == s.toList) = false := beq_eq_false_iff_ne.2 hkt1
             clear hke hkt1
             go_wp2_with fail
             go_quiet (fail)
             go_wp2_with fail
             go_roundw
             case rel => exact ⟨m + 1, by go_num, by omega, hide (by
              rw [List.take_succ_eq_append_getElem hml, hs1.out]
              simp only [List.mem_append, List.mem_singleton, not_or]
              exact ⟨HNI.out, fun e => HKE.out e.symm⟩), hide (Old.drewN HZ.out _)⟩
             case measure => simp [intOf]; omega
         · have HH := hide (show hasKey (ks.take k) ks[k] = false by
            rw [hs.out, hasKey_not]
            have : m = k := by omega
            rw [← this]
            exact HNI.out)
           have OE := hide (objErr_chk (pl := pl) hltk hlt (by rw [hs.out]; exact HV.out) HH.out)
           obtain ⟨c, hc⟩ : ∃ c, Hid (chkT pl[k] = c) := ⟨_, hide rfl⟩
           rw [hc.out] at OE CC
           have x0 := HZ.out.cell X0.out
           by_cases h0 : c = 0
           · subst h0
             go_wp2_with fail
             refine (CC.out _ HZ.out).mono ?_
             rintro e w4 ⟨rfl, o4⟩
             have O4 := hide (Old.trans HZ.out o4)
             clear o4 x0
             have HQ2 := hide (show ∀ j : Nat, j < k + 1 → objErr ks pl j = 0 from fun j hjk => by
              rcases Nat.lt_or_ge j k with h | h
              · exact HQ.out j h
              · have : j = k := by omega
                subst this
                exact OE.out)
             go_wp2_with fail
             go_roundw
             case rel => exact ⟨k + 1, by go_num, by omega, HQ2, O4⟩
             case measure => simp [intOf]; omega
           · have h0' : (c != 0) = true := by simpa using h0
             have FIN := hide (obj_first HL.out (by omega) hlt HQ.out OE.out h0)
             clear h0
             go_wp2_with fail
             refine (CC.out _ HZ.out).mono ?_
             rintro e w4 ⟨rfl, o4⟩
             have O4 := hide (Old.trans HZ.out o4)
             clear o4 x0
             go_wp2_with fail
             go_ret2
             exact ⟨_, by rw [FIN.out.2]; rfl, by rw [FIN.out.1]; exact SlT.nil_ _, O4.out⟩
    · have CW := hide (show Calls Tryz.prog 90 #[.int .i64 7, .slice Bk ks.length cb, .slice A pl.length ca] wr (NewNodesE wr out er) by
       rcases HL.out with ⟨h, _⟩ | ⟨hl, ⟨i, hi, h1, h2, h3, h4⟩ | ⟨h1, js, hj, hw⟩⟩
       · omega
       · exact absurd (HQ.out i (by omega)) h2
       · exact made_obj _ _ pl js ks out er wr (HKV.out.old HO.out) (hl.trans hj.1) (HP.out.old HO.out) hj.1 hj.2 hw)
      go_wp2_with fail
      refine CW.out.mono ?_
      rintro e w2 ⟨v1, rfl, h1, o1⟩
      have H1 := hide (h1.mono HO.out.size)
      have O2 := hide (Old.trans HO.out o1)
      clear h1 o1
      go_wp2_with fail
      go_ret2
      exact ⟨_, rfl, H1.out, O2.out⟩
 · have hn' : ((ks.length : Int) != (pl.length : Int)) = true := bne_iff_ne.2 (by omega)
   have FIN := hide (show out = [] ∧ er = 2 by
    rcases HL.out with ⟨_, h1, h2⟩ | ⟨h, _⟩
    · exact ⟨h1, h2⟩
    · exact absurd h hn)
   clear hn
   go_enter Tryz.func42, Tryz.ntmps42
   go_wp2_with fail
   go_ret2
   exact ⟨_, by rw [FIN.out.2]; rfl, by rw [FIN.out.1]; exact SlT.nil_ _, Old.refl w⟩
set_option maxRecDepth 100000 in
theorem ref_Leaf (kind n : Int) (s : ByteArray) (w : World) : Calls Tryz.prog 86 #[.int .i64 kind, .int .i64 n, .string s] w (NewNodes w (leafT kind n s)) := by
 go_enter Tryz.func86, Tryz.ntmps86
 go_wp2_with fail
 go_ret
 exact ⟨_, rfl, one_node w ⟨kind, none_, n, s, 1⟩ _ rfl _ (Nat.le_refl _), (Old.refl w).alloc _⟩
set_option maxRecDepth 100000 in
theorem ref_Bool (b : Bool) (w : World) : Calls Tryz.prog 87 #[.bool b] w (NewNodes w (leafT (if b then 3 else 2) 0 none_)) := by
 cases b
 · have C := hide (ref_Leaf 2 0 none_ w)
   go_enter Tryz.func87, Tryz.ntmps87
   go_wp2_with fail
   refine C.out.mono ?_
   rintro e w1 ⟨v, rfl, h1, h2⟩
   go_wp2_with fail
   go_ret
   exact ⟨_, rfl, h1, h2⟩
 · have C := hide (ref_Leaf 3 0 none_ w)
   go_enter Tryz.func87, Tryz.ntmps87
   go_wp2_with fail
   refine C.out.mono ?_
   rintro e w1 ⟨v, rfl, h1, h2⟩
   go_wp2_with fail
   go_ret
   exact ⟨_, rfl, h1, h2⟩
end Go.Proofs.YthlfljmfggmfdaaGreatDoor

/-! ###  -/
namespace Go.Proofs.YthlfljmfggmfdaaGreatDoor
open Go.RowKit
def leafC (k : Int) (c : Cell) : List Nd := leafT (cellH k c).kind (cellH k c).n (cellH k c).s
set_option maxRecDepth 100000 in
set_option maxHeartbeats 1000000 in
theorem rvalue19_run (k : Int) (nl : Bool) (c : Cell) (hk : mayK k = true) (hs : c.s.size ≤ 1073741824) (w : World) : Calls Tryz.prog 41 #[Ty k nl, Cl c] w (NewNodes w (leafC k c)) := by
 obtain ⟨cn, n, s⟩ := c
 simp only at hs
 cases cn
 · have h5 : k = 1 ∨ k = 2 ∨ k = 3 ∨ k = 4 ∨ k = 5 := by simp [mayK] at hk; omega
   rcases h5 with rfl | rfl | rfl | rfl | rfl
   · by_cases h0 : n = 1
     · subst h0
       have hm : leafC 1 ⟨false, 1, s⟩ = leafT (if true then 3 else 2) 0 none_ := rfl
       rw [hm]
       have CL := hide (fun w' => ref_Bool true w')
       unfold Cl Ty
       go_enter Tryz.func41, Tryz.ntmps41
       go_wp2_with fail
       refine (CL.out _).mono ?_
       rintro e w2 ⟨v, rfl, h1, h2⟩
       have O2 := hide (Old.trans (Old.alloc (Old.alloc (Old.refl w) _) _) h2)
       have H1 := hide (h1.mono (Old.alloc (Old.alloc (Old.refl w) _) _).size)
       clear h1 h2
       go_wp2_with fail
       go_ret
       exact ⟨_, rfl, H1.out, O2.out⟩
     · have h1 : (n == 1) = false := by simp [h0]
       have hm : leafC 1 ⟨false, n, s⟩ = leafT (if false then 3 else 2) 0 none_ := by simp [leafC, cellH, h0]
       rw [hm]
       have CL := hide (fun w' => ref_Bool false w')
       unfold Cl Ty
       go_enter Tryz.func41, Tryz.ntmps41
       go_wp2_with fail
       refine (CL.out _).mono ?_
       rintro e w2 ⟨v, rfl, h1, h2⟩
       have O2 := hide (Old.trans (Old.alloc (Old.alloc (Old.refl w) _) _) h2)
       have H1 := hide (h1.mono (Old.alloc (Old.alloc (Old.refl w) _) _).size)
       clear h1 h2
       go_wp2_with fail
       go_ret
       exact ⟨_, rfl, H1.out, O2.out⟩
   · have hm : leafC 2 ⟨false, n, s⟩ = leafT 4 n none_ := rfl
     rw [hm]
     have CL := hide (fun w' => ref_Leaf 4 n none_ w')
     unfold Cl Ty
     go_enter Tryz.func41, Tryz.ntmps41
     go_wp2_with fail
     refine (CL.out _).mono ?_
     rintro e w2 ⟨v, rfl, h1, h2⟩
     have O2 := hide (Old.trans (Old.alloc (Old.alloc (Old.refl w) _) _) h2)
     have H1 := hide (h1.mono (Old.alloc (Old.alloc (Old.refl w) _) _).size)
     clear h1 h2
     go_wp2_with fail
     go_ret
     exact ⟨_, rfl, H1.out, O2.out⟩
   · have hm : leafC 3 ⟨false, n, s⟩ = leafT 4 n none_ := rfl
     rw [hm]
     have CL := hide (fun w' => ref_Leaf 4 n none_ w')
     unfold Cl Ty
     go_enter Tryz.func41, Tryz.ntmps41
     go_wp2_with fail
     refine (CL.out _).mono ?_
     rintro e w2 ⟨v, rfl, h1, h2⟩
     have O2 := hide (Old.trans (Old.alloc (Old.alloc (Old.refl w) _) _) h2)
     have H1 := hide (h1.mono (Old.alloc (Old.alloc (Old.refl w) _) _).size)
     clear h1 h2
     go_wp2_with fail
     go_ret
     exact ⟨_, rfl, H1.out, O2.out⟩
   · have hm : leafC 4 ⟨false, n, s⟩ = leafT 5 0 s := rfl
     rw [hm]
     have CL := hide (fun w' => ref_Leaf 5 0 s w')
     unfold Cl Ty
     go_enter Tryz.func41, Tryz.ntmps41
     go_wp2_with fail
     refine (CL.out _).mono ?_
     rintro e w2 ⟨v, rfl, h1, h2⟩
     have O2 := hide (Old.trans (Old.alloc (Old.alloc (Old.refl w) _) _) h2)
     have H1 := hide (h1.mono (Old.alloc (Old.alloc (Old.refl w) _) _).size)
     clear h1 h2
     go_wp2_with fail
     go_ret
     exact ⟨_, rfl, H1.out, O2.out⟩
   · have hm : leafC 5 ⟨false, n, s⟩ = leafT 5 0 (hexOf s) := rfl
     rw [hm]
     have CL := hide (fun w' => ref_Leaf 5 0 (hexOf s) w')
     have CH := hide (fun w' => rhex_run s hs w')
     unfold Cl Ty
     go_enter Tryz.func41, Tryz.ntmps41
     go_wp2_with fail
     refine (CH.out _).mono ?_
     rintro e w1 ⟨rfl, o1⟩
     have O1 := hide (Old.trans (Old.alloc (Old.alloc (Old.refl w) _) _) o1)
     clear o1
     go_wp2_with fail
     refine (CL.out _).mono ?_
     rintro e w2 ⟨v, rfl, h1, h2⟩
     have O2 := hide (Old.trans O1.out h2)
     have H1 := hide (h1.mono O1.out.size)
     clear h1 h2
     go_wp2_with fail
     go_ret
     exact ⟨_, rfl, H1.out, O2.out⟩
 · have hm : leafC k ⟨true, n, s⟩ = leafT 1 0 none_ := rfl
   rw [hm]
   have CL := hide (fun w' => ref_Leaf 1 0 none_ w')
   unfold Cl Ty
   go_enter Tryz.func41, Tryz.ntmps41
   go_wp2_with fail
   refine (CL.out _).mono ?_
   rintro e w2 ⟨v, rfl, h1, h2⟩
   have O2 := hide (Old.trans (Old.alloc (Old.alloc (Old.refl w) _) _) h2)
   have H1 := hide (h1.mono (Old.alloc (Old.alloc (Old.refl w) _) _).size)
   clear h1 h2
   go_wp2_with fail
   go_ret
   exact ⟨_, rfl, H1.out, O2.out⟩
end Go.Proofs.YthlfljmfggmfdaaGreatDoor
