/-  -/
import Derived.Test.YthlfljmfggmfdaaGreatDoorQk17
/-! ###  -/
namespace Go.Proofs.YthlfljmfggmfdaaGreatDoor
open Go.RowKit
theorem chk_no {t : List Nd} (hl : t.length ≤ 4000) (h : ¬ ∃ j, Tape vU j t) : chkT t = 60 := by
 unfold chkT
 rw [if_neg (by omega), look_none fun j hj => h ⟨j, hj⟩]
theorem chk_deep {t : List Nd} {j : J} (hl : t.length ≤ 4000) (h : Tape vU j t) : chkT t = if 64 < j.deep then 72 else 0 := by
 unfold chkT
 rw [if_neg (by omega), look_yes h]
theorem deeps_one (j : J) : J.deeps [j] = j.deep := by simp [J.deeps]
theorem tape_root {t : List Nd} {j : J} (h : Tape vU j t) : t.drop 0 = J.flats [j] ++ [] := by rw [List.drop_zero, List.append_nil, flats_one]; exact h.2.2
theorem tape_len {t : List Nd} {j : J} (h : Tape vU j t) : (J.flats [j]).length = t.length := by rw [flats_one, ← h.2.2]
set_option maxRecDepth 100000 in
set_option maxHeartbeats 1000000 in
theorem ref_Check (v : Value) (t : List Nd) (w : World) (ht : NodesIs w v t) (hk : TextsOk t) :
 Calls Tryz.prog 47 #[v] w fun e w' => e = .returned (.int .i64 (chkT t)) ∧ Old w w' := by
 have CV := hide (fun (h : t.length ≤ 4000) (h0 : 0 < t.length) => value_run v t w ht h hk t.length 0 t.length w (by omega) (Old.refl _) h0 (Nat.le_refl _))
 have CD := hide (fun (h : t.length ≤ 4000) (j : J) (hj : Tape vU j t) (w' : World) (ho : Old w w') => ref_deep v t w ht h t.length [j] 0 [] w' ho (tape_len hj) (tape_root hj) (Nat.zero_le _))
 obtain ⟨A, ca, rfl, hla, hma, hc⟩ := ht.nodes
 unfold maxLen at hma
 have HC := hide hc
 clear ht hk hc
 go_enter Tryz.func47, Tryz.ntmps47
 by_cases hl : 4000 < t.length
 · have hl' : (4000 : Int) < (t.length : Int) := by omega
   have E := hide (show chkT t = 5 by unfold chkT; rw [if_pos hl])
   go_wp2_with fail
   go_ret
   exact ⟨ret_int E.out.symm, Old.refl _⟩
 · have hl' : ¬ (4000 : Int) < (t.length : Int) := by omega
   have hl4 : t.length ≤ 4000 := by omega
   by_cases h0 : t.length = 0
   · have E := hide (show chkT t = 60 from chk_no hl4 (by
      rintro ⟨j, hj⟩
      have := flat_pos j
      rw [← hj.2.2] at this
      omega))
     have h0' : ((t.length : Int) == 0) = true := by simp [h0]
     clear h0
     go_wp2_with fail
     go_ret
     exact ⟨ret_int E.out.symm, Old.refl _⟩
   · have h0' : ((t.length : Int) == 0) = false := beq_eq_false_iff_ne.2 (by omega)
     have hpos : 0 < t.length := by omega
     have HTI := hide (tape_iff hpos)
     have HLP := hide hpos
     obtain ⟨b1, o1, rfl, hc1⟩ := HC.out.resolve_left h0
     obtain ⟨_, x1, _, _, x4⟩ := hc1 0 hpos
     obtain ⟨x, hx⟩ : ∃ x, Hid (t[0]'hpos = x) := ⟨_, hide rfl⟩
     have hx1 : t[0]'hpos = x := hx.out
     simp only [hx1] at x1 x4
     clear hx1
     simp only [Nat.zero_mul, Nat.add_zero] at x1 x4
     clear hc1 h0
     by_cases hkey : x.key = none_
     · have hkey' : x.key.toList = [] := (str_none _).2 hkey
       have HKEY := hide hkey
       clear hkey
       by_cases hsz : x.size = t.length
       · have hsz' : (x.size != (t.length : Int)) = false := by simp [hsz]
         have HSZ := hide hsz
         have CV1 := hide (show Calls Tryz.prog 93 #[.slice (some ⟨b1, o1, none⟩) t.length ca, .int .i64 0, .int .i64 t.length] w (SaysB (IsVal t 0 t.length) w) from CV.out hl4 HLP.out)
         clear hsz CV
         go_wp2_with fail
         refine CV1.out.mono ?_
         rintro e w1 ⟨b, hb, rfl, ow1⟩
         have HB := hide hb
         clear hb
         cases b
         · have E := hide (show chkT t = 60 from chk_no hl4 (by
            intro h
            have := (HTI.out.1 h).2.2
            have := HB.out.2 this
            cases this))
           go_wp2_with fail
           go_ret
           exact ⟨ret_int E.out.symm, ow1⟩
         · obtain ⟨j, hj⟩ := HTI.out.2 ⟨by rw [hx.out]; exact HKEY.out, by rw [hx.out]; exact HSZ.out, HB.out.1 rfl⟩
           have CD1 := hide (show Calls Tryz.prog 94 #[.slice (some ⟨b1, o1, none⟩) t.length ca, .int .i64 0, .int .i64 t.length] w1 fun e w' => e = .returned (.int .i64 j.deep) ∧ Old w1 w' by
            have := CD.out hl4 j hj w1 ow1
            rw [deeps_one, Nat.zero_add] at this
            exact this)
           have E := hide (chk_deep hl4 hj)
           clear CD hj x1 x4
           by_cases hd : 64 < j.deep
           · have hd' : (64 : Int) < (j.deep : Int) := by omega
             have E2 := hide (show chkT t = 72 by rw [E.out, if_pos hd])
             go_wp2_with fail
             refine CD1.out.mono ?_
             rintro e w2 ⟨rfl, ow2⟩
             go_wp2_with fail
             go_ret
             exact ⟨ret_int E2.out.symm, Old.trans ow1 ow2⟩
           · have hd' : ¬ (64 : Int) < (j.deep : Int) := by omega
             have E2 := hide (show chkT t = 0 by rw [E.out, if_neg hd])
             go_wp2_with fail
             refine CD1.out.mono ?_
             rintro e w2 ⟨rfl, ow2⟩
             go_wp2_with fail
             go_ret
             exact ⟨ret_int E2.out.symm, Old.trans ow1 ow2⟩
       · have hsz' : (x.size != (t.length : Int)) = true := by simp [hsz]
         have E := hide (show chkT t = 60 from chk_no hl4 (by
          intro h
          have := (HTI.out.1 h).2.1
          rw [hx.out] at this
          exact hsz this))
         go_wp2_with fail
         go_ret
         exact ⟨ret_int E.out.symm, Old.refl _⟩
     · have hkey' : ¬ x.key.toList = [] := fun h => hkey ((str_none _).1 h)
       have E := hide (show chkT t = 60 from chk_no hl4 (by
        intro h
        have := (HTI.out.1 h).1
        rw [hx.out] at this
        exact hkey this))
       clear hkey
       go_wp2_with fail
       go_ret
       exact ⟨ret_int E.out.symm, Old.refl _⟩
set_option maxRecDepth 100000 in
set_option maxHeartbeats 1000000 in
theorem ref_Kids (v : Value) (t : List Nd) (ks : List Nat) (w : World) (ht : NodesIs w v t) (hk : TextsOk t) (hks : kidsT t ks) :
 Calls Tryz.prog 48 #[v] w (NewInts w ks) := by
 have CC := hide (ref_Check v t w ht hk)
 obtain ⟨A, ca, rfl, hla, hma, hc⟩ := ht.nodes
 unfold maxLen at hma
 rcases hks with ⟨h, l, hj, rfl⟩ | ⟨hcc, rfl⟩
 · have C0 := hide (num_as CC.out (chkT_may hj))
   have HD := hide (show t.drop 0 = J.flat (.mk h l) ++ [] by rw [List.drop_zero, List.append_nil]; exact hj.1.2.2)
   have hl4 := hj.2.1
   obtain ⟨N, hN⟩ : ∃ N, Hid ((J.flats l).length = N) := ⟨_, hide rfl⟩
   have hTN : t.length = N + 1 := by
    have e := congrArg List.length hj.1.2.2
    rw [flat_mk, List.length_cons, hN.out] at e
    exact e
   have HTN := hide hTN
   obtain ⟨b1, o1, rfl, hc1⟩ := hc.resolve_left (by omega)
   have HC := hide hc1
   have hN4 : N + 1 ≤ 4000 := by omega
   rw [hTN] at hla C0 ⊢
   clear hl4 hTN ht hk CC hc hc1 hj
   go_enter Tryz.func48, Tryz.ntmps48
   go_wp2_with fail
   refine C0.out.mono ?_
   rintro e w0 ⟨rfl, ow0⟩
   have OW0 := hide ow0
   clear ow0
   go_wp2_with fail
   go_loopw [3, 4] (fun o i wr => ∃ (l1 l2 : List J) (p : Nat), i = .int .i64 p ∧ Hid (l = l1 ++ l2) ∧ Hid (p = 0 + 1 + (J.flats l1).length) ∧ p ≤ 1 + N ∧ Hid (IntsOwn w0.heap.size wr o (starts (0 + 1) l1)) ∧ Hid (Old w0 wr)) (fun _ i _ => 1 + N - (intOf i).toNat)
   case atStart => exact ⟨[], l, 1, by go_num, hide rfl, hide (by simp [J.flats]), by omega, hide (World.ownsRow_nil _ _ _ _), hide (Old.refl _)⟩
   case round =>
    obtain ⟨l1, l2, p, rfl, HL, HP, hp, HOWN, HO⟩ := hrel
    cases l2 with
    | nil =>
      have E := hide (show l = l1 by rw [HL.out]; simp)
      have hpe : p = 1 + N := by have h1 := HP.out; have h2 := hN.out; rw [E.out] at h2; omega
      have hpe1 : ¬ ((p : Int) < (N : Int) + 1) := by omega
      clear hpe
      go_wp2_with fail
      go_ret
      exact ⟨_, rfl, by rw [E.out]; exact (SlT.of_own HOWN.out).mono OW0.out.size, Old.trans OW0.out HO.out⟩
    | cons j l3 =>
      have HDP := hide (show t.drop p = j.flat ++ (J.flats l3 ++ []) by
       rw [HP.out]
       have := HD.out
       rw [HL.out] at this
       rw [drop_flat this, flats_cons, List.append_assoc])
      obtain ⟨hpt, hpx⟩ := head_flat HDP.out
      obtain ⟨_, _, _, _, d4⟩ := HC.out p hpt
      rw [hpx] at d4
      have hq := flat_pos j
      have hpl : p + j.flat.length ≤ 1 + N := by
       have h1 := HP.out
       have h2 := hN.out
       rw [HL.out, flats_append, flats_cons, List.length_append, List.length_append] at h2
       omega
      have hst := len_flats l1
      have hst2 := starts_length (0 + 1) l1
      have hp1 := HP.out
      have hlen : (starts (0 + 1) l1).length + 1 ≤ 4194304 := by omega
      have HNEXT := hide (show starts (0 + 1) (l1 ++ [j]) = starts (0 + 1) l1 ++ [p] by rw [starts_append, ← HP.out]; rfl)
      have HP2 := hide (show p + j.flat.length = 0 + 1 + (J.flats (l1 ++ [j])).length by rw [flats_append, flats_one, List.length_append, ← Nat.add_assoc, ← HP.out])
      clear hst hst2 hp1 hpx
      obtain ⟨q, hqq⟩ : ∃ q, Hid (j.flat.length = q) := ⟨_, hide rfl⟩
      rw [hqq.out] at d4 hq hpl HP2
      have D4 := hide d4
      clear d4 hqq
      go_upto_region 6 with (at_builtin; refine wpList_plain rfl (fun K hK => ?_); refine step_push_int _ _ _ rfl w0.heap.size _ (starts (0 + 1) l1) rfl (own_old HOWN.out ((Old.refl wr).alloc _)) _ _ p rfl (by go_simp) hlen (HO.out.alloc _).size ?_; intro v' w2 own2 kept2; refine hK _ _ ?_; clear hK)
      have O2 := hide (kept2.old (HO.out.alloc _) (Nat.le_refl _))
      have d4 := (Old.trans OW0.out O2.out).cell D4.out
      have OW2 := hide own2
      clear kept2 own2
      go_wp2_with fail
      go_roundw
      case rel => exact ⟨l1 ++ [j], l3, p + q, by go_num, hide (by rw [HL.out]; simp), HP2, by omega, hide (by rw [HNEXT.out]; exact OW2.out), O2⟩
      case measure => simp [intOf]; omega
 · have hc' : (chkT t != 0) = true := by simpa using hcc
   clear ht hk hcc hc
   go_enter Tryz.func48, Tryz.ntmps48
   go_wp2_with fail
   refine CC.out.mono ?_
   rintro e w1 ⟨rfl, o1⟩
   go_wp2_with fail
   go_ret
   exact ⟨_, rfl, SlT.nil_ _, o1⟩
set_option maxRecDepth 100000 in
set_option maxHeartbeats 1000000 in
theorem ref_Part (v : Value) (t : List Nd) (at_ : Int) (ps : List Nd) (w : World) (ht : NodesIs w v t) (hk : TextsOk t) (hps : PartT t at_ ps) :
 Calls Tryz.prog 95 #[v, .int .i64 at_] w (NewNodes w ps) := by
 have CC := hide (ref_Check v t w ht hk)
 have HT := hide ht
 obtain ⟨A, ca, rfl, hla, hma, hc⟩ := ht.nodes
 unfold maxLen at hma
 clear ht hk
 rcases hps with ⟨hbad, rfl⟩ | ⟨j, j', a, r, hj, rfl, ha, hd, hok, hdp, rfl⟩
 · clear hc
   by_cases h0 : chkT t = 0
   · have C0 := hide (num_as CC.out h0)
     have hb : at_ < 0 ∨ (t.length : Int) ≤ at_ := by
      rcases hbad with h | h
      · exact absurd h0 h
      · exact h
     clear hbad h0 CC
     rcases hb with hb | hb
     · have hb' : decide (at_ < 0) = true := decide_eq_true hb
       go_enter Tryz.func95, Tryz.ntmps95
       go_wp2_with fail
       refine C0.out.mono ?_
       rintro e w1 ⟨rfl, o1⟩
       go_wp2_with fail
       go_ret
       exact ⟨_, rfl, SlT.nil_ _, o1⟩
     · have hb' : ¬ at_ < 0 := by omega
       go_enter Tryz.func95, Tryz.ntmps95
       go_wp2_with fail
       refine C0.out.mono ?_
       rintro e w1 ⟨rfl, o1⟩
       go_wp2_with fail
       go_ret
       exact ⟨_, rfl, SlT.nil_ _, o1⟩
   · have hc' : (chkT t != 0) = true := by simpa using h0
     clear hbad h0
     go_enter Tryz.func95, Tryz.ntmps95
     go_wp2_with fail
     refine CC.out.mono ?_
     rintro e w1 ⟨rfl, o1⟩
     go_wp2_with fail
     go_ret
     exact ⟨_, rfl, SlT.nil_ _, o1⟩
 · have C0 := hide (num_as CC.out (chkT_may hj))
   obtain ⟨_, hx⟩ := head_flat hd
   have hq := flat_pos j'
   obtain ⟨b1, o1, rfl, hc1⟩ := hc.resolve_left (by omega)
   obtain ⟨_, _, _, _, d4⟩ := hc1 a ha
   rw [hx] at d4
   have hbound : a + j'.flat.length ≤ t.length := by
    have e := congrArg List.length hd
    rw [List.length_append, List.length_drop] at e
    omega
   have hpiece : (t.drop a).take j'.flat.length = j'.flat := by rw [hd, List.take_left' rfl]
   obtain ⟨y, ys, hy⟩ : ∃ y ys, j'.flat = y :: ys := by
    obtain ⟨q, hq⟩ := flat_head j'
    exact ⟨_, q, hq⟩
   have HU := hide (show j'.unkey.flat = y.unkey :: ys by rw [← unkey_flat, hy]; rfl)
   have hl4 := hj.2.1
   have HLN := hide (show ([] : List Nd).length + (y :: ys).length ≤ 4194304 by rw [← hy]; simp; omega)
   have CL := hide (show ∀ w', Old w w' → NodesIs w' (.slice (some ⟨b1, o1 + a * 5, none⟩) (a + j'.flat.length - a) (ca - a)) (y :: ys) from fun w' ho => by
    have hp := (HT.out.piece a j'.flat.length (ca - a) (by omega) (by omega) (by unfold maxLen; omega)).old ho
    rw [hpiece, hy] at hp
    rw [Nat.add_sub_cancel_left, hy]
    exact hp)
   clear CC hc hc1 hx hd hpiece hy hok hdp
   obtain ⟨q, hqq⟩ : ∃ q, Hid (j'.flat.length = q) := ⟨_, hide rfl⟩
   rw [hqq.out] at d4 hq hbound CL
   have D4 := hide d4
   clear d4 hqq hj
   have ha0 : ¬ (a : Int) < 0 := by omega
   have ha1 : ¬ (t.length : Int) ≤ (a : Int) := by omega
   go_enter Tryz.func95, Tryz.ntmps95
   go_wp2_with fail
   refine C0.out.mono ?_
   rintro e w1 ⟨rfl, ow1⟩
   have d4 := ow1.cell D4.out
   go_upto_region 5 with (at_builtin; refine wpList_plain rfl (fun K hK => ?_); refine step_push_nodes _ _ _ rfl w1.heap.size (.slice none 0 0) [] rfl (World.ownsRow_nil _ _ _ _) _ (y :: ys) rfl (CL.out _ ow1) HLN.out (Nat.le_refl _) ?_; intro v' w2 own kept; refine hK _ _ ?_; clear hK)
   have h2 : NodesT w.heap.size w2 v' (y :: ys) := SlT.mono (SlT.of_own own) ow1.size
   have o2 : Old w w2 := kept.old ow1 ow1.size
   obtain ⟨g, off, cap, rfl, k1, k2, k3, k4, k5, k6⟩ := SlT.setKey h2
   unfold maxLen at k2
   have K6 := hide k6
   have HO := hide (show Old w (w2.setCell ⟨g, off + 1, none⟩ (.string ⟨#[]⟩)) from o2.setCell k3 _)
   clear k6 h2 d4 o2 own kept
   go_wp2_with fail
   go_ret
   exact ⟨_, rfl, by rw [HU.out]; exact K6.out, HO.out⟩
end Go.Proofs.YthlfljmfggmfdaaGreatDoor
