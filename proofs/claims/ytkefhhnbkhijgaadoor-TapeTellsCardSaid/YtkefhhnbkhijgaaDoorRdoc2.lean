/- The document's Sorted, Same and Get. -/
import Derived.Test.YtkefhhnbkhijgaaDoorRsorted
import Derived.Test.YtkefhhnbkhijgaaDoorRdoc
namespace Go.Proofs.YtkefhhnbkhijgaaDoor
open Go.RowKit

set_option maxRecDepth 100000 in
set_option maxHeartbeats 400000 in
theorem ref_Sorted (v : Value) (t : List Nd) (w : World) (ht : NodesIs w v t) (hk : TextsOk t) :
    Calls Tryd.prog 45 #[v] w fun e w' => ∃ ps, SortedT t ps ∧ NewNodes w ps e w' := by
  have CC := hide (ref_Check v t w ht hk)
  have HT := hide ht
  obtain ⟨A, ca, rfl, hla, hma, _⟩ := ht.nodes
  unfold maxLen at hma
  by_cases hc : chkT t = 0
  · obtain ⟨j, hj⟩ := may_of hc
    have CL := hide (show ∀ w', Old w w' → Calls Tryd.prog 64 #[.slice A t.length ca, .int .i64 0, .int .i64 t.length, .bool false] w' fun e w2 => ∃ v, e = .returned v ∧ NodesT w.heap.size w2 v j.sort.flat ∧ Old w w2 from fun w' h => by
      have := ref_sorted (.slice A t.length ca) t w HT.out hj.2.1 t.length [j] 0 [] false w' h (tape_len hj.1) (tape_root hj.1) (Nat.zero_le _) (by simp only [J.Oks, and_true]; exact hj.1.1) (fun h => by cases h)
      rw [Nat.zero_add, show J.flats (sortedL false [j]) = j.sort.flat by simp [sortedL, J.sorts, J.flats]] at this
      exact this.mono fun _ _ ⟨v, h1, h2, h3⟩ => ⟨v, h1, h2.mono h.size, Old.trans h h3⟩)
    have C0 := hide (num_as CC.out hc)
    have HJ := hide hj
    clear ht hk CC hc hj
    go_enter Tryd.func45, Tryd.ntmps45
    go_wp2_with fail
    refine C0.out.mono ?_
    rintro e w1 ⟨rfl, o1⟩
    go_wp2_with fail
    refine (CL.out _ o1).mono ?_
    rintro e w2 ⟨v2, rfl, n2, o2⟩
    go_wp2_with fail
    go_ret
    exact ⟨_, .inl ⟨j, HJ.out, rfl⟩, _, rfl, n2, o2⟩
  · have hc' : (chkT t != 0) = true := by simpa using hc
    have HC := hide hc
    clear ht hk hc
    go_enter Tryd.func45, Tryd.ntmps45
    go_wp2_with fail
    refine CC.out.mono ?_
    rintro e w1 ⟨rfl, o1⟩
    go_wp2_with fail
    go_ret
    exact ⟨[], .inr ⟨HC.out, rfl⟩, _, rfl, SlT.nil_ _, o1⟩

set_option maxRecDepth 100000 in
set_option maxHeartbeats 1000000 in
theorem ref_Same (va vb : Value) (a b : List Nd) (w : World) (ha : NodesIs w va a) (hb : NodesIs w vb b) (hka : TextsOk a) (hkb : TextsOk b) :
    Calls Tryd.prog 41 #[va, vb] w fun e w' => ∃ B, SameT a b B ∧ e = .returned (.bool B) ∧ Old w w' := by
  have CA := hide (show ∀ w', Old w w' → Calls Tryd.prog 37 #[va] w' fun e w2 => e = .returned (.int .i64 (chkT a)) ∧ Old w' w2 from fun w' h => ref_Check va a w' (ha.old h) hka)
  have CB := hide (show ∀ w', Old w w' → Calls Tryd.prog 37 #[vb] w' fun e w2 => e = .returned (.int .i64 (chkT b)) ∧ Old w' w2 from fun w' h => ref_Check vb b w' (hb.old h) hkb)
  have SA := hide (show ∀ w', Old w w' → Calls Tryd.prog 45 #[va] w' fun e w2 => ∃ ps, SortedT a ps ∧ NewNodes w' ps e w2 from fun w' h => ref_Sorted va a w' (ha.old h) hka)
  have SB := hide (show ∀ w', Old w w' → Calls Tryd.prog 45 #[vb] w' fun e w2 => ∃ ps, SortedT b ps ∧ NewNodes w' ps e w2 from fun w' h => ref_Sorted vb b w' (hb.old h) hkb)
  obtain ⟨c, hc⟩ : ∃ c, Hid (chkT a = c) := ⟨_, hide rfl⟩
  obtain ⟨d, hd⟩ : ∃ d, Hid (chkT b = d) := ⟨_, hide rfl⟩
  rw [hc.out] at CA
  rw [hd.out] at CB
  go_enter Tryd.func41, Tryd.ntmps41
  by_cases hc0 : c = 0
  · have hc' : (c == 0) = true := by simp [hc0]
    by_cases hd0 : d = 0
    · have hd' : (d == 0) = true := by simp [hd0]
      go_wp2_with (first
        | (go_at_call 37; (with_reducible refine (CA.out _ (Old.refl _)).mono ?_); rintro e w1 ⟨rfl, o1⟩)
        | (go_at_call 37; (with_reducible refine (CB.out _ o1).mono ?_); rintro e w2 ⟨rfl, o2⟩; have o3 := Old.trans o1 o2)
        | (go_at_call 45; (with_reducible refine (SA.out _ o3).mono ?_); rintro e w4 ⟨pa, hpa, va', rfl, na, o4⟩; have o5 := Old.trans o3 o4)
        | (go_at_call 45; (with_reducible refine (SB.out _ o5).mono ?_); rintro e w6 ⟨pb, hpb, vb', rfl, nb, o6⟩)
        | (go_at_call 13; refine (ref_Eq va' vb' pa pb w6 (na.sl.old o6) nb.sl).mono ?_; rintro e w7 ⟨rfl, o7⟩))
      go_ret
      obtain ⟨ja, m1, rfl⟩ := hpa.good (hc.out.trans hc0)
      obtain ⟨jb, m2, rfl⟩ := hpb.good (hd.out.trans hd0)
      exact ⟨_, .inr ⟨ja, jb, m1, m2, rfl⟩, rfl, Old.trans (Old.trans o5 o6) o7⟩
    · have hd' : (d == 0) = false := by simp [hd0]
      go_wp2_with (first
        | (go_at_call 37; (with_reducible refine (CA.out _ (Old.refl _)).mono ?_); rintro e w1 ⟨rfl, o1⟩)
        | (go_at_call 37; (with_reducible refine (CB.out _ o1).mono ?_); rintro e w2 ⟨rfl, o2⟩; have o3 := Old.trans o1 o2))
      go_ret
      exact ⟨false, .inl ⟨.inr (by rw [hd.out]; exact hd0), rfl⟩, rfl, o3⟩
  · have hc' : (c == 0) = false := by simp [hc0]
    go_wp2_with (go_at_call 37; (with_reducible refine (CA.out _ (Old.refl _)).mono ?_); rintro e w1 ⟨rfl, o1⟩)
    go_ret
    exact ⟨false, .inl ⟨.inl (by rw [hc.out]; exact hc0), rfl⟩, rfl, o1⟩

set_option maxRecDepth 100000 in
set_option maxHeartbeats 1000000 in
theorem ref_Get (v : Value) (t : List Nd) (key : ByteArray) (ps : List Nd) (is : Bool) (w : World) (ht : NodesIs w v t) (hk : TextsOk t) (hg : GetT t key ps is) :
    Calls Tryd.prog 43 #[v, .string key] w (NewNodesB w ps is) := by
  have HTN := hide ht
  have HK := hide hk
  obtain ⟨A, ca, rfl, hla, hma, hc⟩ := ht.nodes
  unfold maxLen at hma
  by_cases h0 : chkT t = 0
  · obtain ⟨⟨h, l⟩, hj⟩ := may_of h0
    have HJ := hide hj
    have hd : t.drop 0 = J.flat (.mk h l) ++ [] := by rw [List.drop_zero, List.append_nil]; exact hj.1.2.2
    obtain ⟨hpos, hx⟩ := head_flat (j := .mk h l) hd
    have hl4 := hj.2.1
    have CK := hide (ref_Kids (.slice A t.length ca) t (starts (0 + 1) l) w HTN.out HK.out (.inl ⟨h, l, hj, rfl⟩))
    have CP := hide (show ∀ w' l1 j l2, Old w w' → l = l1 ++ j :: l2 → Calls Tryd.prog 42 #[.slice A t.length ca, .int .i64 ((0 + 1 + (J.flats l1).length : Nat) : Int)] w' fun e w2 => ∃ v, e = .returned v ∧ NodesT w.heap.size w2 v j.unkey.flat ∧ Old w w2 from fun w' l1 j l2 ho e =>
      (ref_Part _ t _ _ w' (HTN.out.old ho) HK.out (part_kid (by rw [← e]; exact HJ.out))).mono fun _ _ ⟨v, h1, h2, h3⟩ => ⟨v, h1, h2.mono ho.size, Old.trans ho h3⟩)
    obtain ⟨b1, o1, rfl, hc1⟩ := hc.resolve_left (by omega)
    obtain ⟨d0, _⟩ := hc1 0 hpos
    rw [hx] at d0
    have D0 := hide (show w.cell? ⟨b1, o1, none⟩ = some (.int .i64 h.kind) by simpa [J.hd] using d0)
    have HC := hide hc1
    have HD := hide hd
    have HG := hide hg
    have hnk : l.length ≤ t.length := by
      have e := congrArg List.length hd
      rw [flat_mk] at e
      have := len_flats l
      simp at e
      omega
    clear hc hc1 d0 hd hx hj hg h0 ht hk
    go_enter Tryd.func43, Tryd.ntmps43
    go_wp2_with fail
    refine CK.out.mono ?_
    rintro e w2 ⟨kv, rfl, hkv, ow2⟩
    obtain ⟨n, hn⟩ : ∃ n, Hid (l.length = n) := ⟨_, hide rfl⟩
    obtain ⟨AK, ck, rfl, k1, k2, k3⟩ := ints_cell hkv (show (starts (0 + 1) l).length = n by rw [starts_length, hn.out])
    unfold maxLen at k2
    have K3 := hide k3
    have O2 := hide ow2
    have hn4 : n ≤ 4000 := by have := hn.out; omega
    clear hkv k3 ow2 hnk
    by_cases hk7 : h.kind = 7
    · have hk7' : (h.kind == 7) = true := by simp [hk7]
      have HMEM := hide (show (member l key = none ∧ ps = [] ∧ is = false) ∨ ∃ j, member l key = some j ∧ ps = j.unkey.flat ∧ is = true by
        rcases HG.out with ⟨hbad, _⟩ | ⟨h', l', hj', _, hm⟩
        · rcases hbad with hb | ⟨h', l', hj', hne⟩
          · exact absurd (chkT_may HJ.out) hb
          · have := flat_inj (HJ.out.1.2.2.symm.trans hj'.1.2.2)
            injection this with e1 _
            exact absurd (by rw [← e1]; exact hk7) hne
        · have := flat_inj (HJ.out.1.2.2.symm.trans hj'.1.2.2)
          injection this with _ e2
          rw [e2]
          exact hm)
      clear hk7
      go_wp2_with fail
      go_loopw [7] (fun i wr => ∃ (l1 l2 : List J) (k : Nat), i = .int .i64 k ∧ k ≤ n ∧ Hid (l = l1 ++ l2) ∧ Hid (l1.length = k) ∧ Hid (∀ j ∈ l1, j.key ≠ key) ∧ Hid (Old w2 wr)) (fun i _ => n - (intOf i).toNat)
      case atStart => exact ⟨[], l, 0, rfl, by omega, hide rfl, hide rfl, hide (by simp), hide (Old.refl _)⟩
      case round =>
        obtain ⟨l1, l2, k, rfl, hk, HL, HL1, HNO, HO⟩ := hrel
        by_cases hkn : k < n
        · cases l2 with
          | nil =>
            exfalso
            have h1 := HL.out
            have h2 := HL1.out
            have h3 := hn.out
            rw [h1] at h3
            simp at h3
            omega
          | cons j l3 =>
            obtain ⟨bk, ok, rfl, hkc⟩ := K3.out.resolve_left (by omega)
            have hst := hkc k (0 + 1 + (J.flats l1).length) (by
              have := starts_at (a := 0 + 1) (l1 := l1) (l2 := l3) (j := j)
              rw [← HL.out, HL1.out] at this
              exact this)
            have HDP : t.drop (0 + 1 + (J.flats l1).length) = j.flat ++ (J.flats l3 ++ []) := by
              have := HD.out
              rw [HL.out] at this
              rw [drop_flat this, flats_cons, List.append_assoc]
            obtain ⟨hpt, hpx⟩ := head_flat HDP
            obtain ⟨_, d1, _⟩ := HC.out _ hpt
            rw [hpx] at d1
            have CPJ := hide (fun w' ho => CP.out w' l1 j l3 ho HL.out)
            obtain ⟨p, hp⟩ : ∃ p, Hid (0 + 1 + (J.flats l1).length = p) := ⟨_, hide rfl⟩
            rw [hp.out] at hst hpt d1 CPJ
            have hst2 := HO.out.cell hst
            have d12 := (Old.trans O2.out HO.out).cell d1
            have d0 := (Old.trans O2.out HO.out).cell D0.out
            clear hkc hst HDP hpx d1
            by_cases hkey : j.key = key
            · have HKEY := hide hkey
              have hke : j.hd.key = key := hkey
              simp only [hke] at d12
              clear hkey hke
              go_wp2_with fail
              refine (CPJ.out _ (Old.trans O2.out HO.out)).mono ?_
              rintro e w3 ⟨pv, rfl, h3, o3⟩
              have P3 := hide h3
              clear h3
              have FIN := hide (show ps = j.unkey.flat ∧ is = true by
                have hm : member l key = some j := by rw [HL.out, member_none HNO.out, member_here HKEY.out]
                rcases HMEM.out with ⟨h, _, _⟩ | ⟨j', h, h5, h6⟩
                · rw [hm] at h; cases h
                · rw [hm] at h
                  injection h with h
                  subst h
                  exact ⟨h5, h6⟩)
              go_wp2_with fail
              go_ret2
              exact ⟨_, by rw [FIN.out.2]; rfl, by rw [FIN.out.1]; exact P3.out, o3⟩
            · have hkey1 : ¬ j.hd.key.toList = key.toList := fun e => hkey (bytes_ext e)
              have hkey2 : (j.hd.key.toList == key.toList) = false := beq_eq_false_iff_ne.2 hkey1
              have HKEY := hide hkey
              clear hkey
              go_wp2_with fail
              go_roundw
              case rel => exact ⟨l1 ++ [j], l3, k + 1, by go_num, by omega, hide (by rw [HL.out]; simp), hide (by simp [HL1.out]), hide (by intro x hx; rcases List.mem_append.1 hx with hx | hx; exact HNO.out x hx; simp at hx; subst hx; exact HKEY.out), HO⟩
              case measure => simp [intOf]; omega
        · have hkk : k = n := by omega
          have FIN := hide (show ps = [] ∧ is = false by
            have hl2 : l2 = [] := by
              have h1 := hn.out
              have h2 := HL1.out
              rw [HL.out, List.length_append] at h1
              exact List.eq_nil_of_length_eq_zero (by omega)
            have hm : member l key = none := by
              rw [HL.out, hl2, member_none HNO.out]
              rfl
            rcases HMEM.out with ⟨_, h5, h6⟩ | ⟨j', h, _, _⟩
            · exact ⟨h5, h6⟩
            · rw [hm] at h; cases h)
          go_wp2_with fail
          go_ret2
          exact ⟨_, by rw [FIN.out.2]; rfl, by rw [FIN.out.1]; exact SlT.nil_ _, Old.trans O2.out HO.out⟩
    · have hk7' : (h.kind == 7) = false := by simp [hk7]
      have FIN := hide (show ps = [] ∧ is = false by
        rcases HG.out with ⟨_, h5, h6⟩ | ⟨h', l', hj', h7, hm⟩
        · exact ⟨h5, h6⟩
        · have := flat_inj (HJ.out.1.2.2.symm.trans hj'.1.2.2)
          injection this with e1 _
          exact absurd (by rw [e1]; exact h7) hk7)
      clear hk7
      go_wp2_with fail
      go_loopw [7] (fun i wr => ∃ k : Nat, i = .int .i64 k ∧ k ≤ n ∧ Hid (Old w2 wr)) (fun i _ => n - (intOf i).toNat)
      case atStart => exact ⟨0, rfl, by omega, hide (Old.refl _)⟩
      case round =>
        obtain ⟨k, rfl, hk, HO⟩ := hrel
        have d0 := (Old.trans O2.out HO.out).cell D0.out
        by_cases hkn : k < n
        · go_wp2_with fail
          go_roundw
          case rel => exact ⟨k + 1, by go_num, by omega, HO⟩
          case measure => simp [intOf]; omega
        · go_wp2_with fail
          go_ret2
          exact ⟨_, by rw [FIN.out.2]; rfl, by rw [FIN.out.1]; exact SlT.nil_ _, Old.trans O2.out HO.out⟩
  · have CK := hide (ref_Kids (.slice A t.length ca) t [] w HTN.out HK.out (.inr ⟨h0, rfl⟩))
    have FIN := hide (show ps = [] ∧ is = false by
      rcases hg with ⟨_, h5, h6⟩ | ⟨h', l', hj', h7, hm⟩
      · exact ⟨h5, h6⟩
      · exact absurd (chkT_may hj') h0)
    clear hg h0 hc ht hk
    go_enter Tryd.func43, Tryd.ntmps43
    go_wp2_with fail
    refine CK.out.mono ?_
    rintro e w2 ⟨kv, rfl, hkv, ow2⟩
    obtain ⟨AK, ck, rfl, k1, k2, _⟩ := ints_cell hkv (show ([] : List Nat).length = 0 from rfl)
    unfold maxLen at k2
    have O2 := hide ow2
    clear hkv ow2
    go_wp2_with fail
    go_loopw [7] (fun i wr => i = .int .i64 0 ∧ Hid (Old w2 wr)) (fun i _ => 0 - (intOf i).toNat)
    case atStart => exact ⟨rfl, hide (Old.refl _)⟩
    case round =>
      obtain ⟨rfl, HO⟩ := hrel
      go_wp2_with fail
      go_ret2
      exact ⟨_, by rw [FIN.out.2]; rfl, by rw [FIN.out.1]; exact SlT.nil_ _, Old.trans O2.out HO.out⟩
end Go.Proofs.YtkefhhnbkhijgaaDoor
