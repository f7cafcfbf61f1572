/- TapeSorted: the walk. -/
import Derived.Test.YtkefhhnbkhijgaaDoorSrtL
import Derived.Test.YtkefhhnbkhijgaaDoorDeepT
namespace Go.Proofs.YtkefhhnbkhijgaaDoor
open Go.RowKit

theorem SortedT.known {t ps : List Nd} {j : J} (h : SortedT t ps) (hj : May t j) : ps = j.sort.flat := by
  obtain ⟨j', hj', rfl⟩ := h.good (chkT_may hj)
  rw [flat_inj (hj'.1.2.2.symm.trans hj.1.2.2)]
theorem sorted_again {t ps : List Nd} {j : J} (h : SortedT j.sort.flat ps) (hj : May t j) : ps = j.sort.flat := by
  rw [h.known hj.sorted, sort_srt.1 _ (srt_sort.1 j hj.1.1)]
/-- two members that follow each other -/
theorem kids_two {X : List Nd} {h : Hd} {l : List J} (hm : May X (.mk h l)) (hs : (J.mk h l).Srt) {k : Nat} (hk : k + 1 < l.length) : ∃ p q, (starts 1 l)[k]? = some p ∧ (starts 1 l)[k + 1]? = some q ∧ 1 ≤ p ∧ p < q ∧ q < X.length ∧
    ∃ y z, X[p]? = some y ∧ X[q]? = some z ∧ (h.kind = 7 → keyLt y.key z.key) := by
  have hk0 : k < l.length := by omega
  have s1 : l = l.take k ++ l[k] :: l.drop (k + 1) := by rw [← List.drop_eq_getElem_cons hk0, List.take_append_drop]
  have s2 : l = l.take (k + 1) ++ l[k + 1] :: l.drop (k + 1 + 1) := by rw [← List.drop_eq_getElem_cons hk, List.take_append_drop]
  have d1 : X.drop (0 + 1 + (J.flats (l.take k)).length) = l[k].flat ++ J.flats (l.drop (k + 1)) := kid_drop (h := h) (by rw [← s1]; exact hm.1.2.2)
  have d2 : X.drop (0 + 1 + (J.flats (l.take (k + 1))).length) = l[k + 1].flat ++ J.flats (l.drop (k + 1 + 1)) := kid_drop (h := h) (by rw [← s2]; exact hm.1.2.2)
  have a1 := starts_at (a := 0 + 1) (l1 := l.take k) (l2 := l.drop (k + 1)) (j := l[k])
  have a2 := starts_at (a := 0 + 1) (l1 := l.take (k + 1)) (l2 := l.drop (k + 1 + 1)) (j := l[k + 1])
  rw [← s1, show (l.take k).length = k by simp; omega] at a1
  rw [← s2, show (l.take (k + 1)).length = k + 1 by simp; omega] at a2
  obtain ⟨h1, x1⟩ := head_flat d1
  obtain ⟨h2, x2⟩ := head_flat d2
  have hq : (J.flats (l.take (k + 1))).length = (J.flats (l.take k)).length + l[k].flat.length := by rw [flats_take_snoc hk0, List.length_append]
  have hpos := flat_pos l[k]
  refine ⟨_, _, a1, a2, by omega, by omega, h2, _, _, List.getElem?_eq_getElem h1, List.getElem?_eq_getElem h2, fun h7 => ?_⟩
  rw [x1, x2]
  exact List.pairwise_iff_getElem.1 (hs.1 h7) k (k + 1) hk0 hk (by omega)

set_option maxRecDepth 100000 in
set_option maxHeartbeats 4000000 in
theorem tapeSorted_run (u : Value) (l : List Int) (w : World) (h : NumsIs w u l) (hT : Tabs w) (WK : WorksOk) :
    Calls Tryd.prog 8 #[.agg #[u]] w fun e w' => e = .returned (.bool true) ∧ Old w w' := by
  have HT := hide hT
  have CD := hide (fun w' (o : Old w w') => drawn_run u l w' (h.old o) (hT.old o))
  clear h hT
  go_enter Tryd.func8, Tryd.ntmps8
  go_wp2_with fail
  refine (CD.out _ (Old.alloc (Old.refl _) _)).mono ?_
  rintro e w1 ⟨v1, t, j, rfl, n1, m1, x1, d1, l1, o1⟩
  obtain ⟨n, hn⟩ : ∃ n, Hid (t.length = n) := ⟨_, hide rfl⟩
  have hn3 : n ≤ 301 := by rw [← hn.out]; exact l1
  obtain ⟨A1, c1, rfl, q1, r1⟩ := nodes_form n1 hn.out
  unfold maxLen at r1
  have N1 := hide (SlT.sl n1)
  have M1 := hide m1
  have X1 := hide x1
  have O1 := hide (Old.trans (Old.alloc (Old.refl _) _) o1)
  have HT1 := hide (HT.out.old O1.out)
  clear n1 m1 x1 o1 d1 l1 CD
  go_wp2_with fail
  refine (sorted_run _ t w1 N1.out X1.out HT1.out).mono ?_
  rintro e w2 ⟨ps, hps, v2, rfl, n2, o2⟩
  obtain rfl := hps.known M1.out
  have MU := hide M1.out.sorted
  have XU := hide (texts_sort.1 j (by rw [← M1.out.1.2.2]; exact X1.out))
  have LU := hide (show j.sort.flat.length = n by rw [sort_len.1, ← M1.out.1.2.2, hn.out])
  have SU := hide (srt_sort.1 j M1.out.1.1)
  have SS := hide (fun (B : Bool) (hB : SameT t j.sort.flat B) => same_sorts hB M1.out MU.out (sort_srt.1 _ SU.out).symm)
  have SA := hide (fun (ps : List Nd) (hp : SortedT j.sort.flat ps) => sorted_again hp M1.out)
  have DU := hide (sort_deep.1 j)
  obtain ⟨s, hs⟩ : ∃ s, Hid (j.sort = s) := ⟨_, hide rfl⟩
  rw [hs.out] at n2 MU XU LU SU SS SA DU
  obtain ⟨U, hU⟩ : ∃ x, Hid (s.flat = x) := ⟨_, hide rfl⟩
  rw [hU.out] at n2 MU XU LU SS SA
  obtain ⟨A2, c2, rfl, q2, r2⟩ := nodes_form n2 LU.out
  unfold maxLen at r2
  obtain ⟨d, hd⟩ : ∃ d, Hid (j.deep = d) := ⟨_, hide rfl⟩
  have N2 := hide (SlT.sl n2)
  have O2 := hide o2
  have N1' := hide (N1.out.old o2)
  have HT2 := hide (HT1.out.old o2)
  clear n2 o2 hps N1
  go_wp2_with fail
  refine (num_as (check_run _ U w2 N2.out XU.out HT2.out) (chkT_may MU.out)).mono ?_
  rintro e w3 ⟨rfl, o3⟩
  have O3 := hide o3
  clear o3
  go_wp2_with fail
  refine (deep_may (d := (d : Int)) (N2.out.old O3.out) MU.out XU.out (HT2.out.old O3.out) (by rw [DU.out, hd.out])).mono ?_
  rintro e w4 ⟨rfl, o4⟩
  have O4 := hide (Old.trans O3.out o4)
  clear o4
  go_wp2_with fail
  refine (deep_may (d := (d : Int)) (N1'.out.old O4.out) M1.out X1.out (HT2.out.old O4.out) (by rw [hd.out])).mono ?_
  rintro e w5 ⟨rfl, o5⟩
  have O5 := hide (Old.trans O4.out o5)
  clear o5
  go_wp2_with fail
  refine (same_run _ _ t U w5 (N1'.out.old O5.out) (N2.out.old O5.out) X1.out XU.out (HT2.out.old O5.out)).mono ?_
  rintro e w6 ⟨B, hB, rfl, o6⟩
  obtain rfl := SS.out B hB
  have O6 := hide (Old.trans O5.out o6)
  clear o6 hB
  go_wp2_with fail
  refine (sorted_run _ U w6 (N2.out.old O6.out) XU.out (HT2.out.old O6.out)).mono ?_
  rintro e w7 ⟨ps, hps, v7, rfl, n7, o7⟩
  rw [SA.out ps hps] at n7
  have O7 := hide (Old.trans O6.out o7)
  have N7 := hide (SlT.sl n7)
  clear o7 n7 hps
  go_wp2_with fail
  refine (eq_true _ _ _ w7 N7.out (N2.out.old O7.out)).mono ?_
  rintro e w8 ⟨rfl, o8⟩
  have O8 := hide (Old.trans O7.out o8)
  have OW8 := hide (Old.trans (Old.trans O1.out O2.out) O8.out)
  clear o8
  go_wp2_with fail
  go_loopw [6] (fun i wr => ∃ k : Nat, i = .int .i64 k ∧ k ≤ n ∧ Hid (Old w2 wr)) (fun i _ => n - (intOf i).toNat)
  case atStart => exact ⟨0, rfl, by omega, O8⟩
  case round =>
    obtain ⟨i, rfl, hi, HO⟩ := hrel
    have HOW := hide (Old.trans (Old.trans O1.out O2.out) HO.out)
    have HTR := hide (HT2.out.old HO.out)
    by_cases hlt : i < n
    · have hiU : i < U.length := by rw [LU.out]; exact hlt
      obtain ⟨j', r, hok, hsr, hdr, hdp⟩ := sub_srt.1 s MU.out.1.1 SU.out i (by rw [hU.out]; exact hiU)
      rw [hU.out] at hdr
      have CP := hide (part_run _ U (i : Nat) j'.unkey.flat wr (N2.out.old HO.out) XU.out HTR.out (.inr ⟨s, j', i, r, MU.out, rfl, hiU, hdr, hok, hdp, rfl⟩))
      have MX := hide (sub_may MU.out hdr hok hdp)
      have XTX := hide (texts_at XU.out hdr)
      have SR := hide (unkey_srt hsr)
      obtain ⟨_, hx⟩ := head_flat hdr
      obtain ⟨N, hN⟩ : ∃ N, Hid (j'.flat.length = N + 1) := ⟨j'.flat.length - 1, hide (by have := flat_pos j'; omega)⟩
      have hN3 : N + 1 ≤ 301 := by
        have e := congrArg List.length hdr
        rw [List.length_append, List.length_drop, hN.out, LU.out] at e
        omega
      obtain ⟨b1, f1, rfl, z0, z1, z2, z3, z4⟩ := nodes_cells (N2.out) (List.getElem?_eq_getElem hiU)
      rw [hx] at z4
      simp only [hN.out] at z4
      have Z4 := hide (show w2.cell? ⟨b1, f1 + i * 5 + 4, none⟩ = some (.int .i64 ((N : Int) + 1)) from z4)
      have hN0 : (((N : Int) + 1) == 0) = false := beq_eq_false_iff_ne.2 (by omega)
      obtain ⟨x, hxx⟩ : ∃ x, Hid (j'.unkey.flat = x) := ⟨_, hide rfl⟩
      obtain ⟨h, l, hhl⟩ : ∃ h l, j'.unkey = .mk h l := by cases j' with | mk h l => exact ⟨_, _, rfl⟩
      have HXL := hide (show x.length = N + 1 by rw [← hxx.out, unkey_size, hN.out])
      rw [hxx.out, hhl] at MX
      rw [hhl] at SR
      rw [hxx.out] at CP XTX
      clear hok hdr hdp hsr hx z0 z1 z2 z3 z4 hxx hhl
      go_wp2_with fail
      refine CP.out.mono ?_
      rintro e w3 ⟨v3, rfl, n3, o3⟩
      obtain ⟨A3, c3, rfl, q3, r3⟩ := nodes_form n3 HXL.out
      unfold maxLen at r3
      have XN := hide (SlT.sl n3)
      have O3' := hide (Old.trans HO.out o3)
      have CK := hide (Kids_run _ x (starts (0 + 1) l) w3 XN.out XTX.out (HT2.out.old O3'.out) (.inl ⟨h, l, MX.out, rfl⟩))
      clear n3 o3 CP
      go_wp2_with fail
      refine CK.out.mono ?_
      rintro e w5 ⟨v5, rfl, n5, o5⟩
      obtain ⟨L, hL⟩ : ∃ L, Hid (l.length = L) := ⟨_, hide rfl⟩
      obtain ⟨A5, c5, rfl, q5, r5, k5⟩ := ints_cell n5 (show (starts (0 + 1) l).length = L by rw [starts_length, hL.out])
      unfold maxLen at r5
      have K5 := hide k5
      have O5' := hide (Old.trans O3'.out o5)
      have z5 := O5'.out.cell Z4.out
      have XN5 := hide (XN.out.old o5)
      have hLN : L ≤ N := by
        have h1 := len_flats l
        have h2 := HXL.out
        rw [MX.out.1.2.2, flat_mk, List.length_cons] at h2
        rw [hL.out] at h1
        omega
      clear n5 o5 k5 CK XN
      obtain ⟨wv, hwv⟩ : ∃ y, y = wr := ⟨_, rfl⟩
      subst hwv
      go_wp2_with fail
      go_loopw [9] (fun kk wz => ∃ k : Nat, kk = .int .i64 k ∧ 1 ≤ k ∧ k ≤ L + 1 ∧ Hid (Old w5 wz)) (fun kk _ => L + 1 - (intOf kk).toNat)
      case atStart => exact ⟨1, rfl, by omega, by omega, hide (by first | exact Old.refl _ | exact Old.drew (Old.refl _))⟩
      case round =>
        obtain ⟨k, rfl, hk1, hk, HZ⟩ := hrel
        by_cases hkL : k < L
        · obtain ⟨m, hm⟩ : ∃ m, Hid (k = m + 1) := ⟨k - 1, hide (by omega)⟩
          obtain ⟨p, q, sp, sq, hp1, hpq, hqx, y, z, hy, hz, hyz⟩ := kids_two (k := m) MX.out SR.out (by rw [hL.out, ← hm.out]; exact hkL)
          rw [← hm.out] at sq
          obtain ⟨b5, f5, rfl, kc⟩ := K5.out.resolve_left (by omega)
          have cp := kc m p sp
          have cq := kc k q sq
          obtain ⟨b3, f3, rfl, y0, y1, _, _, _⟩ := nodes_cells (XN5.out) hy
          obtain ⟨b3', f3', he, z0, z1, _, _, _⟩ := nodes_cells (XN5.out) hz
          injection he with he
          injection he with e1 e2 e3
          subst e1 e2
          clear e3
          obtain ⟨b3', f3', he, k0, _, _, _, _⟩ := nodes_cells (XN5.out) (root_at MX.out.1.2.2)
          injection he with he
          injection he with e1 e2 e3
          subst e1 e2
          clear e3
          simp only [Nat.zero_mul, Nat.add_zero] at k0
          obtain ⟨K, hK⟩ : ∃ K, Hid (h.kind = K) := ⟨_, hide rfl⟩
          rw [hK.out] at k0 hyz
          have hqN : q < N + 1 := by rw [← HXL.out]; exact hqx
          have gp := HZ.out.cell cp
          have gq := HZ.out.cell cq
          have gy := HZ.out.cell y1
          have gz := HZ.out.cell z1
          have gk := HZ.out.cell k0
          have hwk : IntKind.i64.wrap ((k : Int) - 1) = (m : Int) := (IntWalk.i64_in _ (by omega)).trans (by have := hm.out; omega)
          have hmL : m < L := by have := hm.out; omega
          have hK67 : K = 6 ∨ K = 7 := by
            have hok := MX.out.1.1
            simp only [J.Ok] at hok
            rcases hok with ⟨_, hn⟩ | ⟨h6, _⟩ | ⟨h7, _⟩
            · have h1 := hL.out
              rw [hn] at h1
              simp at h1
              omega
            · exact .inl (hK.out.symm.trans h6)
            · exact .inr (hK.out.symm.trans h7)
          clear sp sq kc cp cq y0 y1 z0 z1 k0 hy hz hqx hK
          have g1 : decide ((p : Int) < 0) = false := decide_eq_false (by omega)
          have g2 : decide ((q : Int) ≥ (N : Int) + 1) = false := decide_eq_false (by omega)
          have g3 : decide ((N : Int) + 1 ≤ (q : Int)) = false := decide_eq_false (by omega)
          have g4 : decide (q ≤ p) = false := decide_eq_false (by omega)
          have hpN : p < N + 1 := by omega
          have hpN' : (p : Int) < (N : Int) + 1 := by omega
          have hqN' : (q : Int) < (N : Int) + 1 := by omega
          obtain ⟨yk, hyk⟩ : ∃ s, Hid (y.key = s) := ⟨_, hide rfl⟩
          obtain ⟨zk, hzk⟩ : ∃ s, Hid (z.key = s) := ⟨_, hide rfl⟩
          rw [hyk.out] at gy hyz
          rw [hzk.out] at gz hyz
          rcases hK67 with rfl | rfl
          · clear hyz
            go_wp2_with fail
            go_quiet (fail)
            have OF := hide (Old.trans HZ.out (Old.drewN (Old.refl wr) nq))
            go_wp2_with fail
            go_roundw
            case rel => exact ⟨k + 1, by go_num, by omega, by omega, OF⟩
            case measure => simp [intOf]; omega
          · have hless : Op.bytesLess yk.toList zk.toList = true := (less_iff _ _).2 (hyz rfl)
            clear hyz
            go_wp2_with fail
            go_quiet (fail)
            have OF := hide (Old.trans HZ.out (Old.drewN (Old.refl wr) nq))
            go_wp2_with fail
            go_roundw
            case rel => exact ⟨k + 1, by go_num, by omega, by omega, OF⟩
            case measure => simp [intOf]; omega
        · have OF := hide (Old.trans O5'.out HZ.out)
          go_wp2_with fail
          go_roundw
          case rel => exact ⟨i + 1, by go_num, by omega, OF⟩
          case measure => simp [intOf]; omega
    · go_wp2_with fail
      refine (WK _ HTR.out).mono ?_
      rintro e w60 ⟨rfl, o60⟩
      have O60 := hide (Old.trans HOW.out o60)
      clear o60
      go_wp2_with fail
      go_ret
      exact ⟨rfl, O60.out⟩
end Go.Proofs.YtkefhhnbkhijgaaDoor
