/- GroupBack. -/
import Derived.Test.YtmfbblcipakaiaaGreatDoorGrpMx
namespace Go.Proofs.YtmfbblcipakaiaaGreatDoor
open Go.RowKit

set_option maxRecDepth 100000 in
set_option maxHeartbeats 4000000 in
theorem back_law (k0 k1 : Int) (v1 v2 : Value) (l1 l2 : List Ent) (w : World) (hl1 : EntsIs w v1 l1) (hf1 : EFits l1) (hl2 : EntsIs w v2 l2) (hf2 : EFits l2) (hp : PowTab w) :
    Calls Tryz.prog 5 #[.agg #[.int .i64 k0, .int .i64 k1], v1, v2] w fun e w' => e = .returned (.bool true) ∧ Old w w' := by
  have CM := hide (fun w' => made_run k0 k1 w')
  have hK := brg_lt k0 (n := 4) (by omega)
  have hS := brg_lt k1 (n := 4) (by omega)
  obtain ⟨K, hKe⟩ : ∃ K, K = brg k0 4 := ⟨_, rfl⟩
  obtain ⟨S, hSe⟩ : ∃ S, S = brg k1 4 := ⟨_, rfl⟩
  rw [← hKe, ← hSe] at CM
  rw [← hKe] at hK
  rw [← hSe] at hS
  clear hKe hSe
  obtain ⟨q1, hq1⟩ : ∃ q, q = cutEs l1 := ⟨_, rfl⟩
  obtain ⟨x, hq2⟩ : ∃ q, q = cutEs l2 := ⟨_, rfl⟩
  have n1 : q1.length ≤ 12 := by rw [hq1]; exact cutEs_len _
  have n2 : x.length ≤ 12 := by rw [hq2]; exact cutEs_len _
  have C1 := hide (fun w' (o : Old w w') => lst_cut v1 l1 (hl1.old o))
  have C2 := hide (fun w' (o : Old w w') => lst_cut v2 l2 (hl2.old o))
  have F1 := hide (cutEs_fine hf1)
  have F2 := hide (cutEs_fine hf2)
  rw [← hq1] at C1 F1
  rw [← hq2] at C2 F2
  have HP := hide hp
  clear hl1 hl2 hf1 hf2 hp hq1 hq2
  go_enter Tryz.func5, Tryz.ntmps5
  go_wp2_with fail
  refine (CM.out _).mono ?_
  rintro e w1 ⟨g, bm, rfl, hg, hbm, hG, ho⟩
  have S0 : Hid (LSt w w1 g bm K S 0 gZero) := hide (LSt.made HP.out ((Old.refl w).alloc _) hK hS hg hbm hG ho)
  clear hg hbm hG ho CM
  go_wp2_with fail
  refine (C1.out _ S0.out.old).mono ?_
  rintro e w2 ⟨A2, c2, rfl, -, -, i2, o2⟩
  have I2 := hide i2
  have S2 := hide (S0.out.step o2)
  obtain ⟨n, hn⟩ : ∃ n, appErr K S gZero q1 = n := ⟨_, rfl⟩
  have HN := hide hn
  clear i2 o2 S0 C1 hn
  go_wp2_with fail
  refine (lst_apply _ q1 n S2.out I2.out (by omega) (by omega) F1.out HN.out).mono ?_
  rintro e w3 ⟨A3, c3, z3, rfl, -, -, -, -, -, s3, -⟩
  obtain ⟨f, hf⟩ : ∃ f, f = appF K S gZero q1 := ⟨_, rfl⟩
  rw [← hf] at s3
  have HF := hide hf
  have S3 := hide (s3.mono (n := 12) (by omega))
  clear s3 S2 I2 hf F1
  go_wp2_with fail
  refine (lst_rows S3.out (by omega)).mono ?_
  rintro e w4 ⟨A4, c4, zw, rfl, -, -, i4, r4, -, o4⟩
  have IW4 := hide i4
  have RW := hide r4
  have S4 := hide (S3.out.step o4)
  clear i4 r4 o4 S3
  go_wp2_with fail
  refine (C2.out _ S4.out.old).mono ?_
  rintro e w6 ⟨A6, c6, rfl, hx1, hx2, i6, o6⟩
  have S6 := hide (S4.out.step o6)
  have IW6 := hide (IW4.out.old o6)
  obtain ⟨A6', c6', us, vs, hv6, -, -, hul, hvl, hur, hvr, hcs⟩ := i6.open_
  injection hv6 with hA6 _ hc6
  subst hA6
  subst hc6
  have HCS := hide hcs
  have HUR := hide hur
  have HVR := hide hvr
  have M0 := hide (MixE.nil_ w6 w6)
  unfold maxLen at hx2
  clear i6 o6 IW4 S4 C2 hcs hur hvr
  go_wp2_with fail
  go_loopw [11, 12, 14] (fun s b i wz => ∃ k : Nat, i = .int .i64 k ∧ k ≤ x.length ∧ Hid (MixE w6 wz s (kept (x.take k))) ∧ Hid (MixE w6 wz b ((kept (x.take k)).map turned)) ∧ Hid (Away s b) ∧ Hid (Old w6 wz)) (fun _ _ i _ => x.length - (intOf i).toNat)
  case atStart => exact ⟨0, rfl, by omega, M0, M0, hide (Away.nil_ _), hide (Old.refl _)⟩
  case round =>
    obtain ⟨k, rfl, hk, MS, MB, HA, OZ⟩ := hrel
    clear M0
    by_cases hlt : k < x.length
    · have hku : k < us.length := by omega
      have hkv : k < vs.length := by omega
      obtain ⟨b, off, rfl, hcs⟩ := HCS.out.resolve_left (by omega)
      obtain ⟨y0, y1, y2⟩ := hcs k hlt hku hkv
      have hku1 := hide (HUR.out k hlt hku)
      have hkv1 := hide (HVR.out k hlt hkv)
      have hfk := hide (F2.out x[k] (List.getElem_mem hlt))
      obtain ⟨ek, hek⟩ : ∃ ek, x[k] = ek := ⟨_, rfl⟩
      obtain ⟨uk, huk⟩ : ∃ uk, us[k] = uk := ⟨_, rfl⟩
      obtain ⟨vk, hvk⟩ : ∃ vk, vs[k] = vk := ⟨_, rfl⟩
      obtain ⟨wk, hwk⟩ : ∃ wk, ek.w = wk := ⟨_, rfl⟩
      have htk : x.take (k + 1) = x.take k ++ [ek] := by rw [List.take_succ_eq_append_getElem hlt, hek]
      have HTK := hide htk
      rw [hek] at y2 hku1 hkv1 hfk
      rw [hwk] at y2
      rw [huk] at y0 hku1
      rw [hvk] at y1 hkv1
      have hx0 : ∀ w', Old w6 w' → w'.cell? ⟨b, off + k * 3, none⟩ = some uk := fun w' h => h.cell y0
      have hx1 : ∀ w', Old w6 w' → w'.cell? ⟨b, off + k * 3 + 1, none⟩ = some vk := fun w' h => h.cell y1
      have hx2' : ∀ w', Old w6 w' → w'.cell? ⟨b, off + k * 3 + 2, none⟩ = some (.int .i64 wk) := fun w' h => h.cell y2
      have c0 := hx0 _ OZ.out
      have c1 := hx1 _ OZ.out
      have c2 := hx2' _ OZ.out
      have HWK := hide hwk
      clear y0 y1 y2 hcs hek huk hvk htk hwk HUR HVR
      obtain ⟨Au, cu, rfl, -⟩ := id hku1.out
      obtain ⟨Av, cv, rfl, -⟩ := id hkv1.out
      by_cases hmin : wk = -9223372036854775808
      · have hke : kept (x.take (k + 1)) = kept (x.take k) := by rw [HTK.out, kept_snoc_no (by rw [HWK.out, hmin]; rfl)]
        have HKE := hide hke
        subst hmin
        clear hke
        go_wp2_with fail
        go_roundw
        case rel => exact ⟨k + 1, by go_num, by omega, by rw [HKE.out]; exact MS, by rw [HKE.out]; exact MB, HA, OZ⟩
        case measure => simp [intOf]; omega
      · have hke : kept (x.take (k + 1)) = kept (x.take k) ++ [ek] := by rw [HTK.out, kept_snoc_yes (by rw [HWK.out]; exact hmin)]
        have HKE := hide hke
        have hfit := hfk.out.w
        rw [HWK.out] at hfit
        have hlen : (kept (x.take k)).length + 1 ≤ 2097152 := by have := kept_len (x.take k); simp at this; omega
        have hlen2 : ((kept (x.take k)).map turned).length + 1 ≤ 2097152 := by rw [List.length_map]; exact hlen
        clear hke
        go_wp2_with (at_builtin; refine wpList_plain rfl (fun KK hKK => ?_); refine step_push_two w6 _ _ _ rfl _ _ rfl (MS.out.old ((Old.refl _).alloc _)) _ _ (MB.out.old ((Old.refl _).alloc _)) HA.out _ _ (.slice Au ek.key.length cu) (.slice Av ek.vals.length cv) ek rfl (by go_simp) (by go_simp) (by go_simp; exact HWK.out.symm) hku1.out hkv1.out hlen (OZ.out.alloc _) ?_; intro v8 w8 m8 b8 a8 o8; refine hKK _ _ ?_; clear hKK)
        have M8 := hide m8
        have B8 := hide b8
        have A8 := hide a8
        have hneg : (IntKind.i64).wrap (-wk) = -wk := IntWalk.i64_in _ (by unfold fit at hfit; omega)
        clear m8 b8 a8 c0 c1 c2 MS MB HA
        go_region_held3 (fun w' => Old w6 w')
          (first | assumption | (exact Old.drew o8) | (exact Old.alloc (by assumption) _) | (exact Old.trans (by assumption) (by assumption)))
          (first
            | (refine step_push_two w6 _ _ _ rfl _ _ rfl (B8.out.old (Old.trans (Old.drew (Old.refl _)) (Old.alloc (Old.refl _) _))) _ _ (M8.out.old (Old.trans (Old.drew (Old.refl _)) (Old.alloc (Old.refl _) _))) A8.out.symm _ _ (.slice Au ek.key.length cu) (.slice Av ek.vals.length cv) (turned ek) rfl (by go_simp) (by go_simp) (by go_simp; exact (show -wk = -ek.w by rw [HWK.out])) hku1.out hkv1.out hlen2 (by assumption) ?_; intro v9 w9 b9 m9 a9 o9)
            | (fail "none"))
        have B9 := hide b9
        have M9 := hide m9
        have A9 := hide a9.symm
        have O9 := hide o9
        clear b9 m9 a9
        go_wp2_with fail
        go_roundw
        case rel => exact ⟨k + 1, by go_num, by omega, by rw [HKE.out]; exact M9, by rw [HKE.out, List.map_append]; exact B9, A9, O9⟩
        case measure => simp [intOf]; omega
    · have hke : x.take k = x := by rw [show k = x.length by omega, List.take_length]
      rw [hke] at MS MB
      have SZ := hide (S6.out.step OZ.out)
      have IWZ := hide (IW6.out.old OZ.out)
      have IS := hide (MS.out.is OZ.out)
      have IB := hide (MB.out.is OZ.out)
      have FS := hide (kept_fine F2.out)
      have FB := hide (back_fine F2.out)
      obtain ⟨s, hs⟩ : ∃ s, s = kept x := ⟨_, rfl⟩
      have hslen : s.length ≤ 12 := by rw [hs]; have := kept_len x; omega
      rw [← hs] at IS IB FS FB
      have hblen : (s.map turned).length ≤ 12 := by rw [List.length_map]; exact hslen
      obtain ⟨n2, hn2⟩ : ∃ n, appErr K S f s = n := ⟨_, rfl⟩
      have HN2 := hide hn2
      have hor := appErr_or K S f s
      rw [hn2] at hor
      clear hs hke MS MB HA OZ S6 IW6 F2 HUR HVR HCS hn2
      go_wp2_with fail
      refine (lst_apply _ s n2 SZ.out IS.out (by omega) (by omega) FS.out HN2.out).mono ?_
      rintro e w11 ⟨A11, c11, z1, rfl, -, -, i11, d11, hz1, s11, t11⟩
      have I11 := hide i11
      have D11 := hide d11
      have S11 := hide (s11.mono (n := 24) (by omega))
      have IW11 := hide (t11.items IWZ.out)
      have IB11 := hide (t11.ents IB.out)
      have FIT := hide SZ.out.fit
      clear i11 d11 s11 t11 IWZ IB SZ IS
      by_cases h0 : n2 = 0
      · subst h0
        obtain ⟨be, bf⟩ := back_err FIT.out HN2.out
        have BE := hide be
        clear be
        go_wp2_with fail
        refine (lst_apply _ (s.map turned) 0 S11.out IB11.out (by omega) (by omega) FB.out BE.out).mono ?_
        rintro e w12 ⟨A12, c12, z2, rfl, -, -, i12, d12, hz2, s12, t12⟩
        rw [bf] at d12 s12
        have I12 := hide i12
        have HCH := hide (chain_none D11.out d12)
        have S12 := hide s12
        have IW12 := hide (t12.items IW11.out)
        have J12 := hide (t12.items I11.out)
        have FN := hide ((delta_fine D11.out (by omega) (by omega) hz1).append (delta_fine d12 (by omega) (by omega) hz2))
        have hz3 : z1.length + z2.length ≤ 48 := by omega
        have MX := hide (mix_start w12)
        clear i12 d12 s12 t12 IW11 I11 D11 S11 IB11 bf BE hz1 hz2
        go_wp2_with (at_builtin; refine wpList_plain rfl (fun KK hKK => ?_); first | (refine step_push_items w12 _ _ _ rfl _ _ rfl MX.out _ z1 rfl J12.out ((Old.refl _).alloc _) (by simp; omega) ?_; intro v13 w13 m13 o13; refine hKK _ _ ?_; clear hKK) | (refine step_push_items w12 _ _ _ rfl _ _ rfl m13 _ z2 rfl I12.out o13 (by simp; omega) ?_; intro v14 w14 m14 o14; refine hKK _ _ ?_; clear hKK))
        have CN := hide (zset_Norm v14 (z1 ++ z2) w14 (by simpa using m14.is o14) (by simp; omega) FN.out.short FN.out.fits)
        rw [HCH.out.1, HCH.out.2] at CN
        have S14 := hide (S12.out.step o14)
        have IW14 := hide (IW12.out.old o14)
        clear m13 o13 m14 o14 MX FN HCH S12 IW12 J12 I12
        refine CN.out.mono ?_
        rintro e w15 ⟨v15, rfl, i15, o15⟩
        obtain ⟨A15, c15, u15, rfl, -⟩ := id i15.is.open_
        have S15 := hide (S14.out.step o15)
        have IW15 := hide (IW14.out.old o15)
        clear i15 o15 S14 IW14 CN
        go_wp2_with fail
        refine (lst_rows S15.out (by omega)).mono ?_
        rintro e w16 ⟨A16, c16, zr, rfl, -, -, i16, r16, -, o16⟩
        have CS := hide (same_true _ _ zr zw w16 i16 (IW15.out.old o16) (r16.unique RW.out))
        have O16 := hide (S15.out.old.trans o16)
        clear i16 r16 o16 S15 IW15
        go_wp2_with fail
        refine CS.out.mono ?_
        rintro e w17 ⟨rfl, o17⟩
        have O17 := hide (O16.out.trans o17)
        clear o17 O16 CS
        go_wp2_with fail
        refine (works_run _ (HP.out.old O17.out)).mono ?_
        rintro e u1 ⟨rfl, y1⟩
        have OE := hide (O17.out.trans y1)
        clear y1
        go_wp2_with fail
        go_ret
        exact ⟨rfl, OE.out⟩
      · have hF : appF K S f s = f := by unfold appF; rw [if_neg (by rw [HN2.out]; exact h0)]
        rw [hF] at S11
        have hor1 := appErr_or K S gZero q1
        rw [HN.out] at hor1
        have HZ := hide (show n ≠ 0 → zw = [] from fun h => by
          have hf : f = gZero := by rw [HF.out]; unfold appF; rw [if_neg (by rw [HN.out]; exact h)]
          have r := RW.out
          rw [hf] at r
          exact r.unique (RowsZ.none_ K S))
        clear hF I11 D11 IB11 FIT FS FB
        rcases hor with rfl | rfl | rfl
        · exact absurd rfl h0
        all_goals
          clear h0
          go_wp2_with fail
          refine (lst_rows S11.out (by omega)).mono ?_
          rintro e w12 ⟨A12, c12, zr, rfl, -, -, i12, r12, -, o12⟩
          have CS := hide (same_true _ _ zr zw w12 i12 (IW11.out.old o12) (r12.unique RW.out))
          have O12 := hide (S11.out.old.trans o12)
          clear i12 r12 o12
          go_wp2_with fail
          refine CS.out.mono ?_
          rintro e w13 ⟨rfl, o13⟩
          have O13 := hide (O12.out.trans o13)
          clear o13 O12 CS S11 IW11
          rcases hor1 with rfl | rfl | rfl
          · clear HZ
            go_wp2_with fail
            refine (works_run _ (HP.out.old O13.out)).mono ?_
            rintro e u1 ⟨rfl, y1⟩
            have OE := hide (O13.out.trans y1)
            clear y1
            go_wp2_with fail
            go_ret
            exact ⟨rfl, OE.out⟩
          · obtain rfl := HZ.out (by decide)
            go_wp2_with fail
            refine (works_run _ (HP.out.old O13.out)).mono ?_
            rintro e u1 ⟨rfl, y1⟩
            have OE := hide (O13.out.trans y1)
            clear y1
            go_wp2_with fail
            go_ret
            exact ⟨rfl, OE.out⟩
          · obtain rfl := HZ.out (by decide)
            go_wp2_with fail
            refine (works_run _ (HP.out.old O13.out)).mono ?_
            rintro e u1 ⟨rfl, y1⟩
            have OE := hide (O13.out.trans y1)
            clear y1
            go_wp2_with fail
            go_ret
            exact ⟨rfl, OE.out⟩
end Go.Proofs.YtmfbblcipakaiaaGreatDoor
