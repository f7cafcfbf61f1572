/- GroupDelta. -/
import Derived.Test.YtmfbblcipakaiaaGreatDoorGrpJ
namespace Go.Proofs.YtmfbblcipakaiaaGreatDoor
open Go.RowKit

set_option maxRecDepth 100000 in
set_option maxHeartbeats 4000000 in
theorem delta_law (k0 k1 : Int) (v : Value) (ls : List (List Ent)) (w : World) (hl : ListsIs w v ls) (hf : ∀ l ∈ ls, EFits l) (hp : PowTab w) :
    Calls Tryz.prog 7 #[.agg #[.int .i64 k0, .int .i64 k1], v] w fun e w' => e = .returned (.bool true) ∧ Old w w' := by
  obtain ⟨vs, hvl, ⟨A, ca, rfl, hla, hma, hb⟩, hents⟩ := hl
  unfold maxLen at hma
  have CM := hide (fun w' => made_run k0 k1 w')
  have hK := brg_lt k0 (n := 4) (by omega)
  have hS := brg_lt k1 (n := 4) (by omega)
  obtain ⟨K, hKe⟩ : ∃ K, K = brg k0 4 := ⟨_, rfl⟩
  obtain ⟨S, hSe⟩ : ∃ S, S = brg k1 4 := ⟨_, rfl⟩
  rw [← hKe, ← hSe] at CM
  rw [← hKe] at hK
  rw [← hSe] at hS
  clear hKe hSe
  have HB := hide hb
  have HE := hide hents
  have HF := hide hf
  have HP := hide hp
  clear hb hents hf hp
  go_enter Tryz.func7, Tryz.ntmps7
  go_wp2_with fail
  refine (CM.out _).mono ?_
  rintro e w1 ⟨g, bm, rfl, hg, hbm, hG, ho⟩
  have S0 : Hid (LSt w w1 g bm K S 0 gZero) := hide (LSt.made HP.out ((Old.refl w).alloc _) hK hS hg hbm hG ho)
  clear hg hbm hG ho CM
  go_wp2_with fail
  go_loopw [6] (fun i wr => ∃ (k : Nat) (f : Gf), i = .int .i64 k ∧ k ≤ ls.length ∧ k ≤ 8 ∧ Hid (LSt w wr g bm K S (12 * k) f)) (fun i _ => ls.length - (intOf i).toNat)
  case atStart => exact ⟨0, gZero, rfl, by omega, by omega, S0⟩
  case round =>
    obtain ⟨k, f, rfl, hk, hk8, HS⟩ := hrel
    clear S0
    by_cases hlt : k < ls.length
    · by_cases h8 : k < 8
      · have hkv : k < vs.length := by omega
        have hEk := hide (HE.out k hlt hkv)
        have hFk := hide (cutEs_fine (HF.out ls[k] (List.getElem_mem hlt)))
        have hne : vs ≠ [] := fun e => by rw [e] at hkv; simp at hkv
        obtain ⟨b, off, rfl, hcs⟩ := HB.out hne
        have hck := hcs k vs[k] (List.getElem?_eq_getElem hkv)
        have hx := hide (fun w' (o : Old w w') => o.cell hck)
        obtain ⟨l, hlE⟩ : ∃ l, l = cutEs ls[k] := ⟨_, rfl⟩
        have hlen : l.length ≤ 12 := by rw [hlE]; exact cutEs_len _
        rw [← hlE] at hFk
        clear hcs hck hne
        obtain ⟨n, hn⟩ : ∃ n, appErr K S f l = n := ⟨_, rfl⟩
        go_wp2_with fail
        refine (lst_rows HS.out (by omega)).mono ?_
        rintro e w2 ⟨Aw, cw, zw, rfl, -, -, iw, rw2, nw, ow⟩
        have S2 := hide (HS.out.step ow)
        have IW := hide iw
        have RW := hide rw2
        have c1 := hx.out _ S2.out.old
        have CC := hide (lst_cut _ _ (hEk.out.old S2.out.old))
        rw [← hlE] at CC
        have hn' := hide hn
        clear iw rw2 ow hEk hx HS hlE HB hn
        go_wp2_with fail
        refine CC.out.mono ?_
        rintro e w3 ⟨Ac, cc, rfl, -, -, ic, oc⟩
        have IC := hide ic
        have OC := hide oc
        clear ic oc CC c1
        go_wp2_with fail
        refine (lst_apply _ l n (S2.out.step OC.out) IC.out (by omega) (by omega) hFk.out hn'.out).mono ?_
        rintro e w4 ⟨Ao, co, z, rfl, -, -, io, hd, hz, s4, t4⟩
        have IOH := hide io
        have HD := hide hd
        have S4 := hide (s4.mono (n := 12 * (k + 1)) (by omega))
        have IW4 := hide (t4.items (IW.out.old OC.out))
        clear io hd s4 t4 IW IC S2 OC
        go_wp2_with fail
        refine (lst_rows S4.out (by omega)).mono ?_
        rintro e w5 ⟨An, cn, zn, rfl, -, -, inn, rn, nn, on⟩
        have RN := hide rn
        have IN5 := hide inn
        have IW5 := hide (IW4.out.old on)
        have IO5 := hide (IOH.out.old on)
        have S5 := hide (S4.out.step on)
        obtain ⟨vN, hvN, ⟨AN, cN', hAN, hN1, hN2, hbN⟩, -⟩ := id inn
        injection hAN with hA1 _ hA3
        subst hA1
        subst hA3
        have HBN := hide hbN
        clear rn inn on IW4 IOH S4 hbN
        by_cases h0 : n = 0
        · subst h0
          have hA := rows_add RW.out HD.out RN.out
          have CA := hide (zset_Add _ _ zw z w5 IW5.out IO5.out (delta_fine RW.out.delta (by omega) (by omega) (by omega)) (delta_fine HD.out (by omega) (by omega) (by omega)))
          rw [hA.1, hA.2] at CA
          clear hA
          go_wp2_with fail
          refine CA.out.mono ?_
          rintro e w6 ⟨v6, rfl, is6, o6⟩
          have I6 := hide is6.is
          obtain ⟨A6, c6, u6, rfl, -⟩ := id is6.is.open_
          have O6 := hide o6
          clear is6 o6 CA
          go_wp2_with fail
          refine (same_true _ _ zn zn _ I6.out (IN5.out.old O6.out) rfl).mono ?_
          rintro e w7 ⟨rfl, o7⟩
          have O7 := hide (O6.out.trans o7)
          clear o7 O6 I6
          have CK := hide (zset_Check _ z w7 (IO5.out.old O7.out))
          rw [chk_ok HD.out.ok] at CK
          go_wp2_with fail
          refine CK.out.mono ?_
          rintro e w8 ⟨rfl, o8⟩
          have O8 := hide (O7.out.trans o8)
          clear o8 O7 CK
          go_wp2_with fail
          go_loopw [13] (fun i wz => ∃ j : Nat, i = .int .i64 j ∧ j ≤ zn.length ∧ Hid (Old w5 wz)) (fun i _ => zn.length - (intOf i).toNat)
          case atStart => exact ⟨0, rfl, by omega, O8⟩
          case round =>
            obtain ⟨j, rfl, hj, OZ⟩ := hrel
            clear O8
            by_cases hjt : j < zn.length
            · have hjv : j < vN.length := by omega
              obtain ⟨q1, q2⟩ := itemVals_get vN zn j hjt hjv
              obtain ⟨bN, oN, rfl, hcN⟩ := HBN.out (by intro e; rw [e] at q1; simp at q1)
              have h1 := rows_one RN.out zn[j] (List.getElem_mem hjt)
              rw [h1] at q2
              have cj := OZ.out.cell (hcN _ _ q2)
              rw [← Nat.add_assoc] at cj
              clear q1 q2 hcN h1
              go_wp2_with fail
              go_roundw
              case rel => exact ⟨j + 1, by go_num, by omega, OZ⟩
              case measure => simp [intOf]; omega
            · have S9 := hide (S5.out.step OZ.out)
              go_wp2_with fail
              go_roundw
              case rel => exact ⟨k + 1, _, by go_num, by omega, by omega, S9⟩
              case measure => simp [intOf]; omega
        · have hF : appF K S f l = f := by unfold appF; rw [if_neg (by rw [hn'.out]; exact h0)]
          rw [hF] at HD RN S5
          have hz0 : z = [] := delta_same HD.out
          subst hz0
          have hzz : zw = zn := RW.out.unique RN.out
          subst hzz
          have hn2 := appErr_or K S f l
          rw [hn'.out] at hn2
          rcases hn2 with rfl | rfl | rfl
          · exact absurd rfl h0
          all_goals
            clear h0 hn' hF
            go_wp2_with fail
            refine (same_true _ _ zw zw _ IW5.out IN5.out rfl).mono ?_
            rintro e w6 ⟨rfl, o6⟩
            have S6 := hide (S5.out.step o6)
            clear o6 S5
            go_wp2_with fail
            go_roundw
            case rel => exact ⟨k + 1, _, by go_num, by omega, by omega, S6⟩
            case measure => simp [intOf]; omega
      · go_wp2_with fail
        refine (works_run _ HS.out.pow').mono ?_
        rintro e w2 ⟨rfl, o2⟩
        have O2 := hide (HS.out.old.trans o2)
        clear o2
        go_wp2_with fail
        go_ret
        exact ⟨rfl, O2.out⟩
    · go_wp2_with fail
      refine (works_run _ HS.out.pow').mono ?_
      rintro e w2 ⟨rfl, o2⟩
      have O2 := hide (HS.out.old.trans o2)
      clear o2
      go_wp2_with fail
      go_ret
      exact ⟨rfl, O2.out⟩
end Go.Proofs.YtmfbblcipakaiaaGreatDoor
