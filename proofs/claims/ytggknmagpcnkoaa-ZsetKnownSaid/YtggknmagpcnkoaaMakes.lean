/- The statement ZsetMakes: the walk. -/
import Derived.Test.YtggknmagpcnkoaaWorks
import Derived.Test.YtggknmagpcnkoaaRefd
import Derived.Deep.DeepCutAuto
import Derived.Deep.CutBlock
namespace Go.Proofs.Ytggknmagpcnkoaa
open Go.RowKit

theorem Spo.old {lo : Nat} {w w' : World} (h : Old w w') (hlo : lo ≤ w.heap.size) : Spo lo w w' := ⟨Below.mono h hlo, fun _ cs _ _ hb => ⟨cs, h.heap hb, rfl, fun _ _ _ _ h => h⟩⟩
theorem norm_len (l : List Item) : (normOut l).length ≤ l.length := by
  unfold normOut
  split
  · have h1 := noZero_len (withW l (keysOf l))
    have h2 := keys_len l []
    unfold keysOf at *
    simp [withW] at *
    omega
  · simp
theorem norm_fine {n : Nat} {l : List Item} (h : Fine n l) : Fine n (normOut l) where
  len := Nat.le_trans (norm_len l) h.len
  short := fun i hi => by
    obtain ⟨x, hx, he⟩ := normOut_row (List.getElem_mem hi)
    obtain ⟨j, hj, rfl⟩ := List.getElem_of_mem hx
    rw [← he]
    exact h.short j hj
  fits := normOut_fit l
theorem eq_true (va vb : Value) (a : List Item) (w : World) (ha : ItemsIs w va a) (hb : ItemsIs w vb a) :
    Calls Try.prog 19 #[va, vb] w fun x w' => x = .returned (.bool true) ∧ Old w w' := by
  have := eqItems va vb a a w ha hb
  simpa [sameItems] using this

set_option maxRecDepth 100000 in
set_option maxHeartbeats 1000000 in
theorem spoil_again (lo lo0 : Nat) (v : Value) (l : List Item) (w0 w : World) (hl : ItemsT 37 49 lo w0 v l) (hlo0 : lo0 ≤ lo) (h0 : Spo lo0 w0 w) :
    Calls Try.prog 20 #[v] w fun e w' => e = .returned (.tuple #[]) ∧ Spo lo0 w0 w' := by
  obtain ⟨vs, hvl, ⟨A, ca, rfl, hla, hma, hb⟩, hrows⟩ := hl
  unfold maxLen at hma
  have HB := hide hb
  have HR := hide hrows
  clear hb hrows
  go_enter Try.func20, Try.ntmps20
  go_wp2_with fail
  go_loopw [2] (fun i wr => ∃ k : Nat, i = .int .i64 k ∧ k ≤ l.length ∧ Hid (Spo lo0 w0 wr)) (fun i _ => l.length - (intOf i).toNat)
  case atStart => exact ⟨0, rfl, by omega, hide h0⟩
  case round =>
    obtain ⟨k, rfl, hk, HS⟩ := hrel
    by_cases hlt : k < l.length
    · have hkv : k < vs.length := by omega
      obtain ⟨g1, g2⟩ := itemVals_get vs l k hlt hkv
      obtain ⟨b, off, cs, rfl, hlo, hheap, hcs⟩ := HB.out (by intro e; rw [e] at g1; simp at g1)
      obtain ⟨Ar, cr, hr, hr1, hr2, hr3⟩ := HR.out k hlt hkv
      rw [hr] at g1
      have c1 := hide (hcs _ _ g1)
      have c2 := hide (show cs[off + k * 2 + 1]? = some (.int .i64 l[k].w) by rw [Nat.add_assoc]; exact hcs _ _ g2)
      have HH := hide hheap
      have H3 := hide hr3
      unfold maxLen at hr2
      clear g1 g2 hcs hheap hr hr3
      go_wp2_with fail
      go_loopw [3] (fun j wz => ∃ m : Nat, j = .int .i64 m ∧ m ≤ l[k].row.length ∧ Hid (Spo lo0 w0 wz)) (fun j _ => l[k].row.length - (intOf j).toNat)
      case atStart => exact ⟨0, rfl, by omega, HS⟩
      case round =>
        obtain ⟨m, rfl, hm, HZ⟩ := hrel
        have x0 := HZ.out.slice HH.out c1.out
        by_cases hmt : m < l[k].row.length
        · have r0 := rowVals_get l[k].row m 0 (by omega) hmt
          have r1 := rowVals_get l[k].row m 1 (by omega) hmt
          have r2 := rowVals_get l[k].row m 2 (by omega) hmt
          obtain ⟨b2, o2, cs2, rfl, hlo2, hheap2, hcs2⟩ := H3.out (rowVals_ne (by omega))
          have q0 : cs2[o2 + m * 3]? = some (.bool l[k].row[m].null) := by have := hcs2 _ _ r0; simpa using this
          have q1 : cs2[o2 + m * 3 + 1]? = some (.int .i64 l[k].row[m].n) := by have := hcs2 _ _ r1; rw [← Nat.add_assoc] at this; simpa using this
          have q2 : cs2[o2 + m * 3 + 2]? = some (.string l[k].row[m].s) := by have := hcs2 _ _ r2; rw [← Nat.add_assoc] at this; simpa using this
          obtain ⟨⟨y0, e0⟩, f0⟩ := HZ.out.some hheap2 q0
          obtain ⟨⟨y1, e1⟩, f1⟩ := HZ.out.some hheap2 q1
          obtain ⟨⟨y2, e2⟩, f2⟩ := HZ.out.some hheap2 q2
          have HN := hide (((HZ.out.set hheap2 (Nat.le_trans hlo0 hlo2) (by rw [q0]; simp) (.bool false)).set hheap2 (Nat.le_trans hlo0 hlo2) (by rw [q1]; simp) (.int .i64 (-9))).set hheap2 (Nat.le_trans hlo0 hlo2) (by rw [q2]; simp) (.string ⟨#[115, 112, 111, 105, 108, 116]⟩))
          clear r0 r1 r2 hcs2 hheap2 q0 q1 q2 H3
          go_wp2_with fail
          go_roundw
          case rel => exact ⟨m + 1, by go_num, by omega, HN⟩
          case measure => simp [intOf]; omega
        · obtain ⟨⟨y1, e1⟩, f1⟩ := HZ.out.some HH.out c2.out
          have HN := hide (HZ.out.set HH.out (Nat.le_trans hlo0 hlo) (by rw [c2.out]; simp) (.int .i64 (-9)))
          go_wp2_with fail
          go_roundw
          case rel => exact ⟨k + 1, by go_num, by omega, HN⟩
          case measure => simp [intOf]; omega
    · go_wp2_with fail
      exact bodyPost_end (results_none rfl _ _ _) rfl ⟨rfl, HS.out⟩

set_option maxRecDepth 100000 in
set_option maxHeartbeats 4000000 in
theorem zsetMakes_run (va vb : Value) (l m : List Item) (k0 k1 : Int) (w : World) (hl : ItemsIs w va l) (hm : ItemsIs w vb m) (fl : ∀ x ∈ l, fit x.w) (fm : ∀ x ∈ m, fit x.w) (hk0 : fit k0) (hk1 : fit k1) :
    Calls Try.prog 3 #[va, vb, .agg #[.int .i64 k0, .int .i64 k1]] w fun e w' => e = .returned (.bool true) ∧ Old w w' := by
  have HL := hide hl
  have HM := hide hm
  have FL := hide (cut_fine fl)
  have FM := hide (cut_fine fm)
  have HK0 := hide hk0
  have hk := hk1
  unfold fit at hk
  clear hl hm fl fm hk0 hk1
  go_enter Try.func3, Try.ntmps3
  go_wp2_with fail
  refine (cut_run _ l _ (HL.out.old ((Old.refl w).alloc _))).mono ?_
  rintro e w1 ⟨x0, rfl, i1, o1⟩
  have O1 := hide (Old.trans ((Old.refl w).alloc _) o1)
  have B0 := hide (show w1.cell? ⟨w.heap.size, 0, none⟩ = some (.int .i64 k0) from o1.cell (by go_simp))
  have B1 := hide (show w1.cell? ⟨w.heap.size, 1, none⟩ = some (.int .i64 k1) from o1.cell (by go_simp))
  have HX := hide i1.is
  clear i1 o1
  go_wp2_with fail
  refine (cut_run _ m _ (HM.out.old O1.out)).mono ?_
  rintro e w2 ⟨y0, rfl, i2, o2⟩
  replace HX := hide (HX.out.old o2)
  have HY := hide i2.is
  have O2 := hide (Old.trans O1.out o2)
  have b0 := o2.cell B0.out
  have b1 := o2.cell B1.out
  have B02 := hide b0
  clear i2 o2 B0 B1 O1
  go_upto_if 33 with fail
  go_cut [7, 8] (fun xv yv wr => ∃ (X Y : List Item), Hid (ItemsIs wr xv X) ∧ Hid (ItemsIs wr yv Y) ∧ Hid (Fine 40 X) ∧ Hid (Fine 40 Y) ∧ Hid (Old w2 wr))
  case first =>
    by_cases hk3 : k1.tmod 3 = 0
    · have hk3' : (k1.tmod 3 != 0) = false := by simpa using hk3
      go_wp2_with fail
      go_meet
      exact ⟨_, _, HX, HY, FL, FM, hide (Old.refl _)⟩
    · have hk3' : (k1.tmod 3 != 0) = true := by simpa using hk3
      go_wp2_with fail
      refine (ref_Norm _ _ _ HX.out (Nat.le_trans FL.out.len (by omega)) FL.out.short FL.out.fits).mono ?_
      rintro e w3 ⟨x1, rfl, i3, o3⟩
      have HX1 := hide i3.is
      have HY1 := hide (HY.out.old o3)
      have O3 := hide o3
      clear i3 o3
      go_wp2_with fail
      refine (ref_Norm _ _ _ HY1.out (Nat.le_trans FM.out.len (by omega)) FM.out.short FM.out.fits).mono ?_
      rintro e w4 ⟨y1, rfl, i4, o4⟩
      have HX2 := hide (HX1.out.old o4)
      have HY2 := hide i4.is
      have O4 := hide (Old.trans O3.out o4)
      clear i4 o4
      go_wp2_with fail
      go_meet
      exact ⟨_, _, HX2, HY2, hide (norm_fine FL.out), hide (norm_fine FM.out), O4⟩
  case rest =>
    clear HX HY FL FM b0 b1 hk
    obtain ⟨X, Y, HX, HY, FX, FY, HO⟩ := hcut
    replace B02 := hide (HO.out.cell B02.out)
    replace HO := hide (Old.trans O2.out HO.out)
    clear O2
    go_wp2_with fail
    refine (copyItems _ X _ HX.out (Nat.le_trans FX.out.len (by omega)) FX.out.short).mono ?_
    rintro e w3 ⟨was, rfl, i3, o3⟩
    have HWAS := hide i3.is
    replace HX := hide (HX.out.old o3)
    replace HY := hide (HY.out.old o3)
    replace HO := hide (Old.trans HO.out o3)
    replace B02 := hide (o3.cell B02.out)
    have HX3 := hide HX.out
    have HWAS3 := hide HWAS.out
    clear i3 o3
    go_wp2_with fail
    refine (zset_Add _ _ X Y _ HX.out HY.out (FX.out.mono (by omega)) (FY.out.mono (by omega))).mono ?_
    rintro e w4 ⟨va1, rfl, i4, o4⟩
    have HA := hide i4
    have D := hide o4
    replace HX := hide (HX.out.old o4)
    replace HY := hide (HY.out.old o4)
    replace B02 := hide (o4.cell B02.out)
    clear i4 o4
    go_wp2_with fail
    refine (ref_Add _ _ X Y _ HX.out HY.out (FX.out.mono (by omega)) (FY.out.mono (by omega))).mono ?_
    rintro e w5 ⟨vb1, rfl, i5, o5⟩
    have HB := hide i5.is
    replace HA := hide (HA.out.old o5)
    replace D := hide (Old.trans D.out o5)
    replace HX := hide (HX.out.old o5)
    replace B02 := hide (o5.cell B02.out)
    clear i5 o5 HY
    go_wp2_with fail
    refine (zset_Neg _ X _ HX.out (FX.out.mono (by omega))).mono ?_
    rintro e w6 ⟨vc1, rfl, i6, o6⟩
    have HC := hide (i6.mono D.out.size)
    replace HA := hide (HA.out.old o6)
    replace HB := hide (HB.out.old o6)
    replace D := hide (Old.trans D.out o6)
    replace HX := hide (HX.out.old o6)
    replace B02 := hide (o6.cell B02.out)
    clear i6 o6
    go_wp2_with fail
    refine (ref_Neg _ X _ HX.out (FX.out.mono (by omega))).mono ?_
    rintro e w7 ⟨vd1, rfl, i7, o7⟩
    have HD := hide i7.is
    replace HA := hide (HA.out.old o7)
    replace HB := hide (HB.out.old o7)
    replace HC := hide (HC.out.old o7)
    replace D := hide (Old.trans D.out o7)
    replace HX := hide (HX.out.old o7)
    have b0 := o7.cell B02.out
    replace B02 := hide b0
    clear i7 o7
    go_wp2_with fail
    refine (zset_Scale k0 _ X _ HK0.out HX.out (FX.out.mono (by omega))).mono ?_
    rintro e w8 ⟨vs1, rfl, i8, o8⟩
    have HS := hide (i8.mono D.out.size)
    replace HA := hide (HA.out.old o8)
    replace HB := hide (HB.out.old o8)
    replace HC := hide (HC.out.old o8)
    replace HD := hide (HD.out.old o8)
    replace D := hide (Old.trans D.out o8)
    replace HX := hide (HX.out.old o8)
    clear b0
    have b0 := o8.cell B02.out
    clear i8 o8 B02
    go_wp2_with fail
    refine (ref_Scale k0 _ X _ HK0.out HX.out (FX.out.mono (by omega))).mono ?_
    rintro e w9 ⟨vt1, rfl, i9, o9⟩
    have HT := hide i9.is
    replace HA := hide (HA.out.old o9)
    replace HB := hide (HB.out.old o9)
    replace HC := hide (HC.out.old o9)
    replace HD := hide (HD.out.old o9)
    replace HS := hide (HS.out.old o9)
    replace D := hide (Old.trans D.out o9)
    clear i9 o9 b0
    go_wp2_with fail
    refine (eq_true _ _ (addOut X Y) _ HA.out.is HB.out).mono ?_
    rintro e wa ⟨rfl, oa⟩
    replace HA := hide (HA.out.old oa)
    replace HC := hide (HC.out.old oa)
    replace HD := hide (HD.out.old oa)
    replace HS := hide (HS.out.old oa)
    replace HT := hide (HT.out.old oa)
    replace D := hide (Old.trans D.out oa)
    clear oa HB
    go_wp2_with fail
    refine (eq_true _ _ (scaleOut (-1) X) _ HC.out.is HD.out).mono ?_
    rintro e wb ⟨rfl, ob⟩
    replace HA := hide (HA.out.old ob)
    replace HC := hide (HC.out.old ob)
    replace HS := hide (HS.out.old ob)
    replace HT := hide (HT.out.old ob)
    replace D := hide (Old.trans D.out ob)
    clear ob HD
    go_wp2_with fail
    refine (eq_true _ _ (scaleOut k0 X) _ HS.out.is HT.out).mono ?_
    rintro e wc ⟨rfl, oc⟩
    replace HA := hide (HA.out.old oc)
    replace HC := hide (HC.out.old oc)
    replace HS := hide (HS.out.old oc)
    replace D := hide (Old.trans D.out oc)
    clear oc HT
    go_wp2_with fail
    refine (spoil_again _ w3.heap.size _ _ wc wc HA.out (Nat.le_refl _) (Spo.refl _ _)).mono ?_
    rintro e wd ⟨rfl, pd⟩
    have PD := hide pd
    clear pd
    go_wp2_with fail
    refine (spoil_again _ w3.heap.size _ _ wc wd HC.out (Nat.le_refl _) PD.out).mono ?_
    rintro e we ⟨rfl, pe⟩
    have PE := hide pe
    clear pe
    go_wp2_with fail
    refine (spoil_again _ w3.heap.size _ _ wc we HS.out (Nat.le_refl _) PE.out).mono ?_
    rintro e wf ⟨rfl, pf⟩
    have OF := hide (show Old w3 wf from Below.trans D.out pf.low)
    clear pf
    go_wp2_with fail
    refine (eq_true _ _ X _ (HX3.out.old OF.out) (HWAS3.out.old OF.out)).mono ?_
    rintro e wg ⟨rfl, og⟩
    have OG := hide (Old.trans HO.out (Old.trans OF.out og))
    clear og
    go_wp2_with fail
    refine (works_run _).mono ?_
    rintro e wh ⟨rfl, oh⟩
    go_wp2_with fail
    go_ret
    exact ⟨rfl, Old.trans OG.out oh⟩
end Go.Proofs.Ytggknmagpcnkoaa
