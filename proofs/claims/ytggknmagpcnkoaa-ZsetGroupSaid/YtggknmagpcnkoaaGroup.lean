/- The statement ZsetGroup: the walk. -/
import Derived.Test.YtggknmagpcnkoaaGetw
namespace Go.Proofs.Ytggknmagpcnkoaa
open Go.RowKit

set_option maxRecDepth 100000 in
set_option maxHeartbeats 8000000 in
theorem zsetGroup_bad1 (va vb vc : Value) (la lb lc X Y Z : List Item) (ex ey ez : Int) (w : World) (ha : ItemsIs w va la) (hb : ItemsIs w vb lb) (hc : ItemsIs w vc lc) (fa : Fine 40 (cutItems la)) (fb : Fine 40 (cutItems lb)) (fc : Fine 40 (cutItems lc))
    (ox : normOut (cutItems la) = X) (exx : normErr (cutItems la) = ex) (oy : normOut (cutItems lb) = Y) (eyy : normErr (cutItems lb) = ey) (oz : normOut (cutItems lc) = Z) (ezz : normErr (cutItems lc) = ez) (h : ex = 50) :
    Calls Try.prog 6 #[.agg #[va, vb, vc]] w fun e w' => e = .returned (.bool true) ∧ Old w w' := by
  have HLA := hide ha
  obtain ⟨Aa, ka, ua, rfl, _⟩ := ha.open_
  have HLB := hide hb
  obtain ⟨Ab, kb, ub, rfl, _⟩ := hb.open_
  have HLC := hide hc
  obtain ⟨Ac, kc, uc, rfl, _⟩ := hc.open_
  have FA := hide fa
  have FB := hide fb
  have FC := hide fc
  have OX := hide ox
  have EX := hide exx
  have OY := hide oy
  have EY := hide eyy
  have OZ := hide oz
  have EZ := hide ezz
  subst h
  clear ha hb hc fa fb fc ox exx oy eyy oz ezz
  have HO := hide (Old.refl w)
  go_enter Try.func6, Try.ntmps6
  go_wp2_with fail
  refine (cut_run _ la _ (HLA.out.old ((Old.refl w).alloc _))).mono ?_
  rintro e w1 ⟨v1, rfl, i1, o1⟩
  replace HO := hide (Old.trans ((Old.refl w).alloc _) o1)
  have B1 := hide (show w1.cell? ⟨w.heap.size, 1, none⟩ = some (.slice Ab lb.length kb) from o1.cell (by go_simp))
  have B2 := hide (show w1.cell? ⟨w.heap.size, 2, none⟩ = some (.slice Ac lc.length kc) from o1.cell (by go_simp))
  have HI := hide i1.is
  clear i1 o1
  go_wp2_with fail
  refine (calls_as (zset_Norm _ _ _ HI.out (Nat.le_trans FA.out.len (by omega)) FA.out.short FA.out.fits) OX.out EX.out).mono ?_
  rintro e w2 ⟨v2, rfl, i2, o2⟩
  replace HO := hide (Old.trans HO.out o2)
  replace B1 := hide (o2.cell B1.out)
  replace B2 := hide (o2.cell B2.out)
  replace HI := hide (HI.out.old o2)
  have HX := hide i2.is
  clear i2 o2
  clear HI
  have b1 := B1.out
  go_wp2_with fail
  refine (cut_run _ lb _ (HLB.out.old HO.out)).mono ?_
  rintro e w3 ⟨v3, rfl, i3, o3⟩
  replace HO := hide (Old.trans HO.out o3)
  replace B1 := hide (o3.cell B1.out)
  replace B2 := hide (o3.cell B2.out)
  replace HX := hide (HX.out.old o3)
  clear b1
  clear B1
  have HI := hide i3.is
  clear i3 o3
  go_wp2_with fail
  refine (calls_as (zset_Norm _ _ _ HI.out (Nat.le_trans FB.out.len (by omega)) FB.out.short FB.out.fits) OY.out EY.out).mono ?_
  rintro e w4 ⟨v4, rfl, i4, o4⟩
  replace HO := hide (Old.trans HO.out o4)
  replace B2 := hide (o4.cell B2.out)
  replace HX := hide (HX.out.old o4)
  replace HI := hide (HI.out.old o4)
  have HY := hide i4.is
  clear i4 o4
  clear HI
  have b2 := B2.out
  go_wp2_with fail
  refine (cut_run _ lc _ (HLC.out.old HO.out)).mono ?_
  rintro e w5 ⟨v5, rfl, i5, o5⟩
  replace HO := hide (Old.trans HO.out o5)
  replace B2 := hide (o5.cell B2.out)
  replace HX := hide (HX.out.old o5)
  replace HY := hide (HY.out.old o5)
  clear b2
  clear B2
  have HI := hide i5.is
  clear i5 o5
  go_wp2_with fail
  refine (calls_as (zset_Norm _ _ _ HI.out (Nat.le_trans FC.out.len (by omega)) FC.out.short FC.out.fits) OZ.out EZ.out).mono ?_
  rintro e w6 ⟨v6, rfl, i6, o6⟩
  replace HO := hide (Old.trans HO.out o6)
  replace HX := hide (HX.out.old o6)
  replace HY := hide (HY.out.old o6)
  replace HI := hide (HI.out.old o6)
  have HZ := hide i6.is
  clear i6 o6
  clear HI
  go_wp2_with fail
  refine (works_run _).mono ?_
  rintro e w7 ⟨rfl, o7⟩
  go_wp2_with fail
  go_ret
  exact ⟨rfl, Old.trans HO.out o7⟩

set_option maxRecDepth 100000 in
set_option maxHeartbeats 8000000 in
theorem zsetGroup_bad2 (va vb vc : Value) (la lb lc X Y Z : List Item) (ex ey ez : Int) (w : World) (ha : ItemsIs w va la) (hb : ItemsIs w vb lb) (hc : ItemsIs w vc lc) (fa : Fine 40 (cutItems la)) (fb : Fine 40 (cutItems lb)) (fc : Fine 40 (cutItems lc))
    (ox : normOut (cutItems la) = X) (exx : normErr (cutItems la) = ex) (oy : normOut (cutItems lb) = Y) (eyy : normErr (cutItems lb) = ey) (oz : normOut (cutItems lc) = Z) (ezz : normErr (cutItems lc) = ez) (h0 : ex = 0) (h : ey = 50) :
    Calls Try.prog 6 #[.agg #[va, vb, vc]] w fun e w' => e = .returned (.bool true) ∧ Old w w' := by
  have HLA := hide ha
  obtain ⟨Aa, ka, ua, rfl, _⟩ := ha.open_
  have HLB := hide hb
  obtain ⟨Ab, kb, ub, rfl, _⟩ := hb.open_
  have HLC := hide hc
  obtain ⟨Ac, kc, uc, rfl, _⟩ := hc.open_
  have FA := hide fa
  have FB := hide fb
  have FC := hide fc
  have OX := hide ox
  have EX := hide exx
  have OY := hide oy
  have EY := hide eyy
  have OZ := hide oz
  have EZ := hide ezz
  subst h0 h
  clear ha hb hc fa fb fc ox exx oy eyy oz ezz
  have HO := hide (Old.refl w)
  go_enter Try.func6, Try.ntmps6
  go_wp2_with fail
  refine (cut_run _ la _ (HLA.out.old ((Old.refl w).alloc _))).mono ?_
  rintro e w1 ⟨v1, rfl, i1, o1⟩
  replace HO := hide (Old.trans ((Old.refl w).alloc _) o1)
  have B1 := hide (show w1.cell? ⟨w.heap.size, 1, none⟩ = some (.slice Ab lb.length kb) from o1.cell (by go_simp))
  have B2 := hide (show w1.cell? ⟨w.heap.size, 2, none⟩ = some (.slice Ac lc.length kc) from o1.cell (by go_simp))
  have HI := hide i1.is
  clear i1 o1
  go_wp2_with fail
  refine (calls_as (zset_Norm _ _ _ HI.out (Nat.le_trans FA.out.len (by omega)) FA.out.short FA.out.fits) OX.out EX.out).mono ?_
  rintro e w2 ⟨v2, rfl, i2, o2⟩
  replace HO := hide (Old.trans HO.out o2)
  replace B1 := hide (o2.cell B1.out)
  replace B2 := hide (o2.cell B2.out)
  replace HI := hide (HI.out.old o2)
  have HX := hide i2.is
  clear i2 o2
  clear HI
  have b1 := B1.out
  go_wp2_with fail
  refine (cut_run _ lb _ (HLB.out.old HO.out)).mono ?_
  rintro e w3 ⟨v3, rfl, i3, o3⟩
  replace HO := hide (Old.trans HO.out o3)
  replace B1 := hide (o3.cell B1.out)
  replace B2 := hide (o3.cell B2.out)
  replace HX := hide (HX.out.old o3)
  clear b1
  clear B1
  have HI := hide i3.is
  clear i3 o3
  go_wp2_with fail
  refine (calls_as (zset_Norm _ _ _ HI.out (Nat.le_trans FB.out.len (by omega)) FB.out.short FB.out.fits) OY.out EY.out).mono ?_
  rintro e w4 ⟨v4, rfl, i4, o4⟩
  replace HO := hide (Old.trans HO.out o4)
  replace B2 := hide (o4.cell B2.out)
  replace HX := hide (HX.out.old o4)
  replace HI := hide (HI.out.old o4)
  have HY := hide i4.is
  clear i4 o4
  clear HI
  have b2 := B2.out
  go_wp2_with fail
  refine (cut_run _ lc _ (HLC.out.old HO.out)).mono ?_
  rintro e w5 ⟨v5, rfl, i5, o5⟩
  replace HO := hide (Old.trans HO.out o5)
  replace B2 := hide (o5.cell B2.out)
  replace HX := hide (HX.out.old o5)
  replace HY := hide (HY.out.old o5)
  clear b2
  clear B2
  have HI := hide i5.is
  clear i5 o5
  go_wp2_with fail
  refine (calls_as (zset_Norm _ _ _ HI.out (Nat.le_trans FC.out.len (by omega)) FC.out.short FC.out.fits) OZ.out EZ.out).mono ?_
  rintro e w6 ⟨v6, rfl, i6, o6⟩
  replace HO := hide (Old.trans HO.out o6)
  replace HX := hide (HX.out.old o6)
  replace HY := hide (HY.out.old o6)
  replace HI := hide (HI.out.old o6)
  have HZ := hide i6.is
  clear i6 o6
  clear HI
  go_wp2_with fail
  refine (works_run _).mono ?_
  rintro e w7 ⟨rfl, o7⟩
  go_wp2_with fail
  go_ret
  exact ⟨rfl, Old.trans HO.out o7⟩

set_option maxRecDepth 100000 in
set_option maxHeartbeats 8000000 in
theorem zsetGroup_bad3 (va vb vc : Value) (la lb lc X Y Z : List Item) (ex ey ez : Int) (w : World) (ha : ItemsIs w va la) (hb : ItemsIs w vb lb) (hc : ItemsIs w vc lc) (fa : Fine 40 (cutItems la)) (fb : Fine 40 (cutItems lb)) (fc : Fine 40 (cutItems lc))
    (ox : normOut (cutItems la) = X) (exx : normErr (cutItems la) = ex) (oy : normOut (cutItems lb) = Y) (eyy : normErr (cutItems lb) = ey) (oz : normOut (cutItems lc) = Z) (ezz : normErr (cutItems lc) = ez) (h0 : ex = 0) (h1 : ey = 0) (h : ez = 50) :
    Calls Try.prog 6 #[.agg #[va, vb, vc]] w fun e w' => e = .returned (.bool true) ∧ Old w w' := by
  have HLA := hide ha
  obtain ⟨Aa, ka, ua, rfl, _⟩ := ha.open_
  have HLB := hide hb
  obtain ⟨Ab, kb, ub, rfl, _⟩ := hb.open_
  have HLC := hide hc
  obtain ⟨Ac, kc, uc, rfl, _⟩ := hc.open_
  have FA := hide fa
  have FB := hide fb
  have FC := hide fc
  have OX := hide ox
  have EX := hide exx
  have OY := hide oy
  have EY := hide eyy
  have OZ := hide oz
  have EZ := hide ezz
  subst h0 h1 h
  clear ha hb hc fa fb fc ox exx oy eyy oz ezz
  have HO := hide (Old.refl w)
  go_enter Try.func6, Try.ntmps6
  go_wp2_with fail
  refine (cut_run _ la _ (HLA.out.old ((Old.refl w).alloc _))).mono ?_
  rintro e w1 ⟨v1, rfl, i1, o1⟩
  replace HO := hide (Old.trans ((Old.refl w).alloc _) o1)
  have B1 := hide (show w1.cell? ⟨w.heap.size, 1, none⟩ = some (.slice Ab lb.length kb) from o1.cell (by go_simp))
  have B2 := hide (show w1.cell? ⟨w.heap.size, 2, none⟩ = some (.slice Ac lc.length kc) from o1.cell (by go_simp))
  have HI := hide i1.is
  clear i1 o1
  go_wp2_with fail
  refine (calls_as (zset_Norm _ _ _ HI.out (Nat.le_trans FA.out.len (by omega)) FA.out.short FA.out.fits) OX.out EX.out).mono ?_
  rintro e w2 ⟨v2, rfl, i2, o2⟩
  replace HO := hide (Old.trans HO.out o2)
  replace B1 := hide (o2.cell B1.out)
  replace B2 := hide (o2.cell B2.out)
  replace HI := hide (HI.out.old o2)
  have HX := hide i2.is
  clear i2 o2
  clear HI
  have b1 := B1.out
  go_wp2_with fail
  refine (cut_run _ lb _ (HLB.out.old HO.out)).mono ?_
  rintro e w3 ⟨v3, rfl, i3, o3⟩
  replace HO := hide (Old.trans HO.out o3)
  replace B1 := hide (o3.cell B1.out)
  replace B2 := hide (o3.cell B2.out)
  replace HX := hide (HX.out.old o3)
  clear b1
  clear B1
  have HI := hide i3.is
  clear i3 o3
  go_wp2_with fail
  refine (calls_as (zset_Norm _ _ _ HI.out (Nat.le_trans FB.out.len (by omega)) FB.out.short FB.out.fits) OY.out EY.out).mono ?_
  rintro e w4 ⟨v4, rfl, i4, o4⟩
  replace HO := hide (Old.trans HO.out o4)
  replace B2 := hide (o4.cell B2.out)
  replace HX := hide (HX.out.old o4)
  replace HI := hide (HI.out.old o4)
  have HY := hide i4.is
  clear i4 o4
  clear HI
  have b2 := B2.out
  go_wp2_with fail
  refine (cut_run _ lc _ (HLC.out.old HO.out)).mono ?_
  rintro e w5 ⟨v5, rfl, i5, o5⟩
  replace HO := hide (Old.trans HO.out o5)
  replace B2 := hide (o5.cell B2.out)
  replace HX := hide (HX.out.old o5)
  replace HY := hide (HY.out.old o5)
  clear b2
  clear B2
  have HI := hide i5.is
  clear i5 o5
  go_wp2_with fail
  refine (calls_as (zset_Norm _ _ _ HI.out (Nat.le_trans FC.out.len (by omega)) FC.out.short FC.out.fits) OZ.out EZ.out).mono ?_
  rintro e w6 ⟨v6, rfl, i6, o6⟩
  replace HO := hide (Old.trans HO.out o6)
  replace HX := hide (HX.out.old o6)
  replace HY := hide (HY.out.old o6)
  replace HI := hide (HI.out.old o6)
  have HZ := hide i6.is
  clear i6 o6
  clear HI
  go_wp2_with fail
  refine (works_run _).mono ?_
  rintro e w7 ⟨rfl, o7⟩
  go_wp2_with fail
  go_ret
  exact ⟨rfl, Old.trans HO.out o7⟩

set_option maxRecDepth 100000 in
set_option maxHeartbeats 8000000 in
theorem zsetGroup_i0_g0_j0 (va vb vc : Value) (la lb lc X Y Z : List Item) (ex ey ez : Int) (w : World) (ha : ItemsIs w va la) (hb : ItemsIs w vb lb) (hc : ItemsIs w vc lc) (fa : Fine 40 (cutItems la)) (fb : Fine 40 (cutItems lb)) (fc : Fine 40 (cutItems lc))
    (ox : normOut (cutItems la) = X) (exx : normErr (cutItems la) = ex) (oy : normOut (cutItems lb) = Y) (eyy : normErr (cutItems lb) = ey) (oz : normOut (cutItems lc) = Z) (ezz : normErr (cutItems lc) = ez) (h0 : ex = 0) (h1 : ey = 0) (h2 : ez = 0) (zx : ZOk X) (zy : ZOk Y) (zz : ZOk Z) (fx : Fine 40 X) (fy : Fine 40 Y) (fz : Fine 40 Z) (ei : scaleErr (-1) X = 0) (eg : addErr X Y = 0) (ej : addErr Y Z = 0) :
    Calls Try.prog 6 #[.agg #[va, vb, vc]] w fun e w' => e = .returned (.bool true) ∧ Old w w' := by
  have HLA := hide ha
  obtain ⟨Aa, ka, ua, rfl, _⟩ := ha.open_
  have HLB := hide hb
  obtain ⟨Ab, kb, ub, rfl, _⟩ := hb.open_
  have HLC := hide hc
  obtain ⟨Ac, kc, uc, rfl, _⟩ := hc.open_
  have FA := hide fa
  have FB := hide fb
  have FC := hide fc
  have OX := hide ox
  have EX := hide exx
  have OY := hide oy
  have EY := hide eyy
  have OZ := hide oz
  have EZ := hide ezz
  subst h0 h1 h2
  have FX := hide fx
  have FY := hide fy
  have FZ := hide fz
  obtain ⟨A, hA⟩ : ∃ A, Hid (addOut X Y = A) := ⟨_, hide rfl⟩
  have OA := hide hA.out
  have EA := hide eg
  have OB := hide ((add_comm_ Y X).2.trans hA.out)
  have EB := hide ((add_comm_ Y X).1.trans eg)
  obtain ⟨N, hN⟩ : ∃ N, Hid (scaleOut (-1) X = N) := ⟨_, hide rfl⟩
  have ON := hide hN.out
  have EN := hide ei
  obtain ⟨C, hC⟩ : ∃ C, Hid (addOut Y Z = C) := ⟨_, hide rfl⟩
  have OC := hide hC.out
  have FN := hide (show Fine 40 N by rw [← hN.out]; exact scale_fine fx)
  have NN := hide (neg_none zx ei)
  have NB := hide (neg_back zx fx.fits ei)
  rw [hN.out] at NN NB
  have EC := hide ej
  have FAA := hide (show Fine 80 A by rw [← hA.out]; exact add_fine fx fy)
  have FCC := hide (show Fine 80 C by rw [← hC.out]; exact add_fine fy fz)
  have HAS := add_assoc_ zx zy zz eg ej
  rw [hA.out, hC.out] at HAS
  obtain ⟨O2, hO2⟩ : ∃ O, Hid (addOut X C = O) := ⟨_, hide rfl⟩
  obtain ⟨E2, hE2⟩ : ∃ E, Hid (addErr X C = E) := ⟨_, hide rfl⟩
  have AS := hide (show addErr A Z = E2 ∧ addOut A Z = O2 from ⟨HAS.1.trans hE2.out, HAS.2.trans hO2.out⟩)
  have BS := hide (show addErr X C = E2 ∧ addOut X C = O2 from ⟨hE2.out, hO2.out⟩)
  clear HAS hO2 hE2
  clear zx zy zz fx fy fz ei eg ej hA hN hC
  clear ha hb hc fa fb fc ox exx oy eyy oz ezz
  have HO := hide (Old.refl w)
  go_enter Try.func6, Try.ntmps6
  go_wp2_with fail
  refine (cut_run _ la _ (HLA.out.old ((Old.refl w).alloc _))).mono ?_
  rintro e w1 ⟨v1, rfl, i1, o1⟩
  replace HO := hide (Old.trans ((Old.refl w).alloc _) o1)
  have B1 := hide (show w1.cell? ⟨w.heap.size, 1, none⟩ = some (.slice Ab lb.length kb) from o1.cell (by go_simp))
  have B2 := hide (show w1.cell? ⟨w.heap.size, 2, none⟩ = some (.slice Ac lc.length kc) from o1.cell (by go_simp))
  have HI := hide i1.is
  clear i1 o1
  go_wp2_with fail
  refine (calls_as (zset_Norm _ _ _ HI.out (Nat.le_trans FA.out.len (by omega)) FA.out.short FA.out.fits) OX.out EX.out).mono ?_
  rintro e w2 ⟨v2, rfl, i2, o2⟩
  replace HO := hide (Old.trans HO.out o2)
  replace B1 := hide (o2.cell B1.out)
  replace B2 := hide (o2.cell B2.out)
  replace HI := hide (HI.out.old o2)
  have HX := hide i2.is
  clear i2 o2
  clear HI
  have b1 := B1.out
  go_wp2_with fail
  refine (cut_run _ lb _ (HLB.out.old HO.out)).mono ?_
  rintro e w3 ⟨v3, rfl, i3, o3⟩
  replace HO := hide (Old.trans HO.out o3)
  replace B1 := hide (o3.cell B1.out)
  replace B2 := hide (o3.cell B2.out)
  replace HX := hide (HX.out.old o3)
  clear b1
  clear B1
  have HI := hide i3.is
  clear i3 o3
  go_wp2_with fail
  refine (calls_as (zset_Norm _ _ _ HI.out (Nat.le_trans FB.out.len (by omega)) FB.out.short FB.out.fits) OY.out EY.out).mono ?_
  rintro e w4 ⟨v4, rfl, i4, o4⟩
  replace HO := hide (Old.trans HO.out o4)
  replace B2 := hide (o4.cell B2.out)
  replace HX := hide (HX.out.old o4)
  replace HI := hide (HI.out.old o4)
  have HY := hide i4.is
  clear i4 o4
  clear HI
  have b2 := B2.out
  go_wp2_with fail
  refine (cut_run _ lc _ (HLC.out.old HO.out)).mono ?_
  rintro e w5 ⟨v5, rfl, i5, o5⟩
  replace HO := hide (Old.trans HO.out o5)
  replace B2 := hide (o5.cell B2.out)
  replace HX := hide (HX.out.old o5)
  replace HY := hide (HY.out.old o5)
  clear b2
  clear B2
  have HI := hide i5.is
  clear i5 o5
  go_wp2_with fail
  refine (calls_as (zset_Norm _ _ _ HI.out (Nat.le_trans FC.out.len (by omega)) FC.out.short FC.out.fits) OZ.out EZ.out).mono ?_
  rintro e w6 ⟨v6, rfl, i6, o6⟩
  replace HO := hide (Old.trans HO.out o6)
  replace HX := hide (HX.out.old o6)
  replace HY := hide (HY.out.old o6)
  replace HI := hide (HI.out.old o6)
  have HZ := hide i6.is
  clear i6 o6
  clear HI
  go_wp2_with fail
  refine (calls_as (zset_Add _ _ X Y _ HX.out HY.out (FX.out.mono (by omega)) (FY.out.mono (by omega))) OA.out EA.out).mono ?_
  rintro e w7 ⟨v7, rfl, i7, o7⟩
  replace HO := hide (Old.trans HO.out o7)
  replace HX := hide (HX.out.old o7)
  replace HY := hide (HY.out.old o7)
  replace HZ := hide (HZ.out.old o7)
  have HA := hide i7.is
  clear i7 o7
  go_wp2_with fail
  refine (calls_as (zset_Add _ _ Y X _ HY.out HX.out (FY.out.mono (by omega)) (FX.out.mono (by omega))) OB.out EB.out).mono ?_
  rintro e w8 ⟨v8, rfl, i8, o8⟩
  replace HO := hide (Old.trans HO.out o8)
  replace HX := hide (HX.out.old o8)
  replace HY := hide (HY.out.old o8)
  replace HZ := hide (HZ.out.old o8)
  replace HA := hide (HA.out.old o8)
  have HB := hide i8.is
  clear i8 o8
  go_wp2_with fail
  refine (same_true _ _ A _ HA.out HB.out).mono ?_
  rintro e w9 ⟨rfl, o9⟩
  replace HO := hide (Old.trans HO.out o9)
  replace HX := hide (HX.out.old o9)
  replace HY := hide (HY.out.old o9)
  replace HZ := hide (HZ.out.old o9)
  replace HA := hide (HA.out.old o9)
  replace HB := hide (HB.out.old o9)
  clear o9
  clear HB
  go_wp2_with fail
  refine (calls_as (zset_Neg _ X _ HX.out (FX.out.mono (by omega))) ON.out EN.out).mono ?_
  rintro e w10 ⟨v10, rfl, i10, o10⟩
  replace HO := hide (Old.trans HO.out o10)
  replace HX := hide (HX.out.old o10)
  replace HY := hide (HY.out.old o10)
  replace HZ := hide (HZ.out.old o10)
  replace HA := hide (HA.out.old o10)
  have HN := hide i10.is
  clear i10 o10
  go_wp2_with fail
  refine (calls_as (zset_Add _ _ X N _ HX.out HN.out (FX.out.mono (by omega)) (FN.out.mono (by omega))) NN.out.2 NN.out.1).mono ?_
  rintro e w11 ⟨v11, he11, i11, o11⟩
  obtain ⟨A11, c11, rfl⟩ := items_nil i11
  subst he11
  replace HO := hide (Old.trans HO.out o11)
  replace HX := hide (HX.out.old o11)
  replace HY := hide (HY.out.old o11)
  replace HZ := hide (HZ.out.old o11)
  replace HA := hide (HA.out.old o11)
  replace HN := hide (HN.out.old o11)
  clear i11 o11
  go_wp2_with fail
  refine (calls_as (zset_Neg _ N _ HN.out (FN.out.mono (by omega))) NB.out.2 NB.out.1).mono ?_
  rintro e w12 ⟨v12, rfl, i12, o12⟩
  replace HO := hide (Old.trans HO.out o12)
  replace HX := hide (HX.out.old o12)
  replace HY := hide (HY.out.old o12)
  replace HZ := hide (HZ.out.old o12)
  replace HA := hide (HA.out.old o12)
  replace HN := hide (HN.out.old o12)
  have HBK := hide i12.is
  clear i12 o12
  go_wp2_with fail
  refine (same_true _ _ X _ HBK.out HX.out).mono ?_
  rintro e w13 ⟨rfl, o13⟩
  replace HO := hide (Old.trans HO.out o13)
  replace HX := hide (HX.out.old o13)
  replace HY := hide (HY.out.old o13)
  replace HZ := hide (HZ.out.old o13)
  replace HA := hide (HA.out.old o13)
  replace HN := hide (HN.out.old o13)
  replace HBK := hide (HBK.out.old o13)
  clear o13
  clear HBK
  go_wp2_with fail
  refine (calls_as (zset_Add _ _ Y Z _ HY.out HZ.out (FY.out.mono (by omega)) (FZ.out.mono (by omega))) OC.out EC.out).mono ?_
  rintro e w14 ⟨v14, rfl, i14, o14⟩
  replace HO := hide (Old.trans HO.out o14)
  replace HX := hide (HX.out.old o14)
  replace HY := hide (HY.out.old o14)
  replace HZ := hide (HZ.out.old o14)
  replace HA := hide (HA.out.old o14)
  replace HN := hide (HN.out.old o14)
  have HC := hide i14.is
  clear i14 o14
  go_wp2_with fail
  refine (calls_as (zset_Add _ _ A Z _ HA.out HZ.out (FAA.out.mono (by omega)) (FZ.out.mono (by omega))) AS.out.2 AS.out.1).mono ?_
  rintro e w15 ⟨v15, rfl, i15, o15⟩
  replace HO := hide (Old.trans HO.out o15)
  replace HX := hide (HX.out.old o15)
  replace HY := hide (HY.out.old o15)
  replace HZ := hide (HZ.out.old o15)
  replace HA := hide (HA.out.old o15)
  replace HN := hide (HN.out.old o15)
  replace HC := hide (HC.out.old o15)
  have HP := hide i15.is
  clear i15 o15
  go_wp2_with fail
  refine (calls_as (zset_Add _ _ X C _ HX.out HC.out (FX.out.mono (by omega)) (FCC.out.mono (by omega))) BS.out.2 BS.out.1).mono ?_
  rintro e w16 ⟨v16, rfl, i16, o16⟩
  replace HO := hide (Old.trans HO.out o16)
  replace HX := hide (HX.out.old o16)
  replace HY := hide (HY.out.old o16)
  replace HZ := hide (HZ.out.old o16)
  replace HA := hide (HA.out.old o16)
  replace HN := hide (HN.out.old o16)
  replace HC := hide (HC.out.old o16)
  replace HP := hide (HP.out.old o16)
  have HQ := hide i16.is
  clear i16 o16
  go_wp2_with fail
  refine (same_true _ _ O2 _ HP.out HQ.out).mono ?_
  rintro e w17 ⟨rfl, o17⟩
  replace HO := hide (Old.trans HO.out o17)
  replace HX := hide (HX.out.old o17)
  replace HY := hide (HY.out.old o17)
  replace HZ := hide (HZ.out.old o17)
  replace HA := hide (HA.out.old o17)
  replace HN := hide (HN.out.old o17)
  replace HC := hide (HC.out.old o17)
  replace HP := hide (HP.out.old o17)
  replace HQ := hide (HQ.out.old o17)
  clear o17
  go_wp2_with fail
  refine (works_run _).mono ?_
  rintro e w18 ⟨rfl, o18⟩
  go_wp2_with fail
  go_ret
  exact ⟨rfl, Old.trans HO.out o18⟩

set_option maxRecDepth 100000 in
set_option maxHeartbeats 8000000 in
theorem zsetGroup_i0_g0_j50 (va vb vc : Value) (la lb lc X Y Z : List Item) (ex ey ez : Int) (w : World) (ha : ItemsIs w va la) (hb : ItemsIs w vb lb) (hc : ItemsIs w vc lc) (fa : Fine 40 (cutItems la)) (fb : Fine 40 (cutItems lb)) (fc : Fine 40 (cutItems lc))
    (ox : normOut (cutItems la) = X) (exx : normErr (cutItems la) = ex) (oy : normOut (cutItems lb) = Y) (eyy : normErr (cutItems lb) = ey) (oz : normOut (cutItems lc) = Z) (ezz : normErr (cutItems lc) = ez) (h0 : ex = 0) (h1 : ey = 0) (h2 : ez = 0) (zx : ZOk X) (fx : Fine 40 X) (fy : Fine 40 Y) (fz : Fine 40 Z) (ei : scaleErr (-1) X = 0) (eg : addErr X Y = 0) (ej : addErr Y Z = 50) :
    Calls Try.prog 6 #[.agg #[va, vb, vc]] w fun e w' => e = .returned (.bool true) ∧ Old w w' := by
  have HLA := hide ha
  obtain ⟨Aa, ka, ua, rfl, _⟩ := ha.open_
  have HLB := hide hb
  obtain ⟨Ab, kb, ub, rfl, _⟩ := hb.open_
  have HLC := hide hc
  obtain ⟨Ac, kc, uc, rfl, _⟩ := hc.open_
  have FA := hide fa
  have FB := hide fb
  have FC := hide fc
  have OX := hide ox
  have EX := hide exx
  have OY := hide oy
  have EY := hide eyy
  have OZ := hide oz
  have EZ := hide ezz
  subst h0 h1 h2
  have FX := hide fx
  have FY := hide fy
  have FZ := hide fz
  obtain ⟨A, hA⟩ : ∃ A, Hid (addOut X Y = A) := ⟨_, hide rfl⟩
  have OA := hide hA.out
  have EA := hide eg
  have OB := hide ((add_comm_ Y X).2.trans hA.out)
  have EB := hide ((add_comm_ Y X).1.trans eg)
  obtain ⟨N, hN⟩ : ∃ N, Hid (scaleOut (-1) X = N) := ⟨_, hide rfl⟩
  have ON := hide hN.out
  have EN := hide ei
  obtain ⟨C, hC⟩ : ∃ C, Hid (addOut Y Z = C) := ⟨_, hide rfl⟩
  have OC := hide hC.out
  have FN := hide (show Fine 40 N by rw [← hN.out]; exact scale_fine fx)
  have NN := hide (neg_none zx ei)
  have NB := hide (neg_back zx fx.fits ei)
  rw [hN.out] at NN NB
  have EC := hide ej
  clear zx fx fy fz ei eg ej hA hN hC
  clear ha hb hc fa fb fc ox exx oy eyy oz ezz
  have HO := hide (Old.refl w)
  go_enter Try.func6, Try.ntmps6
  go_wp2_with fail
  refine (cut_run _ la _ (HLA.out.old ((Old.refl w).alloc _))).mono ?_
  rintro e w1 ⟨v1, rfl, i1, o1⟩
  replace HO := hide (Old.trans ((Old.refl w).alloc _) o1)
  have B1 := hide (show w1.cell? ⟨w.heap.size, 1, none⟩ = some (.slice Ab lb.length kb) from o1.cell (by go_simp))
  have B2 := hide (show w1.cell? ⟨w.heap.size, 2, none⟩ = some (.slice Ac lc.length kc) from o1.cell (by go_simp))
  have HI := hide i1.is
  clear i1 o1
  go_wp2_with fail
  refine (calls_as (zset_Norm _ _ _ HI.out (Nat.le_trans FA.out.len (by omega)) FA.out.short FA.out.fits) OX.out EX.out).mono ?_
  rintro e w2 ⟨v2, rfl, i2, o2⟩
  replace HO := hide (Old.trans HO.out o2)
  replace B1 := hide (o2.cell B1.out)
  replace B2 := hide (o2.cell B2.out)
  replace HI := hide (HI.out.old o2)
  have HX := hide i2.is
  clear i2 o2
  clear HI
  have b1 := B1.out
  go_wp2_with fail
  refine (cut_run _ lb _ (HLB.out.old HO.out)).mono ?_
  rintro e w3 ⟨v3, rfl, i3, o3⟩
  replace HO := hide (Old.trans HO.out o3)
  replace B1 := hide (o3.cell B1.out)
  replace B2 := hide (o3.cell B2.out)
  replace HX := hide (HX.out.old o3)
  clear b1
  clear B1
  have HI := hide i3.is
  clear i3 o3
  go_wp2_with fail
  refine (calls_as (zset_Norm _ _ _ HI.out (Nat.le_trans FB.out.len (by omega)) FB.out.short FB.out.fits) OY.out EY.out).mono ?_
  rintro e w4 ⟨v4, rfl, i4, o4⟩
  replace HO := hide (Old.trans HO.out o4)
  replace B2 := hide (o4.cell B2.out)
  replace HX := hide (HX.out.old o4)
  replace HI := hide (HI.out.old o4)
  have HY := hide i4.is
  clear i4 o4
  clear HI
  have b2 := B2.out
  go_wp2_with fail
  refine (cut_run _ lc _ (HLC.out.old HO.out)).mono ?_
  rintro e w5 ⟨v5, rfl, i5, o5⟩
  replace HO := hide (Old.trans HO.out o5)
  replace B2 := hide (o5.cell B2.out)
  replace HX := hide (HX.out.old o5)
  replace HY := hide (HY.out.old o5)
  clear b2
  clear B2
  have HI := hide i5.is
  clear i5 o5
  go_wp2_with fail
  refine (calls_as (zset_Norm _ _ _ HI.out (Nat.le_trans FC.out.len (by omega)) FC.out.short FC.out.fits) OZ.out EZ.out).mono ?_
  rintro e w6 ⟨v6, rfl, i6, o6⟩
  replace HO := hide (Old.trans HO.out o6)
  replace HX := hide (HX.out.old o6)
  replace HY := hide (HY.out.old o6)
  replace HI := hide (HI.out.old o6)
  have HZ := hide i6.is
  clear i6 o6
  clear HI
  go_wp2_with fail
  refine (calls_as (zset_Add _ _ X Y _ HX.out HY.out (FX.out.mono (by omega)) (FY.out.mono (by omega))) OA.out EA.out).mono ?_
  rintro e w7 ⟨v7, rfl, i7, o7⟩
  replace HO := hide (Old.trans HO.out o7)
  replace HX := hide (HX.out.old o7)
  replace HY := hide (HY.out.old o7)
  replace HZ := hide (HZ.out.old o7)
  have HA := hide i7.is
  clear i7 o7
  go_wp2_with fail
  refine (calls_as (zset_Add _ _ Y X _ HY.out HX.out (FY.out.mono (by omega)) (FX.out.mono (by omega))) OB.out EB.out).mono ?_
  rintro e w8 ⟨v8, rfl, i8, o8⟩
  replace HO := hide (Old.trans HO.out o8)
  replace HX := hide (HX.out.old o8)
  replace HY := hide (HY.out.old o8)
  replace HZ := hide (HZ.out.old o8)
  replace HA := hide (HA.out.old o8)
  have HB := hide i8.is
  clear i8 o8
  go_wp2_with fail
  refine (same_true _ _ A _ HA.out HB.out).mono ?_
  rintro e w9 ⟨rfl, o9⟩
  replace HO := hide (Old.trans HO.out o9)
  replace HX := hide (HX.out.old o9)
  replace HY := hide (HY.out.old o9)
  replace HZ := hide (HZ.out.old o9)
  replace HA := hide (HA.out.old o9)
  replace HB := hide (HB.out.old o9)
  clear o9
  clear HB
  go_wp2_with fail
  refine (calls_as (zset_Neg _ X _ HX.out (FX.out.mono (by omega))) ON.out EN.out).mono ?_
  rintro e w10 ⟨v10, rfl, i10, o10⟩
  replace HO := hide (Old.trans HO.out o10)
  replace HX := hide (HX.out.old o10)
  replace HY := hide (HY.out.old o10)
  replace HZ := hide (HZ.out.old o10)
  replace HA := hide (HA.out.old o10)
  have HN := hide i10.is
  clear i10 o10
  go_wp2_with fail
  refine (calls_as (zset_Add _ _ X N _ HX.out HN.out (FX.out.mono (by omega)) (FN.out.mono (by omega))) NN.out.2 NN.out.1).mono ?_
  rintro e w11 ⟨v11, he11, i11, o11⟩
  obtain ⟨A11, c11, rfl⟩ := items_nil i11
  subst he11
  replace HO := hide (Old.trans HO.out o11)
  replace HX := hide (HX.out.old o11)
  replace HY := hide (HY.out.old o11)
  replace HZ := hide (HZ.out.old o11)
  replace HA := hide (HA.out.old o11)
  replace HN := hide (HN.out.old o11)
  clear i11 o11
  go_wp2_with fail
  refine (calls_as (zset_Neg _ N _ HN.out (FN.out.mono (by omega))) NB.out.2 NB.out.1).mono ?_
  rintro e w12 ⟨v12, rfl, i12, o12⟩
  replace HO := hide (Old.trans HO.out o12)
  replace HX := hide (HX.out.old o12)
  replace HY := hide (HY.out.old o12)
  replace HZ := hide (HZ.out.old o12)
  replace HA := hide (HA.out.old o12)
  replace HN := hide (HN.out.old o12)
  have HBK := hide i12.is
  clear i12 o12
  go_wp2_with fail
  refine (same_true _ _ X _ HBK.out HX.out).mono ?_
  rintro e w13 ⟨rfl, o13⟩
  replace HO := hide (Old.trans HO.out o13)
  replace HX := hide (HX.out.old o13)
  replace HY := hide (HY.out.old o13)
  replace HZ := hide (HZ.out.old o13)
  replace HA := hide (HA.out.old o13)
  replace HN := hide (HN.out.old o13)
  replace HBK := hide (HBK.out.old o13)
  clear o13
  clear HBK
  go_wp2_with fail
  refine (calls_as (zset_Add _ _ Y Z _ HY.out HZ.out (FY.out.mono (by omega)) (FZ.out.mono (by omega))) OC.out EC.out).mono ?_
  rintro e w14 ⟨v14, rfl, i14, o14⟩
  replace HO := hide (Old.trans HO.out o14)
  replace HX := hide (HX.out.old o14)
  replace HY := hide (HY.out.old o14)
  replace HZ := hide (HZ.out.old o14)
  replace HA := hide (HA.out.old o14)
  replace HN := hide (HN.out.old o14)
  have HC := hide i14.is
  clear i14 o14
  go_wp2_with fail
  refine (works_run _).mono ?_
  rintro e w15 ⟨rfl, o15⟩
  go_wp2_with fail
  go_ret
  exact ⟨rfl, Old.trans HO.out o15⟩

set_option maxRecDepth 100000 in
set_option maxHeartbeats 8000000 in
theorem zsetGroup_i0_g50_jx (va vb vc : Value) (la lb lc X Y Z : List Item) (ex ey ez : Int) (w : World) (ha : ItemsIs w va la) (hb : ItemsIs w vb lb) (hc : ItemsIs w vc lc) (fa : Fine 40 (cutItems la)) (fb : Fine 40 (cutItems lb)) (fc : Fine 40 (cutItems lc))
    (ox : normOut (cutItems la) = X) (exx : normErr (cutItems la) = ex) (oy : normOut (cutItems lb) = Y) (eyy : normErr (cutItems lb) = ey) (oz : normOut (cutItems lc) = Z) (ezz : normErr (cutItems lc) = ez) (h0 : ex = 0) (h1 : ey = 0) (h2 : ez = 0) (zx : ZOk X) (fx : Fine 40 X) (fy : Fine 40 Y) (fz : Fine 40 Z) (ei : scaleErr (-1) X = 0) (eg : addErr X Y = 50) :
    Calls Try.prog 6 #[.agg #[va, vb, vc]] w fun e w' => e = .returned (.bool true) ∧ Old w w' := by
  have HLA := hide ha
  obtain ⟨Aa, ka, ua, rfl, _⟩ := ha.open_
  have HLB := hide hb
  obtain ⟨Ab, kb, ub, rfl, _⟩ := hb.open_
  have HLC := hide hc
  obtain ⟨Ac, kc, uc, rfl, _⟩ := hc.open_
  have FA := hide fa
  have FB := hide fb
  have FC := hide fc
  have OX := hide ox
  have EX := hide exx
  have OY := hide oy
  have EY := hide eyy
  have OZ := hide oz
  have EZ := hide ezz
  subst h0 h1 h2
  have FX := hide fx
  have FY := hide fy
  have FZ := hide fz
  obtain ⟨A, hA⟩ : ∃ A, Hid (addOut X Y = A) := ⟨_, hide rfl⟩
  have OA := hide hA.out
  have EA := hide eg
  have OB := hide ((add_comm_ Y X).2.trans hA.out)
  have EB := hide ((add_comm_ Y X).1.trans eg)
  obtain ⟨N, hN⟩ : ∃ N, Hid (scaleOut (-1) X = N) := ⟨_, hide rfl⟩
  have ON := hide hN.out
  have EN := hide ei
  obtain ⟨C, hC⟩ : ∃ C, Hid (addOut Y Z = C) := ⟨_, hide rfl⟩
  have OC := hide hC.out
  have FN := hide (show Fine 40 N by rw [← hN.out]; exact scale_fine fx)
  have NN := hide (neg_none zx ei)
  have NB := hide (neg_back zx fx.fits ei)
  rw [hN.out] at NN NB
  obtain ⟨E1, hE1⟩ : ∃ E, Hid (addErr Y Z = E) := ⟨_, hide rfl⟩
  have EC := hide hE1.out
  clear zx fx fy fz ei eg hE1 hA hN hC
  clear ha hb hc fa fb fc ox exx oy eyy oz ezz
  have HO := hide (Old.refl w)
  go_enter Try.func6, Try.ntmps6
  go_wp2_with fail
  refine (cut_run _ la _ (HLA.out.old ((Old.refl w).alloc _))).mono ?_
  rintro e w1 ⟨v1, rfl, i1, o1⟩
  replace HO := hide (Old.trans ((Old.refl w).alloc _) o1)
  have B1 := hide (show w1.cell? ⟨w.heap.size, 1, none⟩ = some (.slice Ab lb.length kb) from o1.cell (by go_simp))
  have B2 := hide (show w1.cell? ⟨w.heap.size, 2, none⟩ = some (.slice Ac lc.length kc) from o1.cell (by go_simp))
  have HI := hide i1.is
  clear i1 o1
  go_wp2_with fail
  refine (calls_as (zset_Norm _ _ _ HI.out (Nat.le_trans FA.out.len (by omega)) FA.out.short FA.out.fits) OX.out EX.out).mono ?_
  rintro e w2 ⟨v2, rfl, i2, o2⟩
  replace HO := hide (Old.trans HO.out o2)
  replace B1 := hide (o2.cell B1.out)
  replace B2 := hide (o2.cell B2.out)
  replace HI := hide (HI.out.old o2)
  have HX := hide i2.is
  clear i2 o2
  clear HI
  have b1 := B1.out
  go_wp2_with fail
  refine (cut_run _ lb _ (HLB.out.old HO.out)).mono ?_
  rintro e w3 ⟨v3, rfl, i3, o3⟩
  replace HO := hide (Old.trans HO.out o3)
  replace B1 := hide (o3.cell B1.out)
  replace B2 := hide (o3.cell B2.out)
  replace HX := hide (HX.out.old o3)
  clear b1
  clear B1
  have HI := hide i3.is
  clear i3 o3
  go_wp2_with fail
  refine (calls_as (zset_Norm _ _ _ HI.out (Nat.le_trans FB.out.len (by omega)) FB.out.short FB.out.fits) OY.out EY.out).mono ?_
  rintro e w4 ⟨v4, rfl, i4, o4⟩
  replace HO := hide (Old.trans HO.out o4)
  replace B2 := hide (o4.cell B2.out)
  replace HX := hide (HX.out.old o4)
  replace HI := hide (HI.out.old o4)
  have HY := hide i4.is
  clear i4 o4
  clear HI
  have b2 := B2.out
  go_wp2_with fail
  refine (cut_run _ lc _ (HLC.out.old HO.out)).mono ?_
  rintro e w5 ⟨v5, rfl, i5, o5⟩
  replace HO := hide (Old.trans HO.out o5)
  replace B2 := hide (o5.cell B2.out)
  replace HX := hide (HX.out.old o5)
  replace HY := hide (HY.out.old o5)
  clear b2
  clear B2
  have HI := hide i5.is
  clear i5 o5
  go_wp2_with fail
  refine (calls_as (zset_Norm _ _ _ HI.out (Nat.le_trans FC.out.len (by omega)) FC.out.short FC.out.fits) OZ.out EZ.out).mono ?_
  rintro e w6 ⟨v6, rfl, i6, o6⟩
  replace HO := hide (Old.trans HO.out o6)
  replace HX := hide (HX.out.old o6)
  replace HY := hide (HY.out.old o6)
  replace HI := hide (HI.out.old o6)
  have HZ := hide i6.is
  clear i6 o6
  clear HI
  go_wp2_with fail
  refine (calls_as (zset_Add _ _ X Y _ HX.out HY.out (FX.out.mono (by omega)) (FY.out.mono (by omega))) OA.out EA.out).mono ?_
  rintro e w7 ⟨v7, rfl, i7, o7⟩
  replace HO := hide (Old.trans HO.out o7)
  replace HX := hide (HX.out.old o7)
  replace HY := hide (HY.out.old o7)
  replace HZ := hide (HZ.out.old o7)
  have HA := hide i7.is
  clear i7 o7
  go_wp2_with fail
  refine (calls_as (zset_Add _ _ Y X _ HY.out HX.out (FY.out.mono (by omega)) (FX.out.mono (by omega))) OB.out EB.out).mono ?_
  rintro e w8 ⟨v8, rfl, i8, o8⟩
  replace HO := hide (Old.trans HO.out o8)
  replace HX := hide (HX.out.old o8)
  replace HY := hide (HY.out.old o8)
  replace HZ := hide (HZ.out.old o8)
  replace HA := hide (HA.out.old o8)
  have HB := hide i8.is
  clear i8 o8
  go_wp2_with fail
  refine (same_true _ _ A _ HA.out HB.out).mono ?_
  rintro e w9 ⟨rfl, o9⟩
  replace HO := hide (Old.trans HO.out o9)
  replace HX := hide (HX.out.old o9)
  replace HY := hide (HY.out.old o9)
  replace HZ := hide (HZ.out.old o9)
  replace HA := hide (HA.out.old o9)
  replace HB := hide (HB.out.old o9)
  clear o9
  clear HB
  go_wp2_with fail
  refine (calls_as (zset_Neg _ X _ HX.out (FX.out.mono (by omega))) ON.out EN.out).mono ?_
  rintro e w10 ⟨v10, rfl, i10, o10⟩
  replace HO := hide (Old.trans HO.out o10)
  replace HX := hide (HX.out.old o10)
  replace HY := hide (HY.out.old o10)
  replace HZ := hide (HZ.out.old o10)
  replace HA := hide (HA.out.old o10)
  have HN := hide i10.is
  clear i10 o10
  go_wp2_with fail
  refine (calls_as (zset_Add _ _ X N _ HX.out HN.out (FX.out.mono (by omega)) (FN.out.mono (by omega))) NN.out.2 NN.out.1).mono ?_
  rintro e w11 ⟨v11, he11, i11, o11⟩
  obtain ⟨A11, c11, rfl⟩ := items_nil i11
  subst he11
  replace HO := hide (Old.trans HO.out o11)
  replace HX := hide (HX.out.old o11)
  replace HY := hide (HY.out.old o11)
  replace HZ := hide (HZ.out.old o11)
  replace HA := hide (HA.out.old o11)
  replace HN := hide (HN.out.old o11)
  clear i11 o11
  go_wp2_with fail
  refine (calls_as (zset_Neg _ N _ HN.out (FN.out.mono (by omega))) NB.out.2 NB.out.1).mono ?_
  rintro e w12 ⟨v12, rfl, i12, o12⟩
  replace HO := hide (Old.trans HO.out o12)
  replace HX := hide (HX.out.old o12)
  replace HY := hide (HY.out.old o12)
  replace HZ := hide (HZ.out.old o12)
  replace HA := hide (HA.out.old o12)
  replace HN := hide (HN.out.old o12)
  have HBK := hide i12.is
  clear i12 o12
  go_wp2_with fail
  refine (same_true _ _ X _ HBK.out HX.out).mono ?_
  rintro e w13 ⟨rfl, o13⟩
  replace HO := hide (Old.trans HO.out o13)
  replace HX := hide (HX.out.old o13)
  replace HY := hide (HY.out.old o13)
  replace HZ := hide (HZ.out.old o13)
  replace HA := hide (HA.out.old o13)
  replace HN := hide (HN.out.old o13)
  replace HBK := hide (HBK.out.old o13)
  clear o13
  clear HBK
  go_wp2_with fail
  refine (calls_as (zset_Add _ _ Y Z _ HY.out HZ.out (FY.out.mono (by omega)) (FZ.out.mono (by omega))) OC.out EC.out).mono ?_
  rintro e w14 ⟨v14, rfl, i14, o14⟩
  replace HO := hide (Old.trans HO.out o14)
  replace HX := hide (HX.out.old o14)
  replace HY := hide (HY.out.old o14)
  replace HZ := hide (HZ.out.old o14)
  replace HA := hide (HA.out.old o14)
  replace HN := hide (HN.out.old o14)
  have HC := hide i14.is
  clear i14 o14
  go_wp2_with fail
  refine (works_run _).mono ?_
  rintro e w15 ⟨rfl, o15⟩
  go_wp2_with fail
  go_ret
  exact ⟨rfl, Old.trans HO.out o15⟩

set_option maxRecDepth 100000 in
set_option maxHeartbeats 8000000 in
theorem zsetGroup_i50_g0_j0 (va vb vc : Value) (la lb lc X Y Z : List Item) (ex ey ez : Int) (w : World) (ha : ItemsIs w va la) (hb : ItemsIs w vb lb) (hc : ItemsIs w vc lc) (fa : Fine 40 (cutItems la)) (fb : Fine 40 (cutItems lb)) (fc : Fine 40 (cutItems lc))
    (ox : normOut (cutItems la) = X) (exx : normErr (cutItems la) = ex) (oy : normOut (cutItems lb) = Y) (eyy : normErr (cutItems lb) = ey) (oz : normOut (cutItems lc) = Z) (ezz : normErr (cutItems lc) = ez) (h0 : ex = 0) (h1 : ey = 0) (h2 : ez = 0) (zx : ZOk X) (zy : ZOk Y) (zz : ZOk Z) (fx : Fine 40 X) (fy : Fine 40 Y) (fz : Fine 40 Z) (ei : scaleErr (-1) X = 50) (eg : addErr X Y = 0) (ej : addErr Y Z = 0) :
    Calls Try.prog 6 #[.agg #[va, vb, vc]] w fun e w' => e = .returned (.bool true) ∧ Old w w' := by
  have HLA := hide ha
  obtain ⟨Aa, ka, ua, rfl, _⟩ := ha.open_
  have HLB := hide hb
  obtain ⟨Ab, kb, ub, rfl, _⟩ := hb.open_
  have HLC := hide hc
  obtain ⟨Ac, kc, uc, rfl, _⟩ := hc.open_
  have FA := hide fa
  have FB := hide fb
  have FC := hide fc
  have OX := hide ox
  have EX := hide exx
  have OY := hide oy
  have EY := hide eyy
  have OZ := hide oz
  have EZ := hide ezz
  subst h0 h1 h2
  have FX := hide fx
  have FY := hide fy
  have FZ := hide fz
  obtain ⟨A, hA⟩ : ∃ A, Hid (addOut X Y = A) := ⟨_, hide rfl⟩
  have OA := hide hA.out
  have EA := hide eg
  have OB := hide ((add_comm_ Y X).2.trans hA.out)
  have EB := hide ((add_comm_ Y X).1.trans eg)
  obtain ⟨N, hN⟩ : ∃ N, Hid (scaleOut (-1) X = N) := ⟨_, hide rfl⟩
  have ON := hide hN.out
  have EN := hide ei
  obtain ⟨C, hC⟩ : ∃ C, Hid (addOut Y Z = C) := ⟨_, hide rfl⟩
  have OC := hide hC.out
  have EC := hide ej
  have FAA := hide (show Fine 80 A by rw [← hA.out]; exact add_fine fx fy)
  have FCC := hide (show Fine 80 C by rw [← hC.out]; exact add_fine fy fz)
  have HAS := add_assoc_ zx zy zz eg ej
  rw [hA.out, hC.out] at HAS
  obtain ⟨O2, hO2⟩ : ∃ O, Hid (addOut X C = O) := ⟨_, hide rfl⟩
  obtain ⟨E2, hE2⟩ : ∃ E, Hid (addErr X C = E) := ⟨_, hide rfl⟩
  have AS := hide (show addErr A Z = E2 ∧ addOut A Z = O2 from ⟨HAS.1.trans hE2.out, HAS.2.trans hO2.out⟩)
  have BS := hide (show addErr X C = E2 ∧ addOut X C = O2 from ⟨hE2.out, hO2.out⟩)
  clear HAS hO2 hE2
  clear zx zy zz fx fy fz ei eg ej hA hN hC
  clear ha hb hc fa fb fc ox exx oy eyy oz ezz
  have HO := hide (Old.refl w)
  go_enter Try.func6, Try.ntmps6
  go_wp2_with fail
  refine (cut_run _ la _ (HLA.out.old ((Old.refl w).alloc _))).mono ?_
  rintro e w1 ⟨v1, rfl, i1, o1⟩
  replace HO := hide (Old.trans ((Old.refl w).alloc _) o1)
  have B1 := hide (show w1.cell? ⟨w.heap.size, 1, none⟩ = some (.slice Ab lb.length kb) from o1.cell (by go_simp))
  have B2 := hide (show w1.cell? ⟨w.heap.size, 2, none⟩ = some (.slice Ac lc.length kc) from o1.cell (by go_simp))
  have HI := hide i1.is
  clear i1 o1
  go_wp2_with fail
  refine (calls_as (zset_Norm _ _ _ HI.out (Nat.le_trans FA.out.len (by omega)) FA.out.short FA.out.fits) OX.out EX.out).mono ?_
  rintro e w2 ⟨v2, rfl, i2, o2⟩
  replace HO := hide (Old.trans HO.out o2)
  replace B1 := hide (o2.cell B1.out)
  replace B2 := hide (o2.cell B2.out)
  replace HI := hide (HI.out.old o2)
  have HX := hide i2.is
  clear i2 o2
  clear HI
  have b1 := B1.out
  go_wp2_with fail
  refine (cut_run _ lb _ (HLB.out.old HO.out)).mono ?_
  rintro e w3 ⟨v3, rfl, i3, o3⟩
  replace HO := hide (Old.trans HO.out o3)
  replace B1 := hide (o3.cell B1.out)
  replace B2 := hide (o3.cell B2.out)
  replace HX := hide (HX.out.old o3)
  clear b1
  clear B1
  have HI := hide i3.is
  clear i3 o3
  go_wp2_with fail
  refine (calls_as (zset_Norm _ _ _ HI.out (Nat.le_trans FB.out.len (by omega)) FB.out.short FB.out.fits) OY.out EY.out).mono ?_
  rintro e w4 ⟨v4, rfl, i4, o4⟩
  replace HO := hide (Old.trans HO.out o4)
  replace B2 := hide (o4.cell B2.out)
  replace HX := hide (HX.out.old o4)
  replace HI := hide (HI.out.old o4)
  have HY := hide i4.is
  clear i4 o4
  clear HI
  have b2 := B2.out
  go_wp2_with fail
  refine (cut_run _ lc _ (HLC.out.old HO.out)).mono ?_
  rintro e w5 ⟨v5, rfl, i5, o5⟩
  replace HO := hide (Old.trans HO.out o5)
  replace B2 := hide (o5.cell B2.out)
  replace HX := hide (HX.out.old o5)
  replace HY := hide (HY.out.old o5)
  clear b2
  clear B2
  have HI := hide i5.is
  clear i5 o5
  go_wp2_with fail
  refine (calls_as (zset_Norm _ _ _ HI.out (Nat.le_trans FC.out.len (by omega)) FC.out.short FC.out.fits) OZ.out EZ.out).mono ?_
  rintro e w6 ⟨v6, rfl, i6, o6⟩
  replace HO := hide (Old.trans HO.out o6)
  replace HX := hide (HX.out.old o6)
  replace HY := hide (HY.out.old o6)
  replace HI := hide (HI.out.old o6)
  have HZ := hide i6.is
  clear i6 o6
  clear HI
  go_wp2_with fail
  refine (calls_as (zset_Add _ _ X Y _ HX.out HY.out (FX.out.mono (by omega)) (FY.out.mono (by omega))) OA.out EA.out).mono ?_
  rintro e w7 ⟨v7, rfl, i7, o7⟩
  replace HO := hide (Old.trans HO.out o7)
  replace HX := hide (HX.out.old o7)
  replace HY := hide (HY.out.old o7)
  replace HZ := hide (HZ.out.old o7)
  have HA := hide i7.is
  clear i7 o7
  go_wp2_with fail
  refine (calls_as (zset_Add _ _ Y X _ HY.out HX.out (FY.out.mono (by omega)) (FX.out.mono (by omega))) OB.out EB.out).mono ?_
  rintro e w8 ⟨v8, rfl, i8, o8⟩
  replace HO := hide (Old.trans HO.out o8)
  replace HX := hide (HX.out.old o8)
  replace HY := hide (HY.out.old o8)
  replace HZ := hide (HZ.out.old o8)
  replace HA := hide (HA.out.old o8)
  have HB := hide i8.is
  clear i8 o8
  go_wp2_with fail
  refine (same_true _ _ A _ HA.out HB.out).mono ?_
  rintro e w9 ⟨rfl, o9⟩
  replace HO := hide (Old.trans HO.out o9)
  replace HX := hide (HX.out.old o9)
  replace HY := hide (HY.out.old o9)
  replace HZ := hide (HZ.out.old o9)
  replace HA := hide (HA.out.old o9)
  replace HB := hide (HB.out.old o9)
  clear o9
  clear HB
  go_wp2_with fail
  refine (calls_as (zset_Neg _ X _ HX.out (FX.out.mono (by omega))) ON.out EN.out).mono ?_
  rintro e w10 ⟨v10, rfl, i10, o10⟩
  replace HO := hide (Old.trans HO.out o10)
  replace HX := hide (HX.out.old o10)
  replace HY := hide (HY.out.old o10)
  replace HZ := hide (HZ.out.old o10)
  replace HA := hide (HA.out.old o10)
  have HN := hide i10.is
  clear i10 o10
  go_wp2_with fail
  refine (calls_as (zset_Add _ _ Y Z _ HY.out HZ.out (FY.out.mono (by omega)) (FZ.out.mono (by omega))) OC.out EC.out).mono ?_
  rintro e w11 ⟨v11, rfl, i11, o11⟩
  replace HO := hide (Old.trans HO.out o11)
  replace HX := hide (HX.out.old o11)
  replace HY := hide (HY.out.old o11)
  replace HZ := hide (HZ.out.old o11)
  replace HA := hide (HA.out.old o11)
  replace HN := hide (HN.out.old o11)
  have HC := hide i11.is
  clear i11 o11
  go_wp2_with fail
  refine (calls_as (zset_Add _ _ A Z _ HA.out HZ.out (FAA.out.mono (by omega)) (FZ.out.mono (by omega))) AS.out.2 AS.out.1).mono ?_
  rintro e w12 ⟨v12, rfl, i12, o12⟩
  replace HO := hide (Old.trans HO.out o12)
  replace HX := hide (HX.out.old o12)
  replace HY := hide (HY.out.old o12)
  replace HZ := hide (HZ.out.old o12)
  replace HA := hide (HA.out.old o12)
  replace HN := hide (HN.out.old o12)
  replace HC := hide (HC.out.old o12)
  have HP := hide i12.is
  clear i12 o12
  go_wp2_with fail
  refine (calls_as (zset_Add _ _ X C _ HX.out HC.out (FX.out.mono (by omega)) (FCC.out.mono (by omega))) BS.out.2 BS.out.1).mono ?_
  rintro e w13 ⟨v13, rfl, i13, o13⟩
  replace HO := hide (Old.trans HO.out o13)
  replace HX := hide (HX.out.old o13)
  replace HY := hide (HY.out.old o13)
  replace HZ := hide (HZ.out.old o13)
  replace HA := hide (HA.out.old o13)
  replace HN := hide (HN.out.old o13)
  replace HC := hide (HC.out.old o13)
  replace HP := hide (HP.out.old o13)
  have HQ := hide i13.is
  clear i13 o13
  go_wp2_with fail
  refine (same_true _ _ O2 _ HP.out HQ.out).mono ?_
  rintro e w14 ⟨rfl, o14⟩
  replace HO := hide (Old.trans HO.out o14)
  replace HX := hide (HX.out.old o14)
  replace HY := hide (HY.out.old o14)
  replace HZ := hide (HZ.out.old o14)
  replace HA := hide (HA.out.old o14)
  replace HN := hide (HN.out.old o14)
  replace HC := hide (HC.out.old o14)
  replace HP := hide (HP.out.old o14)
  replace HQ := hide (HQ.out.old o14)
  clear o14
  go_wp2_with fail
  refine (works_run _).mono ?_
  rintro e w15 ⟨rfl, o15⟩
  go_wp2_with fail
  go_ret
  exact ⟨rfl, Old.trans HO.out o15⟩

set_option maxRecDepth 100000 in
set_option maxHeartbeats 8000000 in
theorem zsetGroup_i50_g0_j50 (va vb vc : Value) (la lb lc X Y Z : List Item) (ex ey ez : Int) (w : World) (ha : ItemsIs w va la) (hb : ItemsIs w vb lb) (hc : ItemsIs w vc lc) (fa : Fine 40 (cutItems la)) (fb : Fine 40 (cutItems lb)) (fc : Fine 40 (cutItems lc))
    (ox : normOut (cutItems la) = X) (exx : normErr (cutItems la) = ex) (oy : normOut (cutItems lb) = Y) (eyy : normErr (cutItems lb) = ey) (oz : normOut (cutItems lc) = Z) (ezz : normErr (cutItems lc) = ez) (h0 : ex = 0) (h1 : ey = 0) (h2 : ez = 0) (fx : Fine 40 X) (fy : Fine 40 Y) (fz : Fine 40 Z) (ei : scaleErr (-1) X = 50) (eg : addErr X Y = 0) (ej : addErr Y Z = 50) :
    Calls Try.prog 6 #[.agg #[va, vb, vc]] w fun e w' => e = .returned (.bool true) ∧ Old w w' := by
  have HLA := hide ha
  obtain ⟨Aa, ka, ua, rfl, _⟩ := ha.open_
  have HLB := hide hb
  obtain ⟨Ab, kb, ub, rfl, _⟩ := hb.open_
  have HLC := hide hc
  obtain ⟨Ac, kc, uc, rfl, _⟩ := hc.open_
  have FA := hide fa
  have FB := hide fb
  have FC := hide fc
  have OX := hide ox
  have EX := hide exx
  have OY := hide oy
  have EY := hide eyy
  have OZ := hide oz
  have EZ := hide ezz
  subst h0 h1 h2
  have FX := hide fx
  have FY := hide fy
  have FZ := hide fz
  obtain ⟨A, hA⟩ : ∃ A, Hid (addOut X Y = A) := ⟨_, hide rfl⟩
  have OA := hide hA.out
  have EA := hide eg
  have OB := hide ((add_comm_ Y X).2.trans hA.out)
  have EB := hide ((add_comm_ Y X).1.trans eg)
  obtain ⟨N, hN⟩ : ∃ N, Hid (scaleOut (-1) X = N) := ⟨_, hide rfl⟩
  have ON := hide hN.out
  have EN := hide ei
  obtain ⟨C, hC⟩ : ∃ C, Hid (addOut Y Z = C) := ⟨_, hide rfl⟩
  have OC := hide hC.out
  have EC := hide ej
  clear fx fy fz ei eg ej hA hN hC
  clear ha hb hc fa fb fc ox exx oy eyy oz ezz
  have HO := hide (Old.refl w)
  go_enter Try.func6, Try.ntmps6
  go_wp2_with fail
  refine (cut_run _ la _ (HLA.out.old ((Old.refl w).alloc _))).mono ?_
  rintro e w1 ⟨v1, rfl, i1, o1⟩
  replace HO := hide (Old.trans ((Old.refl w).alloc _) o1)
  have B1 := hide (show w1.cell? ⟨w.heap.size, 1, none⟩ = some (.slice Ab lb.length kb) from o1.cell (by go_simp))
  have B2 := hide (show w1.cell? ⟨w.heap.size, 2, none⟩ = some (.slice Ac lc.length kc) from o1.cell (by go_simp))
  have HI := hide i1.is
  clear i1 o1
  go_wp2_with fail
  refine (calls_as (zset_Norm _ _ _ HI.out (Nat.le_trans FA.out.len (by omega)) FA.out.short FA.out.fits) OX.out EX.out).mono ?_
  rintro e w2 ⟨v2, rfl, i2, o2⟩
  replace HO := hide (Old.trans HO.out o2)
  replace B1 := hide (o2.cell B1.out)
  replace B2 := hide (o2.cell B2.out)
  replace HI := hide (HI.out.old o2)
  have HX := hide i2.is
  clear i2 o2
  clear HI
  have b1 := B1.out
  go_wp2_with fail
  refine (cut_run _ lb _ (HLB.out.old HO.out)).mono ?_
  rintro e w3 ⟨v3, rfl, i3, o3⟩
  replace HO := hide (Old.trans HO.out o3)
  replace B1 := hide (o3.cell B1.out)
  replace B2 := hide (o3.cell B2.out)
  replace HX := hide (HX.out.old o3)
  clear b1
  clear B1
  have HI := hide i3.is
  clear i3 o3
  go_wp2_with fail
  refine (calls_as (zset_Norm _ _ _ HI.out (Nat.le_trans FB.out.len (by omega)) FB.out.short FB.out.fits) OY.out EY.out).mono ?_
  rintro e w4 ⟨v4, rfl, i4, o4⟩
  replace HO := hide (Old.trans HO.out o4)
  replace B2 := hide (o4.cell B2.out)
  replace HX := hide (HX.out.old o4)
  replace HI := hide (HI.out.old o4)
  have HY := hide i4.is
  clear i4 o4
  clear HI
  have b2 := B2.out
  go_wp2_with fail
  refine (cut_run _ lc _ (HLC.out.old HO.out)).mono ?_
  rintro e w5 ⟨v5, rfl, i5, o5⟩
  replace HO := hide (Old.trans HO.out o5)
  replace B2 := hide (o5.cell B2.out)
  replace HX := hide (HX.out.old o5)
  replace HY := hide (HY.out.old o5)
  clear b2
  clear B2
  have HI := hide i5.is
  clear i5 o5
  go_wp2_with fail
  refine (calls_as (zset_Norm _ _ _ HI.out (Nat.le_trans FC.out.len (by omega)) FC.out.short FC.out.fits) OZ.out EZ.out).mono ?_
  rintro e w6 ⟨v6, rfl, i6, o6⟩
  replace HO := hide (Old.trans HO.out o6)
  replace HX := hide (HX.out.old o6)
  replace HY := hide (HY.out.old o6)
  replace HI := hide (HI.out.old o6)
  have HZ := hide i6.is
  clear i6 o6
  clear HI
  go_wp2_with fail
  refine (calls_as (zset_Add _ _ X Y _ HX.out HY.out (FX.out.mono (by omega)) (FY.out.mono (by omega))) OA.out EA.out).mono ?_
  rintro e w7 ⟨v7, rfl, i7, o7⟩
  replace HO := hide (Old.trans HO.out o7)
  replace HX := hide (HX.out.old o7)
  replace HY := hide (HY.out.old o7)
  replace HZ := hide (HZ.out.old o7)
  have HA := hide i7.is
  clear i7 o7
  go_wp2_with fail
  refine (calls_as (zset_Add _ _ Y X _ HY.out HX.out (FY.out.mono (by omega)) (FX.out.mono (by omega))) OB.out EB.out).mono ?_
  rintro e w8 ⟨v8, rfl, i8, o8⟩
  replace HO := hide (Old.trans HO.out o8)
  replace HX := hide (HX.out.old o8)
  replace HY := hide (HY.out.old o8)
  replace HZ := hide (HZ.out.old o8)
  replace HA := hide (HA.out.old o8)
  have HB := hide i8.is
  clear i8 o8
  go_wp2_with fail
  refine (same_true _ _ A _ HA.out HB.out).mono ?_
  rintro e w9 ⟨rfl, o9⟩
  replace HO := hide (Old.trans HO.out o9)
  replace HX := hide (HX.out.old o9)
  replace HY := hide (HY.out.old o9)
  replace HZ := hide (HZ.out.old o9)
  replace HA := hide (HA.out.old o9)
  replace HB := hide (HB.out.old o9)
  clear o9
  clear HB
  go_wp2_with fail
  refine (calls_as (zset_Neg _ X _ HX.out (FX.out.mono (by omega))) ON.out EN.out).mono ?_
  rintro e w10 ⟨v10, rfl, i10, o10⟩
  replace HO := hide (Old.trans HO.out o10)
  replace HX := hide (HX.out.old o10)
  replace HY := hide (HY.out.old o10)
  replace HZ := hide (HZ.out.old o10)
  replace HA := hide (HA.out.old o10)
  have HN := hide i10.is
  clear i10 o10
  go_wp2_with fail
  refine (calls_as (zset_Add _ _ Y Z _ HY.out HZ.out (FY.out.mono (by omega)) (FZ.out.mono (by omega))) OC.out EC.out).mono ?_
  rintro e w11 ⟨v11, rfl, i11, o11⟩
  replace HO := hide (Old.trans HO.out o11)
  replace HX := hide (HX.out.old o11)
  replace HY := hide (HY.out.old o11)
  replace HZ := hide (HZ.out.old o11)
  replace HA := hide (HA.out.old o11)
  replace HN := hide (HN.out.old o11)
  have HC := hide i11.is
  clear i11 o11
  go_wp2_with fail
  refine (works_run _).mono ?_
  rintro e w12 ⟨rfl, o12⟩
  go_wp2_with fail
  go_ret
  exact ⟨rfl, Old.trans HO.out o12⟩

set_option maxRecDepth 100000 in
set_option maxHeartbeats 8000000 in
theorem zsetGroup_i50_g50_jx (va vb vc : Value) (la lb lc X Y Z : List Item) (ex ey ez : Int) (w : World) (ha : ItemsIs w va la) (hb : ItemsIs w vb lb) (hc : ItemsIs w vc lc) (fa : Fine 40 (cutItems la)) (fb : Fine 40 (cutItems lb)) (fc : Fine 40 (cutItems lc))
    (ox : normOut (cutItems la) = X) (exx : normErr (cutItems la) = ex) (oy : normOut (cutItems lb) = Y) (eyy : normErr (cutItems lb) = ey) (oz : normOut (cutItems lc) = Z) (ezz : normErr (cutItems lc) = ez) (h0 : ex = 0) (h1 : ey = 0) (h2 : ez = 0) (fx : Fine 40 X) (fy : Fine 40 Y) (fz : Fine 40 Z) (ei : scaleErr (-1) X = 50) (eg : addErr X Y = 50) :
    Calls Try.prog 6 #[.agg #[va, vb, vc]] w fun e w' => e = .returned (.bool true) ∧ Old w w' := by
  have HLA := hide ha
  obtain ⟨Aa, ka, ua, rfl, _⟩ := ha.open_
  have HLB := hide hb
  obtain ⟨Ab, kb, ub, rfl, _⟩ := hb.open_
  have HLC := hide hc
  obtain ⟨Ac, kc, uc, rfl, _⟩ := hc.open_
  have FA := hide fa
  have FB := hide fb
  have FC := hide fc
  have OX := hide ox
  have EX := hide exx
  have OY := hide oy
  have EY := hide eyy
  have OZ := hide oz
  have EZ := hide ezz
  subst h0 h1 h2
  have FX := hide fx
  have FY := hide fy
  have FZ := hide fz
  obtain ⟨A, hA⟩ : ∃ A, Hid (addOut X Y = A) := ⟨_, hide rfl⟩
  have OA := hide hA.out
  have EA := hide eg
  have OB := hide ((add_comm_ Y X).2.trans hA.out)
  have EB := hide ((add_comm_ Y X).1.trans eg)
  obtain ⟨N, hN⟩ : ∃ N, Hid (scaleOut (-1) X = N) := ⟨_, hide rfl⟩
  have ON := hide hN.out
  have EN := hide ei
  obtain ⟨C, hC⟩ : ∃ C, Hid (addOut Y Z = C) := ⟨_, hide rfl⟩
  have OC := hide hC.out
  obtain ⟨E1, hE1⟩ : ∃ E, Hid (addErr Y Z = E) := ⟨_, hide rfl⟩
  have EC := hide hE1.out
  clear fx fy fz ei eg hE1 hA hN hC
  clear ha hb hc fa fb fc ox exx oy eyy oz ezz
  have HO := hide (Old.refl w)
  go_enter Try.func6, Try.ntmps6
  go_wp2_with fail
  refine (cut_run _ la _ (HLA.out.old ((Old.refl w).alloc _))).mono ?_
  rintro e w1 ⟨v1, rfl, i1, o1⟩
  replace HO := hide (Old.trans ((Old.refl w).alloc _) o1)
  have B1 := hide (show w1.cell? ⟨w.heap.size, 1, none⟩ = some (.slice Ab lb.length kb) from o1.cell (by go_simp))
  have B2 := hide (show w1.cell? ⟨w.heap.size, 2, none⟩ = some (.slice Ac lc.length kc) from o1.cell (by go_simp))
  have HI := hide i1.is
  clear i1 o1
  go_wp2_with fail
  refine (calls_as (zset_Norm _ _ _ HI.out (Nat.le_trans FA.out.len (by omega)) FA.out.short FA.out.fits) OX.out EX.out).mono ?_
  rintro e w2 ⟨v2, rfl, i2, o2⟩
  replace HO := hide (Old.trans HO.out o2)
  replace B1 := hide (o2.cell B1.out)
  replace B2 := hide (o2.cell B2.out)
  replace HI := hide (HI.out.old o2)
  have HX := hide i2.is
  clear i2 o2
  clear HI
  have b1 := B1.out
  go_wp2_with fail
  refine (cut_run _ lb _ (HLB.out.old HO.out)).mono ?_
  rintro e w3 ⟨v3, rfl, i3, o3⟩
  replace HO := hide (Old.trans HO.out o3)
  replace B1 := hide (o3.cell B1.out)
  replace B2 := hide (o3.cell B2.out)
  replace HX := hide (HX.out.old o3)
  clear b1
  clear B1
  have HI := hide i3.is
  clear i3 o3
  go_wp2_with fail
  refine (calls_as (zset_Norm _ _ _ HI.out (Nat.le_trans FB.out.len (by omega)) FB.out.short FB.out.fits) OY.out EY.out).mono ?_
  rintro e w4 ⟨v4, rfl, i4, o4⟩
  replace HO := hide (Old.trans HO.out o4)
  replace B2 := hide (o4.cell B2.out)
  replace HX := hide (HX.out.old o4)
  replace HI := hide (HI.out.old o4)
  have HY := hide i4.is
  clear i4 o4
  clear HI
  have b2 := B2.out
  go_wp2_with fail
  refine (cut_run _ lc _ (HLC.out.old HO.out)).mono ?_
  rintro e w5 ⟨v5, rfl, i5, o5⟩
  replace HO := hide (Old.trans HO.out o5)
  replace B2 := hide (o5.cell B2.out)
  replace HX := hide (HX.out.old o5)
  replace HY := hide (HY.out.old o5)
  clear b2
  clear B2
  have HI := hide i5.is
  clear i5 o5
  go_wp2_with fail
  refine (calls_as (zset_Norm _ _ _ HI.out (Nat.le_trans FC.out.len (by omega)) FC.out.short FC.out.fits) OZ.out EZ.out).mono ?_
  rintro e w6 ⟨v6, rfl, i6, o6⟩
  replace HO := hide (Old.trans HO.out o6)
  replace HX := hide (HX.out.old o6)
  replace HY := hide (HY.out.old o6)
  replace HI := hide (HI.out.old o6)
  have HZ := hide i6.is
  clear i6 o6
  clear HI
  go_wp2_with fail
  refine (calls_as (zset_Add _ _ X Y _ HX.out HY.out (FX.out.mono (by omega)) (FY.out.mono (by omega))) OA.out EA.out).mono ?_
  rintro e w7 ⟨v7, rfl, i7, o7⟩
  replace HO := hide (Old.trans HO.out o7)
  replace HX := hide (HX.out.old o7)
  replace HY := hide (HY.out.old o7)
  replace HZ := hide (HZ.out.old o7)
  have HA := hide i7.is
  clear i7 o7
  go_wp2_with fail
  refine (calls_as (zset_Add _ _ Y X _ HY.out HX.out (FY.out.mono (by omega)) (FX.out.mono (by omega))) OB.out EB.out).mono ?_
  rintro e w8 ⟨v8, rfl, i8, o8⟩
  replace HO := hide (Old.trans HO.out o8)
  replace HX := hide (HX.out.old o8)
  replace HY := hide (HY.out.old o8)
  replace HZ := hide (HZ.out.old o8)
  replace HA := hide (HA.out.old o8)
  have HB := hide i8.is
  clear i8 o8
  go_wp2_with fail
  refine (same_true _ _ A _ HA.out HB.out).mono ?_
  rintro e w9 ⟨rfl, o9⟩
  replace HO := hide (Old.trans HO.out o9)
  replace HX := hide (HX.out.old o9)
  replace HY := hide (HY.out.old o9)
  replace HZ := hide (HZ.out.old o9)
  replace HA := hide (HA.out.old o9)
  replace HB := hide (HB.out.old o9)
  clear o9
  clear HB
  go_wp2_with fail
  refine (calls_as (zset_Neg _ X _ HX.out (FX.out.mono (by omega))) ON.out EN.out).mono ?_
  rintro e w10 ⟨v10, rfl, i10, o10⟩
  replace HO := hide (Old.trans HO.out o10)
  replace HX := hide (HX.out.old o10)
  replace HY := hide (HY.out.old o10)
  replace HZ := hide (HZ.out.old o10)
  replace HA := hide (HA.out.old o10)
  have HN := hide i10.is
  clear i10 o10
  go_wp2_with fail
  refine (calls_as (zset_Add _ _ Y Z _ HY.out HZ.out (FY.out.mono (by omega)) (FZ.out.mono (by omega))) OC.out EC.out).mono ?_
  rintro e w11 ⟨v11, rfl, i11, o11⟩
  replace HO := hide (Old.trans HO.out o11)
  replace HX := hide (HX.out.old o11)
  replace HY := hide (HY.out.old o11)
  replace HZ := hide (HZ.out.old o11)
  replace HA := hide (HA.out.old o11)
  replace HN := hide (HN.out.old o11)
  have HC := hide i11.is
  clear i11 o11
  go_wp2_with fail
  refine (works_run _).mono ?_
  rintro e w12 ⟨rfl, o12⟩
  go_wp2_with fail
  go_ret
  exact ⟨rfl, Old.trans HO.out o12⟩

theorem zsetGroup_run (va vb vc : Value) (la lb lc : List Item) (w : World) (ha : ItemsIs w va la) (hb : ItemsIs w vb lb) (hc : ItemsIs w vc lc) (fa : ∀ x ∈ la, fit x.w) (fb : ∀ x ∈ lb, fit x.w) (fc : ∀ x ∈ lc, fit x.w) :
    Calls Try.prog 6 #[.agg #[va, vb, vc]] w fun e w' => e = .returned (.bool true) ∧ Old w w' := by
  have FA := cut_fine fa
  have FB := cut_fine fb
  have FC := cut_fine fc
  have ZX := normOut_zok (cutItems la)
  have ZY := normOut_zok (cutItems lb)
  have ZZ := normOut_zok (cutItems lc)
  rcases normErr_or (cutItems la) with h0 | h0
  · rcases normErr_or (cutItems lb) with h1 | h1
    · rcases normErr_or (cutItems lc) with h2 | h2
      · rcases scaleErr_or (k := -1) ZX with hi | hi <;> rcases addErr_or ZX ZY with hg | hg
        · rcases addErr_or ZY ZZ with hj | hj
          · exact zsetGroup_i0_g0_j0 va vb vc la lb lc _ _ _ _ _ _ w ha hb hc FA FB FC rfl rfl rfl rfl rfl rfl h0 h1 h2 ZX ZY ZZ (norm_fine FA) (norm_fine FB) (norm_fine FC) hi hg hj
          · exact zsetGroup_i0_g0_j50 va vb vc la lb lc _ _ _ _ _ _ w ha hb hc FA FB FC rfl rfl rfl rfl rfl rfl h0 h1 h2 ZX (norm_fine FA) (norm_fine FB) (norm_fine FC) hi hg hj
        · exact zsetGroup_i0_g50_jx va vb vc la lb lc _ _ _ _ _ _ w ha hb hc FA FB FC rfl rfl rfl rfl rfl rfl h0 h1 h2 ZX (norm_fine FA) (norm_fine FB) (norm_fine FC) hi hg
        · rcases addErr_or ZY ZZ with hj | hj
          · exact zsetGroup_i50_g0_j0 va vb vc la lb lc _ _ _ _ _ _ w ha hb hc FA FB FC rfl rfl rfl rfl rfl rfl h0 h1 h2 ZX ZY ZZ (norm_fine FA) (norm_fine FB) (norm_fine FC) hi hg hj
          · exact zsetGroup_i50_g0_j50 va vb vc la lb lc _ _ _ _ _ _ w ha hb hc FA FB FC rfl rfl rfl rfl rfl rfl h0 h1 h2 (norm_fine FA) (norm_fine FB) (norm_fine FC) hi hg hj
        · exact zsetGroup_i50_g50_jx va vb vc la lb lc _ _ _ _ _ _ w ha hb hc FA FB FC rfl rfl rfl rfl rfl rfl h0 h1 h2 (norm_fine FA) (norm_fine FB) (norm_fine FC) hi hg
      · exact zsetGroup_bad3 va vb vc la lb lc _ _ _ _ _ _ w ha hb hc FA FB FC rfl rfl rfl rfl rfl rfl h0 h1 h2
    · exact zsetGroup_bad2 va vb vc la lb lc _ _ _ _ _ _ w ha hb hc FA FB FC rfl rfl rfl rfl rfl rfl h0 h1
  · exact zsetGroup_bad1 va vb vc la lb lc _ _ _ _ _ _ w ha hb hc FA FB FC rfl rfl rfl rfl rfl rfl h0
end Go.Proofs.Ytggknmagpcnkoaa
