/- The statement ZsetTells: the walk. -/
import Derived.Test.YtggknmagpcnkoaaMakes
namespace Go.Proofs.Ytggknmagpcnkoaa
open Go.RowKit

theorem bool_as {f : FuncId} {args : Array Value} {w : World} {n n' : Bool} (h : Calls Try.prog f args w fun e w' => e = .returned (.bool n) ∧ Old w w') (e2 : n = n') : Calls Try.prog f args w fun e w' => e = .returned (.bool n') ∧ Old w w' := by
  subst e2
  exact h

set_option maxRecDepth 100000 in
set_option maxHeartbeats 4000000 in
theorem zsetTells_run (va vb vr : Value) (l m : List Item) (r : List Cell) (w : World) (hl : ItemsIs w va l) (hm : ItemsIs w vb m) (hr : RowIs w vr r) (fl : ∀ x ∈ l, fit x.w) :
    Calls Try.prog 8 #[va, vb, vr] w fun e w' => e = .returned (.bool true) ∧ Old w w' := by
  have HL := hide hl
  have HM := hide hm
  have HR := hide hr
  have FL := hide (cut_fine fl)
  have HO := hide (Old.refl w)
  clear hl hm hr fl
  go_enter Try.func8, Try.ntmps8
  go_wp2_with fail
  refine (cut_run _ l _ HL.out).mono ?_
  rintro e w1 ⟨v1, rfl, i1, o1⟩
  replace HL := hide (HL.out.old o1)
  replace HM := hide (HM.out.old o1)
  replace HR := hide (HR.out.old o1)
  replace HO := hide (Old.trans HO.out o1)
  have HI := hide i1.is
  clear i1 o1
  go_wp2_with fail
  refine (cut_run _ m _ HM.out).mono ?_
  rintro e w2 ⟨v2, rfl, i2, o2⟩
  replace HL := hide (HL.out.old o2)
  replace HM := hide (HM.out.old o2)
  replace HR := hide (HR.out.old o2)
  replace HI := hide (HI.out.old o2)
  replace HO := hide (Old.trans HO.out o2)
  have HT := hide i2.is
  clear i2 o2
  go_wp2_with fail
  refine (short_run _ r _ HR.out).mono ?_
  rintro e w3 ⟨v3, rfl, i3, o3⟩
  replace HL := hide (HL.out.old o3)
  replace HM := hide (HM.out.old o3)
  replace HR := hide (HR.out.old o3)
  replace HI := hide (HI.out.old o3)
  replace HT := hide (HT.out.old o3)
  replace HO := hide (Old.trans HO.out o3)
  have HR2 := hide i3.sl
  clear i3 o3
  clear HR
  clear HM
  have WI := hide HI.out
  have D := hide (Old.refl w3)
  have WO := hide HO.out
  have WL := hide HL.out
  go_wp2_with fail
  refine (zset_Norm _ _ _ HI.out (Nat.le_trans FL.out.len (by omega)) FL.out.short FL.out.fits).mono ?_
  rintro e w4 ⟨v4, rfl, i4, o4⟩
  replace HL := hide (HL.out.old o4)
  replace HI := hide (HI.out.old o4)
  replace HT := hide (HT.out.old o4)
  replace HR2 := hide (HR2.out.old o4)
  replace HO := hide (Old.trans HO.out o4)
  replace D := hide (Old.trans D.out o4)
  have HA := hide i4
  clear i4 o4
  go_wp2_with fail
  refine (cut_run _ l _ HL.out).mono ?_
  rintro e w5 ⟨v5, rfl, i5, o5⟩
  replace HL := hide (HL.out.old o5)
  replace HI := hide (HI.out.old o5)
  replace HT := hide (HT.out.old o5)
  replace HR2 := hide (HR2.out.old o5)
  replace HA := hide (HA.out.old o5)
  replace HO := hide (Old.trans HO.out o5)
  replace D := hide (Old.trans D.out o5)
  have HJ := hide i5.is
  clear i5 o5
  go_wp2_with fail
  refine (ref_Norm _ _ _ HJ.out (Nat.le_trans FL.out.len (by omega)) FL.out.short FL.out.fits).mono ?_
  rintro e w6 ⟨v6, rfl, i6, o6⟩
  replace HL := hide (HL.out.old o6)
  replace HI := hide (HI.out.old o6)
  replace HT := hide (HT.out.old o6)
  replace HR2 := hide (HR2.out.old o6)
  replace HA := hide (HA.out.old o6)
  replace HJ := hide (HJ.out.old o6)
  replace HO := hide (Old.trans HO.out o6)
  replace D := hide (Old.trans D.out o6)
  have HB := hide i6.is
  clear i6 o6
  clear HJ
  clear HL
  go_wp2_with fail
  refine (zset_Copy _ _ _ HI.out (Nat.le_trans FL.out.len (by omega)) FL.out.short).mono ?_
  rintro e w7 ⟨v7, rfl, i7, o7⟩
  have HC := hide (i7.mono D.out.size)
  replace HI := hide (HI.out.old o7)
  replace HT := hide (HT.out.old o7)
  replace HR2 := hide (HR2.out.old o7)
  replace HA := hide (HA.out.old o7)
  replace HB := hide (HB.out.old o7)
  replace HO := hide (Old.trans HO.out o7)
  replace D := hide (Old.trans D.out o7)
  clear i7 o7
  go_wp2_with fail
  refine (eq_true _ _ (normOut (cutItems l)) _ HA.out.is HB.out).mono ?_
  rintro e w8 ⟨rfl, o8⟩
  replace HI := hide (HI.out.old o8)
  replace HT := hide (HT.out.old o8)
  replace HR2 := hide (HR2.out.old o8)
  replace HA := hide (HA.out.old o8)
  replace HB := hide (HB.out.old o8)
  replace HC := hide (HC.out.old o8)
  replace HO := hide (Old.trans HO.out o8)
  replace D := hide (Old.trans D.out o8)
  clear o8
  clear HB
  go_wp2_with fail
  refine (zset_Check _ _ _ HI.out).mono ?_
  rintro e w9 ⟨rfl, o9⟩
  replace HI := hide (HI.out.old o9)
  replace HT := hide (HT.out.old o9)
  replace HR2 := hide (HR2.out.old o9)
  replace HA := hide (HA.out.old o9)
  replace HC := hide (HC.out.old o9)
  replace HO := hide (Old.trans HO.out o9)
  replace D := hide (Old.trans D.out o9)
  clear o9
  go_wp2_with fail
  refine (ref_Check _ _ _ HI.out).mono ?_
  rintro e w10 ⟨rfl, o10⟩
  replace HI := hide (HI.out.old o10)
  replace HT := hide (HT.out.old o10)
  replace HR2 := hide (HR2.out.old o10)
  replace HA := hide (HA.out.old o10)
  replace HC := hide (HC.out.old o10)
  replace HO := hide (Old.trans HO.out o10)
  replace D := hide (Old.trans D.out o10)
  clear o10
  go_wp2_with fail
  refine (zset_Get _ _ _ _ _ HI.out HR2.out).mono ?_
  rintro e w11 ⟨rfl, o11⟩
  replace HI := hide (HI.out.old o11)
  replace HT := hide (HT.out.old o11)
  replace HR2 := hide (HR2.out.old o11)
  replace HA := hide (HA.out.old o11)
  replace HC := hide (HC.out.old o11)
  replace HO := hide (Old.trans HO.out o11)
  replace D := hide (Old.trans D.out o11)
  clear o11
  go_wp2_with fail
  refine (ref_Get _ _ _ _ _ HI.out HR2.out).mono ?_
  rintro e w12 ⟨rfl, o12⟩
  replace HI := hide (HI.out.old o12)
  replace HT := hide (HT.out.old o12)
  replace HR2 := hide (HR2.out.old o12)
  replace HA := hide (HA.out.old o12)
  replace HC := hide (HC.out.old o12)
  replace HO := hide (Old.trans HO.out o12)
  replace D := hide (Old.trans D.out o12)
  clear o12
  clear HR2
  obtain ⟨c, hc⟩ : ∃ c, Hid (sameItems (cutItems l) (cutItems m) = c) := ⟨_, hide rfl⟩
  go_wp2_with fail
  refine (bool_as (zset_Same _ _ _ _ _ HI.out HT.out) hc.out).mono ?_
  rintro e w13 ⟨rfl, o13⟩
  replace HI := hide (HI.out.old o13)
  replace HT := hide (HT.out.old o13)
  replace HA := hide (HA.out.old o13)
  replace HC := hide (HC.out.old o13)
  replace HO := hide (Old.trans HO.out o13)
  replace D := hide (Old.trans D.out o13)
  clear o13
  go_wp2_with fail
  refine (bool_as (eqItems _ _ _ _ _ HI.out HT.out) hc.out).mono ?_
  rintro e w14 ⟨rfl, o14⟩
  replace HI := hide (HI.out.old o14)
  replace HT := hide (HT.out.old o14)
  replace HA := hide (HA.out.old o14)
  replace HC := hide (HC.out.old o14)
  replace HO := hide (Old.trans HO.out o14)
  replace D := hide (Old.trans D.out o14)
  clear o14
  clear HT
  clear hc
  cases c
  · go_wp2_with fail
    refine (eq_true _ _ (cutItems l) _ HC.out.is HI.out).mono ?_
    rintro e w15 ⟨rfl, o15⟩
    replace HI := hide (HI.out.old o15)
    replace HA := hide (HA.out.old o15)
    replace HC := hide (HC.out.old o15)
    replace HO := hide (Old.trans HO.out o15)
    replace D := hide (Old.trans D.out o15)
    clear o15
    go_wp2_with fail
    refine (spoil_again _ w3.heap.size _ _ w15 w15 HA.out (Nat.le_refl _) (Spo.refl _ _)).mono ?_
    rintro e wd ⟨rfl, pd⟩
    have PD := hide pd
    clear pd
    go_wp2_with fail
    refine (spoil_again _ w3.heap.size _ _ w15 wd HC.out (Nat.le_refl _) PD.out).mono ?_
    rintro e wf ⟨rfl, pf⟩
    have OF := hide (show Old w3 wf from Below.trans D.out pf.low)
    clear pf
    go_wp2_with fail
    refine (cut_run _ l _ (WL.out.old OF.out)).mono ?_
    rintro e wg ⟨vg, rfl, ig, og⟩
    have IG := hide ig.is
    have OG := hide (Old.trans OF.out og)
    clear ig og
    go_wp2_with fail
    refine (eq_true _ _ (cutItems l) _ (WI.out.old OG.out) IG.out).mono ?_
    rintro e wh ⟨rfl, oh⟩
    have OH := hide (Old.trans WO.out (Old.trans OG.out oh))
    clear oh
    go_wp2_with fail
    refine (works_run _).mono ?_
    rintro e wi ⟨rfl, oi⟩
    go_wp2_with fail
    go_ret
    exact ⟨rfl, Old.trans OH.out oi⟩
  · go_wp2_with fail
    refine (eq_true _ _ (cutItems l) _ HC.out.is HI.out).mono ?_
    rintro e w15 ⟨rfl, o15⟩
    replace HI := hide (HI.out.old o15)
    replace HA := hide (HA.out.old o15)
    replace HC := hide (HC.out.old o15)
    replace HO := hide (Old.trans HO.out o15)
    replace D := hide (Old.trans D.out o15)
    clear o15
    go_wp2_with fail
    refine (spoil_again _ w3.heap.size _ _ w15 w15 HA.out (Nat.le_refl _) (Spo.refl _ _)).mono ?_
    rintro e wd ⟨rfl, pd⟩
    have PD := hide pd
    clear pd
    go_wp2_with fail
    refine (spoil_again _ w3.heap.size _ _ w15 wd HC.out (Nat.le_refl _) PD.out).mono ?_
    rintro e wf ⟨rfl, pf⟩
    have OF := hide (show Old w3 wf from Below.trans D.out pf.low)
    clear pf
    go_wp2_with fail
    refine (cut_run _ l _ (WL.out.old OF.out)).mono ?_
    rintro e wg ⟨vg, rfl, ig, og⟩
    have IG := hide ig.is
    have OG := hide (Old.trans OF.out og)
    clear ig og
    go_wp2_with fail
    refine (eq_true _ _ (cutItems l) _ (WI.out.old OG.out) IG.out).mono ?_
    rintro e wh ⟨rfl, oh⟩
    have OH := hide (Old.trans WO.out (Old.trans OG.out oh))
    clear oh
    go_wp2_with fail
    refine (works_run _).mono ?_
    rintro e wi ⟨rfl, oi⟩
    go_wp2_with fail
    go_ret
    exact ⟨rfl, Old.trans OH.out oi⟩
end Go.Proofs.Ytggknmagpcnkoaa
