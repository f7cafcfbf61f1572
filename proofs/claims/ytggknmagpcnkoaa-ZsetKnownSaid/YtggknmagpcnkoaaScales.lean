/- The statement ZsetScales: the walk. -/
import Derived.Test.YtggknmagpcnkoaaTells
namespace Go.Proofs.Ytggknmagpcnkoaa
open Go.RowKit

theorem same_true (va vb : Value) (a : List Item) (w : World) (ha : ItemsIs w va a) (hb : ItemsIs w vb a) :
    Calls Try.prog 28 #[va, vb] w fun x w' => x = .returned (.bool true) ∧ Old w w' := by
  have := zset_Same va vb a a w ha hb
  simpa [sameItems] using this
theorem scale_fine {n : Nat} {k : Int} {a : List Item} (h : Fine n a) : Fine n (scaleOut k a) where
  len := by
    unfold scaleOut
    split
    · split
      · exact Nat.le_trans (noZero_len _) (by rw [timesW_len]; exact h.len)
      · simp
    · simp
  short := fun i hi => by
    have hm := List.getElem_mem hi
    generalize (scaleOut k a)[i] = u at hm
    unfold scaleOut at hm
    split at hm
    · split at hm
      · obtain ⟨x, hx, rfl⟩ := List.mem_map.1 (List.mem_filter.1 hm).1
        obtain ⟨j, hj, rfl⟩ := List.getElem_of_mem hx
        exact h.short j hj
      · simp at hm
    · simp at hm
  fits := scaleOut_fit

set_option maxRecDepth 100000 in
set_option maxHeartbeats 8000000 in
theorem zsetScales_bad1 (va : Value) (l X A B : List Item) (k m : Int) (ex ea eb : Int) (w : World) (hl : ItemsIs w va l) (fl : Fine 40 (cutItems l)) (fx : Fine 1048576 X) (hk : fit k) (hm : fit m)
    (ox : normOut (cutItems l) = X) (exx : normErr (cutItems l) = ex) (oa : scaleOut k X = A) (eaa : scaleErr k X = ea) (ob : scaleOut m X = B) (ebb : scaleErr m X = eb) (h : ex = 50) :
    Calls Try.prog 7 #[va, .int .i64 k, .int .i64 m] w fun e w' => e = .returned (.bool true) ∧ Old w w' := by
  have HL := hide hl
  have FL := hide fl
  have FX := hide fx
  have FK := hide hk
  have FM := hide hm
  have OX := hide ox
  have EX := hide exx
  have OA := hide oa
  have EA := hide eaa
  have OB := hide ob
  have EB := hide ebb
  subst h
  clear hl fl fx hk hm ox exx oa eaa ob ebb
  go_enter Try.func7, Try.ntmps7
  go_wp2_with fail
  refine (cut_run _ l _ HL.out).mono ?_
  rintro e w1 ⟨v1, rfl, i1, o1⟩
  have HI := hide i1.is
  have HO := hide o1
  clear i1 o1
  go_wp2_with fail
  refine (calls_as (zset_Norm _ _ _ HI.out (Nat.le_trans FL.out.len (by omega)) FL.out.short FL.out.fits) OX.out EX.out).mono ?_
  rintro e w2 ⟨v2, rfl, i2, o2⟩
  replace HO := hide (Old.trans HO.out o2)
  have HX := hide i2.is
  clear i2 o2
  clear HI
  go_wp2_with fail
  refine (calls_as (zset_Scale k _ X _ FK.out HX.out FX.out) OA.out EA.out).mono ?_
  rintro e w3 ⟨v3, rfl, i3, o3⟩
  replace HX := hide (HX.out.old o3)
  replace HO := hide (Old.trans HO.out o3)
  have HA := hide i3.is
  clear i3 o3
  go_wp2_with fail
  refine (calls_as (zset_Scale m _ X _ FM.out HX.out FX.out) OB.out EB.out).mono ?_
  rintro e w4 ⟨v4, rfl, i4, o4⟩
  replace HX := hide (HX.out.old o4)
  replace HA := hide (HA.out.old o4)
  replace HO := hide (Old.trans HO.out o4)
  have HB := hide i4.is
  clear i4 o4
  go_wp2_with fail
  refine (works_run _).mono ?_
  rintro e w5 ⟨rfl, o5⟩
  go_wp2_with fail
  go_ret
  exact ⟨rfl, Old.trans HO.out o5⟩

set_option maxRecDepth 100000 in
set_option maxHeartbeats 8000000 in
theorem zsetScales_bad2 (va : Value) (l X A B : List Item) (k m : Int) (ex ea eb : Int) (w : World) (hl : ItemsIs w va l) (fl : Fine 40 (cutItems l)) (fx : Fine 1048576 X) (hk : fit k) (hm : fit m)
    (ox : normOut (cutItems l) = X) (exx : normErr (cutItems l) = ex) (oa : scaleOut k X = A) (eaa : scaleErr k X = ea) (ob : scaleOut m X = B) (ebb : scaleErr m X = eb) (h0 : ex = 0) (h : ea = 50) :
    Calls Try.prog 7 #[va, .int .i64 k, .int .i64 m] w fun e w' => e = .returned (.bool true) ∧ Old w w' := by
  have HL := hide hl
  have FL := hide fl
  have FX := hide fx
  have FK := hide hk
  have FM := hide hm
  have OX := hide ox
  have EX := hide exx
  have OA := hide oa
  have EA := hide eaa
  have OB := hide ob
  have EB := hide ebb
  subst h0 h
  clear hl fl fx hk hm ox exx oa eaa ob ebb
  go_enter Try.func7, Try.ntmps7
  go_wp2_with fail
  refine (cut_run _ l _ HL.out).mono ?_
  rintro e w6 ⟨v6, rfl, i6, o6⟩
  have HI := hide i6.is
  have HO := hide o6
  clear i6 o6
  go_wp2_with fail
  refine (calls_as (zset_Norm _ _ _ HI.out (Nat.le_trans FL.out.len (by omega)) FL.out.short FL.out.fits) OX.out EX.out).mono ?_
  rintro e w7 ⟨v7, rfl, i7, o7⟩
  replace HO := hide (Old.trans HO.out o7)
  have HX := hide i7.is
  clear i7 o7
  clear HI
  go_wp2_with fail
  refine (calls_as (zset_Scale k _ X _ FK.out HX.out FX.out) OA.out EA.out).mono ?_
  rintro e w8 ⟨v8, rfl, i8, o8⟩
  replace HX := hide (HX.out.old o8)
  replace HO := hide (Old.trans HO.out o8)
  have HA := hide i8.is
  clear i8 o8
  go_wp2_with fail
  refine (calls_as (zset_Scale m _ X _ FM.out HX.out FX.out) OB.out EB.out).mono ?_
  rintro e w9 ⟨v9, rfl, i9, o9⟩
  replace HX := hide (HX.out.old o9)
  replace HA := hide (HA.out.old o9)
  replace HO := hide (Old.trans HO.out o9)
  have HB := hide i9.is
  clear i9 o9
  go_wp2_with fail
  refine (works_run _).mono ?_
  rintro e w10 ⟨rfl, o10⟩
  go_wp2_with fail
  go_ret
  exact ⟨rfl, Old.trans HO.out o10⟩

set_option maxRecDepth 100000 in
set_option maxHeartbeats 8000000 in
theorem zsetScales_bad3 (va : Value) (l X A B : List Item) (k m : Int) (ex ea eb : Int) (w : World) (hl : ItemsIs w va l) (fl : Fine 40 (cutItems l)) (fx : Fine 1048576 X) (hk : fit k) (hm : fit m)
    (ox : normOut (cutItems l) = X) (exx : normErr (cutItems l) = ex) (oa : scaleOut k X = A) (eaa : scaleErr k X = ea) (ob : scaleOut m X = B) (ebb : scaleErr m X = eb) (h0 : ex = 0) (h1 : ea = 0) (h : eb = 50) :
    Calls Try.prog 7 #[va, .int .i64 k, .int .i64 m] w fun e w' => e = .returned (.bool true) ∧ Old w w' := by
  have HL := hide hl
  have FL := hide fl
  have FX := hide fx
  have FK := hide hk
  have FM := hide hm
  have OX := hide ox
  have EX := hide exx
  have OA := hide oa
  have EA := hide eaa
  have OB := hide ob
  have EB := hide ebb
  subst h0 h1 h
  clear hl fl fx hk hm ox exx oa eaa ob ebb
  go_enter Try.func7, Try.ntmps7
  go_wp2_with fail
  refine (cut_run _ l _ HL.out).mono ?_
  rintro e w11 ⟨v11, rfl, i11, o11⟩
  have HI := hide i11.is
  have HO := hide o11
  clear i11 o11
  go_wp2_with fail
  refine (calls_as (zset_Norm _ _ _ HI.out (Nat.le_trans FL.out.len (by omega)) FL.out.short FL.out.fits) OX.out EX.out).mono ?_
  rintro e w12 ⟨v12, rfl, i12, o12⟩
  replace HO := hide (Old.trans HO.out o12)
  have HX := hide i12.is
  clear i12 o12
  clear HI
  go_wp2_with fail
  refine (calls_as (zset_Scale k _ X _ FK.out HX.out FX.out) OA.out EA.out).mono ?_
  rintro e w13 ⟨v13, rfl, i13, o13⟩
  replace HX := hide (HX.out.old o13)
  replace HO := hide (Old.trans HO.out o13)
  have HA := hide i13.is
  clear i13 o13
  go_wp2_with fail
  refine (calls_as (zset_Scale m _ X _ FM.out HX.out FX.out) OB.out EB.out).mono ?_
  rintro e w14 ⟨v14, rfl, i14, o14⟩
  replace HX := hide (HX.out.old o14)
  replace HA := hide (HA.out.old o14)
  replace HO := hide (Old.trans HO.out o14)
  have HB := hide i14.is
  clear i14 o14
  go_wp2_with fail
  refine (works_run _).mono ?_
  rintro e w15 ⟨rfl, o15⟩
  go_wp2_with fail
  go_ret
  exact ⟨rfl, Old.trans HO.out o15⟩

set_option maxRecDepth 100000 in
set_option maxHeartbeats 8000000 in
theorem zsetScales_main (va : Value) (l X A B : List Item) (k m : Int) (ex ea eb : Int) (w : World) (hl : ItemsIs w va l) (fl : Fine 40 (cutItems l)) (fx : Fine 1048576 X) (hk : fit k) (hm : fit m)
    (ox : normOut (cutItems l) = X) (exx : normErr (cutItems l) = ex) (oa : scaleOut k X = A) (eaa : scaleErr k X = ea) (ob : scaleOut m X = B) (ebb : scaleErr m X = eb) (h0 : ex = 0) (h1 : ea = 0) (h2 : eb = 0) (zx : ZOk X) (fa : Fine 262144 A) (fb : Fine 262144 B) (fux : ∀ u ∈ X, fit u.w) :
    Calls Try.prog 7 #[va, .int .i64 k, .int .i64 m] w fun e w' => e = .returned (.bool true) ∧ Old w w' := by
  have HL := hide hl
  have FL := hide fl
  have FX := hide fx
  have FK := hide hk
  have FM := hide hm
  have OX := hide ox
  have EX := hide exx
  have OA := hide oa
  have EA := hide eaa
  have OB := hide ob
  have EB := hide ebb
  subst h0 h1 h2
  have ZX := hide zx
  have FA := hide fa
  have FB := hide fb
  have ZA := hide (show ZOk A by rw [← oa]; exact scaleOut_zok _ _)
  have ONE := hide (scale_one zx fux)
  obtain ⟨O2, hO2⟩ : ∃ O, Hid (scaleOut (k + m) X = O) := ⟨_, hide rfl⟩
  obtain ⟨E2, hE2⟩ : ∃ E, Hid (scaleErr (k + m) X = E) := ⟨_, hide rfl⟩
  have SA := hide (show addErr A B = E2 ∧ addOut A B = O2 by
    have := scale_add (k := k) (m := m) zx eaa ebb
    rw [oa, ob] at this
    exact ⟨this.1.trans hE2.out, this.2.trans hO2.out⟩)
  have SB := hide (show scaleErr (k + m) X = E2 ∧ scaleOut (k + m) X = O2 from ⟨hE2.out, hO2.out⟩)
  clear zx fa fb fux hO2 hE2
  clear hl fl fx hk hm ox exx oa eaa ob ebb
  go_enter Try.func7, Try.ntmps7
  go_wp2_with fail
  refine (cut_run _ l _ HL.out).mono ?_
  rintro e w16 ⟨v16, rfl, i16, o16⟩
  have HI := hide i16.is
  have HO := hide o16
  clear i16 o16
  go_wp2_with fail
  refine (calls_as (zset_Norm _ _ _ HI.out (Nat.le_trans FL.out.len (by omega)) FL.out.short FL.out.fits) OX.out EX.out).mono ?_
  rintro e w17 ⟨v17, rfl, i17, o17⟩
  replace HO := hide (Old.trans HO.out o17)
  have HX := hide i17.is
  clear i17 o17
  clear HI
  go_wp2_with fail
  refine (calls_as (zset_Scale k _ X _ FK.out HX.out FX.out) OA.out EA.out).mono ?_
  rintro e w18 ⟨v18, rfl, i18, o18⟩
  replace HX := hide (HX.out.old o18)
  replace HO := hide (Old.trans HO.out o18)
  have HA := hide i18.is
  clear i18 o18
  go_wp2_with fail
  refine (calls_as (zset_Scale m _ X _ FM.out HX.out FX.out) OB.out EB.out).mono ?_
  rintro e w19 ⟨v19, rfl, i19, o19⟩
  replace HX := hide (HX.out.old o19)
  replace HA := hide (HA.out.old o19)
  replace HO := hide (Old.trans HO.out o19)
  have HB := hide i19.is
  clear i19 o19
  by_cases ht : fit (k * m)
  · obtain ⟨s1, s2⟩ := int_fit ht
    have TI := hide (fun w => wide_Times k m w FK.out FM.out)
    rw [s1, s2] at TI
    have HFT := hide ht
    clear s1 s2 ht
    go_wp2_with fail
    refine (TI.out _).mono ?_
    rintro e w20 ⟨rfl, o20'⟩
    have o20 := o20'.old
    replace HX := hide (HX.out.old o20)
    replace HA := hide (HA.out.old o20)
    replace HB := hide (HB.out.old o20)
    replace HO := hide (Old.trans HO.out o20)
    clear o20 o20'
    by_cases hi : scaleErr m A = 0
    · have SS := hide (scale_scale (m := m) ZX.out EA.out (by rw [OA.out]; exact hi))
      rw [OA.out] at SS
      have HI := hide hi
      clear hi
      go_wp2_with fail
      refine (calls_as (zset_Scale m _ A _ FM.out HA.out (FA.out.mono (by omega))) SS.out.2 HI.out).mono ?_
      rintro e w21 ⟨v21, rfl, i21, o21⟩
      replace HX := hide (HX.out.old o21)
      replace HA := hide (HA.out.old o21)
      replace HB := hide (HB.out.old o21)
      replace HO := hide (Old.trans HO.out o21)
      have HC := hide i21.is
      clear i21 o21
      go_wp2_with fail
      refine (calls_as (zset_Scale (k * m) _ X _ HFT.out HX.out FX.out) rfl SS.out.1).mono ?_
      rintro e w22 ⟨v22, rfl, i22, o22⟩
      replace HX := hide (HX.out.old o22)
      replace HA := hide (HA.out.old o22)
      replace HB := hide (HB.out.old o22)
      replace HC := hide (HC.out.old o22)
      replace HO := hide (Old.trans HO.out o22)
      have HD := hide i22.is
      clear i22 o22
      go_wp2_with fail
      refine (same_true _ _ (scaleOut (k * m) X) _ HC.out HD.out).mono ?_
      rintro e w23 ⟨rfl, o23⟩
      replace HX := hide (HX.out.old o23)
      replace HA := hide (HA.out.old o23)
      replace HB := hide (HB.out.old o23)
      replace HC := hide (HC.out.old o23)
      replace HD := hide (HD.out.old o23)
      replace HO := hide (Old.trans HO.out o23)
      clear o23
      clear HC HD
      by_cases hs : fit (k + m)
      · obtain ⟨s1, s2⟩ := int_fit hs
        have PL := hide (fun w => wide_Plus k m w FK.out FM.out)
        rw [s1, s2] at PL
        have HFS := hide hs
        clear s1 s2 hs
        go_wp2_with fail
        refine (PL.out _).mono ?_
        rintro e w24 ⟨rfl, o24'⟩
        have o24 := o24'.old
        replace HX := hide (HX.out.old o24)
        replace HA := hide (HA.out.old o24)
        replace HB := hide (HB.out.old o24)
        replace HO := hide (Old.trans HO.out o24)
        clear o24 o24'
        go_wp2_with fail
        refine (calls_as (zset_Add _ _ A B _ HA.out HB.out FA.out FB.out) SA.out.2 SA.out.1).mono ?_
        rintro e w25 ⟨v25, rfl, i25, o25⟩
        replace HX := hide (HX.out.old o25)
        replace HA := hide (HA.out.old o25)
        replace HB := hide (HB.out.old o25)
        replace HO := hide (Old.trans HO.out o25)
        have HC2 := hide i25.is
        clear i25 o25
        go_wp2_with fail
        refine (calls_as (zset_Scale (k + m) _ X _ HFS.out HX.out FX.out) SB.out.2 SB.out.1).mono ?_
        rintro e w26 ⟨v26, rfl, i26, o26⟩
        replace HX := hide (HX.out.old o26)
        replace HA := hide (HA.out.old o26)
        replace HB := hide (HB.out.old o26)
        replace HC2 := hide (HC2.out.old o26)
        replace HO := hide (Old.trans HO.out o26)
        have HD2 := hide i26.is
        clear i26 o26
        go_wp2_with fail
        refine (same_true _ _ O2 _ HC2.out HD2.out).mono ?_
        rintro e w27 ⟨rfl, o27⟩
        replace HX := hide (HX.out.old o27)
        replace HA := hide (HA.out.old o27)
        replace HB := hide (HB.out.old o27)
        replace HC2 := hide (HC2.out.old o27)
        replace HD2 := hide (HD2.out.old o27)
        replace HO := hide (Old.trans HO.out o27)
        clear o27
        go_wp2_with fail
        refine (calls_as (zset_Scale 1 _ X _ (by decide) HX.out FX.out) ONE.out.2 ONE.out.1).mono ?_
        rintro e w28 ⟨v28, rfl, i28, o28⟩
        replace HX := hide (HX.out.old o28)
        replace HO := hide (Old.trans HO.out o28)
        have HS := hide i28.is
        clear i28 o28
        go_wp2_with fail
        refine (same_true _ _ X _ HS.out HX.out).mono ?_
        rintro e w29 ⟨rfl, o29⟩
        replace HX := hide (HX.out.old o29)
        replace HS := hide (HS.out.old o29)
        replace HO := hide (Old.trans HO.out o29)
        clear o29
        go_wp2_with fail
        refine (works_run _).mono ?_
        rintro e w30 ⟨rfl, o30⟩
        go_wp2_with fail
        go_ret
        exact ⟨rfl, Old.trans HO.out o30⟩
      · obtain ⟨s1, s2⟩ := int_unfit hs
        have PL := hide (fun w => wide_Plus k m w FK.out FM.out)
        rw [s1, s2] at PL
        clear s1 s2 hs
        go_wp2_with fail
        refine (PL.out _).mono ?_
        rintro e w31 ⟨rfl, o31'⟩
        have o31 := o31'.old
        replace HX := hide (HX.out.old o31)
        replace HA := hide (HA.out.old o31)
        replace HB := hide (HB.out.old o31)
        replace HO := hide (Old.trans HO.out o31)
        clear o31 o31'
        go_wp2_with fail
        refine (calls_as (zset_Scale 1 _ X _ (by decide) HX.out FX.out) ONE.out.2 ONE.out.1).mono ?_
        rintro e w32 ⟨v32, rfl, i32, o32⟩
        replace HX := hide (HX.out.old o32)
        replace HO := hide (Old.trans HO.out o32)
        have HS := hide i32.is
        clear i32 o32
        go_wp2_with fail
        refine (same_true _ _ X _ HS.out HX.out).mono ?_
        rintro e w33 ⟨rfl, o33⟩
        replace HX := hide (HX.out.old o33)
        replace HS := hide (HS.out.old o33)
        replace HO := hide (Old.trans HO.out o33)
        clear o33
        go_wp2_with fail
        refine (works_run _).mono ?_
        rintro e w34 ⟨rfl, o34⟩
        go_wp2_with fail
        go_ret
        exact ⟨rfl, Old.trans HO.out o34⟩
    · have hi50 : scaleErr m A = 50 := by
        rcases scaleErr_or (k := m) ZA.out with h | h
        · exact absurd h hi
        · exact h
      have HI := hide hi50
      clear hi hi50
      go_wp2_with fail
      refine (calls_as (zset_Scale m _ A _ FM.out HA.out (FA.out.mono (by omega))) rfl HI.out).mono ?_
      rintro e w35 ⟨v35, rfl, i35, o35⟩
      replace HX := hide (HX.out.old o35)
      replace HA := hide (HA.out.old o35)
      replace HB := hide (HB.out.old o35)
      replace HO := hide (Old.trans HO.out o35)
      have HC := hide i35.is
      clear i35 o35
      go_wp2_with fail
      refine (calls_as (zset_Scale (k * m) _ X _ HFT.out HX.out FX.out) rfl rfl).mono ?_
      rintro e w36 ⟨v36, rfl, i36, o36⟩
      replace HX := hide (HX.out.old o36)
      replace HA := hide (HA.out.old o36)
      replace HB := hide (HB.out.old o36)
      replace HO := hide (Old.trans HO.out o36)
      have HD := hide i36.is
      clear i36 o36
      clear HC HD
      by_cases hs : fit (k + m)
      · obtain ⟨s1, s2⟩ := int_fit hs
        have PL := hide (fun w => wide_Plus k m w FK.out FM.out)
        rw [s1, s2] at PL
        have HFS := hide hs
        clear s1 s2 hs
        go_wp2_with fail
        refine (PL.out _).mono ?_
        rintro e w37 ⟨rfl, o37'⟩
        have o37 := o37'.old
        replace HX := hide (HX.out.old o37)
        replace HA := hide (HA.out.old o37)
        replace HB := hide (HB.out.old o37)
        replace HO := hide (Old.trans HO.out o37)
        clear o37 o37'
        go_wp2_with fail
        refine (calls_as (zset_Add _ _ A B _ HA.out HB.out FA.out FB.out) SA.out.2 SA.out.1).mono ?_
        rintro e w38 ⟨v38, rfl, i38, o38⟩
        replace HX := hide (HX.out.old o38)
        replace HA := hide (HA.out.old o38)
        replace HB := hide (HB.out.old o38)
        replace HO := hide (Old.trans HO.out o38)
        have HC2 := hide i38.is
        clear i38 o38
        go_wp2_with fail
        refine (calls_as (zset_Scale (k + m) _ X _ HFS.out HX.out FX.out) SB.out.2 SB.out.1).mono ?_
        rintro e w39 ⟨v39, rfl, i39, o39⟩
        replace HX := hide (HX.out.old o39)
        replace HA := hide (HA.out.old o39)
        replace HB := hide (HB.out.old o39)
        replace HC2 := hide (HC2.out.old o39)
        replace HO := hide (Old.trans HO.out o39)
        have HD2 := hide i39.is
        clear i39 o39
        go_wp2_with fail
        refine (same_true _ _ O2 _ HC2.out HD2.out).mono ?_
        rintro e w40 ⟨rfl, o40⟩
        replace HX := hide (HX.out.old o40)
        replace HA := hide (HA.out.old o40)
        replace HB := hide (HB.out.old o40)
        replace HC2 := hide (HC2.out.old o40)
        replace HD2 := hide (HD2.out.old o40)
        replace HO := hide (Old.trans HO.out o40)
        clear o40
        go_wp2_with fail
        refine (calls_as (zset_Scale 1 _ X _ (by decide) HX.out FX.out) ONE.out.2 ONE.out.1).mono ?_
        rintro e w41 ⟨v41, rfl, i41, o41⟩
        replace HX := hide (HX.out.old o41)
        replace HO := hide (Old.trans HO.out o41)
        have HS := hide i41.is
        clear i41 o41
        go_wp2_with fail
        refine (same_true _ _ X _ HS.out HX.out).mono ?_
        rintro e w42 ⟨rfl, o42⟩
        replace HX := hide (HX.out.old o42)
        replace HS := hide (HS.out.old o42)
        replace HO := hide (Old.trans HO.out o42)
        clear o42
        go_wp2_with fail
        refine (works_run _).mono ?_
        rintro e w43 ⟨rfl, o43⟩
        go_wp2_with fail
        go_ret
        exact ⟨rfl, Old.trans HO.out o43⟩
      · obtain ⟨s1, s2⟩ := int_unfit hs
        have PL := hide (fun w => wide_Plus k m w FK.out FM.out)
        rw [s1, s2] at PL
        clear s1 s2 hs
        go_wp2_with fail
        refine (PL.out _).mono ?_
        rintro e w44 ⟨rfl, o44'⟩
        have o44 := o44'.old
        replace HX := hide (HX.out.old o44)
        replace HA := hide (HA.out.old o44)
        replace HB := hide (HB.out.old o44)
        replace HO := hide (Old.trans HO.out o44)
        clear o44 o44'
        go_wp2_with fail
        refine (calls_as (zset_Scale 1 _ X _ (by decide) HX.out FX.out) ONE.out.2 ONE.out.1).mono ?_
        rintro e w45 ⟨v45, rfl, i45, o45⟩
        replace HX := hide (HX.out.old o45)
        replace HO := hide (Old.trans HO.out o45)
        have HS := hide i45.is
        clear i45 o45
        go_wp2_with fail
        refine (same_true _ _ X _ HS.out HX.out).mono ?_
        rintro e w46 ⟨rfl, o46⟩
        replace HX := hide (HX.out.old o46)
        replace HS := hide (HS.out.old o46)
        replace HO := hide (Old.trans HO.out o46)
        clear o46
        go_wp2_with fail
        refine (works_run _).mono ?_
        rintro e w47 ⟨rfl, o47⟩
        go_wp2_with fail
        go_ret
        exact ⟨rfl, Old.trans HO.out o47⟩
  · obtain ⟨s1, s2⟩ := int_unfit ht
    have TI := hide (fun w => wide_Times k m w FK.out FM.out)
    rw [s1, s2] at TI
    clear s1 s2 ht
    go_wp2_with fail
    refine (TI.out _).mono ?_
    rintro e w48 ⟨rfl, o48'⟩
    have o48 := o48'.old
    replace HX := hide (HX.out.old o48)
    replace HA := hide (HA.out.old o48)
    replace HB := hide (HB.out.old o48)
    replace HO := hide (Old.trans HO.out o48)
    clear o48 o48'
    by_cases hs : fit (k + m)
    · obtain ⟨s1, s2⟩ := int_fit hs
      have PL := hide (fun w => wide_Plus k m w FK.out FM.out)
      rw [s1, s2] at PL
      have HFS := hide hs
      clear s1 s2 hs
      go_wp2_with fail
      refine (PL.out _).mono ?_
      rintro e w49 ⟨rfl, o49'⟩
      have o49 := o49'.old
      replace HX := hide (HX.out.old o49)
      replace HA := hide (HA.out.old o49)
      replace HB := hide (HB.out.old o49)
      replace HO := hide (Old.trans HO.out o49)
      clear o49 o49'
      go_wp2_with fail
      refine (calls_as (zset_Add _ _ A B _ HA.out HB.out FA.out FB.out) SA.out.2 SA.out.1).mono ?_
      rintro e w50 ⟨v50, rfl, i50, o50⟩
      replace HX := hide (HX.out.old o50)
      replace HA := hide (HA.out.old o50)
      replace HB := hide (HB.out.old o50)
      replace HO := hide (Old.trans HO.out o50)
      have HC2 := hide i50.is
      clear i50 o50
      go_wp2_with fail
      refine (calls_as (zset_Scale (k + m) _ X _ HFS.out HX.out FX.out) SB.out.2 SB.out.1).mono ?_
      rintro e w51 ⟨v51, rfl, i51, o51⟩
      replace HX := hide (HX.out.old o51)
      replace HA := hide (HA.out.old o51)
      replace HB := hide (HB.out.old o51)
      replace HC2 := hide (HC2.out.old o51)
      replace HO := hide (Old.trans HO.out o51)
      have HD2 := hide i51.is
      clear i51 o51
      go_wp2_with fail
      refine (same_true _ _ O2 _ HC2.out HD2.out).mono ?_
      rintro e w52 ⟨rfl, o52⟩
      replace HX := hide (HX.out.old o52)
      replace HA := hide (HA.out.old o52)
      replace HB := hide (HB.out.old o52)
      replace HC2 := hide (HC2.out.old o52)
      replace HD2 := hide (HD2.out.old o52)
      replace HO := hide (Old.trans HO.out o52)
      clear o52
      go_wp2_with fail
      refine (calls_as (zset_Scale 1 _ X _ (by decide) HX.out FX.out) ONE.out.2 ONE.out.1).mono ?_
      rintro e w53 ⟨v53, rfl, i53, o53⟩
      replace HX := hide (HX.out.old o53)
      replace HO := hide (Old.trans HO.out o53)
      have HS := hide i53.is
      clear i53 o53
      go_wp2_with fail
      refine (same_true _ _ X _ HS.out HX.out).mono ?_
      rintro e w54 ⟨rfl, o54⟩
      replace HX := hide (HX.out.old o54)
      replace HS := hide (HS.out.old o54)
      replace HO := hide (Old.trans HO.out o54)
      clear o54
      go_wp2_with fail
      refine (works_run _).mono ?_
      rintro e w55 ⟨rfl, o55⟩
      go_wp2_with fail
      go_ret
      exact ⟨rfl, Old.trans HO.out o55⟩
    · obtain ⟨s1, s2⟩ := int_unfit hs
      have PL := hide (fun w => wide_Plus k m w FK.out FM.out)
      rw [s1, s2] at PL
      clear s1 s2 hs
      go_wp2_with fail
      refine (PL.out _).mono ?_
      rintro e w56 ⟨rfl, o56'⟩
      have o56 := o56'.old
      replace HX := hide (HX.out.old o56)
      replace HA := hide (HA.out.old o56)
      replace HB := hide (HB.out.old o56)
      replace HO := hide (Old.trans HO.out o56)
      clear o56 o56'
      go_wp2_with fail
      refine (calls_as (zset_Scale 1 _ X _ (by decide) HX.out FX.out) ONE.out.2 ONE.out.1).mono ?_
      rintro e w57 ⟨v57, rfl, i57, o57⟩
      replace HX := hide (HX.out.old o57)
      replace HO := hide (Old.trans HO.out o57)
      have HS := hide i57.is
      clear i57 o57
      go_wp2_with fail
      refine (same_true _ _ X _ HS.out HX.out).mono ?_
      rintro e w58 ⟨rfl, o58⟩
      replace HX := hide (HX.out.old o58)
      replace HS := hide (HS.out.old o58)
      replace HO := hide (Old.trans HO.out o58)
      clear o58
      go_wp2_with fail
      refine (works_run _).mono ?_
      rintro e w59 ⟨rfl, o59⟩
      go_wp2_with fail
      go_ret
      exact ⟨rfl, Old.trans HO.out o59⟩

theorem zsetScales_run (va : Value) (l : List Item) (k m : Int) (w : World) (hl : ItemsIs w va l) (fl : ∀ x ∈ l, fit x.w) (hk : fit k) (hm : fit m) :
    Calls Try.prog 7 #[va, .int .i64 k, .int .i64 m] w fun e w' => e = .returned (.bool true) ∧ Old w w' := by
  have FL := cut_fine fl
  have FX := norm_fine FL
  have ZX := normOut_zok (cutItems l)
  rcases normErr_or (cutItems l) with h0 | h0
  · rcases scaleErr_or (k := k) ZX with h1 | h1
    · rcases scaleErr_or (k := m) ZX with h2 | h2
      · exact zsetScales_main va l _ _ _ k m _ _ _ w hl FL (FX.mono (by omega)) hk hm rfl rfl rfl rfl rfl rfl h0 h1 h2 ZX ((scale_fine FX).mono (by omega)) ((scale_fine FX).mono (by omega)) (normOut_fit _)
      · exact zsetScales_bad3 va l _ _ _ k m _ _ _ w hl FL (FX.mono (by omega)) hk hm rfl rfl rfl rfl rfl rfl h0 h1 h2
    · exact zsetScales_bad2 va l _ _ _ k m _ _ _ w hl FL (FX.mono (by omega)) hk hm rfl rfl rfl rfl rfl rfl h0 h1
  · exact zsetScales_bad1 va l _ _ _ k m _ _ _ w hl FL (FX.mono (by omega)) hk hm rfl rfl rfl rfl rfl rfl h0
end Go.Proofs.Ytggknmagpcnkoaa
