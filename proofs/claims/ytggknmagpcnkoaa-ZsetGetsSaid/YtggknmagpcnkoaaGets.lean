/- The statement ZsetGets: the walk. -/
import Derived.Test.YtggknmagpcnkoaaTurn
import Derived.Laws.OwnMore
namespace Go.Proofs.Ytggknmagpcnkoaa
open Go.RowKit

theorem lit_rows2 {bo br : Nat} {w : World} {A : Option Addr} {n c : Nat} {r : List Cell} (hb : bo ≤ w.heap.size) (h : SlT 49 br w (.slice A n c) r.length (rowVals r)) :
    Rows2 bo br (w.alloc (.cells #[.slice A n c, .int .i64 0] 37)) (.slice (some ⟨w.heap.size, 0, none⟩) 1 1) [⟨r, 0⟩] := by
  refine ⟨[.slice A n c], rfl, World.ownsRow_lit w #[.slice A n c, .int .i64 0] 1 hb (by unfold maxLen; omega) rfl, fun i hi hi' => ?_⟩
  have : i = 0 := by simp at hi; omega
  subst this
  exact h.old ((Old.refl w).alloc _)
theorem zset_Check0 (v : Value) (z : List Item) (w : World) (hz : ZOk z) (hl : ItemsIs w v z) : Calls Try.prog 26 #[v] w fun e w' => e = .returned (.int .i64 0) ∧ Old w w' :=
  check_as (zset_Check _ _ _ hl) (chk_ok hz)
set_option maxRecDepth 100000 in
set_option maxHeartbeats 8000000 in
theorem zsetGets_bad1 (va vb vr : Value) (la lb : List Item) (r : List Cell) (X Y S : List Item) (ex ey es : Int) (w : World) (ha : ItemsIs w va la) (hb : ItemsIs w vb lb) (hr : RowIs w vr r) (fa : Fine 40 (cutItems la)) (fb : Fine 40 (cutItems lb))
    (ox : normOut (cutItems la) = X) (exx : normErr (cutItems la) = ex) (oy : normOut (cutItems lb) = Y) (eyy : normErr (cutItems lb) = ey) (os : addOut X Y = S) (ess : addErr X Y = es) (fx : Fine 40 X) (fy : Fine 40 Y) (h : ex = 50) :
    Calls Try.prog 4 #[va, vb, vr] w fun e w' => e = .returned (.bool true) ∧ Old w w' := by
  have HLA := hide ha
  have HLB := hide hb
  have HR := hide hr
  have FA := hide fa
  have FB := hide fb
  have OX := hide ox
  have EX := hide exx
  have OY := hide oy
  have EY := hide eyy
  have OS := hide os
  have ES := hide ess
  have FX := hide fx
  have FY := hide fy
  subst h
  clear ha hb hr fa fb ox exx oy eyy os ess fx fy
  have HO := hide (Old.refl w)
  go_enter Try.func4, Try.ntmps4
  go_wp2_with fail
  refine (cut_run _ la _ (HLA.out.old HO.out)).mono ?_
  rintro e w1 ⟨v1, rfl, i1, o1⟩
  replace HO := hide (Old.trans HO.out o1)
  have HI := hide i1.is
  clear i1 o1
  have hs2 := HO.out.size
  go_wp2_with fail
  refine (calls_as (zset_Norm _ _ _ HI.out (Nat.le_trans FA.out.len (by omega)) FA.out.short FA.out.fits) OX.out EX.out).mono ?_
  rintro e w2 ⟨v2, rfl, i2, o2⟩
  replace HO := hide (Old.trans HO.out o2)
  replace HI := hide (HI.out.old o2)
  have HX := hide (i2.read hs2)
  clear i2 o2 hs2
  clear HI
  go_wp2_with fail
  refine (cut_run _ lb _ (HLB.out.old HO.out)).mono ?_
  rintro e w3 ⟨v3, rfl, i3, o3⟩
  replace HO := hide (Old.trans HO.out o3)
  replace HX := hide (HX.out.old o3)
  have HI := hide i3.is
  clear i3 o3
  have hs4 := HO.out.size
  go_wp2_with fail
  refine (calls_as (zset_Norm _ _ _ HI.out (Nat.le_trans FB.out.len (by omega)) FB.out.short FB.out.fits) OY.out EY.out).mono ?_
  rintro e w4 ⟨v4, rfl, i4, o4⟩
  replace HO := hide (Old.trans HO.out o4)
  replace HX := hide (HX.out.old o4)
  replace HI := hide (HI.out.old o4)
  have HY := hide (i4.read hs4)
  clear i4 o4 hs4
  clear HI
  have hs5 := HO.out.size
  go_wp2_with fail
  refine (calls_as (zset_Add _ _ X Y _ HX.out.is HY.out.is (FX.out.mono (by omega)) (FY.out.mono (by omega))) OS.out ES.out).mono ?_
  rintro e w5 ⟨v5, rfl, i5, o5⟩
  replace HO := hide (Old.trans HO.out o5)
  replace HX := hide (HX.out.old o5)
  replace HY := hide (HY.out.old o5)
  have HS := hide (i5.read hs5)
  clear i5 o5 hs5
  go_wp2_with fail
  refine (works_run _).mono ?_
  rintro e w6 ⟨rfl, o6⟩
  go_wp2_with fail
  go_ret
  exact ⟨rfl, Old.trans HO.out o6⟩

set_option maxRecDepth 100000 in
set_option maxHeartbeats 8000000 in
theorem zsetGets_bad2 (va vb vr : Value) (la lb : List Item) (r : List Cell) (X Y S : List Item) (ex ey es : Int) (w : World) (ha : ItemsIs w va la) (hb : ItemsIs w vb lb) (hr : RowIs w vr r) (fa : Fine 40 (cutItems la)) (fb : Fine 40 (cutItems lb))
    (ox : normOut (cutItems la) = X) (exx : normErr (cutItems la) = ex) (oy : normOut (cutItems lb) = Y) (eyy : normErr (cutItems lb) = ey) (os : addOut X Y = S) (ess : addErr X Y = es) (fx : Fine 40 X) (fy : Fine 40 Y) (h0 : ex = 0) (h : ey = 50) :
    Calls Try.prog 4 #[va, vb, vr] w fun e w' => e = .returned (.bool true) ∧ Old w w' := by
  have HLA := hide ha
  have HLB := hide hb
  have HR := hide hr
  have FA := hide fa
  have FB := hide fb
  have OX := hide ox
  have EX := hide exx
  have OY := hide oy
  have EY := hide eyy
  have OS := hide os
  have ES := hide ess
  have FX := hide fx
  have FY := hide fy
  subst h0 h
  clear ha hb hr fa fb ox exx oy eyy os ess fx fy
  have HO := hide (Old.refl w)
  go_enter Try.func4, Try.ntmps4
  go_wp2_with fail
  refine (cut_run _ la _ (HLA.out.old HO.out)).mono ?_
  rintro e w1 ⟨v1, rfl, i1, o1⟩
  replace HO := hide (Old.trans HO.out o1)
  have HI := hide i1.is
  clear i1 o1
  have hs2 := HO.out.size
  go_wp2_with fail
  refine (calls_as (zset_Norm _ _ _ HI.out (Nat.le_trans FA.out.len (by omega)) FA.out.short FA.out.fits) OX.out EX.out).mono ?_
  rintro e w2 ⟨v2, rfl, i2, o2⟩
  replace HO := hide (Old.trans HO.out o2)
  replace HI := hide (HI.out.old o2)
  have HX := hide (i2.read hs2)
  clear i2 o2 hs2
  clear HI
  go_wp2_with fail
  refine (cut_run _ lb _ (HLB.out.old HO.out)).mono ?_
  rintro e w3 ⟨v3, rfl, i3, o3⟩
  replace HO := hide (Old.trans HO.out o3)
  replace HX := hide (HX.out.old o3)
  have HI := hide i3.is
  clear i3 o3
  have hs4 := HO.out.size
  go_wp2_with fail
  refine (calls_as (zset_Norm _ _ _ HI.out (Nat.le_trans FB.out.len (by omega)) FB.out.short FB.out.fits) OY.out EY.out).mono ?_
  rintro e w4 ⟨v4, rfl, i4, o4⟩
  replace HO := hide (Old.trans HO.out o4)
  replace HX := hide (HX.out.old o4)
  replace HI := hide (HI.out.old o4)
  have HY := hide (i4.read hs4)
  clear i4 o4 hs4
  clear HI
  have hs5 := HO.out.size
  go_wp2_with fail
  refine (calls_as (zset_Add _ _ X Y _ HX.out.is HY.out.is (FX.out.mono (by omega)) (FY.out.mono (by omega))) OS.out ES.out).mono ?_
  rintro e w5 ⟨v5, rfl, i5, o5⟩
  replace HO := hide (Old.trans HO.out o5)
  replace HX := hide (HX.out.old o5)
  replace HY := hide (HY.out.old o5)
  have HS := hide (i5.read hs5)
  clear i5 o5 hs5
  go_wp2_with fail
  refine (works_run _).mono ?_
  rintro e w6 ⟨rfl, o6⟩
  go_wp2_with fail
  go_ret
  exact ⟨rfl, Old.trans HO.out o6⟩

set_option maxRecDepth 100000 in
set_option maxHeartbeats 8000000 in
theorem zsetGets_bad3 (va vb vr : Value) (la lb : List Item) (r : List Cell) (X Y S : List Item) (ex ey es : Int) (w : World) (ha : ItemsIs w va la) (hb : ItemsIs w vb lb) (hr : RowIs w vr r) (fa : Fine 40 (cutItems la)) (fb : Fine 40 (cutItems lb))
    (ox : normOut (cutItems la) = X) (exx : normErr (cutItems la) = ex) (oy : normOut (cutItems lb) = Y) (eyy : normErr (cutItems lb) = ey) (os : addOut X Y = S) (ess : addErr X Y = es) (fx : Fine 40 X) (fy : Fine 40 Y) (h0 : ex = 0) (h1 : ey = 0) (h : es = 50) :
    Calls Try.prog 4 #[va, vb, vr] w fun e w' => e = .returned (.bool true) ∧ Old w w' := by
  have HLA := hide ha
  have HLB := hide hb
  have HR := hide hr
  have FA := hide fa
  have FB := hide fb
  have OX := hide ox
  have EX := hide exx
  have OY := hide oy
  have EY := hide eyy
  have OS := hide os
  have ES := hide ess
  have FX := hide fx
  have FY := hide fy
  subst h0 h1 h
  clear ha hb hr fa fb ox exx oy eyy os ess fx fy
  have HO := hide (Old.refl w)
  go_enter Try.func4, Try.ntmps4
  go_wp2_with fail
  refine (cut_run _ la _ (HLA.out.old HO.out)).mono ?_
  rintro e w1 ⟨v1, rfl, i1, o1⟩
  replace HO := hide (Old.trans HO.out o1)
  have HI := hide i1.is
  clear i1 o1
  have hs2 := HO.out.size
  go_wp2_with fail
  refine (calls_as (zset_Norm _ _ _ HI.out (Nat.le_trans FA.out.len (by omega)) FA.out.short FA.out.fits) OX.out EX.out).mono ?_
  rintro e w2 ⟨v2, rfl, i2, o2⟩
  replace HO := hide (Old.trans HO.out o2)
  replace HI := hide (HI.out.old o2)
  have HX := hide (i2.read hs2)
  clear i2 o2 hs2
  clear HI
  go_wp2_with fail
  refine (cut_run _ lb _ (HLB.out.old HO.out)).mono ?_
  rintro e w3 ⟨v3, rfl, i3, o3⟩
  replace HO := hide (Old.trans HO.out o3)
  replace HX := hide (HX.out.old o3)
  have HI := hide i3.is
  clear i3 o3
  have hs4 := HO.out.size
  go_wp2_with fail
  refine (calls_as (zset_Norm _ _ _ HI.out (Nat.le_trans FB.out.len (by omega)) FB.out.short FB.out.fits) OY.out EY.out).mono ?_
  rintro e w4 ⟨v4, rfl, i4, o4⟩
  replace HO := hide (Old.trans HO.out o4)
  replace HX := hide (HX.out.old o4)
  replace HI := hide (HI.out.old o4)
  have HY := hide (i4.read hs4)
  clear i4 o4 hs4
  clear HI
  have hs5 := HO.out.size
  go_wp2_with fail
  refine (calls_as (zset_Add _ _ X Y _ HX.out.is HY.out.is (FX.out.mono (by omega)) (FY.out.mono (by omega))) OS.out ES.out).mono ?_
  rintro e w5 ⟨v5, rfl, i5, o5⟩
  replace HO := hide (Old.trans HO.out o5)
  replace HX := hide (HX.out.old o5)
  replace HY := hide (HY.out.old o5)
  have HS := hide (i5.read hs5)
  clear i5 o5 hs5
  go_wp2_with fail
  refine (works_run _).mono ?_
  rintro e w6 ⟨rfl, o6⟩
  go_wp2_with fail
  go_ret
  exact ⟨rfl, Old.trans HO.out o6⟩

set_option maxRecDepth 100000 in
set_option maxHeartbeats 8000000 in
theorem zsetGets_main (va vb vr : Value) (la lb : List Item) (r : List Cell) (X Y S : List Item) (ex ey es : Int) (w : World) (ha : ItemsIs w va la) (hb : ItemsIs w vb lb) (hr : RowIs w vr r) (fa : Fine 40 (cutItems la)) (fb : Fine 40 (cutItems lb))
    (ox : normOut (cutItems la) = X) (exx : normErr (cutItems la) = ex) (oy : normOut (cutItems lb) = Y) (eyy : normErr (cutItems lb) = ey) (os : addOut X Y = S) (ess : addErr X Y = es) (fx : Fine 40 X) (fy : Fine 40 Y) (h0 : ex = 0) (h1 : ey = 0) (h2 : es = 0) (zx : ZOk X) (zy : ZOk Y) :
    Calls Try.prog 4 #[va, vb, vr] w fun e w' => e = .returned (.bool true) ∧ Old w w' := by
  have HLA := hide ha
  have HLB := hide hb
  have HR := hide hr
  have FA := hide fa
  have FB := hide fb
  have OX := hide ox
  have EX := hide exx
  have OY := hide oy
  have EY := hide eyy
  have OS := hide os
  have ES := hide ess
  have FX := hide fx
  have FY := hide fy
  have FS := hide (show Fine 80 S by rw [← os]; exact add_fine fx fy)
  have ZS := hide (show ZOk S by rw [← os]; exact addOut_zok _ _)
  have GS := hide (show ∀ R, getW S R = getW X R + getW Y R ∧ fit (getW X R + getW Y R) from fun R => by have := get_sum zx zy (ess.trans h2) R; rwa [os] at this)
  have FGX := hide (show ∀ R, fit (getW X R) from fun R => by rw [getW_wOf zx.1]; exact fit_mem fx.fits zx.1 R)
  have FGY := hide (show ∀ R, fit (getW Y R) from fun R => by rw [getW_wOf zy.1]; exact fit_mem fy.fits zy.1 R)
  subst h0 h1 h2
  clear zx zy
  clear ha hb hr fa fb ox exx oy eyy os ess fx fy
  have HO := hide (Old.refl w)
  go_enter Try.func4, Try.ntmps4
  go_wp2_with fail
  refine (cut_run _ la _ (HLA.out.old HO.out)).mono ?_
  rintro e w1 ⟨v1, rfl, i1, o1⟩
  replace HO := hide (Old.trans HO.out o1)
  have HI := hide i1.is
  clear i1 o1
  have hs2 := HO.out.size
  go_wp2_with fail
  refine (calls_as (zset_Norm _ _ _ HI.out (Nat.le_trans FA.out.len (by omega)) FA.out.short FA.out.fits) OX.out EX.out).mono ?_
  rintro e w2 ⟨v2, rfl, i2, o2⟩
  replace HO := hide (Old.trans HO.out o2)
  replace HI := hide (HI.out.old o2)
  have HX := hide (i2.read hs2)
  clear i2 o2 hs2
  clear HI
  go_wp2_with fail
  refine (cut_run _ lb _ (HLB.out.old HO.out)).mono ?_
  rintro e w3 ⟨v3, rfl, i3, o3⟩
  replace HO := hide (Old.trans HO.out o3)
  replace HX := hide (HX.out.old o3)
  have HI := hide i3.is
  clear i3 o3
  have hs4 := HO.out.size
  go_wp2_with fail
  refine (calls_as (zset_Norm _ _ _ HI.out (Nat.le_trans FB.out.len (by omega)) FB.out.short FB.out.fits) OY.out EY.out).mono ?_
  rintro e w4 ⟨v4, rfl, i4, o4⟩
  replace HO := hide (Old.trans HO.out o4)
  replace HX := hide (HX.out.old o4)
  replace HI := hide (HI.out.old o4)
  have HY := hide (i4.read hs4)
  clear i4 o4 hs4
  clear HI
  have hs5 := HO.out.size
  go_wp2_with fail
  refine (calls_as (zset_Add _ _ X Y _ HX.out.is HY.out.is (FX.out.mono (by omega)) (FY.out.mono (by omega))) OS.out ES.out).mono ?_
  rintro e w5 ⟨v5, rfl, i5, o5⟩
  replace HO := hide (Old.trans HO.out o5)
  replace HX := hide (HX.out.old o5)
  replace HY := hide (HY.out.old o5)
  have HS := hide (i5.read hs5)
  clear i5 o5 hs5
  obtain ⟨q, hq⟩ : ∃ q, Hid (shortRow r = q) := ⟨_, hide rfl⟩
  have hs := HO.out.size
  have HC := hide (show Calls Try.prog 23 #[vr] w5 (fun e w2 => ∃ A cp, e = .returned (.slice A q.length cp) ∧ SlT 49 w.heap.size w2 (.slice A q.length cp) q.length (rowVals q) ∧ Old w5 w2) from by have := (short_run _ r _ (HR.out.old HO.out)).mono fun _ _ hn => NewRow.form hn hs; rw [hq.out] at this; exact this)
  clear hs
  go_wp2_with fail
  refine HC.out.mono ?_
  rintro e w7 ⟨A7, c7, rfl, r7, o7⟩
  clear HC
  replace HO := hide (Old.trans HO.out o7)
  replace HX := hide (HX.out.old o7)
  replace HY := hide (HY.out.old o7)
  replace HS := hide (HS.out.old o7)
  have Q7 := hide (show RowIs w7 _ q from r7.sl)
  have R7 := hide (lit_rows2 (bo := w7.heap.size) (Nat.le_refl _) r7)
  clear r7 o7
  have LX := FX.out.len
  have LY := FY.out.len
  have LS := FS.out.len
  have X7 := hide HX.out
  have Y7 := hide HY.out
  have S7 := hide HS.out
  have HO7 := hide HO.out
  clear HX HY HS HO
  have l1 : [(⟨q, 0⟩ : Item)].length + X.length ≤ 4194304 := by simp; omega
  have l2 : ([(⟨q, 0⟩ : Item)] ++ X).length + Y.length ≤ 4194304 := by simp; omega
  have l3 : ([(⟨q, 0⟩ : Item)] ++ X ++ Y).length + S.length ≤ 4194304 := by simp; omega
  skip
  go_upto_region 7 with (first
    | (at_builtin; refine wpList_plain rfl (fun K hK => ?_); refine step_push2 _ _ _ rfl w7.heap.size w.heap.size _ [⟨q, 0⟩] rfl R7.out _ X rfl (X7.out.old ((Old.refl w7).alloc _)) l1 ((Old.refl w7).alloc _).size ?_; intro v8 w8 own8 kept8; have o8 := kept8.old ((Old.refl w7).alloc _) (Nat.le_refl _); refine hK _ _ ?_; clear hK)
    | (at_builtin; refine wpList_plain rfl (fun K hK => ?_); refine step_push2 _ _ _ rfl w7.heap.size w.heap.size _ ([Item.mk q 0] ++ X) rfl own8 _ Y rfl (Y7.out.old o8) l2 o8.size ?_; intro v9 w9 own9 kept9; have o9 := kept9.old o8 (Nat.le_refl _); refine hK _ _ ?_; clear hK)
    | (at_builtin; refine wpList_plain rfl (fun K hK => ?_); refine step_push2 _ _ _ rfl w7.heap.size w.heap.size _ ([Item.mk q 0] ++ X ++ Y) rfl own9 _ S rfl (S7.out.old o9) l3 o9.size ?_; intro v10 w10 own10 kept10; have o10 := kept10.old o9 (Nat.le_refl _); refine hK _ _ ?_; clear hK))
  have HX := hide (X7.out.old o10).is
  have HY := hide (Y7.out.old o10).is
  have HS := hide (S7.out.old o10).is
  have HO := hide (Old.trans HO7.out o10)
  obtain ⟨Z, hZ⟩ : ∃ Z, Hid ([(⟨q, 0⟩ : Item)] ++ X ++ Y ++ S = Z) := ⟨_, hide rfl⟩
  have i10 := own10.is
  rw [hZ.out] at i10
  have lZ : Z.length ≤ 200 := by rw [← hZ.out]; simp; omega
  clear own8 kept8 o8 own9 kept9 o9 own10 kept10 o10 X7 Y7 S7 HO7 R7 Q7 l1 l2 l3 LX LY LS hZ hq
  obtain ⟨A, ca, us, rfl, hla, hma, hul, hur, hcl⟩ := i10.open_
  unfold maxLen at hma
  have HUR := hide hur
  have HCL := hide hcl
  clear hur hcl i10
  go_wp2_with fail
  go_loopw [14, 15, 16] (fun i n g wr => ∃ k : Nat, i = .int .i64 k ∧ k ≤ Z.length ∧ Old w10 wr) (fun i _ _ _ => Z.length - (intOf i).toNat)
  case atStart => exact ⟨0, rfl, by omega, Old.refl _⟩
  case round =>
    obtain ⟨k, rfl, hk, hbl⟩ := hrel
    by_cases hlt : k < Z.length
    · have hku : k < us.length := by omega
      obtain ⟨b1, o1, rfl, hc1⟩ := HCL.out.resolve_left (by omega)
      obtain ⟨x0, _⟩ := hc1 k hlt hku
      have hx0 : ∀ p : Later wr, p.world.cell? ⟨b1, o1 + k * 2, none⟩ = some us[k] := fun p => (hbl.trans p.old).cell x0
      obtain ⟨R, hR⟩ : ∃ R, Hid (Z[k].row = R) := ⟨_, hide rfl⟩
      have HROW := hide (HUR.out k hlt hku)
      rw [hR.out] at HROW
      obtain ⟨gs1, gs2⟩ := GS.out R
      skip
      obtain ⟨P, hP⟩ : ∃ P, Hid (getW X R = P) := ⟨_, hide rfl⟩
      obtain ⟨Q, hQ⟩ : ∃ Q, Hid (getW Y R = Q) := ⟨_, hide rfl⟩
      rw [hP.out, hQ.out] at gs1 gs2
      have FP := hide (show fit P by rw [← hP.out]; exact FGX.out R)
      have FQ := hide (show fit Q by rw [← hQ.out]; exact FGY.out R)
      obtain ⟨s1, s2⟩ := int_fit gs2
      have CX := hide (show ∀ p : Later wr, Calls Try.prog 25 #[_, us[k]] p.world fun e w' => e = .returned (.int .i64 P) ∧ Old p.world w' from fun p => get_as (zset_Get _ _ X R _ (HX.out.old (hbl.trans p.old)) (HROW.out.old (hbl.trans p.old))) hP.out)
      have CY := hide (show ∀ p : Later wr, Calls Try.prog 25 #[_, us[k]] p.world fun e w' => e = .returned (.int .i64 Q) ∧ Old p.world w' from fun p => get_as (zset_Get _ _ Y R _ (HY.out.old (hbl.trans p.old)) (HROW.out.old (hbl.trans p.old))) hQ.out)
      have CP := hide (show ∀ p : Later wr, Calls Try.prog 24 #[.int .i64 P, .int .i64 Q] p.world fun e w' => e = .returned (.tuple #[.int .i64 (P + Q), .int .i64 0]) ∧ Old p.world w' from fun p => (wide_Plus P Q _ FP.out FQ.out).mono fun _ _ h => ⟨by rw [h.1, s1, s2], h.2.old⟩)
      have HGS := hide gs1
      have x0' := hide x0
      clear hc1 x0 gs1 gs2 s1 s2
      go_wp2_with fail
      refine region_later (by kernel_rfl) (by kernel_rfl) ?_
      repeat (go_big_quiet_step ((first | (go_at_call 25; first | (with_reducible exact Later.call (CX.out _)) | (with_reducible exact Later.call (CY.out _))) | (go_at_call 24; exact Later.call (CP.out _)))))
      refine wpQuiet_nil ?_
      rintro wq ⟨⟨_, hwq⟩, rfl⟩
      clear hx0 CX CY CP
      have HB2 := hide (hbl.trans hwq)
      have x1 := HB2.out.cell x0'.out
      go_wp2_with fail
      refine (get_as (zset_Get _ _ S R _ (HS.out.old HB2.out) (HROW.out.old HB2.out)) HGS.out).mono ?_
      rintro e w12 ⟨rfl, o12⟩
      have HB3 := hide (HB2.out.trans o12)
      clear x1 o12
      go_wp2_with fail
      go_roundw
      case rel => exact ⟨k + 1, by go_num, by omega, HB3.out⟩
      case measure => simp [intOf]; omega
    · go_wp2_with fail
      refine (zset_Check0 _ S _ ZS.out (HS.out.old hbl)).mono ?_
      rintro e w11 ⟨rfl, o11⟩
      have HB4 := hide (Old.trans (Old.trans HO.out hbl) o11)
      clear o11
      go_wp2_with fail
      refine (works_run _).mono ?_
      rintro e w12 ⟨rfl, o12⟩
      go_wp2_with fail
      go_ret
      exact ⟨rfl, Old.trans HB4.out o12⟩

theorem zsetGets_run (va vb vr : Value) (la lb : List Item) (r : List Cell) (w : World) (ha : ItemsIs w va la) (hb : ItemsIs w vb lb) (hr : RowIs w vr r) (fa : ∀ x ∈ la, fit x.w) (fb : ∀ x ∈ lb, fit x.w) :
    Calls Try.prog 4 #[va, vb, vr] w fun e w' => e = .returned (.bool true) ∧ Old w w' := by
  have FA := cut_fine fa
  have FB := cut_fine fb
  have ZX := normOut_zok (cutItems la)
  have ZY := normOut_zok (cutItems lb)
  rcases normErr_or (cutItems la) with h0 | h0
  · rcases normErr_or (cutItems lb) with h1 | h1
    · rcases addErr_or ZX ZY with h2 | h2
      · exact zsetGets_main va vb vr la lb r _ _ _ _ _ _ w ha hb hr FA FB rfl rfl rfl rfl rfl rfl (norm_fine FA) (norm_fine FB) h0 h1 h2 ZX ZY
      · exact zsetGets_bad3 va vb vr la lb r _ _ _ _ _ _ w ha hb hr FA FB rfl rfl rfl rfl rfl rfl (norm_fine FA) (norm_fine FB) h0 h1 h2
    · exact zsetGets_bad2 va vb vr la lb r _ _ _ _ _ _ w ha hb hr FA FB rfl rfl rfl rfl rfl rfl (norm_fine FA) (norm_fine FB) h0 h1
  · exact zsetGets_bad1 va vb vr la lb r _ _ _ _ _ _ w ha hb hr FA FB rfl rfl rfl rfl rfl rfl (norm_fine FA) (norm_fine FB) h0
end Go.Proofs.Ytggknmagpcnkoaa
