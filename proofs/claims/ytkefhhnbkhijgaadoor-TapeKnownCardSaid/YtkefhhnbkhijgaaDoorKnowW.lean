/- TapeKnown: the walk. -/
import Derived.Test.YtkefhhnbkhijgaaDoorKnowL
namespace Go.Proofs.YtkefhhnbkhijgaaDoor
open Go.RowKit

theorem own_low (w : World) : NodesOwn w.heap.size (w.alloc (.cells #[.int .i64 6, .string ⟨#[]⟩, .int .i64 0, .string ⟨#[]⟩, .int .i64 65] 57)) (.slice (some ⟨w.heap.size, 0, none⟩) 1 1) (lowT 0) := by
  rw [lowT_zero]
  exact World.ownsRow_lit w #[.int .i64 6, .string ⟨#[]⟩, .int .i64 0, .string ⟨#[]⟩, .int .i64 65] 1 (Nat.le_refl _) (by unfold maxLen; omega) rfl

set_option maxRecDepth 100000 in
set_option maxHeartbeats 8000000 in
theorem tapeKnown_run (w : World) (hT : Tabs w) (WK : WorksOk) :
    Calls Tryd.prog 10 #[] w fun e w' => e = .returned (.bool true) ∧ Old w w' := by
  have HT := hide hT
  clear hT
  go_enter Tryd.func10, Tryd.ntmps10
  go_wp2_with fail
  refine (example_run _).mono ?_
  rintro e w1 ⟨v1, rfl, n1, o1⟩
  obtain ⟨A1, c1, rfl, q1, r1⟩ := nodes_form (m := 5) n1 rfl
  unfold maxLen at r1
  have N1 := hide (SlT.sl n1)
  have O1 := hide o1
  clear n1 o1
  go_wp2_with fail
  go_loopw [2] (fun i wr => ∃ k : Nat, i = .int .i64 k ∧ k ≤ 5 ∧ Hid (Old w1 wr)) (fun i _ => 5 - (intOf i).toNat)
  case atStart => exact ⟨0, rfl, by omega, hide (Old.refl _)⟩
  case round =>
    obtain ⟨i, rfl, hi, HO⟩ := hrel
    by_cases hlt : i < 5
    · have hlt' : (i : Int) < 5 := by omega
      go_wp2_with fail
      go_loopw [3] (fun kk wz => ∃ k : Nat, kk = .int .i64 ((k : Int) - 1) ∧ k ≤ 10 ∧ Hid (Old w1 wz)) (fun kk _ => 10 - (intOf kk + 1).toNat)
      case atStart => exact ⟨0, rfl, by omega, HO⟩
      case round =>
        obtain ⟨k, rfl, hk, HZ⟩ := hrel
        by_cases hk9 : k < 10
        · go_wp2_with fail
          refine (example_run _).mono ?_
          rintro e wx1 ⟨v, rfl, n, p1⟩
          obtain ⟨ga, fa, ca, rfl, qa, ra, la, Fa⟩ := five_of n rfl
          have ba := Fa.2.1
          have P1 := hide p1
          have Fa := hide Fa
          unfold maxLen at ra
          clear n p1
          go_wp2_with fail
          refine (example_run _).mono ?_
          rintro e wx2 ⟨v, rfl, n, p1⟩
          obtain ⟨gb, fb, cb, rfl, qb, rb, lb, Fb⟩ := five_of n rfl
          have bb := Fb.2.1
          have P2 := hide (Old.trans P1.out p1)
          have Fa := hide (Fa.out.old p1)
          have Fb := hide Fb
          unfold maxLen at rb
          clear n p1
          go_wp2_with fail
          refine (example_run _).mono ?_
          rintro e wx3 ⟨v, rfl, n, p1⟩
          obtain ⟨gc, fc, cc, rfl, qc, rc, lc, Fc⟩ := five_of n rfl
          have bc := Fc.2.1
          have P3 := hide (Old.trans P2.out p1)
          have Fa := hide (Fa.out.old p1)
          have Fb := hide (Fb.out.old p1)
          have Fc := hide Fc
          unfold maxLen at rc
          clear n p1
          go_wp2_with fail
          refine (example_run _).mono ?_
          rintro e wx4 ⟨v, rfl, n, p1⟩
          obtain ⟨gd, fd, cd, rfl, qd, rd, ld, Fd⟩ := five_of n rfl
          have bd := Fd.2.1
          have P4 := hide (Old.trans P3.out p1)
          have Fa := hide (Fa.out.old p1)
          have Fb := hide (Fb.out.old p1)
          have Fc := hide (Fc.out.old p1)
          have Fd := hide Fd
          unfold maxLen at rd
          clear n p1
          go_wp2_with fail
          refine (example_run _).mono ?_
          rintro e wx5 ⟨v, rfl, n, p1⟩
          obtain ⟨ge, fe, ce, rfl, qe, re, le, Fe⟩ := five_of n rfl
          have be := Fe.2.1
          have P5 := hide (Old.trans P4.out p1)
          have Fa := hide (Fa.out.old p1)
          have Fb := hide (Fb.out.old p1)
          have Fc := hide (Fc.out.old p1)
          have Fd := hide (Fd.out.old p1)
          have Fe := hide Fe
          unfold maxLen at re
          clear n p1
          go_wp2_with fail
          refine (example_run _).mono ?_
          rintro e wx6 ⟨v, rfl, n, p1⟩
          obtain ⟨gf, ff, cf, rfl, qf, rf, lf, Ff⟩ := five_of n rfl
          have P6 := hide (Old.trans P5.out p1)
          have Fa := hide (Fa.out.old p1)
          have Fb := hide (Fb.out.old p1)
          have Fc := hide (Fc.out.old p1)
          have Fd := hide (Fd.out.old p1)
          have Fe := hide (Fe.out.old p1)
          have Ff := hide Ff
          unfold maxLen at rf
          clear n p1
          have OA := hide (Old.trans HZ.out P6.out)
          have hb0 : wx6.heap.size = wx6.heap.size := rfl
          have sa : w1.heap.size ≤ ga := Nat.le_trans HZ.out.size la
          have sb : ga < gb := Nat.lt_of_lt_of_le ba lb
          have sc : gb < gc := Nat.lt_of_lt_of_le bb lc
          have sd : gc < gd := Nat.lt_of_lt_of_le bc ld
          have se : gd < ge := Nat.lt_of_lt_of_le bd le
          have sf : ge < gf := Nat.lt_of_lt_of_le be lf
          have SG := hide (show w1.heap.size ≤ ga ∧ ga < gb ∧ gb < gc ∧ gc < gd ∧ gd < ge ∧ ge < gf from ⟨sa, sb, sc, sd, se, sf⟩)
          clear la lb lc ld le lf ba bb bc bd be sa sb sc sd se sf hb0
          have I1 := hide N1.out
          obtain ⟨⟨xu, hx⟩, hf0, ta, Ga⟩ := Fa.out.set 0 i (.int .i64 ((k : Int) - 1)) hlt (by omega) (set_kind _)
          simp only [Nat.add_zero] at hx Ga
          have hf := hf0 (fa + i * 5)
          have Ga := hide Ga
          have Gb := hide (Fb.out.other (j := fa + i * 5) (u := .int .i64 ((k : Int) - 1)) (g' := ga) (by have := SG.out; omega))
          have Gc := hide (Fc.out.other (j := fa + i * 5) (u := .int .i64 ((k : Int) - 1)) (g' := ga) (by have := SG.out; omega))
          have Gd := hide (Fd.out.other (j := fa + i * 5) (u := .int .i64 ((k : Int) - 1)) (g' := ga) (by have := SG.out; omega))
          have Ge := hide (Fe.out.other (j := fa + i * 5) (u := .int .i64 ((k : Int) - 1)) (g' := ga) (by have := SG.out; omega))
          have Gf := hide (Ff.out.other (j := fa + i * 5) (u := .int .i64 ((k : Int) - 1)) (g' := ga) (by have := SG.out; omega))
          have OB := hide (OA.out.setCell (p := ⟨ga, fa + i * 5, none⟩) (by have := SG.out; show w1.heap.size ≤ ga; omega) (.int .i64 ((k : Int) - 1)))
          clear Fa Fb Fc Fd Fe Ff OA hf0
          go_upto_region 10 with fail
          generalize wx6.setCell ⟨ga, fa + i * 5, none⟩ (.int .i64 ((k : Int) - 1)) = wx7 at Ga Gb Gc Gd Ge Gf OB ⊢
          clear hx hf xu
          have OA := hide OB.out
          have Fa := hide Ga.out
          have Fb := hide Gb.out
          have Fc := hide Gc.out
          have Fd := hide Gd.out
          have Fe := hide Ge.out
          have Ff := hide Gf.out
          clear OB Ga Gb Gc Gd Ge Gf
          obtain ⟨⟨xu, hx⟩, hf0, tb, Gb⟩ := Fb.out.set 4 i (.int .i64 ((k : Int) - 1)) hlt (by omega) (set_size _)
          have hf := hf0 (fb + i * 5 + 4)
          have Gb := hide Gb
          have Ga := hide (Fa.out.other (j := fb + i * 5 + 4) (u := .int .i64 ((k : Int) - 1)) (g' := gb) (by have := SG.out; omega))
          have Gc := hide (Fc.out.other (j := fb + i * 5 + 4) (u := .int .i64 ((k : Int) - 1)) (g' := gb) (by have := SG.out; omega))
          have Gd := hide (Fd.out.other (j := fb + i * 5 + 4) (u := .int .i64 ((k : Int) - 1)) (g' := gb) (by have := SG.out; omega))
          have Ge := hide (Fe.out.other (j := fb + i * 5 + 4) (u := .int .i64 ((k : Int) - 1)) (g' := gb) (by have := SG.out; omega))
          have Gf := hide (Ff.out.other (j := fb + i * 5 + 4) (u := .int .i64 ((k : Int) - 1)) (g' := gb) (by have := SG.out; omega))
          have OB := hide (OA.out.setCell (p := ⟨gb, fb + i * 5 + 4, none⟩) (by have := SG.out; show w1.heap.size ≤ gb; omega) (.int .i64 ((k : Int) - 1)))
          clear Fa Fb Fc Fd Fe Ff OA hf0
          go_upto_region 11 with fail
          generalize wx7.setCell ⟨gb, fb + i * 5 + 4, none⟩ (.int .i64 ((k : Int) - 1)) = wx8 at Ga Gb Gc Gd Ge Gf OB ⊢
          clear hx hf xu
          have OA := hide OB.out
          have Fa := hide Ga.out
          have Fb := hide Gb.out
          have Fc := hide Gc.out
          have Fd := hide Gd.out
          have Fe := hide Ge.out
          have Ff := hide Gf.out
          clear OB Ga Gb Gc Gd Ge Gf
          obtain ⟨⟨xu, hx⟩, hf0, tc, Gc⟩ := Fc.out.set 2 i (.int .i64 ((k : Int) - 1)) hlt (by omega) (set_n _)
          have hf := hf0 (fc + i * 5 + 2)
          have Gc := hide Gc
          have Ga := hide (Fa.out.other (j := fc + i * 5 + 2) (u := .int .i64 ((k : Int) - 1)) (g' := gc) (by have := SG.out; omega))
          have Gb := hide (Fb.out.other (j := fc + i * 5 + 2) (u := .int .i64 ((k : Int) - 1)) (g' := gc) (by have := SG.out; omega))
          have Gd := hide (Fd.out.other (j := fc + i * 5 + 2) (u := .int .i64 ((k : Int) - 1)) (g' := gc) (by have := SG.out; omega))
          have Ge := hide (Fe.out.other (j := fc + i * 5 + 2) (u := .int .i64 ((k : Int) - 1)) (g' := gc) (by have := SG.out; omega))
          have Gf := hide (Ff.out.other (j := fc + i * 5 + 2) (u := .int .i64 ((k : Int) - 1)) (g' := gc) (by have := SG.out; omega))
          have OB := hide (OA.out.setCell (p := ⟨gc, fc + i * 5 + 2, none⟩) (by have := SG.out; show w1.heap.size ≤ gc; omega) (.int .i64 ((k : Int) - 1)))
          clear Fa Fb Fc Fd Fe Ff OA hf0
          go_upto_region 12 with fail
          generalize wx8.setCell ⟨gc, fc + i * 5 + 2, none⟩ (.int .i64 ((k : Int) - 1)) = wx9 at Ga Gb Gc Gd Ge Gf OB ⊢
          clear hx hf xu
          have OA := hide OB.out
          have Fa := hide Ga.out
          have Fb := hide Gb.out
          have Fc := hide Gc.out
          have Fd := hide Gd.out
          have Fe := hide Ge.out
          have Ff := hide Gf.out
          clear OB Ga Gb Gc Gd Ge Gf
          obtain ⟨sd, hs⟩ : ∃ sd, ([Value.string ⟨#[]⟩, Value.string ⟨#[120]⟩, Value.string ⟨#[255]⟩] : List Value)[k % 3]? = some (Value.string sd) := by
            have h5 : k % 3 < 3 := Nat.mod_lt _ (by omega)
            generalize k % 3 = m at h5
            match m, h5 with
            | 0, _ => exact ⟨_, rfl⟩
            | 1, _ => exact ⟨_, rfl⟩
            | 2, _ => exact ⟨_, rfl⟩
          have Fa := hide (Fa.out.old (Old.alloc (Old.refl _) (.cells #[Value.string ⟨#[]⟩, Value.string ⟨#[120]⟩, Value.string ⟨#[255]⟩] 9)))
          have Fb := hide (Fb.out.old (Old.alloc (Old.refl _) (.cells #[Value.string ⟨#[]⟩, Value.string ⟨#[120]⟩, Value.string ⟨#[255]⟩] 9)))
          have Fc := hide (Fc.out.old (Old.alloc (Old.refl _) (.cells #[Value.string ⟨#[]⟩, Value.string ⟨#[120]⟩, Value.string ⟨#[255]⟩] 9)))
          have Fd := hide (Fd.out.old (Old.alloc (Old.refl _) (.cells #[Value.string ⟨#[]⟩, Value.string ⟨#[120]⟩, Value.string ⟨#[255]⟩] 9)))
          have Fe := hide (Fe.out.old (Old.alloc (Old.refl _) (.cells #[Value.string ⟨#[]⟩, Value.string ⟨#[120]⟩, Value.string ⟨#[255]⟩] 9)))
          have Ff := hide (Ff.out.old (Old.alloc (Old.refl _) (.cells #[Value.string ⟨#[]⟩, Value.string ⟨#[120]⟩, Value.string ⟨#[255]⟩] 9)))
          have OA := hide (Old.alloc OA.out (.cells #[Value.string ⟨#[]⟩, Value.string ⟨#[120]⟩, Value.string ⟨#[255]⟩] 9))
          obtain ⟨⟨xu, hx⟩, hf0, td, Gd⟩ := Fd.out.set 3 i (Value.string sd) hlt (by omega) (set_s _)
          have hf := hf0 (fd + i * 5 + 3)
          have Gd := hide Gd
          have Ga := hide (Fa.out.other (j := fd + i * 5 + 3) (u := Value.string sd) (g' := gd) (by have := SG.out; omega))
          have Gb := hide (Fb.out.other (j := fd + i * 5 + 3) (u := Value.string sd) (g' := gd) (by have := SG.out; omega))
          have Gc := hide (Fc.out.other (j := fd + i * 5 + 3) (u := Value.string sd) (g' := gd) (by have := SG.out; omega))
          have Ge := hide (Fe.out.other (j := fd + i * 5 + 3) (u := Value.string sd) (g' := gd) (by have := SG.out; omega))
          have Gf := hide (Ff.out.other (j := fd + i * 5 + 3) (u := Value.string sd) (g' := gd) (by have := SG.out; omega))
          have OB := hide (OA.out.setCell (p := ⟨gd, fd + i * 5 + 3, none⟩) (by have := SG.out; show w1.heap.size ≤ gd; omega) (Value.string sd))
          clear Fa Fb Fc Fd Fe Ff OA hf0
          go_upto_region 13 with fail
          generalize (wx9.alloc (.cells #[Value.string ⟨#[]⟩, Value.string ⟨#[120]⟩, Value.string ⟨#[255]⟩] 9)).setCell ⟨gd, fd + i * 5 + 3, none⟩ (Value.string sd) = wx10 at Ga Gb Gc Gd Ge Gf OB ⊢
          clear hx hf hs xu
          have OA := hide OB.out
          have Fa := hide Ga.out
          have Fb := hide Gb.out
          have Fc := hide Gc.out
          have Fd := hide Gd.out
          have Fe := hide Ge.out
          have Ff := hide Gf.out
          clear OB Ga Gb Gc Gd Ge Gf
          obtain ⟨se, hs⟩ : ∃ se, ([Value.string ⟨#[]⟩, Value.string ⟨#[97]⟩, Value.string ⟨#[98]⟩, Value.string ⟨#[255]⟩, Value.string ⟨#[99]⟩] : List Value)[k % 5]? = some (Value.string se) := by
            have h5 : k % 5 < 5 := Nat.mod_lt _ (by omega)
            generalize k % 5 = m at h5
            match m, h5 with
            | 0, _ => exact ⟨_, rfl⟩
            | 1, _ => exact ⟨_, rfl⟩
            | 2, _ => exact ⟨_, rfl⟩
            | 3, _ => exact ⟨_, rfl⟩
            | 4, _ => exact ⟨_, rfl⟩
          have Fa := hide (Fa.out.old (Old.alloc (Old.refl _) (.cells #[Value.string ⟨#[]⟩, Value.string ⟨#[97]⟩, Value.string ⟨#[98]⟩, Value.string ⟨#[255]⟩, Value.string ⟨#[99]⟩] 9)))
          have Fb := hide (Fb.out.old (Old.alloc (Old.refl _) (.cells #[Value.string ⟨#[]⟩, Value.string ⟨#[97]⟩, Value.string ⟨#[98]⟩, Value.string ⟨#[255]⟩, Value.string ⟨#[99]⟩] 9)))
          have Fc := hide (Fc.out.old (Old.alloc (Old.refl _) (.cells #[Value.string ⟨#[]⟩, Value.string ⟨#[97]⟩, Value.string ⟨#[98]⟩, Value.string ⟨#[255]⟩, Value.string ⟨#[99]⟩] 9)))
          have Fd := hide (Fd.out.old (Old.alloc (Old.refl _) (.cells #[Value.string ⟨#[]⟩, Value.string ⟨#[97]⟩, Value.string ⟨#[98]⟩, Value.string ⟨#[255]⟩, Value.string ⟨#[99]⟩] 9)))
          have Fe := hide (Fe.out.old (Old.alloc (Old.refl _) (.cells #[Value.string ⟨#[]⟩, Value.string ⟨#[97]⟩, Value.string ⟨#[98]⟩, Value.string ⟨#[255]⟩, Value.string ⟨#[99]⟩] 9)))
          have Ff := hide (Ff.out.old (Old.alloc (Old.refl _) (.cells #[Value.string ⟨#[]⟩, Value.string ⟨#[97]⟩, Value.string ⟨#[98]⟩, Value.string ⟨#[255]⟩, Value.string ⟨#[99]⟩] 9)))
          have OA := hide (Old.alloc OA.out (.cells #[Value.string ⟨#[]⟩, Value.string ⟨#[97]⟩, Value.string ⟨#[98]⟩, Value.string ⟨#[255]⟩, Value.string ⟨#[99]⟩] 9))
          obtain ⟨⟨xu, hx⟩, hf0, te, Ge⟩ := Fe.out.set 1 i (Value.string se) hlt (by omega) (set_key _)
          have hf := hf0 (fe + i * 5 + 1)
          have Ge := hide Ge
          have Ga := hide (Fa.out.other (j := fe + i * 5 + 1) (u := Value.string se) (g' := ge) (by have := SG.out; omega))
          have Gb := hide (Fb.out.other (j := fe + i * 5 + 1) (u := Value.string se) (g' := ge) (by have := SG.out; omega))
          have Gc := hide (Fc.out.other (j := fe + i * 5 + 1) (u := Value.string se) (g' := ge) (by have := SG.out; omega))
          have Gd := hide (Fd.out.other (j := fe + i * 5 + 1) (u := Value.string se) (g' := ge) (by have := SG.out; omega))
          have Gf := hide (Ff.out.other (j := fe + i * 5 + 1) (u := Value.string se) (g' := ge) (by have := SG.out; omega))
          have OB := hide (OA.out.setCell (p := ⟨ge, fe + i * 5 + 1, none⟩) (by have := SG.out; show w1.heap.size ≤ ge; omega) (Value.string se))
          clear Fa Fb Fc Fd Fe Ff OA hf0
          go_upto_region 14 with fail
          generalize (wx10.alloc (.cells #[Value.string ⟨#[]⟩, Value.string ⟨#[97]⟩, Value.string ⟨#[98]⟩, Value.string ⟨#[255]⟩, Value.string ⟨#[99]⟩] 9)).setCell ⟨ge, fe + i * 5 + 1, none⟩ (Value.string se) = wx11 at Ga Gb Gc Gd Ge Gf OB ⊢
          clear hx hf hs xu
          have OA := hide OB.out
          have Fa := hide Ga.out
          have Fb := hide Gb.out
          have Fc := hide Gc.out
          have Fd := hide Gd.out
          have Fe := hide Ge.out
          have Ff := hide Gf.out
          clear OB Ga Gb Gc Gd Ge Gf
          obtain ⟨sf, hs⟩ : ∃ sf, ([Value.int .i64 (-9223372036854775808), Value.int .i64 9223372036854775807, Value.int .i64 4001, Value.int .i64 (-5)] : List Value)[k % 4]? = some (Value.int .i64 sf) := by
            have h5 : k % 4 < 4 := Nat.mod_lt _ (by omega)
            generalize k % 4 = m at h5
            match m, h5 with
            | 0, _ => exact ⟨_, rfl⟩
            | 1, _ => exact ⟨_, rfl⟩
            | 2, _ => exact ⟨_, rfl⟩
            | 3, _ => exact ⟨_, rfl⟩
          have Fa := hide (Fa.out.old (Old.alloc (Old.refl _) (.cells #[Value.int .i64 (-9223372036854775808), Value.int .i64 9223372036854775807, Value.int .i64 4001, Value.int .i64 (-5)] 3)))
          have Fb := hide (Fb.out.old (Old.alloc (Old.refl _) (.cells #[Value.int .i64 (-9223372036854775808), Value.int .i64 9223372036854775807, Value.int .i64 4001, Value.int .i64 (-5)] 3)))
          have Fc := hide (Fc.out.old (Old.alloc (Old.refl _) (.cells #[Value.int .i64 (-9223372036854775808), Value.int .i64 9223372036854775807, Value.int .i64 4001, Value.int .i64 (-5)] 3)))
          have Fd := hide (Fd.out.old (Old.alloc (Old.refl _) (.cells #[Value.int .i64 (-9223372036854775808), Value.int .i64 9223372036854775807, Value.int .i64 4001, Value.int .i64 (-5)] 3)))
          have Fe := hide (Fe.out.old (Old.alloc (Old.refl _) (.cells #[Value.int .i64 (-9223372036854775808), Value.int .i64 9223372036854775807, Value.int .i64 4001, Value.int .i64 (-5)] 3)))
          have Ff := hide (Ff.out.old (Old.alloc (Old.refl _) (.cells #[Value.int .i64 (-9223372036854775808), Value.int .i64 9223372036854775807, Value.int .i64 4001, Value.int .i64 (-5)] 3)))
          have OA := hide (Old.alloc OA.out (.cells #[Value.int .i64 (-9223372036854775808), Value.int .i64 9223372036854775807, Value.int .i64 4001, Value.int .i64 (-5)] 3))
          obtain ⟨⟨xu, hx⟩, hf0, tf, Gf⟩ := Ff.out.set 4 i (Value.int .i64 sf) hlt (by omega) (set_size _)
          have hf := hf0 (ff + i * 5 + 4)
          have Gf := hide Gf
          have Ga := hide (Fa.out.other (j := ff + i * 5 + 4) (u := Value.int .i64 sf) (g' := gf) (by have := SG.out; omega))
          have Gb := hide (Fb.out.other (j := ff + i * 5 + 4) (u := Value.int .i64 sf) (g' := gf) (by have := SG.out; omega))
          have Gc := hide (Fc.out.other (j := ff + i * 5 + 4) (u := Value.int .i64 sf) (g' := gf) (by have := SG.out; omega))
          have Gd := hide (Fd.out.other (j := ff + i * 5 + 4) (u := Value.int .i64 sf) (g' := gf) (by have := SG.out; omega))
          have Ge := hide (Fe.out.other (j := ff + i * 5 + 4) (u := Value.int .i64 sf) (g' := gf) (by have := SG.out; omega))
          have OB := hide (OA.out.setCell (p := ⟨gf, ff + i * 5 + 4, none⟩) (by have := SG.out; show w1.heap.size ≤ gf; omega) (Value.int .i64 sf))
          clear Fa Fb Fc Fd Fe Ff OA hf0
          go_upto_region 15 with fail
          generalize (wx11.alloc (.cells #[Value.int .i64 (-9223372036854775808), Value.int .i64 9223372036854775807, Value.int .i64 4001, Value.int .i64 (-5)] 3)).setCell ⟨gf, ff + i * 5 + 4, none⟩ (Value.int .i64 sf) = wx12 at Ga Gb Gc Gd Ge Gf OB ⊢
          clear hx hf hs xu
          have OA := hide OB.out
          have Fa := hide Ga.out
          have Fb := hide Gb.out
          have Fc := hide Gc.out
          have Fd := hide Gd.out
          have Fe := hide Ge.out
          have Ff := hide Gf.out
          clear OB Ga Gb Gc Gd Ge Gf
          have HTZ := hide (HT.out.old (Old.trans O1.out OA.out))
          have NO := hide (N1.out.old OA.out)
          have Na := hide Fa.out.is
          have Nb := hide Fb.out.is
          have Nc := hide Fc.out.is
          have Nd := hide Fd.out.is
          have Ne := hide Fe.out.is
          have Nf := hide Ff.out.is
          clear SG Fa Fb Fc Fd Fe Ff
          go_wp2_with fail
          refine (tapeTells_run _ _ _ exT ⟨#[97]⟩ _ Na.out NO.out HTZ.out WK).mono ?_
          rintro e z1 ⟨rfl, p1⟩
          have OO1 := hide p1
          clear p1
          go_wp2_with fail
          refine (tapeTells_run _ _ _ exT ⟨#[98]⟩ _ (Nb.out.old OO1.out) (NO.out.old OO1.out) (HTZ.out.old OO1.out) WK).mono ?_
          rintro e z2 ⟨rfl, p1⟩
          have OO2 := hide (Old.trans OO1.out p1)
          clear p1
          go_wp2_with fail
          refine (tapeTells_run _ _ _ exT ⟨#[97]⟩ _ (Nc.out.old OO2.out) (NO.out.old OO2.out) (HTZ.out.old OO2.out) WK).mono ?_
          rintro e z3 ⟨rfl, p1⟩
          have OO3 := hide (Old.trans OO2.out p1)
          clear p1
          go_wp2_with fail
          refine (tapeTells_run _ _ _ exT ⟨#[97]⟩ _ (Nd.out.old OO3.out) (NO.out.old OO3.out) (HTZ.out.old OO3.out) WK).mono ?_
          rintro e z4 ⟨rfl, p1⟩
          have OO4 := hide (Old.trans OO3.out p1)
          clear p1
          go_wp2_with fail
          refine (tapeTells_run _ _ _ exT ⟨#[99]⟩ _ (Ne.out.old OO4.out) (NO.out.old OO4.out) (HTZ.out.old OO4.out) WK).mono ?_
          rintro e z5 ⟨rfl, p1⟩
          have OO5 := hide (Old.trans OO4.out p1)
          clear p1
          go_wp2_with fail
          refine (tapeTells_run _ _ _ exT ⟨#[97]⟩ _ (Nf.out.old OO5.out) (NO.out.old OO5.out) (HTZ.out.old OO5.out) WK).mono ?_
          rintro e z6 ⟨rfl, p1⟩
          have OO6 := hide (Old.trans OO5.out p1)
          clear p1
          go_wp2_with fail
          refine (tapeAgain_run _ _ _ (Na.out.old OO6.out) (HTZ.out.old OO6.out) WK).mono ?_
          rintro e z7 ⟨rfl, p1⟩
          have OO7 := hide (Old.trans OO6.out p1)
          clear p1
          go_wp2_with fail
          refine (tapeAgain_run _ _ _ (Nb.out.old OO7.out) (HTZ.out.old OO7.out) WK).mono ?_
          rintro e z8 ⟨rfl, p1⟩
          have OO8 := hide (Old.trans OO7.out p1)
          clear p1
          have OE := hide (Old.trans OA.out OO8.out)
          go_wp2_with fail
          go_roundw
          case rel => exact ⟨k + 1, by first | go_num | (congr 1; omega) | (congr 2; omega), by omega, OE⟩
          case measure => simp [intOf]; omega
        · go_wp2_with fail
          go_roundw
          case rel => exact ⟨i + 1, by go_num, by omega, HZ⟩
          case measure => simp [intOf]; omega
    · have hge' : ¬ (i : Int) < 5 := by omega
      have OW := hide (Old.trans O1.out HO.out)
      have HTW := hide (HT.out.old OW.out)
      clear HT N1 O1 HO
      obtain ⟨wv, hwv⟩ : ∃ y, y = wr := ⟨_, rfl⟩
      subst hwv
      go_wp2_with fail
      refine (null_run _).mono ?_
      rintro e w2 ⟨v2, rfl, n2, o2⟩
      obtain ⟨An, cn, rfl, qn, rn⟩ := nodes_form (m := 1) n2 rfl
      unfold maxLen at rn
      have NN := hide n2
      have O2 := hide o2
      clear n2 o2
      go_wp2_with fail
      go_loopw [11, 12] (fun pv iv wz => ∃ k : Nat, iv = .int .i64 k ∧ k ≤ 3999 ∧ Hid (PartsOwn wv.heap.size wz pv (nulls k)) ∧ Hid (NodesT wv.heap.size wz (.slice An 1 cn) nuT) ∧ Hid (Old wv wz)) (fun _ iv _ => 3999 - (intOf iv).toNat)
      case atStart => exact ⟨0, rfl, by omega, hide (PartsOwn.nil_ _ _), NN, O2⟩
      case round =>
        obtain ⟨k, rfl, hk, HP, HN, HZ⟩ := hrel
        have hl1 : (nulls k).length + 1 ≤ 4194304 := by rw [nulls_len]; omega
        by_cases hlt3 : k < 3999
        · have hlt3' : (k : Int) < 3999 := by omega
          have N6 := hide (SlT.old HN.out (Old.alloc (Old.refl _) (.cells #[.slice An 1 cn] 25)))
          have HP6 := hide (HP.out.old (Old.alloc (Old.refl _) (.cells #[.slice An 1 cn] 25)))
          have OZ := hide (Old.alloc HZ.out (.cells #[.slice An 1 cn] 25))
          go_wp2_with (at_builtin; refine wpList_plain rfl (fun K hK => ?_); refine step_push_part _ _ _ rfl wv.heap.size _ (nulls k) rfl HP6.out _ _ (.slice An 1 cn) nuT rfl (by go_simp) N6.out hl1 OZ.out.size ?_; intro v7 w7 own7 kept7; refine hK _ _ ?_; clear hK)
          have O7 := hide (kept7.old OZ.out (Nat.le_refl _))
          have P7 := hide own7
          have N7 := hide (Kept.slT kept7 N6.out (by decide))
          clear own7 kept7
          go_roundw
          case rel => exact ⟨k + 1, by go_num, by omega, hide (by rw [← nulls_snoc]; exact P7.out), N7, O7⟩
          case measure => simp [intOf]; omega
        · have hge3' : ¬ (k : Int) < 3999 := by omega
          have hk3 : k = 3999 := by omega
          obtain ⟨M, hM⟩ : ∃ M, Hid (nulls k = M) := ⟨_, hide rfl⟩
          have LM := hide (show ListT M manyT 0 by rw [← hM.out, hk3]; exact many_ok)
          have TM := hide (show ∀ p ∈ M, TextsOk p by rw [← hM.out]; exact nulls_tx _)
          obtain ⟨M', hM'⟩ : ∃ M', Hid (M ++ [nuT] = M') := ⟨_, hide rfl⟩
          have LM' := hide (show ListT M' [] 5 by rw [← hM'.out, ← hM.out, nulls_snoc, hk3]; exact many_out)
          have TM' := hide (show ∀ p ∈ M', TextsOk p by rw [← hM'.out, ← hM.out, nulls_snoc]; exact nulls_tx _)
          rw [hM.out] at HP hl1
          clear hk3
          go_wp2_with fail
          refine (list_run _ M manyT 0 _ HP.out.is TM.out (HTW.out.old HZ.out) LM.out).mono ?_
          rintro e w3 ⟨v3, rfl, n3, o3⟩
          obtain ⟨A3, c3, rfl, q3, r3⟩ := nodes_form n3 manyT_len
          unfold maxLen at r3
          have N6 := hide (SlT.old HN.out (Old.alloc o3 (.cells #[.slice An 1 cn] 25)))
          have HP6 := hide (HP.out.old (Old.alloc o3 (.cells #[.slice An 1 cn] 25)))
          have OZ := hide (Old.trans HZ.out (Old.alloc o3 (.cells #[.slice An 1 cn] 25)))
          clear n3 o3 NN
          go_wp2_with (at_builtin; refine wpList_plain rfl (fun K hK => ?_); refine step_push_part _ _ _ rfl wv.heap.size _ M rfl HP6.out _ _ (.slice An 1 cn) nuT rfl (by go_simp) N6.out hl1 OZ.out.size ?_; intro v7 w7 own7 kept7; refine hK _ _ ?_; clear hK)
          have O7 := hide (kept7.old OZ.out (Nat.le_refl _))
          have P7 := hide own7
          have N7 := hide (Kept.slT kept7 N6.out (by decide))
          clear own7 kept7 hl1
          rw [hM'.out] at P7
          go_wp2_with fail
          refine (list_run _ M' [] 5 _ P7.out.is TM'.out (HTW.out.old O7.out) LM'.out).mono ?_
          rintro e w8 ⟨v8, rfl, n8, o8⟩
          obtain ⟨A8, c8, rfl, q8, r8⟩ := nodes_form (m := 0) n8 rfl
          unfold maxLen at r8
          have O8 := hide (Old.trans O7.out o8)
          have NU8 := hide (SlT.old N7.out o8)
          clear n8 o8 N6 HP6 OZ HN HP HZ P7 N7 LM TM LM' TM'
          obtain ⟨i0, hi0, hz0, hz1, hz2⟩ := info_parts nodeInfo
          obtain ⟨w9, hmk, own9, grown9⟩ := run_make_full (P := Tryd.prog) w8 w8.heap.size 25 57 i0 _ 5 Tryd.underlying25 hi0 hz0 hz1 .i64 .i64 4001 (by rw [hz2]; decide) (by unfold maxLen; omega) (Nat.le_refl _)
          have hmk' : (Instr.makeSlice 25 (.int .i64 4001) (.int .i64 4001)).run Tryd.prog w8 = .ok (.slice (some ⟨w8.heap.size, 0, none⟩) 4001 4001) w9 := hmk
          have O9' : Old w8 w9 := (Below.refl w8.heap.size w8).grown grown9 (Nat.le_refl _) fun k hk => by cases hk
          have O9 := hide (Old.trans O8.out O9')
          have NU9 := hide (SlT.old NU8.out O9')
          have NL9 := hide (show NodesT w8.heap.size w9 (.slice (some ⟨w8.heap.size, 0, none⟩) 4001 4001) longT by
            have h := SlT.of_own own9
            have e := made_nodes 4001
            unfold NodesT
            rw [longT_len, show ndVals longT = _ from e.symm]
            exact h)
          obtain ⟨gl, hgl⟩ : ∃ g, g = w8.heap.size := ⟨_, rfl⟩
          rw [← hgl] at NL9 hmk'
          clear hmk own9 grown9 O9' hgl O8 NU8 hi0 hz0 hz1 hz2
          go_wp2_with fail
          refine (null_run _).mono ?_
          rintro e w10 ⟨v10, rfl, n10, o10⟩
          obtain ⟨A10, c10, rfl, q10, r10⟩ := nodes_form (m := 1) n10 rfl
          unfold maxLen at r10
          have O10 := hide (Old.trans O9.out o10)
          have NU10 := hide (SlT.sl (SlT.old NU9.out o10))
          have NL10 := hide (SlT.sl (SlT.old NL9.out o10))
          have ND10 := hide (SlT.sl n10)
          have HT10 := hide (HTW.out.old O10.out)
          clear hmk' NU9 NL9 O9 n10 o10
          go_wp2_with fail
          go_loopw [18, 19] (fun dv iv wz => ∃ (A : Option Addr) (c n k : Nat) (t : List Nd) (j : J), dv = .slice A n c ∧ iv = .int .i64 k ∧ k ≤ 63 ∧ n ≤ k + 1 ∧ k + 1 ≤ n ∧ n ≤ c ∧ c ≤ 2 ^ 63 - 1 ∧ Hid (t.length = n) ∧ Hid (j.deep = n) ∧ Hid (NodesIs wz (.slice A n c) t) ∧ Hid (May t j) ∧ Hid (TextsOk t) ∧ Hid (Old w10 wz)) (fun _ iv _ => 63 - (intOf iv).toNat)
          case atStart => exact ⟨A10, c10, 1, 0, nuT, nuJ, rfl, rfl, by omega, by omega, by omega, q10, r10, hide rfl, hide nuJ_deep, ND10, hide nuMay, hide nuTx, hide (Old.refl _)⟩
          case round =>
            obtain ⟨A, c, n, k, t, j, rfl, rfl, hk, hn1, hn2, hnc, hcm, hl, hd, HN, HM, HX, HZ⟩ := hrel
            have HTZ := hide (HT10.out.old HZ.out)
            by_cases hltd : k < 63
            · have hltd' : (k : Int) < 63 := by omega
              have hd6 : j.deep < 64 := by rw [hd.out]; omega
              have hl4 : t.length < 4000 := by rw [hl.out]; omega
              have LT := hide (list_in_ HM.out hd6 hl4)
              have hu := listIn_may HM.out hd6 hl4
              have UX := hide (listIn_texts HM.out HX.out)
              obtain ⟨N, hN⟩ : ∃ N, Hid (n + 1 = N) := ⟨_, hide rfl⟩
              have UL := hide (show (listIn j).flat.length = N by rw [listIn_len HM.out, hl.out, hN.out])
              have UD := hide (show (listIn j).deep = N by rw [listIn_deep, hd.out, hN.out])
              have HX1 := hide (show ∀ p ∈ [t], TextsOk p by simpa using HX.out)
              obtain ⟨U, hU⟩ : ∃ U, Hid ((listIn j).flat = U) := ⟨_, hide rfl⟩
              rw [hU.out] at hu LT UX UL
              have UM := hide hu
              clear hd6 hl4 hu
              go_wp2_with fail
              refine (list_run _ [t] U 0 _ (parts_lit _ [((.slice A n c), t)] _ rfl (one_parts HN.out)) HX1.out (HTZ.out.old (Old.alloc (Old.refl _) _)) LT.out).mono ?_
              rintro e w11 ⟨v11, rfl, n11, o11⟩
              obtain ⟨A11, c11, rfl, q11, r11⟩ := nodes_form n11 UL.out
              unfold maxLen at r11
              have O11 := hide (Old.trans HZ.out (Old.trans (Old.alloc (Old.refl _) _) o11))
              have N11 := hide (SlT.sl n11)
              clear n11 o11
              go_wp2_with fail
              go_roundw
              case rel => exact ⟨A11, c11, N, k + 1, U, listIn j, rfl, by go_num, by omega, by have := hN.out; omega, by have := hN.out; omega, q11, r11, UL, UD, N11, UM, UX, O11⟩
              case measure => simp [intOf]; omega
            · have hged' : ¬ (k : Int) < 63 := by omega
              have hd6 := hide (show j.deep = 64 by rw [hd.out]; omega)
              have hl4 := hide (show t.length < 3999 by rw [hl.out]; omega)
              have NU11 := hide (NU10.out.old HZ.out)
              have NL11 := hide (NL10.out.old HZ.out)
              have O11 := hide (Old.trans O10.out HZ.out)
              clear hn1 hn2
              go_wp2_with fail
              refine (list_run _ [nuT, t] [] 72 _ (parts_lit _ [((.slice An 1 cn), nuT), ((.slice A n c), t)] _ rfl (two_parts NU11.out HN.out)) (two_tx nuTx HX.out) (HTZ.out.old (Old.alloc (Old.refl _) _)) (two_out HM.out hd6.out hl4.out)).mono ?_
              rintro e w12 ⟨v12, rfl, n12, o12⟩
              obtain ⟨A12, c12, rfl, q12, r12⟩ := nodes_form (m := 0) n12 rfl
              unfold maxLen at r12
              have P12 := hide (Old.trans (Old.alloc (Old.refl _) _) o12)
              clear n12 o12
              go_wp2_with fail
              refine (num_as (check_run _ longT _ (NL11.out.old P12.out) long_tx (HTZ.out.old P12.out)) long_chk).mono ?_
              rintro e w13 ⟨rfl, o13⟩
              have P13 := hide (Old.trans P12.out o13)
              clear o13
              go_wp2_with fail
              refine (deep_may (d := 64) (HN.out.old P13.out) HM.out HX.out (HTZ.out.old P13.out) (by rw [hd6.out]; rfl)).mono ?_
              rintro e w14 ⟨rfl, o14⟩
              have P14 := hide (Old.trans P13.out o14)
              have O14 := hide (Old.trans O11.out P14.out)
              have NU14 := hide (NU11.out.old P14.out)
              have NL14 := hide (NL11.out.old P14.out)
              have HT14 := hide (HTW.out.old O14.out)
              clear o14 P12 P13 P14 O11 NU11 NL11 HN HM HX HTZ hd hl hd6 hl4
              go_wp2_with fail
              go_loopw [22, 23] (fun lv iv wz => ∃ k : Nat, iv = .int .i64 k ∧ k ≤ 64 ∧ Hid (NodesOwn w14.heap.size wz lv (lowT k)) ∧ Hid (Old w14 wz)) (fun _ iv _ => 64 - (intOf iv).toNat)
              case atStart => exact ⟨0, rfl, by omega, hide (own_low _), hide (Old.alloc (Old.refl _) _)⟩
              case round =>
                obtain ⟨k, rfl, hk, HL, HZ⟩ := hrel
                by_cases hltl : k < 64
                · have hltl' : (k : Int) < 64 := by omega
                  have hlk : (lowT k).length + [lnd (64 - (k : Int))].length ≤ 4194304 := by rw [lowT_len]; simp; omega
                  have N6 := hide (SlT.sl (one_node wr (lnd (64 - (k : Int))) wr.heap.size rfl 0 (Nat.zero_le _)))
                  have L6 := hide (own_old HL.out (Old.alloc (Old.refl _) (.cells #[.int .i64 6, .string ⟨#[]⟩, .int .i64 0, .string ⟨#[]⟩, .int .i64 (64 - (k : Int))] 57)))
                  have OZ := hide (Old.alloc HZ.out (.cells #[.int .i64 6, .string ⟨#[]⟩, .int .i64 0, .string ⟨#[]⟩, .int .i64 (64 - (k : Int))] 57))
                  go_wp2_with (at_builtin; refine wpList_plain rfl (fun K hK => ?_); refine step_push_nodes _ _ _ rfl w14.heap.size _ (lowT k) rfl L6.out _ [lnd (64 - (k : Int))] rfl N6.out hlk OZ.out.size ?_; intro v7 w7 own7 kept7; refine hK _ _ ?_; clear hK)
                  have O7 := hide (kept7.old OZ.out (Nat.le_refl _))
                  have P7 := hide own7
                  clear own7 kept7
                  go_roundw
                  case rel => exact ⟨k + 1, by go_num, by omega, hide (by rw [lowT_snoc]; exact P7.out), O7⟩
                  case measure => simp [intOf]; omega
                · have hgel' : ¬ (k : Int) < 64 := by omega
                  have hk64 : k = 64 := by omega
                  have LK := hide (show chkT (lowT k) = 72 by rw [hk64]; exact low_chk)
                  have TK := hide (lowT_tx k)
                  have NK := hide (SlT.sl (SlT.of_own HL.out))
                  have HTZ := hide (HT14.out.old HZ.out)
                  have NUZ := hide (NU14.out.old HZ.out)
                  have NLZ := hide (NL14.out.old HZ.out)
                  have OZ := hide (Old.trans OW.out (Old.trans O14.out HZ.out))
                  clear hk64 HL
                  go_wp2_with fail
                  refine (WK _ HTZ.out).mono ?_
                  rintro e x1 ⟨rfl, o1⟩
                  have P1 := hide o1
                  clear o1
                  go_wp2_with fail
                  refine (num_as (check_run _ (lowT k) _ (NK.out.old P1.out) TK.out (HTZ.out.old P1.out)) LK.out).mono ?_
                  rintro e x2 ⟨rfl, o2⟩
                  have P2 := hide (Old.trans P1.out o2)
                  clear o2
                  go_wp2_with fail
                  refine (tapeMakes_run _ _ [] [] _ _ (Sl.nil_ _) (PartsIs.nil_ _) (HTZ.out.old P2.out) WK).mono ?_
                  rintro e x3 ⟨rfl, o3⟩
                  have P3 := hide (Old.trans P2.out o3)
                  clear o3
                  go_wp2_with fail
                  refine (tapeMakes_run _ _ [⟨#[]⟩, ⟨#[255]⟩] [nuT, longT] _ _ (Sl.old (texts_lit _ [⟨#[]⟩, ⟨#[255]⟩] _ rfl) (Old.alloc (Old.refl _) _)) (parts_lit _ [((.slice An 1 cn), nuT), ((.slice (some ⟨gl, 0, none⟩) 4001 4001), longT)] _ (heap_next _ _) (two_parts (NUZ.out.old (Old.alloc P3.out _)) (NLZ.out.old (Old.alloc P3.out _)))) (HTZ.out.old (Old.alloc (Old.alloc P3.out _) _)) WK).mono ?_
                  rintro e x4 ⟨rfl, o4⟩
                  have P4 := hide (Old.trans (Old.alloc (Old.alloc P3.out _) _) o4)
                  clear o4
                  go_wp2_with fail
                  refine (tapeMakes_run _ _ [⟨#[97]⟩, ⟨#[255]⟩] [[], nuT] _ _ (Sl.old (texts_lit _ [⟨#[97]⟩, ⟨#[255]⟩] _ rfl) (Old.alloc (Old.refl _) _)) (parts_lit _ [((.slice none 0 0), []), ((.slice An 1 cn), nuT)] _ (heap_next _ _) (two_parts (Sl.nil_ _) (NUZ.out.old (Old.alloc P4.out _)))) (HTZ.out.old (Old.alloc (Old.alloc P4.out _) _)) WK).mono ?_
                  rintro e x5 ⟨rfl, o5⟩
                  have P5 := hide (Old.trans (Old.alloc (Old.alloc P4.out _) _) o5)
                  clear o5
                  go_wp2_with fail
                  refine (example_run _).mono ?_
                  rintro e x6 ⟨v6, rfl, n6, o6⟩
                  obtain ⟨A6, c6, rfl, q6, r6⟩ := nodes_form (m := 5) n6 rfl
                  unfold maxLen at r6
                  have NE := hide (SlT.sl n6)
                  have P6 := hide (Old.trans (Old.alloc P5.out _) o6)
                  have TX6 := hide (Sl.old (texts_lit _ [⟨#[97]⟩] _ rfl) o6)
                  clear n6 o6
                  go_wp2_with fail
                  refine (tapeMakes_run _ _ [⟨#[97]⟩] [exT] _ _ (TX6.out.old (Old.alloc (Old.refl _) _)) (parts_lit _ [((.slice A6 5 c6), exT)] _ rfl (one_parts NE.out)) (HTZ.out.old (Old.alloc P6.out _)) WK).mono ?_
                  rintro e x7 ⟨rfl, o7⟩
                  have P7 := hide (Old.trans OZ.out (Old.trans (Old.alloc P6.out _) o7))
                  clear o7
                  go_wp2_with fail
                  go_ret
                  exact ⟨rfl, P7.out⟩
end Go.Proofs.YtkefhhnbkhijgaaDoor
