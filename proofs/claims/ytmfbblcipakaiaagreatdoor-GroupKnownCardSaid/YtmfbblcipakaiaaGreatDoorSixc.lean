/- The document's products of six digits, and sums of products. -/
import Derived.Test.YtmfbblcipakaiaaGreatDoorSixb
import Derived.Deep.DeepCutAuto
import Derived.Deep.CutBlock
namespace Go.Proofs.YtmfbblcipakaiaaGreatDoor
open Go.RowKit

theorem six_at0 (p : Int) (h0 : 0 ≤ p) (h1 : p < 18446744073709551616) : six p = .agg #[.int .u64 (p % 4294967296), .int .u64 (p / 4294967296), .int .u64 0, .int .u64 0, .int .u64 0, .int .u64 0] := by
  have e0 : dg p 0 = p % 4294967296 := rfl
  have e1 : dg p 1 = p / 4294967296 := by unfold dg lo32; simp only [hn]; unfold hi32; omega
  have e2 : dg p 2 = 0 := by unfold dg lo32; simp only [hn]; unfold hi32; omega
  have e3 : dg p 3 = 0 := by unfold dg lo32; simp only [hn]; unfold hi32; omega
  have e4 : dg p 4 = 0 := by unfold dg lo32; simp only [hn]; unfold hi32; omega
  have e5 : dg p 5 = 0 := by unfold dg lo32; simp only [hn]; unfold hi32; omega
  rw [six, e0, e1, e2, e3, e4, e5]
theorem six_at1 (p : Int) (h0 : 0 ≤ p) (h1 : p < 18446744073709551616) : six (p * 4294967296) = .agg #[.int .u64 0, .int .u64 (p % 4294967296), .int .u64 (p / 4294967296), .int .u64 0, .int .u64 0, .int .u64 0] := by
  have e0 : dg (p * 4294967296) 0 = 0 := by unfold dg lo32; simp only [hn]; omega
  have e1 : dg (p * 4294967296) 1 = p % 4294967296 := by unfold dg lo32; simp only [hn]; unfold hi32; omega
  have e2 : dg (p * 4294967296) 2 = p / 4294967296 := by unfold dg lo32; simp only [hn]; unfold hi32; omega
  have e3 : dg (p * 4294967296) 3 = 0 := by unfold dg lo32; simp only [hn]; unfold hi32; omega
  have e4 : dg (p * 4294967296) 4 = 0 := by unfold dg lo32; simp only [hn]; unfold hi32; omega
  have e5 : dg (p * 4294967296) 5 = 0 := by unfold dg lo32; simp only [hn]; unfold hi32; omega
  rw [six, e0, e1, e2, e3, e4, e5]
theorem six_at2 (p : Int) (h0 : 0 ≤ p) (h1 : p < 18446744073709551616) : six (p * 18446744073709551616) = .agg #[.int .u64 0, .int .u64 0, .int .u64 (p % 4294967296), .int .u64 (p / 4294967296), .int .u64 0, .int .u64 0] := by
  have e0 : dg (p * 18446744073709551616) 0 = 0 := by unfold dg lo32; simp only [hn]; omega
  have e1 : dg (p * 18446744073709551616) 1 = 0 := by unfold dg lo32; simp only [hn]; unfold hi32; omega
  have e2 : dg (p * 18446744073709551616) 2 = p % 4294967296 := by unfold dg lo32; simp only [hn]; unfold hi32; omega
  have e3 : dg (p * 18446744073709551616) 3 = p / 4294967296 := by unfold dg lo32; simp only [hn]; unfold hi32; omega
  have e4 : dg (p * 18446744073709551616) 4 = 0 := by unfold dg lo32; simp only [hn]; unfold hi32; omega
  have e5 : dg (p * 18446744073709551616) 5 = 0 := by unfold dg lo32; simp only [hn]; unfold hi32; omega
  rw [six, e0, e1, e2, e3, e4, e5]
theorem first_zero : (#[.int .u64 0, .int .u64 0, .int .u64 0, .int .u64 0, .int .u64 0, .int .u64 0] : Array Value) = firstD 0 6 := by
  rw [first_all, show dg 0 0 = 0 by decide, show dg 0 1 = 0 by decide, show dg 0 2 = 0 by decide, show dg 0 3 = 0 by decide, show dg 0 4 = 0 by decide, show dg 0 5 = 0 by decide]
theorem set_six {w : World} {p : Nat} {s : Int} {n : Nat} {T : TypeId} {f : Nat × Nat} (h : w.heap[p]? = some (.cells (firstD s n) T f)) (t : Int) :
    ((((((w.setCell ⟨p, 0, none⟩ (.int .u64 (dg t 0))).setCell ⟨p, 1, none⟩ (.int .u64 (dg t 1))).setCell ⟨p, 2, none⟩ (.int .u64 (dg t 2))).setCell ⟨p, 3, none⟩ (.int .u64 (dg t 3))).setCell ⟨p, 4, none⟩ (.int .u64 (dg t 4))).setCell ⟨p, 5, none⟩ (.int .u64 (dg t 5))).heap[p]? = some (.cells (firstD t 6) T f) := by
  have := set_here (i := 5) (u := .int .u64 (dg t 5)) (set_here (i := 4) (u := .int .u64 (dg t 4)) (set_here (i := 3) (u := .int .u64 (dg t 3)) (set_here (i := 2) (u := .int .u64 (dg t 2)) (set_here (i := 1) (u := .int .u64 (dg t 1)) (set_here (i := 0) (u := .int .u64 (dg t 0)) h)))))
  rw [this, first_all]
  simp [firstD, List.range, List.range.loop]
theorem set_six_other {w : World} {p b : Nat} {o : Obj} (h : w.heap[b]? = some o) (hne : p ≠ b) (u0 u1 u2 u3 u4 u5 : Value) :
    ((((((w.setCell ⟨p, 0, none⟩ u0).setCell ⟨p, 1, none⟩ u1).setCell ⟨p, 2, none⟩ u2).setCell ⟨p, 3, none⟩ u3).setCell ⟨p, 4, none⟩ u4).setCell ⟨p, 5, none⟩ u5).heap[b]? = some o :=
  set_other (set_other (set_other (set_other (set_other (set_other h hne) hne) hne) hne) hne) hne

/-- the state of Mul: the result's box, the factors, the sum -/
structure MulSt (w : World) (r q5 q6 q7 : Nat) (A B S : Int) (wr : World) : Prop where
  old : Old w wr
  r : wr.heap[r]? = some (.cells (firstD 0 0) 148 (0, 0))
  x : wr.heap[q5]? = some (.cells (firstD A 6) 148 (0, 0))
  y : wr.heap[q6]? = some (.cells (firstD B 6) 148 (0, 0))
  o : wr.heap[q7]? = some (.cells (firstD S 6) 148 (0, 0))
  l5 : w.heap.size < q5
  l6 : w.heap.size < q6
  n5 : q5 < q7
  n6 : q6 < q7
  l7 : w.heap.size < q7
theorem MulSt.late {w : World} {q5 q6 q7 : Nat} {A B S : Int} {wr w' : World} (h : MulSt w w.heap.size q5 q6 q7 A B S wr) (ho : Old wr w') : MulSt w w.heap.size q5 q6 q7 A B S w' :=
  ⟨Old.trans h.1 ho, ho.heap h.r, ho.heap h.x, ho.heap h.y, ho.heap h.o, h.l5, h.l6, h.n5, h.n6, h.l7⟩
theorem MulSt.step {w : World} {q5 q6 q7 : Nat} {A B S : Int} {wr : World} (h : MulSt w w.heap.size q5 q6 q7 A B S wr) (t : Int) : MulSt w w.heap.size q5 q6 q7 A B t
    ((((((wr.setCell ⟨q7, 0, none⟩ (.int .u64 (dg t 0))).setCell ⟨q7, 1, none⟩ (.int .u64 (dg t 1))).setCell ⟨q7, 2, none⟩ (.int .u64 (dg t 2))).setCell ⟨q7, 3, none⟩ (.int .u64 (dg t 3))).setCell ⟨q7, 4, none⟩ (.int .u64 (dg t 4))).setCell ⟨q7, 5, none⟩ (.int .u64 (dg t 5))) where
  old := old_six h.1 (by have := h.l7; omega) _ _ _ _ _ _
  r := set_six_other h.r (by have := h.l7; omega) _ _ _ _ _ _
  x := set_six_other h.x (by have := h.n5; omega) _ _ _ _ _ _
  y := set_six_other h.y (by have := h.n6; omega) _ _ _ _ _ _
  o := set_six h.o t
  l5 := h.l5
  l6 := h.l6
  n5 := h.n5
  n6 := h.n6
  l7 := h.l7
theorem mul_sum (x0 x1 y0 y1 : Int) : (x0 + 4294967296 * x1) * (y0 + 4294967296 * y1) = 0 + x0 * y0 + x0 * y1 * 4294967296 + x1 * y0 * 4294967296 + x1 * y1 * 18446744073709551616 := by
  rw [Int.add_mul, Int.mul_add, Int.mul_add, Int.mul_assoc 4294967296 x1 y0, Int.mul_assoc 4294967296 x1, Int.mul_left_comm x0, Int.mul_left_comm x1]
  omega
theorem two_digits (A : Int) (h0 : 0 ≤ A) (h1 : A < 18446744073709551616) : A = dg A 0 + 4294967296 * dg A 1 := by
  unfold dg lo32
  simp only [hn]
  unfold hi32
  omega
theorem prod_bd {x y : Int} (hx : 0 ≤ x ∧ x < 4294967296) (hy : 0 ≤ y ∧ y < 4294967296) : 0 ≤ x * y ∧ x * y < 18446744073709551616 := by
  refine ⟨Int.mul_nonneg hx.1 hy.1, ?_⟩
  have := Int.mul_le_mul (show x ≤ 4294967295 by omega) (show y ≤ 4294967295 by omega) hy.1 (by omega)
  omega

set_option maxRecDepth 100000 in
set_option maxHeartbeats 4000000 in
theorem six_Mul (a b : Int) (w : World) (ha : fit a) (hb : fit b) : Calls Tryz.prog 88 #[.int .i64 a, .int .i64 b] w fun e w' => e = .returned (six (a * b)) ∧ Old w w' := by
  have O1 := hide (show ∀ w, Calls Tryz.prog 100 #[.int .i64 a] w fun e w' => e = .returned (six a) ∧ Old w w' from fun w => six_Of _ w ha)
  have O2 := hide (show ∀ w, Calls Tryz.prog 100 #[.int .i64 b] w fun e w' => e = .returned (six b) ∧ Old w w' from fun w => six_Of _ w hb)
  have N1 := hide (fun w => six_Neg a w)
  have N2 := hide (fun w => six_Neg b w)
  obtain ⟨A, hA⟩ : ∃ A : Int, Hid (A = if a < 0 then -a else a) := ⟨_, rfl⟩
  obtain ⟨B, hB⟩ : ∃ B : Int, Hid (B = if b < 0 then -b else b) := ⟨_, rfl⟩
  have bA : 0 ≤ A ∧ A < 18446744073709551616 := by rw [hA.out]; unfold fit at ha; split <;> omega
  have bB : 0 ≤ B ∧ B < 18446744073709551616 := by rw [hB.out]; unfold fit at hb; split <;> omega
  obtain ⟨x0, X0⟩ : ∃ x : Int, Hid (x = dg A 0) := ⟨_, rfl⟩
  obtain ⟨x1, X1⟩ : ∃ x : Int, Hid (x = dg A 1) := ⟨_, rfl⟩
  obtain ⟨y0, Y0⟩ : ∃ x : Int, Hid (x = dg B 0) := ⟨_, rfl⟩
  obtain ⟨y1, Y1⟩ : ∃ x : Int, Hid (x = dg B 1) := ⟨_, rfl⟩
  have c0 : 0 ≤ x0 ∧ x0 < 4294967296 := by rw [X0.out]; exact dg_bd _ _
  have c1 : 0 ≤ x1 ∧ x1 < 4294967296 := by rw [X1.out]; exact dg_bd _ _
  have c2 : 0 ≤ y0 ∧ y0 < 4294967296 := by rw [Y0.out]; exact dg_bd _ _
  have c3 : 0 ≤ y1 ∧ y1 < 4294967296 := by rw [Y1.out]; exact dg_bd _ _
  obtain ⟨P00, hP00⟩ : ∃ p : Int, Hid (x0 * y0 = p) := ⟨x0 * y0, hide rfl⟩
  obtain ⟨P01, hP01⟩ : ∃ p : Int, Hid (x0 * y1 = p) := ⟨x0 * y1, hide rfl⟩
  obtain ⟨P10, hP10⟩ : ∃ p : Int, Hid (x1 * y0 = p) := ⟨x1 * y0, hide rfl⟩
  obtain ⟨P11, hP11⟩ : ∃ p : Int, Hid (x1 * y1 = p) := ⟨x1 * y1, hide rfl⟩
  have p00 := prod_bd c0 c2
  have p01 := prod_bd c0 c3
  have p10 := prod_bd c1 c2
  have p11 := prod_bd c1 c3
  rw [hP00.out] at p00
  rw [hP01.out] at p01
  rw [hP10.out] at p10
  rw [hP11.out] at p11
  have hw : ∀ z : Int, 0 ≤ z ∧ z < 18446744073709551616 → IntKind.u64.wrap z = z := fun z h => by
    have : IntKind.u64.wrap z = z % 18446744073709551616 := by simp [IntKind.wrap, IntKind.bits, IntKind.signed]
    omega
  have w00 : IntKind.u64.wrap (x0 * y0) = P00 := by rw [hP00.out]; exact hw _ p00
  have w01 : IntKind.u64.wrap (x0 * y1) = P01 := by rw [hP01.out]; exact hw _ p01
  have w10 : IntKind.u64.wrap (x1 * y0) = P10 := by rw [hP10.out]; exact hw _ p10
  have w11 : IntKind.u64.wrap (x1 * y1) = P11 := by rw [hP11.out]; exact hw _ p11
  obtain ⟨S1, S1e⟩ : ∃ s : Int, Hid (s = 0 + P00) := ⟨_, rfl⟩
  obtain ⟨S2, S2e⟩ : ∃ s : Int, Hid (s = S1 + P01 * 4294967296) := ⟨_, rfl⟩
  obtain ⟨S3, S3e⟩ : ∃ s : Int, Hid (s = S2 + P10 * 4294967296) := ⟨_, rfl⟩
  obtain ⟨S4, S4e⟩ : ∃ s : Int, Hid (s = S3 + P11 * 18446744073709551616) := ⟨_, rfl⟩
  have CA00 := hide (show ∀ w, Calls Tryz.prog 87 #[six 0, .agg #[.int .u64 (P00 % 4294967296), .int .u64 (P00 / 4294967296), .int .u64 0, .int .u64 0, .int .u64 0, .int .u64 0]] w fun e w' => e = .returned (six S1) ∧ Old w w' from fun w => by
    rw [← six_at0 P00 p00.1 p00.2, S1e.out]; exact six_Add _ _ _)
  have CA01 := hide (show ∀ w, Calls Tryz.prog 87 #[six S1, .agg #[.int .u64 0, .int .u64 (P01 % 4294967296), .int .u64 (P01 / 4294967296), .int .u64 0, .int .u64 0, .int .u64 0]] w fun e w' => e = .returned (six S2) ∧ Old w w' from fun w => by
    rw [← six_at1 P01 p01.1 p01.2, S2e.out]; exact six_Add _ _ _)
  have CA10 := hide (show ∀ w, Calls Tryz.prog 87 #[six S2, .agg #[.int .u64 0, .int .u64 (P10 % 4294967296), .int .u64 (P10 / 4294967296), .int .u64 0, .int .u64 0, .int .u64 0]] w fun e w' => e = .returned (six S3) ∧ Old w w' from fun w => by
    rw [← six_at1 P10 p10.1 p10.2, S3e.out]; exact six_Add _ _ _)
  have CA11 := hide (show ∀ w, Calls Tryz.prog 87 #[six S3, .agg #[.int .u64 0, .int .u64 0, .int .u64 (P11 % 4294967296), .int .u64 (P11 / 4294967296), .int .u64 0, .int .u64 0]] w fun e w' => e = .returned (six S4) ∧ Old w w' from fun w => by
    rw [← six_at2 P11 p11.1 p11.2, S4e.out]; exact six_Add _ _ _)
  have SUM := hide (show S4 = A * B by
    rw [two_digits A bA.1 bA.2, two_digits B bB.1 bB.2, ← X0.out, ← X1.out, ← Y0.out, ← Y1.out, mul_sum, hP00.out, hP01.out, hP10.out, hP11.out, S4e.out, S3e.out, S2e.out, S1e.out])
  have N3 := hide (fun w => six_Neg S4 w)
  have F00 := hide (And.intro w00 (And.intro p00 (And.intro c0 c2)))
  have F01 := hide (And.intro w01 (And.intro p01 (And.intro c0 c3)))
  have F10 := hide (And.intro w10 (And.intro p10 (And.intro c1 c2)))
  have F11 := hide (And.intro w11 (And.intro p11 (And.intro c1 c3)))
  clear hw ha hb bA bB hP00 hP01 hP10 hP11 S1e S2e S3e S4e w00 w01 w10 w11 p00 p01 p10 p11 c0 c1 c2 c3
  go_enter Tryz.func88, Tryz.ntmps88
  go_wp2_with fail
  refine (O1.out _).mono ?_
  rintro e w1 ⟨rfl, g1⟩
  go_wp2_with fail
  refine (O2.out _).mono ?_
  rintro e w2 ⟨rfl, g2⟩
  go_upto_if 17 with fail
  have hbl : Old w ((w2.alloc (.cells #[.int .u64 (dg a 0), .int .u64 (dg a 1), .int .u64 (dg a 2), .int .u64 (dg a 3), .int .u64 (dg a 4), .int .u64 (dg a 5)] 148)).alloc (.cells #[.int .u64 (dg b 0), .int .u64 (dg b 1), .int .u64 (dg b 2), .int .u64 (dg b 3), .int .u64 (dg b 4), .int .u64 (dg b 5)] 148)) := ((Old.trans ((Old.refl w).alloc _) (Old.trans g1 g2)).alloc _).alloc _
  have HX := hide (show ((w2.alloc (.cells #[.int .u64 (dg a 0), .int .u64 (dg a 1), .int .u64 (dg a 2), .int .u64 (dg a 3), .int .u64 (dg a 4), .int .u64 (dg a 5)] 148)).alloc (.cells #[.int .u64 (dg b 0), .int .u64 (dg b 1), .int .u64 (dg b 2), .int .u64 (dg b 3), .int .u64 (dg b 4), .int .u64 (dg b 5)] 148)).heap[w2.heap.size]? = some (.cells (firstD a 6) 148 (0, 0)) from by rw [first_all]; exact Old.heap ((Old.refl _).alloc _) (heap_new _ _ _ rfl))
  have HY := hide (show ((w2.alloc (.cells #[.int .u64 (dg a 0), .int .u64 (dg a 1), .int .u64 (dg a 2), .int .u64 (dg a 3), .int .u64 (dg a 4), .int .u64 (dg a 5)] 148)).alloc (.cells #[.int .u64 (dg b 0), .int .u64 (dg b 1), .int .u64 (dg b 2), .int .u64 (dg b 3), .int .u64 (dg b 4), .int .u64 (dg b 5)] 148)).heap[w2.heap.size + 1]? = some (.cells (firstD b 6) 148 (0, 0)) from by rw [first_all]; exact heap_new _ _ _ (by simp))
  have HR := hide (show ((w2.alloc (.cells #[.int .u64 (dg a 0), .int .u64 (dg a 1), .int .u64 (dg a 2), .int .u64 (dg a 3), .int .u64 (dg a 4), .int .u64 (dg a 5)] 148)).alloc (.cells #[.int .u64 (dg b 0), .int .u64 (dg b 1), .int .u64 (dg b 2), .int .u64 (dg b 3), .int .u64 (dg b 4), .int .u64 (dg b 5)] 148)).heap[w.heap.size]? = some (.cells (firstD 0 0) 148 (0, 0)) from by rw [first_none]; exact Old.heap (((Old.trans g1 g2).alloc _).alloc _) (heap_new _ _ _ rfl))
  have hlt : w.heap.size < w2.heap.size := by have := (Old.trans g1 g2).size; simp at this; omega
  generalize (w2.alloc (.cells #[.int .u64 (dg a 0), .int .u64 (dg a 1), .int .u64 (dg a 2), .int .u64 (dg a 3), .int .u64 (dg a 4), .int .u64 (dg a 5)] 148)).alloc (.cells #[.int .u64 (dg b 0), .int .u64 (dg b 1), .int .u64 (dg b 2), .int .u64 (dg b 3), .int .u64 (dg b 4), .int .u64 (dg b 5)] 148) = w3 at hbl HX HY HR ⊢
  clear g1 g2
  obtain ⟨q5, hq5⟩ : ∃ q, q = w2.heap.size := ⟨_, rfl⟩
  rw [← hq5] at HX HY hlt ⊢
  clear hq5
  have b5 := block_lt HX.out
  have b6 := block_lt HY.out
  go_cut [] (fun wr => Old w wr ∧ Hid (wr.heap[w.heap.size]? = some (.cells (firstD 0 0) 148 (0, 0))) ∧ Hid (wr.heap[q5]? = some (.cells (firstD A 6) 148 (0, 0))) ∧ Hid (wr.heap[q5 + 1]? = some (.cells (firstD b 6) 148 (0, 0))))
  case first =>
    by_cases hneg : a < 0
    · have E := hide (show A = -a by rw [hA.out, if_pos hneg])
      have o0 := six_cell HX.out (k := 0) (by omega)
      have o1 := six_cell HX.out (k := 1) (by omega)
      have o2 := six_cell HX.out (k := 2) (by omega)
      have o3 := six_cell HX.out (k := 3) (by omega)
      have o4 := six_cell HX.out (k := 4) (by omega)
      have o5 := six_cell HX.out (k := 5) (by omega)
      go_wp2_with fail
      refine (N1.out _).mono ?_
      rintro e wz ⟨rfl, hz⟩
      clear o0 o1 o2 o3 o4 o5
      have HZ := hide (hz.heap HX.out)
      have o0 := six_cell HZ.out (k := 0) (by omega)
      have o1 := six_cell HZ.out (k := 1) (by omega)
      have o2 := six_cell HZ.out (k := 2) (by omega)
      have o3 := six_cell HZ.out (k := 3) (by omega)
      have o4 := six_cell HZ.out (k := 4) (by omega)
      have o5 := six_cell HZ.out (k := 5) (by omega)
      have fo := six_free HZ.out
      go_wp2_with fail
      go_meet
      rw [E.out]
      exact ⟨old_six (Old.trans hbl hz) (by omega) _ _ _ _ _ _, hide (set_six_other (hz.heap HR.out) (by omega) _ _ _ _ _ _), hide (set_six HZ.out _), hide (set_six_other (hz.heap HY.out) (by omega) _ _ _ _ _ _)⟩
    · have E := hide (show A = a by rw [hA.out, if_neg hneg])
      go_wp2_with fail
      go_meet
      rw [E.out]
      exact ⟨hbl, HR, HX, HY⟩
  case rest =>
    clear hbl HR HX HY b5 b6
    obtain ⟨hbl, HR, HX, HY⟩ := hcut
    have b5 := block_lt HX.out
    have b6 := block_lt HY.out
    go_upto_if 21 with fail
    go_cut [] (fun wr => Old w wr ∧ Hid (wr.heap[w.heap.size]? = some (.cells (firstD 0 0) 148 (0, 0))) ∧ Hid (wr.heap[q5]? = some (.cells (firstD A 6) 148 (0, 0))) ∧ Hid (wr.heap[q5 + 1]? = some (.cells (firstD B 6) 148 (0, 0))))
    case first =>
      by_cases hneg : b < 0
      · have E := hide (show B = -b by rw [hB.out, if_pos hneg])
        have o0 := six_cell HY.out (k := 0) (by omega)
        have o1 := six_cell HY.out (k := 1) (by omega)
        have o2 := six_cell HY.out (k := 2) (by omega)
        have o3 := six_cell HY.out (k := 3) (by omega)
        have o4 := six_cell HY.out (k := 4) (by omega)
        have o5 := six_cell HY.out (k := 5) (by omega)
        go_wp2_with fail
        refine (N2.out _).mono ?_
        rintro e wz ⟨rfl, hz⟩
        clear o0 o1 o2 o3 o4 o5
        have HZ := hide (hz.heap HY.out)
        have o0 := six_cell HZ.out (k := 0) (by omega)
        have o1 := six_cell HZ.out (k := 1) (by omega)
        have o2 := six_cell HZ.out (k := 2) (by omega)
        have o3 := six_cell HZ.out (k := 3) (by omega)
        have o4 := six_cell HZ.out (k := 4) (by omega)
        have o5 := six_cell HZ.out (k := 5) (by omega)
        have fo := six_free HZ.out
        go_wp2_with fail
        go_meet
        rw [E.out]
        exact ⟨old_six (Old.trans hbl hz) (by omega) _ _ _ _ _ _, hide (set_six_other (hz.heap HR.out) (by omega) _ _ _ _ _ _), hide (set_six_other (hz.heap HX.out) (by omega) _ _ _ _ _ _), hide (set_six HZ.out _)⟩
      · have E := hide (show B = b by rw [hB.out, if_neg hneg])
        go_wp2_with fail
        go_meet
        rw [E.out]
        exact ⟨hbl, HR, HX, HY⟩
    case rest =>
      clear hbl HR HX HY b5 b6
      obtain ⟨hbl, HR, HX, HY⟩ := hcut
      go_wp2_with fail
      have M := hide (show MulSt w w.heap.size q5 (q5 + 1) wc.heap.size A B 0 (wc.alloc (.cells #[.int .u64 0, .int .u64 0, .int .u64 0, .int .u64 0, .int .u64 0, .int .u64 0] 148)) from ⟨hbl.alloc _, Old.heap ((Old.refl _).alloc _) HR.out, Old.heap ((Old.refl _).alloc _) HX.out, Old.heap ((Old.refl _).alloc _) HY.out, by rw [first_zero]; exact heap_new _ _ _ rfl, hlt, Nat.lt_succ_of_lt hlt, block_lt HX.out, block_lt HY.out, Nat.lt_trans hlt (block_lt HX.out)⟩)
      clear HX HY HR hbl
      generalize wc.alloc (.cells #[.int .u64 0, .int .u64 0, .int .u64 0, .int .u64 0, .int .u64 0, .int .u64 0] 148) = wa at M ⊢
      obtain ⟨q7, hq7⟩ : ∃ q, q = wc.heap.size := ⟨_, rfl⟩
      rw [← hq7] at M ⊢
      clear hq7
      have hq57 := M.out.n5
      have hq67 := M.out.n6
      refine wp_loop_rounds 3 ?_
      rw [rounds_succ]
      go_wp2_with fail
      refine wp_loop_rounds 3 ?_
      rw [rounds_succ]
      have x0' := six_cell M.out.x (k := 0) (by omega)
      have y0' := six_cell M.out.y (k := 0) (by omega)
      rw [← X0.out] at x0'
      rw [← Y0.out] at y0'
      have o0 := six_cell M.out.o (k := 0) (by omega)
      have o1 := six_cell M.out.o (k := 1) (by omega)
      have o2 := six_cell M.out.o (k := 2) (by omega)
      have o3 := six_cell M.out.o (k := 3) (by omega)
      have o4 := six_cell M.out.o (k := 4) (by omega)
      have o5 := six_cell M.out.o (k := 5) (by omega)
      have bo := hide (block_lt M.out.o)
      obtain ⟨ww, pp, cx, cy⟩ := F00.out
      go_wp2_with fail
      go_region
      have bo2 := bo.out
      go_wp2_with fail
      refine (CA00.out _).mono ?_
      rintro e wz ⟨rfl, hz⟩
      clear x0' y0' o0 o1 o2 o3 o4 o5 bo2 ww pp cx cy
      have MZ := hide (M.out.late (Old.trans ((Old.refl wa).alloc _).drew hz))
      clear M bo hz
      have o0 := six_cell MZ.out.o (k := 0) (by omega)
      have o1 := six_cell MZ.out.o (k := 1) (by omega)
      have o2 := six_cell MZ.out.o (k := 2) (by omega)
      have o3 := six_cell MZ.out.o (k := 3) (by omega)
      have o4 := six_cell MZ.out.o (k := 4) (by omega)
      have o5 := six_cell MZ.out.o (k := 5) (by omega)
      have fo := six_free MZ.out.o
      go_wp2_with fail
      clear o0 o1 o2 o3 o4 o5 fo
      have M := hide (MZ.out.step S1)
      clear MZ
      generalize ((((((wz.setCell ⟨q7, 0, none⟩ (.int .u64 (dg S1 0))).setCell ⟨q7, 1, none⟩ (.int .u64 (dg S1 1))).setCell ⟨q7, 2, none⟩ (.int .u64 (dg S1 2))).setCell ⟨q7, 3, none⟩ (.int .u64 (dg S1 3))).setCell ⟨q7, 4, none⟩ (.int .u64 (dg S1 4))).setCell ⟨q7, 5, none⟩ (.int .u64 (dg S1 5))) = wb at M ⊢
      clear wz
      rw [rounds_succ]
      have x0' := six_cell M.out.x (k := 0) (by omega)
      have y1' := six_cell M.out.y (k := 1) (by omega)
      rw [← X0.out] at x0'
      rw [← Y1.out] at y1'
      have o0 := six_cell M.out.o (k := 0) (by omega)
      have o1 := six_cell M.out.o (k := 1) (by omega)
      have o2 := six_cell M.out.o (k := 2) (by omega)
      have o3 := six_cell M.out.o (k := 3) (by omega)
      have o4 := six_cell M.out.o (k := 4) (by omega)
      have o5 := six_cell M.out.o (k := 5) (by omega)
      have bo := hide (block_lt M.out.o)
      obtain ⟨ww, pp, cx, cy⟩ := F01.out
      go_wp2_with fail
      go_region
      have bo2 := bo.out
      go_wp2_with fail
      refine (CA01.out _).mono ?_
      rintro e wz ⟨rfl, hz⟩
      clear x0' y1' o0 o1 o2 o3 o4 o5 bo2 ww pp cx cy
      have MZ := hide (M.out.late (Old.trans ((Old.refl wb).alloc _).drew hz))
      clear M bo hz
      have o0 := six_cell MZ.out.o (k := 0) (by omega)
      have o1 := six_cell MZ.out.o (k := 1) (by omega)
      have o2 := six_cell MZ.out.o (k := 2) (by omega)
      have o3 := six_cell MZ.out.o (k := 3) (by omega)
      have o4 := six_cell MZ.out.o (k := 4) (by omega)
      have o5 := six_cell MZ.out.o (k := 5) (by omega)
      have fo := six_free MZ.out.o
      go_wp2_with fail
      clear o0 o1 o2 o3 o4 o5 fo
      have M := hide (MZ.out.step S2)
      clear MZ
      generalize ((((((wz.setCell ⟨q7, 0, none⟩ (.int .u64 (dg S2 0))).setCell ⟨q7, 1, none⟩ (.int .u64 (dg S2 1))).setCell ⟨q7, 2, none⟩ (.int .u64 (dg S2 2))).setCell ⟨q7, 3, none⟩ (.int .u64 (dg S2 3))).setCell ⟨q7, 4, none⟩ (.int .u64 (dg S2 4))).setCell ⟨q7, 5, none⟩ (.int .u64 (dg S2 5))) = wk at M ⊢
      clear wz
      rw [rounds_succ]
      go_wp2_with fail
      rw [rounds_succ]
      go_wp2_with fail
      refine wp_loop_rounds 3 ?_
      rw [rounds_succ]
      have x1' := six_cell M.out.x (k := 1) (by omega)
      have y0' := six_cell M.out.y (k := 0) (by omega)
      rw [← X1.out] at x1'
      rw [← Y0.out] at y0'
      have o0 := six_cell M.out.o (k := 0) (by omega)
      have o1 := six_cell M.out.o (k := 1) (by omega)
      have o2 := six_cell M.out.o (k := 2) (by omega)
      have o3 := six_cell M.out.o (k := 3) (by omega)
      have o4 := six_cell M.out.o (k := 4) (by omega)
      have o5 := six_cell M.out.o (k := 5) (by omega)
      have bo := hide (block_lt M.out.o)
      obtain ⟨ww, pp, cx, cy⟩ := F10.out
      go_wp2_with fail
      go_region
      have bo2 := bo.out
      go_wp2_with fail
      refine (CA10.out _).mono ?_
      rintro e wz ⟨rfl, hz⟩
      clear x1' y0' o0 o1 o2 o3 o4 o5 bo2 ww pp cx cy
      have MZ := hide (M.out.late (Old.trans ((Old.refl wk).alloc _).drew hz))
      clear M bo hz
      have o0 := six_cell MZ.out.o (k := 0) (by omega)
      have o1 := six_cell MZ.out.o (k := 1) (by omega)
      have o2 := six_cell MZ.out.o (k := 2) (by omega)
      have o3 := six_cell MZ.out.o (k := 3) (by omega)
      have o4 := six_cell MZ.out.o (k := 4) (by omega)
      have o5 := six_cell MZ.out.o (k := 5) (by omega)
      have fo := six_free MZ.out.o
      go_wp2_with fail
      clear o0 o1 o2 o3 o4 o5 fo
      have M := hide (MZ.out.step S3)
      clear MZ
      generalize ((((((wz.setCell ⟨q7, 0, none⟩ (.int .u64 (dg S3 0))).setCell ⟨q7, 1, none⟩ (.int .u64 (dg S3 1))).setCell ⟨q7, 2, none⟩ (.int .u64 (dg S3 2))).setCell ⟨q7, 3, none⟩ (.int .u64 (dg S3 3))).setCell ⟨q7, 4, none⟩ (.int .u64 (dg S3 4))).setCell ⟨q7, 5, none⟩ (.int .u64 (dg S3 5))) = wd at M ⊢
      clear wz
      rw [rounds_succ]
      have x1' := six_cell M.out.x (k := 1) (by omega)
      have y1' := six_cell M.out.y (k := 1) (by omega)
      rw [← X1.out] at x1'
      rw [← Y1.out] at y1'
      have o0 := six_cell M.out.o (k := 0) (by omega)
      have o1 := six_cell M.out.o (k := 1) (by omega)
      have o2 := six_cell M.out.o (k := 2) (by omega)
      have o3 := six_cell M.out.o (k := 3) (by omega)
      have o4 := six_cell M.out.o (k := 4) (by omega)
      have o5 := six_cell M.out.o (k := 5) (by omega)
      have bo := hide (block_lt M.out.o)
      obtain ⟨ww, pp, cx, cy⟩ := F11.out
      go_wp2_with fail
      go_region
      have bo2 := bo.out
      go_wp2_with fail
      refine (CA11.out _).mono ?_
      rintro e wz ⟨rfl, hz⟩
      clear x1' y1' o0 o1 o2 o3 o4 o5 bo2 ww pp cx cy
      have MZ := hide (M.out.late (Old.trans ((Old.refl wd).alloc _).drew hz))
      clear M bo hz
      have o0 := six_cell MZ.out.o (k := 0) (by omega)
      have o1 := six_cell MZ.out.o (k := 1) (by omega)
      have o2 := six_cell MZ.out.o (k := 2) (by omega)
      have o3 := six_cell MZ.out.o (k := 3) (by omega)
      have o4 := six_cell MZ.out.o (k := 4) (by omega)
      have o5 := six_cell MZ.out.o (k := 5) (by omega)
      have fo := six_free MZ.out.o
      go_wp2_with fail
      clear o0 o1 o2 o3 o4 o5 fo
      have M := hide (MZ.out.step S4)
      clear MZ
      generalize ((((((wz.setCell ⟨q7, 0, none⟩ (.int .u64 (dg S4 0))).setCell ⟨q7, 1, none⟩ (.int .u64 (dg S4 1))).setCell ⟨q7, 2, none⟩ (.int .u64 (dg S4 2))).setCell ⟨q7, 3, none⟩ (.int .u64 (dg S4 3))).setCell ⟨q7, 4, none⟩ (.int .u64 (dg S4 4))).setCell ⟨q7, 5, none⟩ (.int .u64 (dg S4 5))) = we at M ⊢
      clear wz
      rw [rounds_succ]
      go_wp2_with fail
      rw [rounds_succ]
      have o0 := six_cell M.out.o (k := 0) (by omega)
      have o1 := six_cell M.out.o (k := 1) (by omega)
      have o2 := six_cell M.out.o (k := 2) (by omega)
      have o3 := six_cell M.out.o (k := 3) (by omega)
      have o4 := six_cell M.out.o (k := 4) (by omega)
      have o5 := six_cell M.out.o (k := 5) (by omega)
      by_cases h1 : a < 0 <;> by_cases h2 : b < 0
      · have g1 : decide (a < 0) = true := decide_eq_true h1
        have g2 : decide (b < 0) = true := decide_eq_true h2
        have E := hide (show a * b = S4 by rw [SUM.out, hA.out, hB.out, if_pos h1, if_pos h2, Int.neg_mul_neg])
        have z0 := zero_cell M.out.r (k := 0) (by omega)
        have z1 := zero_cell M.out.r (k := 1) (by omega)
        have z2 := zero_cell M.out.r (k := 2) (by omega)
        have z3 := zero_cell M.out.r (k := 3) (by omega)
        have z4 := zero_cell M.out.r (k := 4) (by omega)
        have z5 := zero_cell M.out.r (k := 5) (by omega)
        have f0 := six_free M.out.r
        go_wp2_with fail
        refine bodyPost_ret (v := six S4) (by simp [results, Tryz.results88, go_sem, z0, z1, z2, z3, z4, z5]) rfl ⟨by rw [E.out], ?_⟩
        exact old_six M.out.1 (Nat.le_refl _) _ _ _ _ _ _
      · have g1 : decide (a < 0) = true := decide_eq_true h1
        have g2 : decide (b < 0) = false := decide_eq_false h2
        have E := hide (show a * b = -S4 by rw [SUM.out, hA.out, hB.out, if_pos h1, if_neg h2, Int.neg_mul, Int.neg_neg])
        go_wp2_with fail
        refine (N3.out _).mono ?_
        rintro e wz ⟨rfl, hz⟩
        clear o0 o1 o2 o3 o4 o5
        have MZ := hide (M.out.late hz)
        have z0 := zero_cell MZ.out.r (k := 0) (by omega)
        have z1 := zero_cell MZ.out.r (k := 1) (by omega)
        have z2 := zero_cell MZ.out.r (k := 2) (by omega)
        have z3 := zero_cell MZ.out.r (k := 3) (by omega)
        have z4 := zero_cell MZ.out.r (k := 4) (by omega)
        have z5 := zero_cell MZ.out.r (k := 5) (by omega)
        have f0 := six_free MZ.out.r
        go_wp2_with fail
        refine bodyPost_ret (v := six (-S4)) (by simp [results, Tryz.results88, go_sem, z0, z1, z2, z3, z4, z5]) rfl ⟨by rw [E.out], ?_⟩
        exact old_six MZ.out.1 (Nat.le_refl _) _ _ _ _ _ _
      · have g1 : decide (a < 0) = false := decide_eq_false h1
        have g2 : decide (b < 0) = true := decide_eq_true h2
        have E := hide (show a * b = -S4 by rw [SUM.out, hA.out, hB.out, if_neg h1, if_pos h2, Int.mul_neg, Int.neg_neg])
        go_wp2_with fail
        refine (N3.out _).mono ?_
        rintro e wz ⟨rfl, hz⟩
        clear o0 o1 o2 o3 o4 o5
        have MZ := hide (M.out.late hz)
        have z0 := zero_cell MZ.out.r (k := 0) (by omega)
        have z1 := zero_cell MZ.out.r (k := 1) (by omega)
        have z2 := zero_cell MZ.out.r (k := 2) (by omega)
        have z3 := zero_cell MZ.out.r (k := 3) (by omega)
        have z4 := zero_cell MZ.out.r (k := 4) (by omega)
        have z5 := zero_cell MZ.out.r (k := 5) (by omega)
        have f0 := six_free MZ.out.r
        go_wp2_with fail
        refine bodyPost_ret (v := six (-S4)) (by simp [results, Tryz.results88, go_sem, z0, z1, z2, z3, z4, z5]) rfl ⟨by rw [E.out], ?_⟩
        exact old_six MZ.out.1 (Nat.le_refl _) _ _ _ _ _ _
      · have g1 : decide (a < 0) = false := decide_eq_false h1
        have g2 : decide (b < 0) = false := decide_eq_false h2
        have E := hide (show a * b = S4 by rw [SUM.out, hA.out, hB.out, if_neg h1, if_neg h2])
        have z0 := zero_cell M.out.r (k := 0) (by omega)
        have z1 := zero_cell M.out.r (k := 1) (by omega)
        have z2 := zero_cell M.out.r (k := 2) (by omega)
        have z3 := zero_cell M.out.r (k := 3) (by omega)
        have z4 := zero_cell M.out.r (k := 4) (by omega)
        have z5 := zero_cell M.out.r (k := 5) (by omega)
        have f0 := six_free M.out.r
        go_wp2_with fail
        refine bodyPost_ret (v := six S4) (by simp [results, Tryz.results88, go_sem, z0, z1, z2, z3, z4, z5]) rfl ⟨by rw [E.out], ?_⟩
        exact old_six M.out.1 (Nat.le_refl _) _ _ _ _ _ _

end Go.Proofs.YtmfbblcipakaiaaGreatDoor

