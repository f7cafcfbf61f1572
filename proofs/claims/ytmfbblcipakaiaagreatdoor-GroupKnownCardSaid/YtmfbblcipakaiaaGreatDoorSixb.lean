/- The document's numbers of six digits: of a number, compared, as a number. -/
import Derived.Test.YtmfbblcipakaiaaGreatDoorSix
namespace Go.Proofs.YtmfbblcipakaiaaGreatDoor
open Go.RowKit

theorem six_of_parts (n : Int) : IntKind.u64.wrap n % 4294967296 = dg n 0 ∧ IntKind.u64.wrap n / 4294967296 = dg n 1 ∧ 0 ≤ IntKind.u64.wrap n ∧ IntKind.u64.wrap n < 18446744073709551616 := by
  have hw : ∀ z, IntKind.u64.wrap z = z % 18446744073709551616 := fun z => by simp [IntKind.wrap, IntKind.bits, IntKind.signed]
  rw [hw]
  unfold dg lo32
  simp only [hn]
  unfold hi32
  omega
theorem six_of_sign (n : Int) (h : fit n) (k : Nat) (hk : 2 ≤ k) : dg n k = if n < 0 then 4294967295 else 0 := by
  have e : ∀ j, hn n (j + 2) = if n < 0 then -1 else 0 := by
    intro j
    induction j with
    | zero => unfold fit at h; simp only [hn]; unfold hi32; split <;> omega
    | succ j ih => rw [hn, ih]; unfold hi32; split <;> omega
  obtain ⟨j, rfl⟩ : ∃ j, k = j + 2 := ⟨k - 2, by omega⟩
  unfold dg lo32
  rw [e]
  split <;> omega

set_option maxRecDepth 100000 in
theorem six_Of (n : Int) (w : World) (h : fit n) : Calls Tryz.prog 100 #[.int .i64 n] w fun e w' => e = .returned (six n) ∧ Old w w' := by
  obtain ⟨h1, h2, h3, h4⟩ := six_of_parts n
  have s2 := six_of_sign n h 2 (by omega)
  have s3 := six_of_sign n h 3 (by omega)
  have s4 := six_of_sign n h 4 (by omega)
  have s5 := six_of_sign n h 5 (by omega)
  have E := hide (show six n = .agg #[.int .u64 (IntKind.u64.wrap n % 4294967296), .int .u64 (IntKind.u64.wrap n / 4294967296), .int .u64 (if n < 0 then 4294967295 else 0), .int .u64 (if n < 0 then 4294967295 else 0), .int .u64 (if n < 0 then 4294967295 else 0), .int .u64 (if n < 0 then 4294967295 else 0)] by rw [six, ← h1, ← h2, s2, s3, s4, s5])
  clear s2 s3 s4 s5 h1 h2
  obtain ⟨u, hu⟩ : ∃ u, IntKind.u64.wrap n = u := ⟨_, rfl⟩
  rw [hu] at E h3 h4
  by_cases hn : n < 0
  · have E2 := E.out
    rw [if_pos hn] at E2
    have EE := hide E2
    clear E E2
    go_enter Tryz.func100, Tryz.ntmps100
    go_wp2_with fail
    refine bodyPost_ret (v := .agg #[.int .u64 (u % 4294967296), .int .u64 (u / 4294967296), .int .u64 4294967295, .int .u64 4294967295, .int .u64 4294967295, .int .u64 4294967295]) (by simp [results, Tryz.results100, go_sem]) rfl ⟨by rw [EE.out], ?_⟩
    exact (Old.refl w).alloc _
  · have E2 := E.out
    rw [if_neg hn] at E2
    have EE := hide E2
    clear E E2
    go_enter Tryz.func100, Tryz.ntmps100
    go_wp2_with fail
    refine bodyPost_ret (v := .agg #[.int .u64 (u % 4294967296), .int .u64 (u / 4294967296), .int .u64 0, .int .u64 0, .int .u64 0, .int .u64 0]) (by simp [results, Tryz.results100, go_sem]) rfl ⟨by rw [EE.out], ?_⟩
    exact (Old.refl w).alloc _

def mid (s : Int) : Prop := -3138550867693340381917894711603833208051177722232017256448 ≤ s ∧ s < 3138550867693340381917894711603833208051177722232017256448
theorem six_neg (s : Int) (h : mid s) : (2147483648 ≤ dg s 5 ↔ s < 0) := by
  unfold mid at h
  unfold dg lo32
  simp only [hn]
  unfold hi32
  omega
theorem hn_mono {s t : Int} (h : s ≤ t) : ∀ k, hn s k ≤ hn t k
  | 0 => h
  | k + 1 => by
    have := hn_mono h k
    unfold hn hi32
    omega
theorem hn_top (s : Int) (h : mid s) : hn s 6 = if s < 0 then -1 else 0 := by
  unfold mid at h
  simp only [hn]
  unfold hi32
  split <;> omega
theorem dg_split (s : Int) (k : Nat) : hn s k = 4294967296 * hn s (k + 1) + dg s k := by
  unfold dg
  simp only [hn]
  unfold lo32 hi32
  omega
theorem dg_less {s t : Int} {k : Nat} (h : hn s (k + 1) = hn t (k + 1)) (hd : dg s k < dg t k) : s < t := by
  by_cases h1 : s < t
  · exact h1
  · have := hn_mono (show t ≤ s by omega) k
    rw [dg_split s, dg_split t, h] at this
    omega
theorem dg_equal {s t : Int} {k : Nat} (h : hn s (k + 1) = hn t (k + 1)) (hd : dg s k = dg t k) : hn s k = hn t k := by rw [dg_split s, dg_split t, h, hd]

set_option maxRecDepth 100000 in
set_option maxHeartbeats 1000000 in
theorem six_Compare (s t : Int) (w : World) (hs : mid s) (ht : mid t) : Calls Tryz.prog 102 #[six s, six t] w fun e w' => e = .returned (.int .i64 (Lib.compareInt s t)) ∧ Old w w' := by
  have n1 := six_neg s hs
  have n2 := six_neg t ht
  have b1 := dg_bd s 5
  have b2 := dg_bd t 5
  have T1 := hide (hn_top s hs)
  have T2 := hide (hn_top t ht)
  clear hs ht
  by_cases h1 : s < 0 <;> by_cases h2 : t < 0
  · have g1 : decide (2147483648 ≤ dg s 5) = true := decide_eq_true (by omega)
    have g2 : decide (2147483648 ≤ dg t 5) = true := decide_eq_true (by omega)
    have R := hide (show hn s 6 = hn t 6 by rw [T1.out, T2.out, if_pos h1, if_pos h2])
    clear n1 n2 h1 h2 T1 T2 b1 b2
    go_enter Tryz.func102, Tryz.ntmps102
    go_wp2_with fail
    go_region
    go_wp2_with fail
    go_loopw [7] (fun iv wr => ∃ m : Nat, iv = .int .i64 ((m : Int) - 1) ∧ m ≤ 6 ∧ Old w wr ∧ Hid (hn s m = hn t m) ∧ Hid (wr.heap[w.heap.size]? = some (.cells (firstD s 6) 148 (0, 0))) ∧ Hid (wr.heap[w.heap.size + 1]? = some (.cells (firstD t 6) 148 (0, 0)))) (fun iv _ => (intOf iv + 1).toNat)
    case atStart =>
      refine ⟨6, by rfl, by omega, (((Old.refl w).alloc _).alloc _).drew, R, ?_, ?_⟩
      · rw [first_all]; exact Old.heap ((Old.refl _).alloc _).drew (heap_new _ _ _ rfl)
      · rw [first_all]; exact Old.heap (Old.refl _).drew (heap_new _ _ _ (by simp))
    case round =>
      obtain ⟨m, rfl, hm, hbl, HE, H0, H1⟩ := hrel
      by_cases hp : 0 < m
      · obtain ⟨k, hk⟩ : ∃ k, m = k + 1 := ⟨m - 1, by omega⟩
        have hmk : (m : Int) - 1 = (k : Int) := by omega
        have hk6 : k < 6 := by omega
        have E := hide (show hn s (k + 1) = hn t (k + 1) by rw [← hk]; exact HE.out)
        have x0 := six_cell H0.out hk6
        have x1 := six_cell H1.out hk6
        have c1 := dg_bd s k
        have c2 := dg_bd t k
        have L1 := hide (dg_less (k := k) E.out)
        have L2 := hide (dg_less (k := k) E.out.symm)
        have L3 := hide (dg_equal (k := k) E.out)
        have HM := hide hk
        clear HE E hk
        rw [hmk]
        obtain ⟨x, hx⟩ : ∃ x, x = dg s k := ⟨_, rfl⟩
        obtain ⟨y, hy⟩ : ∃ y, y = dg t k := ⟨_, rfl⟩
        rw [← hx] at x0 c1 L1 L2 L3
        rw [← hy] at x1 c2 L1 L2 L3
        clear hx hy
        by_cases hl : x < y
        · have hl' : decide (x < y) = true := decide_eq_true hl
          go_wp2_with fail
          go_region
          go_wp2_with fail
          go_ret
          exact ⟨ret_int (cmpI_lt_one (L1.out hl)).symm, hbl.drew⟩
        · have hl' : decide (x < y) = false := decide_eq_false hl
          by_cases hgt : y < x
          · have hg' : decide (x > y) = true := decide_eq_true hgt
            have hg'' : decide (y < x) = true := decide_eq_true hgt
            go_wp2_with fail
            go_region
            go_wp2_with fail
            go_region
            go_wp2_with fail
            go_ret
            exact ⟨ret_int (cmpI_gt_one (L2.out hgt)).symm, hbl.drew.drew⟩
          · have hg' : decide (x > y) = false := decide_eq_false hgt
            have hg'' : decide (y < x) = false := decide_eq_false hgt
            go_wp2_with fail
            go_region
            go_wp2_with fail
            go_region
            go_wp2_with fail
            go_roundw
            case rel => exact ⟨k, by first | rfl | go_num, by omega, hbl.drew.drew, hide (L3.out (by omega)), hide (Old.heap (Old.refl _).drew.drew H0.out), hide (Old.heap (Old.refl _).drew.drew H1.out)⟩
            case measure => simp [intOf]
      · have hm0 : m = 0 := by omega
        subst hm0
        go_wp2_with fail
        go_ret
        exact ⟨ret_int (cmpI_zero.2 HE.out).symm, hbl⟩
  · have g1 : decide (2147483648 ≤ dg s 5) = true := decide_eq_true (by omega)
    have g2 : decide (2147483648 ≤ dg t 5) = false := decide_eq_false (by omega)
    have R := hide (show Lib.compareInt s t = -1 from cmpI_lt_one (by omega))
    clear n1 n2 h1 h2 T1 T2 b1 b2
    go_enter Tryz.func102, Tryz.ntmps102
    go_wp2_with fail
    go_region
    go_wp2_with fail
    go_ret
    exact ⟨ret_int R.out.symm, (((Old.refl w).alloc _).alloc _).drew⟩
  · have g1 : decide (2147483648 ≤ dg s 5) = false := decide_eq_false (by omega)
    have g2 : decide (2147483648 ≤ dg t 5) = true := decide_eq_true (by omega)
    have R := hide (show Lib.compareInt s t = 1 from cmpI_gt_one (by omega))
    clear n1 n2 h1 h2 T1 T2 b1 b2
    go_enter Tryz.func102, Tryz.ntmps102
    go_wp2_with fail
    go_region
    go_wp2_with fail
    go_ret
    exact ⟨ret_int R.out.symm, (((Old.refl w).alloc _).alloc _).drew⟩
  · have g1 : decide (2147483648 ≤ dg s 5) = false := decide_eq_false (by omega)
    have g2 : decide (2147483648 ≤ dg t 5) = false := decide_eq_false (by omega)
    have R := hide (show hn s 6 = hn t 6 by rw [T1.out, T2.out, if_neg h1, if_neg h2])
    clear n1 n2 h1 h2 T1 T2 b1 b2
    go_enter Tryz.func102, Tryz.ntmps102
    go_wp2_with fail
    go_region
    go_wp2_with fail
    go_loopw [7] (fun iv wr => ∃ m : Nat, iv = .int .i64 ((m : Int) - 1) ∧ m ≤ 6 ∧ Old w wr ∧ Hid (hn s m = hn t m) ∧ Hid (wr.heap[w.heap.size]? = some (.cells (firstD s 6) 148 (0, 0))) ∧ Hid (wr.heap[w.heap.size + 1]? = some (.cells (firstD t 6) 148 (0, 0)))) (fun iv _ => (intOf iv + 1).toNat)
    case atStart =>
      refine ⟨6, by rfl, by omega, (((Old.refl w).alloc _).alloc _).drew, R, ?_, ?_⟩
      · rw [first_all]; exact Old.heap ((Old.refl _).alloc _).drew (heap_new _ _ _ rfl)
      · rw [first_all]; exact Old.heap (Old.refl _).drew (heap_new _ _ _ (by simp))
    case round =>
      obtain ⟨m, rfl, hm, hbl, HE, H0, H1⟩ := hrel
      by_cases hp : 0 < m
      · obtain ⟨k, hk⟩ : ∃ k, m = k + 1 := ⟨m - 1, by omega⟩
        have hmk : (m : Int) - 1 = (k : Int) := by omega
        have hk6 : k < 6 := by omega
        have E := hide (show hn s (k + 1) = hn t (k + 1) by rw [← hk]; exact HE.out)
        have x0 := six_cell H0.out hk6
        have x1 := six_cell H1.out hk6
        have c1 := dg_bd s k
        have c2 := dg_bd t k
        have L1 := hide (dg_less (k := k) E.out)
        have L2 := hide (dg_less (k := k) E.out.symm)
        have L3 := hide (dg_equal (k := k) E.out)
        have HM := hide hk
        clear HE E hk
        rw [hmk]
        obtain ⟨x, hx⟩ : ∃ x, x = dg s k := ⟨_, rfl⟩
        obtain ⟨y, hy⟩ : ∃ y, y = dg t k := ⟨_, rfl⟩
        rw [← hx] at x0 c1 L1 L2 L3
        rw [← hy] at x1 c2 L1 L2 L3
        clear hx hy
        by_cases hl : x < y
        · have hl' : decide (x < y) = true := decide_eq_true hl
          go_wp2_with fail
          go_region
          go_wp2_with fail
          go_ret
          exact ⟨ret_int (cmpI_lt_one (L1.out hl)).symm, hbl.drew⟩
        · have hl' : decide (x < y) = false := decide_eq_false hl
          by_cases hgt : y < x
          · have hg' : decide (x > y) = true := decide_eq_true hgt
            have hg'' : decide (y < x) = true := decide_eq_true hgt
            go_wp2_with fail
            go_region
            go_wp2_with fail
            go_region
            go_wp2_with fail
            go_ret
            exact ⟨ret_int (cmpI_gt_one (L2.out hgt)).symm, hbl.drew.drew⟩
          · have hg' : decide (x > y) = false := decide_eq_false hgt
            have hg'' : decide (y < x) = false := decide_eq_false hgt
            go_wp2_with fail
            go_region
            go_wp2_with fail
            go_region
            go_wp2_with fail
            go_roundw
            case rel => exact ⟨k, by first | rfl | go_num, by omega, hbl.drew.drew, hide (L3.out (by omega)), hide (Old.heap (Old.refl _).drew.drew H0.out), hide (Old.heap (Old.refl _).drew.drew H1.out)⟩
            case measure => simp [intOf]
      · have hm0 : m = 0 := by omega
        subst hm0
        go_wp2_with fail
        go_ret
        exact ⟨ret_int (cmpI_zero.2 HE.out).symm, hbl⟩

theorem ret_two {a b c d : Int} (h : a = c) (k : b = d) : Ending.returned (.tuple #[.int .i64 a, .int .i64 b]) = .returned (.tuple #[.int .i64 c, .int .i64 d]) := by rw [h, k]
theorem cmpI_min {s : Int} : Lib.compareInt s (-9223372036854775808) < 0 ↔ s < -9223372036854775808 := cmpI_neg
theorem mid_fit {s : Int} (h : fit s) : mid s := by unfold fit mid at *; omega
theorem low64 (s : Int) (h : fit s) : IntKind.i64.wrap (IntKind.u64.wrap (dg s 0 + IntKind.u64.wrap (4294967296 * dg s 1))) = s := by
  have hw : ∀ z, IntKind.u64.wrap z = z % 18446744073709551616 := fun z => by simp [IntKind.wrap, IntKind.bits, IntKind.signed]
  rw [hw, hw, IntKind.wrap_i64]
  unfold fit at h
  unfold dg lo32
  simp only [hn]
  unfold hi32
  omega

set_option maxRecDepth 100000 in
set_option maxHeartbeats 1000000 in
theorem six_Int (s : Int) (w : World) (hs : mid s) : Calls Tryz.prog 89 #[six s] w fun e w' => e = .returned (.tuple #[.int .i64 (intOr s), .int .i64 (intErr s)]) ∧ Old w w' := by
  obtain ⟨m1, hm1⟩ : ∃ m : Int, Hid (m = -9223372036854775808) := ⟨_, rfl⟩
  obtain ⟨m2, hm2⟩ : ∃ m : Int, Hid (m = 9223372036854775807) := ⟨_, rfl⟩
  have O1 := hide (show ∀ w, Calls Tryz.prog 100 #[.int .i64 (-9223372036854775808)] w fun e w' => e = .returned (six m1) ∧ Old w w' from fun w => by rw [hm1.out]; exact six_Of _ w (by decide))
  have O2 := hide (show ∀ w, Calls Tryz.prog 100 #[.int .i64 9223372036854775807] w fun e w' => e = .returned (six m2) ∧ Old w w' from fun w => by rw [hm2.out]; exact six_Of _ w (by decide))
  have K1 := hide (fun w => six_Compare s m1 w hs (mid_fit (by rw [hm1.out]; decide)))
  have K2 := hide (fun w => six_Compare s m2 w hs (mid_fit (by rw [hm2.out]; decide)))
  obtain ⟨c1, hc1⟩ : ∃ c, Lib.compareInt s m1 = c := ⟨_, rfl⟩
  obtain ⟨c2, hc2⟩ : ∃ c, Lib.compareInt s m2 = c := ⟨_, rfl⟩
  have e1 : c1 < 0 ↔ s < -9223372036854775808 := by rw [← hc1, ← hm1.out]; exact cmpI_neg
  have e2 : 0 < c2 ↔ 9223372036854775807 < s := by rw [← hc2, ← hm2.out]; exact cmpI_pos
  rw [hc1] at K1
  rw [hc2] at K2
  have E1 := hide e1
  have E2 := hide e2
  clear hc1 hc2 e1 e2
  have R0 := hide (fun h : fit s => low64 s h)
  have R1 := hide (fun h : fit s => int_fit h)
  have R2 := hide (fun h : ¬ fit s => int_unfit h)
  go_enter Tryz.func89, Tryz.ntmps89
  go_wp2_with fail
  have HB : (w.alloc (.cells #[.int .u64 (dg s 0), .int .u64 (dg s 1), .int .u64 (dg s 2), .int .u64 (dg s 3), .int .u64 (dg s 4), .int .u64 (dg s 5)] 148)).heap[w.heap.size]? = some (.cells (firstD s 6) 148 (0, 0)) := by rw [first_all]; exact heap_new _ _ _ rfl
  have HO : Old w (w.alloc (.cells #[.int .u64 (dg s 0), .int .u64 (dg s 1), .int .u64 (dg s 2), .int .u64 (dg s 3), .int .u64 (dg s 4), .int .u64 (dg s 5)] 148)) := (Old.refl w).alloc _
  generalize w.alloc (.cells #[.int .u64 (dg s 0), .int .u64 (dg s 1), .int .u64 (dg s 2), .int .u64 (dg s 3), .int .u64 (dg s 4), .int .u64 (dg s 5)] 148) = wx at HB HO ⊢
  have x0 : ∀ p : Later wx, p.world.cell? ⟨w.heap.size, 0, none⟩ = some (.int .u64 (dg s 0)) := fun p => six_cell (p.old.heap HB) (by omega)
  have x1 : ∀ p : Later wx, p.world.cell? ⟨w.heap.size, 1, none⟩ = some (.int .u64 (dg s 1)) := fun p => six_cell (p.old.heap HB) (by omega)
  have x2 : ∀ p : Later wx, p.world.cell? ⟨w.heap.size, 2, none⟩ = some (.int .u64 (dg s 2)) := fun p => six_cell (p.old.heap HB) (by omega)
  have x3 : ∀ p : Later wx, p.world.cell? ⟨w.heap.size, 3, none⟩ = some (.int .u64 (dg s 3)) := fun p => six_cell (p.old.heap HB) (by omega)
  have x4 : ∀ p : Later wx, p.world.cell? ⟨w.heap.size, 4, none⟩ = some (.int .u64 (dg s 4)) := fun p => six_cell (p.old.heap HB) (by omega)
  have x5 : ∀ p : Later wx, p.world.cell? ⟨w.heap.size, 5, none⟩ = some (.int .u64 (dg s 5)) := fun p => six_cell (p.old.heap HB) (by omega)
  have HH := hide HB
  clear HB
  by_cases h1 : c1 < 0
  · have g1 : decide (c1 < 0) = true := decide_eq_true h1
    have R := hide (R2.out (by have := E1.out; have := E2.out; unfold fit; omega))
    refine region_later (by kernel_rfl) (by kernel_rfl) ?_
    repeat (go_big_quiet_step (first | (go_at_call 102; exact Later.call (K1.out _)) | (go_at_call 100; exact Later.call (O1.out _))))
    refine wpQuiet_nil ?_
    rintro wq ⟨⟨_, hwq⟩, rfl⟩
    clear x0 x1 x2 x3 x4 x5
    go_wp2_with fail
    go_ret2
    exact ⟨ret_two R.out.1.symm R.out.2.symm, Old.trans HO hwq⟩
  · have g1 : decide (c1 < 0) = false := decide_eq_false h1
    by_cases h2 : 0 < c2
    · have g2 : decide (c2 > 0) = true := decide_eq_true h2
      have g3 : decide (0 < c2) = true := decide_eq_true h2
      have R := hide (R2.out (by have := E1.out; have := E2.out; unfold fit; omega))
      refine region_later (by kernel_rfl) (by kernel_rfl) ?_
      go_big_quiet_step (fail)
      go_big_quiet_step ((go_at_call 100; exact Later.call (O1.out _)))
      go_big_quiet_step ((go_at_call 102; exact Later.call (K1.out _)))
      go_big_quiet_step (fail)
      go_big_quiet_step (fail)
      go_big_quiet_step (fail)
      go_big_quiet_step ((go_at_call 100; exact Later.call (O2.out _)))
      go_big_quiet_step ((go_at_call 102; exact Later.call (K2.out _)))
      go_big_quiet_step (fail)
      go_big_quiet_step (fail)
      refine wpQuiet_nil ?_
      rintro wq ⟨⟨_, hwq⟩, rfl⟩
      clear x0 x1 x2 x3 x4 x5
      go_wp2_with fail
      go_ret2
      exact ⟨ret_two R.out.1.symm R.out.2.symm, Old.trans HO hwq⟩
    · have g2 : decide (c2 > 0) = false := decide_eq_false h2
      have g3 : decide (0 < c2) = false := decide_eq_false h2
      have hf : fit s := by have := E1.out; have := E2.out; unfold fit; omega
      have R := hide (R1.out hf)
      have R3 := R0.out hf
      refine region_later (by kernel_rfl) (by kernel_rfl) ?_
      go_big_quiet_step (fail)
      go_big_quiet_step ((go_at_call 100; exact Later.call (O1.out _)))
      go_big_quiet_step ((go_at_call 102; exact Later.call (K1.out _)))
      go_big_quiet_step (fail)
      go_big_quiet_step (fail)
      go_big_quiet_step (fail)
      go_big_quiet_step ((go_at_call 100; exact Later.call (O2.out _)))
      go_big_quiet_step ((go_at_call 102; exact Later.call (K2.out _)))
      go_big_quiet_step (fail)
      go_big_quiet_step (fail)
      refine wpQuiet_nil ?_
      rintro wq ⟨⟨_, hwq⟩, rfl⟩
      clear x0 x1 x2 x3 x4 x5
      have x0 : wq.cell? ⟨w.heap.size, 0, none⟩ = some (.int .u64 (dg s 0)) := six_cell (hwq.heap HH.out) (by omega)
      have x1 : wq.cell? ⟨w.heap.size, 1, none⟩ = some (.int .u64 (dg s 1)) := six_cell (hwq.heap HH.out) (by omega)
      go_wp2_with fail
      go_ret2
      exact ⟨ret_two R.out.1.symm R.out.2.symm, Old.trans HO hwq⟩
end Go.Proofs.YtmfbblcipakaiaaGreatDoor

