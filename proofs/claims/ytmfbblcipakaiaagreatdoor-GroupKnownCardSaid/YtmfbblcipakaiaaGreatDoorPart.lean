/- the partitions of slices.SortFunc -/
import Derived.Test.YtmfbblcipakaiaaGreatDoorHeap
import Derived.Sort.LotC
import Derived.Sort.WalkC
import Derived.Deep.DeepCutAuto
import Derived.Deep.CutBlock
namespace Go.Proofs.YtmfbblcipakaiaaGreatDoor
open Go.RowKit Go.Sort

theorem set_some {w : World} {p q : Addr} {u v : Value} (h : w.cell? q = some v) : ∃ x, (w.setCell p u).cell? q = some x := cell?_setCell_some (w := w) (p := p) (x := u) (q := q) (v := v) h

section
variable {lt : Int → Int → Bool}
theorem partition_early {d d1 : Array Int} {a m pivot i1 j1 : Nat} (hd : d1 = Sort.swp d a pivot) (hi : scanUp (fun x => lt x d1[a]!) d1 m (a + 1) = i1) (hj : scanDown (fun x => !lt x d1[a]!) d1 i1 m = j1) (h : j1 < i1) :
    partition lt d a (m + 1) pivot = (j1, true, Sort.swp d1 j1 a) := by
  subst hd
  simp only [partition, Nat.add_sub_cancel, hi, hj]
  rw [if_pos h]
theorem partition_late {d d1 : Array Int} {a m pivot i1 j1 : Nat} (hd : d1 = Sort.swp d a pivot) (hi : scanUp (fun x => lt x d1[a]!) d1 m (a + 1) = i1) (hj : scanDown (fun x => !lt x d1[a]!) d1 i1 m = j1) (h : ¬ j1 < i1) :
    partition lt d a (m + 1) pivot = ((partLoop lt a (i1 + 1) (j1 - 1) (Sort.swp d1 i1 j1)).1, false, Sort.swp (partLoop lt a (i1 + 1) (j1 - 1) (Sort.swp d1 i1 j1)).2 (partLoop lt a (i1 + 1) (j1 - 1) (Sort.swp d1 i1 j1)).1 a) := by
  subst hd
  simp only [partition, Nat.add_sub_cancel, hi, hj]
  rw [if_neg h]
theorem part_break {d : Array Int} {a i j i2 j2 : Nat} (hi : scanUp (fun x => lt x d[a]!) d j i = i2) (hj : scanDown (fun x => !lt x d[a]!) d i2 j = j2) (h : j2 < i2) : partLoop lt a i j d = (j2, d) := by
  rw [partLoop_eq, hi, hj, if_pos h]
theorem part_go {d : Array Int} {a i j i2 j2 : Nat} (hi : scanUp (fun x => lt x d[a]!) d j i = i2) (hj : scanDown (fun x => !lt x d[a]!) d i2 j = j2) (h : ¬ j2 < i2) : partLoop lt a i j d = partLoop lt a (i2 + 1) (j2 - 1) (Sort.swp d i2 j2) := by
  rw [partLoop_eq, hi, hj, if_neg h]
theorem partitionEqual_eq {d d1 : Array Int} {a m pivot : Nat} (hd : d1 = Sort.swp d a pivot) : partitionEqual lt d a (m + 1) pivot = partEqLoop lt a (a + 1) m d1 := by
  subst hd
  rfl
end

set_option maxRecDepth 100000 in
set_option maxHeartbeats 8000000 in
theorem partition_run (w0 : World) (g cap f : Nat) (rv : Value) (R : Int → Prop) (cf : Int → Int → Int) (hf : ∀ args w, (callFunc f args).run Tryz.prog w = .ok (.enter f args) w) (hc : CmpOk w0 g f #[rv] #[] R cf)
    (d : Array Int) (a m pivot : Nat) (w : World) (hw : SW w0 g d w) (hR : AllR R d) (hap : a ≤ pivot) (hpe : pivot ≤ m) (he : m + 1 ≤ d.size) (hsz : d.size < 1152921504606846976) :
    Calls Tryz.prog 110 #[.slice (some ⟨g, 0, none⟩) d.size cap, .int .i64 a, .int .i64 ((m : Int) + 1), .int .i64 pivot, .func (.func f) #[rv] #[]] w fun e w' =>
      e = .returned (.tuple #[.int .i64 ((partition (ltOf cf) d a (m + 1) pivot).1 : Nat), .bool (partition (ltOf cf) d a (m + 1) pivot).2.1]) ∧ SW w0 g (partition (ltOf cf) d a (m + 1) pivot).2.2 w' := by
  have HC := Lib.hid hc
  have HW := Lib.hid hw
  have HR := Lib.hid hR
  clear hc hw hR
  go_enter Tryz.func110, Tryz.ntmps110
  have B1 := hide (show pivot < d.size by omega)
  have B2 := hide (show a < d.size by omega)
  have b1 : pivot < d.size := by omega
  have b2 : a < d.size := by omega
  obtain ⟨u1, hu1, _, _⟩ := look HW HR _ B1.out
  obtain ⟨u2, hu2, _, _⟩ := look HW HR _ B2.out
  have x1 := lookedAt HW.out hu1 B1.out
  have y1 := lookedAt HW.out hu2 B2.out
  have f1 := HW.out.ints.free pivot
  have f2 := HW.out.ints.free a
  obtain ⟨z, hz⟩ := set_some (p := ⟨g, a, none⟩) (u := .int .i64 u1) x1
  obtain ⟨d1, hd1⟩ : ∃ d1, Hid (d1 = Sort.swp d a pivot) := ⟨_, rfl⟩
  have hs1 : Hid (d1.size = d.size) := by show _ = _; rw [hd1.out, size_swp]
  have HR1 : Hid (AllR R d1) := by show AllR R d1; rw [hd1.out]; exact AllR_swp HR.out B2.out B1.out
  have HW1 : Hid (SW w0 g d1 ((w.setCell ⟨g, a, none⟩ (.int .i64 u1)).setCell ⟨g, pivot, none⟩ (.int .i64 u2)).drew) := by
    have h := SW.swp HW.out a pivot
    rw [← hu1.out, ← hu2.out] at h
    show SW _ _ _ _
    rw [hd1.out]
    exact h.drew
  go_wp2_with fail
  go_region
  clear x1 y1 f1 f2 hz
  go_upto_block 0 with fail
  go_cut [12] (fun iv wr => ∃ x : Nat, iv = .int .i64 x ∧ a + 1 ≤ x ∧ x ≤ m + 1 ∧ Hid (scanUp (fun x => ltOf cf x d1[a]!) d1 m (a + 1) = x) ∧ Hid (SW w0 g d1 wr))
  case first =>
    go_wp2_with fail
    go_loopw [12] (fun iv wr => ∃ x : Nat, iv = .int .i64 x ∧ a + 1 ≤ x ∧ x ≤ m + 1 ∧ Hid (SW w0 g d1 wr) ∧ Hid (scanUp (fun x => ltOf cf x d1[a]!) d1 m x = scanUp (fun x => ltOf cf x d1[a]!) d1 m (a + 1))) (fun iv _ => m + 1 - (intOf iv).toNat)
    case atStart => exact ⟨(a + 1), by first | rfl | go_num, by omega, by omega, HW1, rfl⟩
    case round =>
      obtain ⟨x, rfl, hx1, hx2, HWx, HEx⟩ := hrel
      by_cases hlt : x ≤ m
      · have hg : decide ((x : Int) ≤ (m : Int)) = true := decide_eq_true (by omega)
        have HBx := hide (show x < d1.size by rw [hs1.out]; omega)
        have HBa := hide (show a < d1.size by rw [hs1.out]; omega)
        have hxd : x < d.size := by omega
        have had : a < d.size := by omega
        obtain ⟨vx, hvx, Rx, cx⟩ := look HWx HR1 _ HBx.out
        obtain ⟨vA, hvA, RA, cA⟩ := look HWx HR1 _ HBa.out
        have HA := ask HC HWx.out Rx RA
        cases hl : ltOf cf vx vA
        · have hn : ¬ cf vx vA < 0 := by simpa [ltOf] using hl
          have HL := hide hl
          clear hl
          go_wp2_with fail
          refine region_later (by kernel_rfl) (by kernel_rfl) ?_
          repeat (go_big_quiet_step ((exact Later.call (HA.out _))))
          refine wpQuiet_nil ?_
          rintro wq ⟨⟨_, hwq⟩, rfl⟩
          clear cx cA
          go_wp2_with fail
          go_meet
          exact ⟨x, rfl, hx1, hx2, hide (by rw [← HEx.out, scanUp_end _ _ _ _ (Or.inr (by show (ltOf cf d1[x]! d1[a]!) = false; rw [← hvx.out, ← hvA.out, HL.out]))]), hide (HWx.out.old hwq)⟩
        · have hn : cf vx vA < 0 := by simpa [ltOf] using hl
          have HL := hide hl
          clear hl
          go_wp2_with fail
          refine region_later (by kernel_rfl) (by kernel_rfl) ?_
          repeat (go_big_quiet_step ((exact Later.call (HA.out _))))
          refine wpQuiet_nil ?_
          rintro wq ⟨⟨_, hwq⟩, rfl⟩
          clear cx cA
          go_wp2_with fail
          go_roundw
          case rel => exact ⟨x + 1, by go_num, by omega, by omega, hide (HWx.out.old hwq), hide (by rw [← HEx.out, scanUp_go _ _ _ _ hlt (by show (ltOf cf d1[x]! d1[a]!) = true; rw [← hvx.out, ← hvA.out, HL.out])])⟩
          case measure => simp [intOf]; omega
      · have hg : decide ((x : Int) ≤ (m : Int)) = false := decide_eq_false (by omega)
        go_wp2_with fail
        refine region_later (by kernel_rfl) (by kernel_rfl) ?_
        repeat (go_big_quiet_step (fail))
        refine wpQuiet_nil ?_
        rintro wq ⟨⟨_, hwq⟩, rfl⟩
        go_wp2_with fail
        go_meet
        exact ⟨x, rfl, hx1, hx2, hide (by rw [← HEx.out, scanUp_end _ _ _ _ (Or.inl hlt)]), hide (HWx.out.old hwq)⟩
  case rest =>
    obtain ⟨i1, rfl, hi1, hi2, HI1, HW2⟩ := hcut
    go_upto_block 2 with fail
    go_cut [13] (fun iv wr => ∃ x : Nat, iv = .int .i64 x ∧ a ≤ x ∧ x ≤ m ∧ Hid (scanDown (fun x => !ltOf cf x d1[a]!) d1 i1 m = x) ∧ Hid (SW w0 g d1 wr))
    case first =>
      go_wp2_with fail
      go_loopw [13] (fun iv wr => ∃ x : Nat, iv = .int .i64 x ∧ a ≤ x ∧ x ≤ m ∧ Hid (SW w0 g d1 wr) ∧ Hid (scanDown (fun x => !ltOf cf x d1[a]!) d1 i1 x = scanDown (fun x => !ltOf cf x d1[a]!) d1 i1 m)) (fun iv _ => (intOf iv).toNat)
      case atStart => exact ⟨m, by first | rfl | go_num, by omega, by omega, HW2, rfl⟩
      case round =>
        obtain ⟨x, rfl, hx1, hx2, HWx, HEx⟩ := hrel
        by_cases hlt : i1 ≤ x
        · have hg : decide ((i1 : Int) ≤ (x : Int)) = true := decide_eq_true (by omega)
          have HBx := hide (show x < d1.size by rw [hs1.out]; omega)
          have HBa := hide (show a < d1.size by rw [hs1.out]; omega)
          have hxd : x < d.size := by omega
          have had : a < d.size := by omega
          obtain ⟨vx, hvx, Rx, cx⟩ := look HWx HR1 _ HBx.out
          obtain ⟨vA, hvA, RA, cA⟩ := look HWx HR1 _ HBa.out
          have HA := ask HC HWx.out Rx RA
          cases hl : ltOf cf vx vA
          · have hn : decide (cf vx vA < 0) = false := hl
            have HL := hide hl
            clear hl
            go_wp2_with fail
            refine region_later (by kernel_rfl) (by kernel_rfl) ?_
            repeat (go_big_quiet_step ((exact Later.call (HA.out _))))
            refine wpQuiet_nil ?_
            rintro wq ⟨⟨_, hwq⟩, rfl⟩
            clear cx cA
            go_wp2_with fail
            go_roundw
            case rel => exact ⟨x - 1, by congr 1; omega, by omega, by omega, hide (HWx.out.old hwq), hide (by rw [← HEx.out, scanDown_go _ _ _ _ hlt (by omega) (by show (!ltOf cf d1[x]! d1[a]!) = true; rw [← hvx.out, ← hvA.out, HL.out]; rfl)])⟩
            case measure => simp [intOf]; omega
          · have hn : decide (cf vx vA < 0) = true := hl
            have HL := hide hl
            clear hl
            go_wp2_with fail
            refine region_later (by kernel_rfl) (by kernel_rfl) ?_
            repeat (go_big_quiet_step ((exact Later.call (HA.out _))))
            refine wpQuiet_nil ?_
            rintro wq ⟨⟨_, hwq⟩, rfl⟩
            clear cx cA
            go_wp2_with fail
            go_meet
            exact ⟨x, rfl, hx1, hx2, hide (by rw [← HEx.out, scanDown_end _ _ _ _ (Or.inr (by show (!ltOf cf d1[x]! d1[a]!) = false; rw [← hvx.out, ← hvA.out, HL.out]; rfl))]), hide (HWx.out.old hwq)⟩
        · have hg : decide ((i1 : Int) ≤ (x : Int)) = false := decide_eq_false (by omega)
          go_wp2_with fail
          refine region_later (by kernel_rfl) (by kernel_rfl) ?_
          repeat (go_big_quiet_step (fail))
          refine wpQuiet_nil ?_
          rintro wq ⟨⟨_, hwq⟩, rfl⟩
          go_wp2_with fail
          go_meet
          exact ⟨x, rfl, hx1, hx2, hide (by rw [← HEx.out, scanDown_end _ _ _ _ (Or.inl hlt)]), hide (HWx.out.old hwq)⟩
    case rest =>
      obtain ⟨j1, rfl, hj1, hj2, HJ1, HW3⟩ := hcut
      by_cases hij : j1 < i1
      · have hg : decide ((i1 : Int) > (j1 : Int)) = true := decide_eq_true (by omega)
        have B1 := hide (show a < d1.size by rw [hs1.out]; omega)
        have B2 := hide (show j1 < d1.size by rw [hs1.out]; omega)
        have b1 : a < d.size := by omega
        have b2 : j1 < d.size := by omega
        obtain ⟨u1, hu1, _, _⟩ := look HW3 HR1 _ B1.out
        obtain ⟨u2, hu2, _, _⟩ := look HW3 HR1 _ B2.out
        have x1 := lookedAt HW3.out hu1 B1.out
        have y1 := lookedAt HW3.out hu2 B2.out
        have f1 := HW3.out.ints.free a
        have f2 := HW3.out.ints.free j1
        obtain ⟨z, hz⟩ := set_some (p := ⟨g, j1, none⟩) (u := .int .i64 u1) x1
        obtain ⟨d2, hd2⟩ : ∃ d2, Hid (d2 = Sort.swp d1 j1 a) := ⟨_, rfl⟩
        have hs2 : Hid (d2.size = d.size) := by show _ = _; rw [hd2.out, size_swp, hs1.out]
        have HR2 : Hid (AllR R d2) := by show AllR R d2; rw [hd2.out]; exact AllR_swp HR1.out B2.out B1.out
        have HW4 : Hid (SW w0 g d2 ((wc.setCell ⟨g, j1, none⟩ (.int .i64 u1)).setCell ⟨g, a, none⟩ (.int .i64 u2)).drew) := by
          have h := SW.swp HW3.out j1 a
          rw [← hu1.out, ← hu2.out] at h
          show SW _ _ _ _
          rw [hd2.out]
          exact h.drew
        go_wp2_with fail
        go_region
        clear x1 y1 f1 f2 hz
        go_wp2_with fail
        rw [partition_early hd1.out HI1.out HJ1.out hij, ← hd2.out]
        exact bodyPost_ret (v := .tuple #[.int .i64 (j1 : Nat), .bool true]) (by simp [results, Tryz.results110, go_sem]) rfl ⟨rfl, HW4.out⟩
      · have hg : decide ((i1 : Int) > (j1 : Int)) = false := decide_eq_false (by omega)
        have HM := hide (partition_late (lt := ltOf cf) hd1.out HI1.out HJ1.out hij)
        have B1 := hide (show j1 < d1.size by rw [hs1.out]; omega)
        have B2 := hide (show i1 < d1.size by rw [hs1.out]; omega)
        have b1 : j1 < d.size := by omega
        have b2 : i1 < d.size := by omega
        obtain ⟨u1, hu1, _, _⟩ := look HW3 HR1 _ B1.out
        obtain ⟨u2, hu2, _, _⟩ := look HW3 HR1 _ B2.out
        have x1 := lookedAt HW3.out hu1 B1.out
        have y1 := lookedAt HW3.out hu2 B2.out
        have f1 := HW3.out.ints.free j1
        have f2 := HW3.out.ints.free i1
        obtain ⟨z, hz⟩ := set_some (p := ⟨g, i1, none⟩) (u := .int .i64 u1) x1
        obtain ⟨d2, hd2⟩ : ∃ d2, Hid (d2 = Sort.swp d1 i1 j1) := ⟨_, rfl⟩
        have hs2 : Hid (d2.size = d.size) := by show _ = _; rw [hd2.out, size_swp, hs1.out]
        have HR2 : Hid (AllR R d2) := by show AllR R d2; rw [hd2.out]; exact AllR_swp HR1.out B2.out B1.out
        have HW4 : Hid (SW w0 g d2 ((wc.setCell ⟨g, i1, none⟩ (.int .i64 u1)).setCell ⟨g, j1, none⟩ (.int .i64 u2)).drew) := by
          have h := SW.swp HW3.out i1 j1
          rw [← hu1.out, ← hu2.out] at h
          show SW _ _ _ _
          rw [hd2.out]
          exact h.drew
        go_wp2_with fail
        go_region
        clear x1 y1 f1 f2 hz
        rw [← hd2.out] at HM
        go_wp2_with fail
        go_loopw [12, 13] (fun iv jv wr => ∃ (x y : Nat) (dk : Array Int), iv = .int .i64 x ∧ jv = .int .i64 y ∧ a < x ∧ x ≤ m + 1 ∧ a ≤ y ∧ y ≤ m ∧ Hid (dk.size = d.size) ∧ Hid (SW w0 g dk wr) ∧ Hid (AllR R dk) ∧ Hid (partLoop (ltOf cf) a x y dk = partLoop (ltOf cf) a (i1 + 1) (j1 - 1) d2)) (fun iv jv _ => (intOf jv).toNat + 1 - (intOf iv).toNat)
        case atStart => exact ⟨i1 + 1, j1 - 1, d2, by go_num, by congr 1; omega, by omega, by omega, by omega, by omega, hs2, HW4, HR2, rfl⟩
        case round =>
          obtain ⟨i3, j3, dk, rfl, rfl, hi3, hi4, hj3, hj4, hsk, HWk, HRk, HEk⟩ := hrel
          go_upto_block 6 with fail
          go_cut [12] (fun iv wr => ∃ x : Nat, iv = .int .i64 x ∧ i3 ≤ x ∧ x ≤ m + 1 ∧ Hid (scanUp (fun x => ltOf cf x dk[a]!) dk j3 i3 = x) ∧ Hid (SW w0 g dk wr))
          case first =>
            go_wp2_with fail
            go_loopw [12] (fun iv wr => ∃ x : Nat, iv = .int .i64 x ∧ i3 ≤ x ∧ x ≤ m + 1 ∧ Hid (SW w0 g dk wr) ∧ Hid (scanUp (fun x => ltOf cf x dk[a]!) dk j3 x = scanUp (fun x => ltOf cf x dk[a]!) dk j3 i3)) (fun iv _ => m + 1 - (intOf iv).toNat)
            case atStart => exact ⟨i3, by first | rfl | go_num, by omega, by omega, HWk, rfl⟩
            case round =>
              obtain ⟨x, rfl, hx1, hx2, HWx, HEx⟩ := hrel
              by_cases hlt : x ≤ j3
              · have hg : decide ((x : Int) ≤ (j3 : Int)) = true := decide_eq_true (by omega)
                have HBx := hide (show x < dk.size by rw [hsk.out]; omega)
                have HBa := hide (show a < dk.size by rw [hsk.out]; omega)
                have hxd : x < d.size := by omega
                have had : a < d.size := by omega
                obtain ⟨vx, hvx, Rx, cx⟩ := look HWx HRk _ HBx.out
                obtain ⟨vA, hvA, RA, cA⟩ := look HWx HRk _ HBa.out
                have HA := ask HC HWx.out Rx RA
                cases hl : ltOf cf vx vA
                · have hn : ¬ cf vx vA < 0 := by simpa [ltOf] using hl
                  have HL := hide hl
                  clear hl
                  go_wp2_with fail
                  refine region_later (by kernel_rfl) (by kernel_rfl) ?_
                  repeat (go_big_quiet_step ((exact Later.call (HA.out _))))
                  refine wpQuiet_nil ?_
                  rintro wq ⟨⟨_, hwq⟩, rfl⟩
                  clear cx cA
                  go_wp2_with fail
                  go_meet
                  exact ⟨x, rfl, hx1, hx2, hide (by rw [← HEx.out, scanUp_end _ _ _ _ (Or.inr (by show (ltOf cf dk[x]! dk[a]!) = false; rw [← hvx.out, ← hvA.out, HL.out]))]), hide (HWx.out.old hwq)⟩
                · have hn : cf vx vA < 0 := by simpa [ltOf] using hl
                  have HL := hide hl
                  clear hl
                  go_wp2_with fail
                  refine region_later (by kernel_rfl) (by kernel_rfl) ?_
                  repeat (go_big_quiet_step ((exact Later.call (HA.out _))))
                  refine wpQuiet_nil ?_
                  rintro wq ⟨⟨_, hwq⟩, rfl⟩
                  clear cx cA
                  go_wp2_with fail
                  go_roundw
                  case rel => exact ⟨x + 1, by go_num, by omega, by omega, hide (HWx.out.old hwq), hide (by rw [← HEx.out, scanUp_go _ _ _ _ hlt (by show (ltOf cf dk[x]! dk[a]!) = true; rw [← hvx.out, ← hvA.out, HL.out])])⟩
                  case measure => simp [intOf]; omega
              · have hg : decide ((x : Int) ≤ (j3 : Int)) = false := decide_eq_false (by omega)
                go_wp2_with fail
                refine region_later (by kernel_rfl) (by kernel_rfl) ?_
                repeat (go_big_quiet_step (fail))
                refine wpQuiet_nil ?_
                rintro wq ⟨⟨_, hwq⟩, rfl⟩
                go_wp2_with fail
                go_meet
                exact ⟨x, rfl, hx1, hx2, hide (by rw [← HEx.out, scanUp_end _ _ _ _ (Or.inl hlt)]), hide (HWx.out.old hwq)⟩
          case rest =>
            obtain ⟨i5, rfl, hi5, hi6, HI5, HW5⟩ := hcut
            go_upto_block 8 with fail
            go_cut [13] (fun iv wr => ∃ x : Nat, iv = .int .i64 x ∧ a ≤ x ∧ x ≤ j3 ∧ Hid (scanDown (fun x => !ltOf cf x dk[a]!) dk i5 j3 = x) ∧ Hid (SW w0 g dk wr))
            case first =>
              go_wp2_with fail
              go_loopw [13] (fun iv wr => ∃ x : Nat, iv = .int .i64 x ∧ a ≤ x ∧ x ≤ j3 ∧ Hid (SW w0 g dk wr) ∧ Hid (scanDown (fun x => !ltOf cf x dk[a]!) dk i5 x = scanDown (fun x => !ltOf cf x dk[a]!) dk i5 j3)) (fun iv _ => (intOf iv).toNat)
              case atStart => exact ⟨j3, by first | rfl | go_num, by omega, by omega, HW5, rfl⟩
              case round =>
                obtain ⟨x, rfl, hx1, hx2, HWx, HEx⟩ := hrel
                by_cases hlt : i5 ≤ x
                · have hg : decide ((i5 : Int) ≤ (x : Int)) = true := decide_eq_true (by omega)
                  have HBx := hide (show x < dk.size by rw [hsk.out]; omega)
                  have HBa := hide (show a < dk.size by rw [hsk.out]; omega)
                  have hxd : x < d.size := by omega
                  have had : a < d.size := by omega
                  obtain ⟨vx, hvx, Rx, cx⟩ := look HWx HRk _ HBx.out
                  obtain ⟨vA, hvA, RA, cA⟩ := look HWx HRk _ HBa.out
                  have HA := ask HC HWx.out Rx RA
                  cases hl : ltOf cf vx vA
                  · have hn : decide (cf vx vA < 0) = false := hl
                    have HL := hide hl
                    clear hl
                    go_wp2_with fail
                    refine region_later (by kernel_rfl) (by kernel_rfl) ?_
                    repeat (go_big_quiet_step ((exact Later.call (HA.out _))))
                    refine wpQuiet_nil ?_
                    rintro wq ⟨⟨_, hwq⟩, rfl⟩
                    clear cx cA
                    go_wp2_with fail
                    go_roundw
                    case rel => exact ⟨x - 1, by congr 1; omega, by omega, by omega, hide (HWx.out.old hwq), hide (by rw [← HEx.out, scanDown_go _ _ _ _ hlt (by omega) (by show (!ltOf cf dk[x]! dk[a]!) = true; rw [← hvx.out, ← hvA.out, HL.out]; rfl)])⟩
                    case measure => simp [intOf]; omega
                  · have hn : decide (cf vx vA < 0) = true := hl
                    have HL := hide hl
                    clear hl
                    go_wp2_with fail
                    refine region_later (by kernel_rfl) (by kernel_rfl) ?_
                    repeat (go_big_quiet_step ((exact Later.call (HA.out _))))
                    refine wpQuiet_nil ?_
                    rintro wq ⟨⟨_, hwq⟩, rfl⟩
                    clear cx cA
                    go_wp2_with fail
                    go_meet
                    exact ⟨x, rfl, hx1, hx2, hide (by rw [← HEx.out, scanDown_end _ _ _ _ (Or.inr (by show (!ltOf cf dk[x]! dk[a]!) = false; rw [← hvx.out, ← hvA.out, HL.out]; rfl))]), hide (HWx.out.old hwq)⟩
                · have hg : decide ((i5 : Int) ≤ (x : Int)) = false := decide_eq_false (by omega)
                  go_wp2_with fail
                  refine region_later (by kernel_rfl) (by kernel_rfl) ?_
                  repeat (go_big_quiet_step (fail))
                  refine wpQuiet_nil ?_
                  rintro wq ⟨⟨_, hwq⟩, rfl⟩
                  go_wp2_with fail
                  go_meet
                  exact ⟨x, rfl, hx1, hx2, hide (by rw [← HEx.out, scanDown_end _ _ _ _ (Or.inl hlt)]), hide (HWx.out.old hwq)⟩
            case rest =>
              obtain ⟨j5, rfl, hj5, hj6, HJ5, HW6⟩ := hcut
              by_cases hij2 : j5 < i5
              · have hg2 : decide ((i5 : Int) > (j5 : Int)) = true := decide_eq_true (by omega)
                have B1 := hide (show a < dk.size by rw [hsk.out]; omega)
                have B2 := hide (show j5 < dk.size by rw [hsk.out]; omega)
                have b1 : a < d.size := by omega
                have b2 : j5 < d.size := by omega
                obtain ⟨u1, hu1, _, _⟩ := look HW6 HRk _ B1.out
                obtain ⟨u2, hu2, _, _⟩ := look HW6 HRk _ B2.out
                have x1 := lookedAt HW6.out hu1 B1.out
                have y1 := lookedAt HW6.out hu2 B2.out
                have f1 := HW6.out.ints.free a
                have f2 := HW6.out.ints.free j5
                obtain ⟨z, hz⟩ := set_some (p := ⟨g, j5, none⟩) (u := .int .i64 u1) x1
                obtain ⟨d3, hd3⟩ : ∃ d3, Hid (d3 = Sort.swp dk j5 a) := ⟨_, rfl⟩
                have hs3 : Hid (d3.size = d.size) := by show _ = _; rw [hd3.out, size_swp, hsk.out]
                have HR3 : Hid (AllR R d3) := by show AllR R d3; rw [hd3.out]; exact AllR_swp HRk.out B2.out B1.out
                have HW7 : Hid (SW w0 g d3 ((wc.setCell ⟨g, j5, none⟩ (.int .i64 u1)).setCell ⟨g, a, none⟩ (.int .i64 u2)).drew) := by
                  have h := SW.swp HW6.out j5 a
                  rw [← hu1.out, ← hu2.out] at h
                  show SW _ _ _ _
                  rw [hd3.out]
                  exact h.drew
                go_wp2_with fail
                go_region
                clear x1 y1 f1 f2 hz
                go_wp2_with fail
                rw [HM.out, ← HEk.out, part_break HI5.out HJ5.out hij2, ← hd3.out]
                exact bodyPost_ret (v := .tuple #[.int .i64 (j5 : Nat), .bool false]) (by simp [results, Tryz.results110, go_sem]) rfl ⟨rfl, HW7.out⟩
              · have hg2 : decide ((i5 : Int) > (j5 : Int)) = false := decide_eq_false (by omega)
                have B1 := hide (show j5 < dk.size by rw [hsk.out]; omega)
                have B2 := hide (show i5 < dk.size by rw [hsk.out]; omega)
                have b1 : j5 < d.size := by omega
                have b2 : i5 < d.size := by omega
                obtain ⟨u1, hu1, _, _⟩ := look HW6 HRk _ B1.out
                obtain ⟨u2, hu2, _, _⟩ := look HW6 HRk _ B2.out
                have x1 := lookedAt HW6.out hu1 B1.out
                have y1 := lookedAt HW6.out hu2 B2.out
                have f1 := HW6.out.ints.free j5
                have f2 := HW6.out.ints.free i5
                obtain ⟨z, hz⟩ := set_some (p := ⟨g, i5, none⟩) (u := .int .i64 u1) x1
                obtain ⟨d3, hd3⟩ : ∃ d3, Hid (d3 = Sort.swp dk i5 j5) := ⟨_, rfl⟩
                have hs3 : Hid (d3.size = d.size) := by show _ = _; rw [hd3.out, size_swp, hsk.out]
                have HR3 : Hid (AllR R d3) := by show AllR R d3; rw [hd3.out]; exact AllR_swp HRk.out B2.out B1.out
                have HW7 : Hid (SW w0 g d3 ((wc.setCell ⟨g, i5, none⟩ (.int .i64 u1)).setCell ⟨g, j5, none⟩ (.int .i64 u2)).drew) := by
                  have h := SW.swp HW6.out i5 j5
                  rw [← hu1.out, ← hu2.out] at h
                  show SW _ _ _ _
                  rw [hd3.out]
                  exact h.drew
                go_wp2_with fail
                go_region
                clear x1 y1 f1 f2 hz
                go_wp2_with fail
                go_roundw
                case rel => exact ⟨i5 + 1, j5 - 1, d3, by go_num, by congr 1; omega, by omega, by omega, by omega, by omega, hs3, HW7, HR3, hide (by rw [← HEk.out, part_go (lt := ltOf cf) HI5.out HJ5.out hij2, hd3.out])⟩
                case measure => simp [intOf]; omega

set_option maxRecDepth 100000 in
set_option maxHeartbeats 8000000 in
theorem partitionEqual_run (w0 : World) (g cap f : Nat) (rv : Value) (R : Int → Prop) (cf : Int → Int → Int) (hf : ∀ args w, (callFunc f args).run Tryz.prog w = .ok (.enter f args) w) (hc : CmpOk w0 g f #[rv] #[] R cf)
    (d : Array Int) (a m pivot : Nat) (w : World) (hw : SW w0 g d w) (hR : AllR R d) (hap : a ≤ pivot) (hpe : pivot ≤ m) (he : m + 1 ≤ d.size) (hsz : d.size < 1152921504606846976) :
    Calls Tryz.prog 109 #[.slice (some ⟨g, 0, none⟩) d.size cap, .int .i64 a, .int .i64 ((m : Int) + 1), .int .i64 pivot, .func (.func f) #[rv] #[]] w fun e w' =>
      e = .returned (.int .i64 ((partitionEqual (ltOf cf) d a (m + 1) pivot).1 : Nat)) ∧ SW w0 g (partitionEqual (ltOf cf) d a (m + 1) pivot).2 w' := by
  have HC := Lib.hid hc
  have HW := Lib.hid hw
  have HR := Lib.hid hR
  clear hc hw hR
  go_enter Tryz.func109, Tryz.ntmps109
  have B1 := hide (show pivot < d.size by omega)
  have B2 := hide (show a < d.size by omega)
  have b1 : pivot < d.size := by omega
  have b2 : a < d.size := by omega
  obtain ⟨u1, hu1, _, _⟩ := look HW HR _ B1.out
  obtain ⟨u2, hu2, _, _⟩ := look HW HR _ B2.out
  have x1 := lookedAt HW.out hu1 B1.out
  have y1 := lookedAt HW.out hu2 B2.out
  have f1 := HW.out.ints.free pivot
  have f2 := HW.out.ints.free a
  obtain ⟨z, hz⟩ := set_some (p := ⟨g, a, none⟩) (u := .int .i64 u1) x1
  obtain ⟨d1, hd1⟩ : ∃ d1, Hid (d1 = Sort.swp d a pivot) := ⟨_, rfl⟩
  have hs1 : Hid (d1.size = d.size) := by show _ = _; rw [hd1.out, size_swp]
  have HR1 : Hid (AllR R d1) := by show AllR R d1; rw [hd1.out]; exact AllR_swp HR.out B2.out B1.out
  have HW1 : Hid (SW w0 g d1 ((w.setCell ⟨g, a, none⟩ (.int .i64 u1)).setCell ⟨g, pivot, none⟩ (.int .i64 u2)).drew) := by
    have h := SW.swp HW.out a pivot
    rw [← hu1.out, ← hu2.out] at h
    show SW _ _ _ _
    rw [hd1.out]
    exact h.drew
  go_wp2_with fail
  go_region
  clear x1 y1 f1 f2 hz
  go_wp2_with fail
  go_loopw [11, 12] (fun iv jv wr => ∃ (x y : Nat) (dk : Array Int), iv = .int .i64 x ∧ jv = .int .i64 y ∧ a < x ∧ x ≤ m + 1 ∧ a ≤ y ∧ y ≤ m ∧ Hid (dk.size = d.size) ∧ Hid (SW w0 g dk wr) ∧ Hid (AllR R dk) ∧ Hid (partEqLoop (ltOf cf) a x y dk = partEqLoop (ltOf cf) a (a + 1) m d1)) (fun iv jv _ => (intOf jv).toNat + 1 - (intOf iv).toNat)
  case atStart => exact ⟨a + 1, m, d1, by go_num, by first | (congr 1; omega) | (congr 1), by omega, by omega, by omega, by omega, hs1, HW1, HR1, rfl⟩
  case round =>
    obtain ⟨i3, j3, dk, rfl, rfl, hi3, hi4, hj3, hj4, hsk, HWk, HRk, HEk⟩ := hrel
    go_upto_block 2 with fail
    go_cut [11] (fun iv wr => ∃ x : Nat, iv = .int .i64 x ∧ i3 ≤ x ∧ x ≤ m + 1 ∧ Hid (scanUp (fun x => !ltOf cf dk[a]! x) dk j3 i3 = x) ∧ Hid (SW w0 g dk wr))
    case first =>
      go_wp2_with fail
      go_loopw [11] (fun iv wr => ∃ x : Nat, iv = .int .i64 x ∧ i3 ≤ x ∧ x ≤ m + 1 ∧ Hid (SW w0 g dk wr) ∧ Hid (scanUp (fun x => !ltOf cf dk[a]! x) dk j3 x = scanUp (fun x => !ltOf cf dk[a]! x) dk j3 i3)) (fun iv _ => m + 1 - (intOf iv).toNat)
      case atStart => exact ⟨i3, by first | rfl | go_num, by omega, by omega, HWk, rfl⟩
      case round =>
        obtain ⟨x, rfl, hx1, hx2, HWx, HEx⟩ := hrel
        by_cases hlt : x ≤ j3
        · have hg : decide ((x : Int) ≤ (j3 : Int)) = true := decide_eq_true (by omega)
          have HBx := hide (show x < dk.size by rw [hsk.out]; omega)
          have HBa := hide (show a < dk.size by rw [hsk.out]; omega)
          have hxd : x < d.size := by omega
          have had : a < d.size := by omega
          obtain ⟨vx, hvx, Rx, cx⟩ := look HWx HRk _ HBx.out
          obtain ⟨vA, hvA, RA, cA⟩ := look HWx HRk _ HBa.out
          have HA := ask HC HWx.out RA Rx
          cases hl : ltOf cf vA vx
          · have hn : decide (cf vA vx < 0) = false := hl
            have HL := hide hl
            clear hl
            go_wp2_with fail
            refine region_later (by kernel_rfl) (by kernel_rfl) ?_
            repeat (go_big_quiet_step ((exact Later.call (HA.out _))))
            refine wpQuiet_nil ?_
            rintro wq ⟨⟨_, hwq⟩, rfl⟩
            clear cx cA
            go_wp2_with fail
            go_roundw
            case rel => exact ⟨x + 1, by go_num, by omega, by omega, hide (HWx.out.old hwq), hide (by rw [← HEx.out, scanUp_go _ _ _ _ hlt (by show (!ltOf cf dk[a]! dk[x]!) = true; rw [← hvx.out, ← hvA.out, HL.out]; rfl)])⟩
            case measure => simp [intOf]; omega
          · have hn : decide (cf vA vx < 0) = true := hl
            have HL := hide hl
            clear hl
            go_wp2_with fail
            refine region_later (by kernel_rfl) (by kernel_rfl) ?_
            repeat (go_big_quiet_step ((exact Later.call (HA.out _))))
            refine wpQuiet_nil ?_
            rintro wq ⟨⟨_, hwq⟩, rfl⟩
            clear cx cA
            go_wp2_with fail
            go_meet
            exact ⟨x, rfl, hx1, hx2, hide (by rw [← HEx.out, scanUp_end _ _ _ _ (Or.inr (by show (!ltOf cf dk[a]! dk[x]!) = false; rw [← hvx.out, ← hvA.out, HL.out]; rfl))]), hide (HWx.out.old hwq)⟩
        · have hg : decide ((x : Int) ≤ (j3 : Int)) = false := decide_eq_false (by omega)
          go_wp2_with fail
          refine region_later (by kernel_rfl) (by kernel_rfl) ?_
          repeat (go_big_quiet_step (fail))
          refine wpQuiet_nil ?_
          rintro wq ⟨⟨_, hwq⟩, rfl⟩
          go_wp2_with fail
          go_meet
          exact ⟨x, rfl, hx1, hx2, hide (by rw [← HEx.out, scanUp_end _ _ _ _ (Or.inl hlt)]), hide (HWx.out.old hwq)⟩
    case rest =>
      obtain ⟨i5, rfl, hi5, hi6, HI5, HW5⟩ := hcut
      go_upto_block 4 with fail
      go_cut [12] (fun iv wr => ∃ x : Nat, iv = .int .i64 x ∧ a ≤ x ∧ x ≤ j3 ∧ Hid (scanDown (fun x => ltOf cf dk[a]! x) dk i5 j3 = x) ∧ Hid (SW w0 g dk wr))
      case first =>
        go_wp2_with fail
        go_loopw [12] (fun iv wr => ∃ x : Nat, iv = .int .i64 x ∧ a ≤ x ∧ x ≤ j3 ∧ Hid (SW w0 g dk wr) ∧ Hid (scanDown (fun x => ltOf cf dk[a]! x) dk i5 x = scanDown (fun x => ltOf cf dk[a]! x) dk i5 j3)) (fun iv _ => (intOf iv).toNat)
        case atStart => exact ⟨j3, by first | rfl | go_num, by omega, by omega, HW5, rfl⟩
        case round =>
          obtain ⟨x, rfl, hx1, hx2, HWx, HEx⟩ := hrel
          by_cases hlt : i5 ≤ x
          · have hg : decide ((i5 : Int) ≤ (x : Int)) = true := decide_eq_true (by omega)
            have HBx := hide (show x < dk.size by rw [hsk.out]; omega)
            have HBa := hide (show a < dk.size by rw [hsk.out]; omega)
            have hxd : x < d.size := by omega
            have had : a < d.size := by omega
            obtain ⟨vx, hvx, Rx, cx⟩ := look HWx HRk _ HBx.out
            obtain ⟨vA, hvA, RA, cA⟩ := look HWx HRk _ HBa.out
            have HA := ask HC HWx.out RA Rx
            cases hl : ltOf cf vA vx
            · have hn : ¬ cf vA vx < 0 := by simpa [ltOf] using hl
              have HL := hide hl
              clear hl
              go_wp2_with fail
              refine region_later (by kernel_rfl) (by kernel_rfl) ?_
              repeat (go_big_quiet_step ((exact Later.call (HA.out _))))
              refine wpQuiet_nil ?_
              rintro wq ⟨⟨_, hwq⟩, rfl⟩
              clear cx cA
              go_wp2_with fail
              go_meet
              exact ⟨x, rfl, hx1, hx2, hide (by rw [← HEx.out, scanDown_end _ _ _ _ (Or.inr (by show (ltOf cf dk[a]! dk[x]!) = false; rw [← hvx.out, ← hvA.out, HL.out]))]), hide (HWx.out.old hwq)⟩
            · have hn : cf vA vx < 0 := by simpa [ltOf] using hl
              have HL := hide hl
              clear hl
              go_wp2_with fail
              refine region_later (by kernel_rfl) (by kernel_rfl) ?_
              repeat (go_big_quiet_step ((exact Later.call (HA.out _))))
              refine wpQuiet_nil ?_
              rintro wq ⟨⟨_, hwq⟩, rfl⟩
              clear cx cA
              go_wp2_with fail
              go_roundw
              case rel => exact ⟨x - 1, by congr 1; omega, by omega, by omega, hide (HWx.out.old hwq), hide (by rw [← HEx.out, scanDown_go _ _ _ _ hlt (by omega) (by show (ltOf cf dk[a]! dk[x]!) = true; rw [← hvx.out, ← hvA.out, HL.out])])⟩
              case measure => simp [intOf]; omega
          · have hg : decide ((i5 : Int) ≤ (x : Int)) = false := decide_eq_false (by omega)
            go_wp2_with fail
            refine region_later (by kernel_rfl) (by kernel_rfl) ?_
            repeat (go_big_quiet_step (fail))
            refine wpQuiet_nil ?_
            rintro wq ⟨⟨_, hwq⟩, rfl⟩
            go_wp2_with fail
            go_meet
            exact ⟨x, rfl, hx1, hx2, hide (by rw [← HEx.out, scanDown_end _ _ _ _ (Or.inl hlt)]), hide (HWx.out.old hwq)⟩
      case rest =>
        obtain ⟨j5, rfl, hj5, hj6, HJ5, HW6⟩ := hcut
        by_cases hij2 : j5 < i5
        · have hg2 : decide ((i5 : Int) > (j5 : Int)) = true := decide_eq_true (by omega)
          go_wp2_with fail
          rw [partitionEqual_eq hd1.out, ← HEk.out, partEq_break (ltOf cf) a i3 j3 dk HI5.out.symm HJ5.out.symm hij2]
          exact bodyPost_ret (v := .int .i64 (i5 : Nat)) (by simp [results, Tryz.results109, go_sem]) rfl ⟨rfl, HW6.out⟩
        · have hg2 : decide ((i5 : Int) > (j5 : Int)) = false := decide_eq_false (by omega)
          have B1 := hide (show j5 < dk.size by rw [hsk.out]; omega)
          have B2 := hide (show i5 < dk.size by rw [hsk.out]; omega)
          have b1 : j5 < d.size := by omega
          have b2 : i5 < d.size := by omega
          obtain ⟨u1, hu1, _, _⟩ := look HW6 HRk _ B1.out
          obtain ⟨u2, hu2, _, _⟩ := look HW6 HRk _ B2.out
          have x1 := lookedAt HW6.out hu1 B1.out
          have y1 := lookedAt HW6.out hu2 B2.out
          have f1 := HW6.out.ints.free j5
          have f2 := HW6.out.ints.free i5
          obtain ⟨z, hz⟩ := set_some (p := ⟨g, i5, none⟩) (u := .int .i64 u1) x1
          obtain ⟨d3, hd3⟩ : ∃ d3, Hid (d3 = Sort.swp dk i5 j5) := ⟨_, rfl⟩
          have hs3 : Hid (d3.size = d.size) := by show _ = _; rw [hd3.out, size_swp, hsk.out]
          have HR3 : Hid (AllR R d3) := by show AllR R d3; rw [hd3.out]; exact AllR_swp HRk.out B2.out B1.out
          have HW7 : Hid (SW w0 g d3 ((wc.setCell ⟨g, i5, none⟩ (.int .i64 u1)).setCell ⟨g, j5, none⟩ (.int .i64 u2)).drew) := by
            have h := SW.swp HW6.out i5 j5
            rw [← hu1.out, ← hu2.out] at h
            show SW _ _ _ _
            rw [hd3.out]
            exact h.drew
          go_wp2_with fail
          go_region
          clear x1 y1 f1 f2 hz
          go_wp2_with fail
          go_roundw
          case rel => exact ⟨i5 + 1, j5 - 1, d3, by go_num, by congr 1; omega, by omega, by omega, by omega, by omega, hs3, HW7, HR3, hide (by rw [← HEk.out, partEq_go (ltOf cf) a i3 j3 dk HI5.out.symm HJ5.out.symm (by omega), hd3.out])⟩
          case measure => simp [intOf]; omega
end Go.Proofs.YtmfbblcipakaiaaGreatDoor

