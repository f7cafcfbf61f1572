/- partialInsertionSort of slices.SortFunc (printed by gen_pins.py) -/
import Derived.Test.YtmfbblcipakaiaaGreatDoorPart
import Derived.Sort.LotA
namespace Go.Proofs.YtmfbblcipakaiaaGreatDoor
open Go.RowKit Go.Sort

section
variable {lt : Int → Int → Bool} {a b n i k : Nat} {d : Array Int}
theorem scanSorted_go (h : i < b) (hl : lt d[i]! d[i - 1]! = false) : scanSorted lt d b i = scanSorted lt d b (i + 1) := by
  rw [scanSorted, if_pos (by simp [h, hl])]
theorem scanSorted_end (h : ¬ i < b ∨ lt d[i]! d[i - 1]! = true) : scanSorted lt d b i = i := by
  rw [scanSorted, if_neg (by rcases h with h | h <;> simp [h])]
theorem shiftDown_go (hl : lt d[i + 1]! d[i]! = true) : shiftDown lt (i + 1) d = shiftDown lt i (Sort.swp d (i + 1) i) := by
  rw [shiftDown, if_neg (by simp [hl])]
theorem shiftDown_end (hl : lt d[i + 1]! d[i]! = false) : shiftDown lt (i + 1) d = d := by
  rw [shiftDown, if_pos (by simp [hl])]
theorem shiftUp_go (h : i + 1 < b) (hl : lt d[i + 1]! d[i]! = true) : shiftUp lt b (i + 1) d = shiftUp lt b (i + 1 + 1) (Sort.swp d (i + 1) i) := by
  rw [shiftUp, if_pos h, if_neg (by simp [hl])]; rfl
theorem shiftUp_end (h : ¬ i + 1 < b ∨ lt d[i + 1]! d[i]! = false) : shiftUp lt b (i + 1) d = d := by
  rw [shiftUp]
  rcases h with h | h
  · rw [if_neg h]
  · split
    · rw [if_pos (by simp [h])]
    · rfl
theorem pins_true (hn : n < 5) (hk : scanSorted lt d b i = b) : partialIns lt a b (5 - n) i d = (d, true) := by
  rw [show 5 - n = (4 - n) + 1 by omega, partialIns_succ, if_pos hk]
theorem pins_false (hn : n < 5) (hk : scanSorted lt d b i = k) (h1 : ¬ k = b) (h2 : b - a < 50) : partialIns lt a b (5 - n) i d = (d, false) := by
  rw [show 5 - n = (4 - n) + 1 by omega, partialIns_succ, hk, if_neg h1, if_pos h2]
theorem pins_go (hn : n < 5) (hk : scanSorted lt d b i = k + 1) (h1 : ¬ k + 1 = b) (h2 : ¬ b - a < 50) : partialIns lt a b (5 - n) i d = partialIns lt a b (5 - (n + 1)) (k + 1) (fixUp lt b (k + 1) (fixDown lt a (k + 1) (Sort.swp d (k + 1) k))) := by
  rw [show 5 - n = (4 - n) + 1 by omega, partialIns_succ, hk, if_neg h1, if_neg h2, show 5 - (n + 1) = 4 - n by omega]; rfl
theorem fixDown_go (h : k + 1 - a ≥ 2) : fixDown lt a (k + 1) d = shiftDown lt k d := by rw [fixDown, if_pos h]; rfl
theorem fixDown_no (h : ¬ k + 1 - a ≥ 2) : fixDown lt a (k + 1) d = d := by rw [fixDown, if_neg h]
theorem fixUp_go (h : b - (k + 1) ≥ 2) : fixUp lt b (k + 1) d = shiftUp lt b (k + 1 + 1) d := by rw [fixUp, if_pos h]
theorem fixUp_no (h : ¬ b - (k + 1) ≥ 2) : fixUp lt b (k + 1) d = d := by rw [fixUp, if_neg h]
end

set_option maxRecDepth 100000 in
set_option maxHeartbeats 8000000 in
theorem partialInsertionSort_run (w0 : World) (g cap f : Nat) (rv : Value) (R : Int → Prop) (cf : Int → Int → Int) (hf : ∀ args w, (callFunc f args).run Tryz.prog w = .ok (.enter f args) w) (hc : CmpOk w0 g f #[rv] #[] R cf)
    (d : Array Int) (a b : Nat) (w : World) (hw : SW w0 g d w) (hR : AllR R d) (hab : a < b) (hb : b ≤ d.size) (hsz : d.size < 1152921504606846976) :
    Calls Tryz.prog 108 #[.slice (some ⟨g, 0, none⟩) d.size cap, .int .i64 a, .int .i64 b, .func (.func f) #[rv] #[]] w fun e w' =>
      e = .returned (.bool (partialInsertionSort (ltOf cf) d a b).2) ∧ SW w0 g (partialInsertionSort (ltOf cf) d a b).1 w' := by
  have HC := Lib.hid hc
  have HW := Lib.hid hw
  have HR := Lib.hid hR
  clear hc hw hR
  go_enter Tryz.func108, Tryz.ntmps108
  go_wp2_with fail
  go_loopw [9, 10] (fun iv nv wr => ∃ (i n : Nat) (dk : Array Int), iv = .int .i64 ((i : Int) + 1) ∧ nv = .int .i64 n ∧ a ≤ i ∧ i + 1 ≤ b ∧ n ≤ 5 ∧ Hid (dk.size = d.size) ∧ Hid (SW w0 g dk wr) ∧ Hid (AllR R dk) ∧ Hid (partialIns (ltOf cf) a b (5 - n) (i + 1) dk = partialIns (ltOf cf) a b 5 (a + 1) d)) (fun _ nv _ => 5 - (intOf nv).toNat)
  case atStart => exact ⟨a, 0, d, rfl, rfl, Nat.le_refl _, by omega, by omega, rfl, HW, HR, rfl⟩
  case round =>
    obtain ⟨i, n, dk, rfl, rfl, hai, hib, hn5, hsk, HWk, HRk, HEk⟩ := hrel
    by_cases hn : n < 5
    · have hng : decide ((n : Int) < 5) = true := decide_eq_true (by omega)
      go_upto_block 2 with fail
      go_cut [9] (fun iv wr => ∃ k : Nat, iv = .int .i64 ((k : Int) + 1) ∧ i ≤ k ∧ k + 1 ≤ b ∧ Hid (scanSorted (ltOf cf) dk b (i + 1) = k + 1) ∧ Hid (SW w0 g dk wr))
      case first =>
        go_wp2_with fail
        go_loopw [9] (fun iv wr => ∃ x : Nat, iv = .int .i64 ((x : Int) + 1) ∧ i ≤ x ∧ x + 1 ≤ b ∧ Hid (SW w0 g dk wr) ∧ Hid (scanSorted (ltOf cf) dk b (x + 1) = scanSorted (ltOf cf) dk b (i + 1))) (fun iv _ => b - (intOf iv).toNat)
        case atStart => exact ⟨i, rfl, Nat.le_refl _, by omega, HWk, rfl⟩
        case round =>
          obtain ⟨x, rfl, hx1, hx2, HWx, HEx⟩ := hrel
          by_cases hlt : x + 1 < b
          · have hg : decide ((x : Int) + 1 < (b : Int)) = true := decide_eq_true (by omega)
            have B1 := hide (show x + 1 < dk.size by rw [hsk.out]; omega)
            have B2 := hide (show x < dk.size by rw [hsk.out]; omega)
            have b1 : x + 1 < d.size := by omega
            have b2 : x < d.size := by omega
            obtain ⟨vx, hvx, Rx, cx⟩ := look HWx HRk _ B1.out
            obtain ⟨vy, hvy, Ry, cy⟩ := look HWx HRk _ B2.out
            have HA := ask HC HWx.out Rx Ry
            cases hl : ltOf cf vx vy
            · have hng2 : decide (cf vx vy < 0) = false := hl
              have HL := hide hl
              clear hl
              go_wp2_with fail
              refine region_later (by kernel_rfl) (by kernel_rfl) ?_
              repeat (go_big_quiet_step ((exact Later.call (HA.out _))))
              refine wpQuiet_nil ?_
              rintro wq ⟨⟨_, hwq⟩, rfl⟩
              clear cx cy
              go_wp2_with fail
              go_roundw
              case rel => exact ⟨x + 1, by go_num, by omega, by omega, hide (HWx.out.old hwq), hide (by rw [← HEx.out, scanSorted_go (i := x + 1) hlt (by rw [Nat.add_sub_cancel, ← hvx.out, ← hvy.out]; exact HL.out)])⟩
              case measure => simp [intOf]; omega
            · have hng2 : decide (cf vx vy < 0) = true := hl
              have HL := hide hl
              clear hl
              go_wp2_with fail
              refine region_later (by kernel_rfl) (by kernel_rfl) ?_
              repeat (go_big_quiet_step ((exact Later.call (HA.out _))))
              refine wpQuiet_nil ?_
              rintro wq ⟨⟨_, hwq⟩, rfl⟩
              clear cx cy
              go_wp2_with fail
              go_meet
              exact ⟨x, rfl, hx1, hx2, hide (by rw [← HEx.out, scanSorted_end (i := x + 1) (Or.inr (by rw [Nat.add_sub_cancel, ← hvx.out, ← hvy.out]; exact HL.out))]), hide (HWx.out.old hwq)⟩
          · have hg : decide ((x : Int) + 1 < (b : Int)) = false := decide_eq_false (by omega)
            go_wp2_with fail
            refine region_later (by kernel_rfl) (by kernel_rfl) ?_
            repeat (go_big_quiet_step (fail))
            refine wpQuiet_nil ?_
            rintro wq ⟨⟨_, hwq⟩, rfl⟩
            go_wp2_with fail
            go_meet
            exact ⟨x, rfl, hx1, hx2, hide (by rw [← HEx.out, scanSorted_end (i := x + 1) (Or.inl hlt)]), hide (HWx.out.old hwq)⟩
      case rest =>
        obtain ⟨k, rfl, hk1, hk2, HK, HW2⟩ := hcut
        by_cases hkb : k + 1 = b
        · have hg2 : ((k : Int) + 1 == (b : Int)) = true := by simp; omega
          have hg3 : (k : Int) + 1 = (b : Int) := by omega
          go_wp2_with fail
          rw [partialInsertionSort, ← HEk.out, pins_true hn (HK.out.trans hkb)]
          exact bodyPost_ret (v := .bool true) (by simp [results, Tryz.results108, go_sem]) rfl ⟨rfl, HW2.out⟩
        · have hg3 : ¬ (k : Int) + 1 = (b : Int) := by omega
          by_cases h50 : b - a < 50
          · have hg4 : decide ((b : Int) - (a : Int) < 50) = true := decide_eq_true (by omega)
            have hg5 : (b : Int) - (a : Int) < 50 := by omega
            go_wp2_with fail
            rw [partialInsertionSort, ← HEk.out, pins_false hn HK.out hkb h50]
            exact bodyPost_ret (v := .bool false) (by simp [results, Tryz.results108, go_sem]) rfl ⟨rfl, HW2.out⟩
          · have hg4 : decide ((b : Int) - (a : Int) < 50) = false := decide_eq_false (by omega)
            have hg5 : ¬ (b : Int) - (a : Int) < 50 := by omega
            have B1 := hide (show k < dk.size by rw [hsk.out]; omega)
            have B2 := hide (show (k + 1) < dk.size by rw [hsk.out]; omega)
            have b1 : k < d.size := by omega
            have b2 : (k + 1) < d.size := by omega
            obtain ⟨u1, hu1, _, _⟩ := look HW2 HRk _ B1.out
            obtain ⟨u2, hu2, _, _⟩ := look HW2 HRk _ B2.out
            have x1 := lookedAt HW2.out hu1 B1.out
            have y1 := lookedAt HW2.out hu2 B2.out
            have f1 := HW2.out.ints.free k
            have f2 := HW2.out.ints.free (k + 1)
            obtain ⟨z, hz⟩ := set_some (p := ⟨g, (k + 1), none⟩) (u := .int .i64 u1) x1
            obtain ⟨d2, hd2⟩ : ∃ d2, Hid (d2 = Sort.swp dk (k + 1) k) := ⟨_, rfl⟩
            have hs2 : Hid (d2.size = d.size) := by show _ = _; rw [hd2.out, size_swp, hsk.out]
            have HR2 : Hid (AllR R d2) := by show AllR R d2; rw [hd2.out]; exact AllR_swp HRk.out B2.out B1.out
            have HW3 : Hid (SW w0 g d2 ((wc.setCell ⟨g, (k + 1), none⟩ (.int .i64 u1)).setCell ⟨g, k, none⟩ (.int .i64 u2)).drew) := by
              have h := SW.swp HW2.out (k + 1) k
              rw [← hu1.out, ← hu2.out] at h
              show SW _ _ _ _
              rw [hd2.out]
              exact h.drew
            go_wp2_with fail
            go_region
            clear x1 y1 f1 f2 hz
            go_upto_if 65 with fail
            obtain ⟨d3, hd3⟩ : ∃ d3, Hid (d3 = fixDown (ltOf cf) a (k + 1) d2) := ⟨_, rfl⟩
            go_cut [] (fun wr => Hid (SW w0 g d3 wr) ∧ Hid (AllR R d3) ∧ Hid (d3.size = d.size))
            case first =>
              by_cases h2 : k + 1 - a ≥ 2
              · have hg6 : (2 : Int) ≤ (k : Int) + 1 - (a : Int) := by omega
                go_wp2_with fail
                go_loopw [11] (fun jv wr => ∃ (j : Nat) (dj : Array Int), jv = .int .i64 j ∧ j ≤ k ∧ Hid (dj.size = d.size) ∧ Hid (SW w0 g dj wr) ∧ Hid (AllR R dj) ∧ Hid (shiftDown (ltOf cf) j dj = shiftDown (ltOf cf) k d2)) (fun jv _ => (intOf jv).toNat)
                case atStart => exact ⟨k, d2, by go_num, Nat.le_refl _, hs2, HW3, HR2, rfl⟩
                case round =>
                  obtain ⟨j, dj, rfl, hjk, hsj, HWj, HRj, HEj⟩ := hrel
                  rcases Nat.eq_zero_or_pos j with hj0 | hj0
                  · subst hj0
                    go_wp2_with fail
                    go_meet
                    have e3 : d3 = dj := by rw [hd3.out, fixDown_go h2, ← HEj.out]; rfl
                    rw [e3]
                    exact ⟨HWj, HRj, hsj⟩
                  · obtain ⟨jp, rfl⟩ : ∃ q, j = q + 1 := ⟨j - 1, by omega⟩
                    have hg7 : (1 : Int) ≤ (jp : Int) + 1 := by omega
                    have B1 := hide (show jp + 1 < dj.size by rw [hsj.out]; omega)
                    have B2 := hide (show jp < dj.size by rw [hsj.out]; omega)
                    have b1 : jp + 1 < d.size := by omega
                    have b2 : jp < d.size := by omega
                    obtain ⟨vx, hvx, Rx, cx⟩ := look HWj HRj _ B1.out
                    obtain ⟨vy, hvy, Ry, cy⟩ := look HWj HRj _ B2.out
                    have HA := ask HC HWj.out Rx Ry
                    cases hl : ltOf cf vx vy
                    · have hng2 : decide (cf vx vy < 0) = false := hl
                      have HL := hide hl
                      clear hl
                      go_wp2_with fail
                      refine region_later (by kernel_rfl) (by kernel_rfl) ?_
                      repeat (go_big_quiet_step ((exact Later.call (HA.out _))))
                      refine wpQuiet_nil ?_
                      rintro wq ⟨⟨_, hwq⟩, rfl⟩
                      clear cx cy
                      go_wp2_with fail
                      go_meet
                      have e3 : d3 = dj := by rw [hd3.out, fixDown_go h2, ← HEj.out, shiftDown_end (by rw [← hvx.out, ← hvy.out]; exact HL.out)]
                      rw [e3]
                      exact ⟨hide (HWj.out.old hwq), HRj, hsj⟩
                    · have hng2 : decide (cf vx vy < 0) = true := hl
                      have HL := hide hl
                      clear hl
                      go_wp2_with fail
                      refine region_later (by kernel_rfl) (by kernel_rfl) ?_
                      repeat (go_big_quiet_step ((exact Later.call (HA.out _))))
                      refine wpQuiet_nil ?_
                      rintro wq ⟨⟨_, hwq⟩, rfl⟩
                      clear cx cy
                      have HWq := hide (HWj.out.old hwq)
                      have B1 := hide (show jp < dj.size by rw [hsj.out]; omega)
                      have B2 := hide (show (jp + 1) < dj.size by rw [hsj.out]; omega)
                      have b1 : jp < d.size := by omega
                      have b2 : (jp + 1) < d.size := by omega
                      obtain ⟨u1, hu1, _, _⟩ := look HWq HRj _ B1.out
                      obtain ⟨u2, hu2, _, _⟩ := look HWq HRj _ B2.out
                      have x1 := lookedAt HWq.out hu1 B1.out
                      have y1 := lookedAt HWq.out hu2 B2.out
                      have f1 := HWq.out.ints.free jp
                      have f2 := HWq.out.ints.free (jp + 1)
                      obtain ⟨z, hz⟩ := set_some (p := ⟨g, (jp + 1), none⟩) (u := .int .i64 u1) x1
                      obtain ⟨d4, hd4⟩ : ∃ d4, Hid (d4 = Sort.swp dj (jp + 1) jp) := ⟨_, rfl⟩
                      have hs4 : Hid (d4.size = d.size) := by show _ = _; rw [hd4.out, size_swp, hsj.out]
                      have HR4 : Hid (AllR R d4) := by show AllR R d4; rw [hd4.out]; exact AllR_swp HRj.out B2.out B1.out
                      have HW4 : Hid (SW w0 g d4 ((wq.setCell ⟨g, (jp + 1), none⟩ (.int .i64 u1)).setCell ⟨g, jp, none⟩ (.int .i64 u2)).drew) := by
                        have h := SW.swp HWq.out (jp + 1) jp
                        rw [← hu1.out, ← hu2.out] at h
                        show SW _ _ _ _
                        rw [hd4.out]
                        exact h.drew
                      go_wp2_with fail
                      go_region
                      clear x1 y1 f1 f2 hz
                      go_wp2_with fail
                      go_roundw
                      case rel => exact ⟨jp, d4, by go_num, by omega, hs4, HW4, HR4, hide (by rw [← HEj.out, shiftDown_go (by rw [← hvx.out, ← hvy.out]; exact HL.out), hd4.out])⟩
                      case measure => simp [intOf]
              · have hg6 : ¬ (2 : Int) ≤ (k : Int) + 1 - (a : Int) := by omega
                go_wp2_with fail
                go_meet
                have e3 : d3 = d2 := by rw [hd3.out, fixDown_no h2]
                rw [e3]
                exact ⟨HW3, HR2, hs2⟩
            case rest =>
              obtain ⟨HW5, HR3, hs3⟩ := hcut
              by_cases h3 : b - (k + 1) ≥ 2
              · have hg6 : (2 : Int) ≤ (b : Int) - ((k : Int) + 1) := by omega
                go_wp2_with fail
                go_loopw [12] (fun jv wr => ∃ (j : Nat) (dj : Array Int), jv = .int .i64 ((j : Int) + 1) ∧ k + 1 ≤ j ∧ j + 1 ≤ b ∧ Hid (dj.size = d.size) ∧ Hid (SW w0 g dj wr) ∧ Hid (AllR R dj) ∧ Hid (shiftUp (ltOf cf) b (j + 1) dj = shiftUp (ltOf cf) b (k + 1 + 1) d3)) (fun jv _ => b - (intOf jv).toNat)
                case atStart => exact ⟨k + 1, d3, by go_num, Nat.le_refl _, by omega, hs3, HW5, HR3, rfl⟩
                case round =>
                  obtain ⟨j, dj, rfl, hjk, hjb, hsj, HWj, HRj, HEj⟩ := hrel
                  by_cases hlt : j + 1 < b
                  · have hg7 : (j : Int) + 1 < (b : Int) := by omega
                    have B1 := hide (show j + 1 < dj.size by rw [hsj.out]; omega)
                    have B2 := hide (show j < dj.size by rw [hsj.out]; omega)
                    have b1 : j + 1 < d.size := by omega
                    have b2 : j < d.size := by omega
                    obtain ⟨vx, hvx, Rx, cx⟩ := look HWj HRj _ B1.out
                    obtain ⟨vy, hvy, Ry, cy⟩ := look HWj HRj _ B2.out
                    have HA := ask HC HWj.out Rx Ry
                    cases hl : ltOf cf vx vy
                    · have hng2 : decide (cf vx vy < 0) = false := hl
                      have HL := hide hl
                      clear hl
                      go_wp2_with fail
                      refine region_later (by kernel_rfl) (by kernel_rfl) ?_
                      repeat (go_big_quiet_step ((exact Later.call (HA.out _))))
                      refine wpQuiet_nil ?_
                      rintro wq ⟨⟨_, hwq⟩, rfl⟩
                      clear cx cy
                      go_wp2_with fail
                      go_roundw
                      case rel => exact ⟨k, n + 1, dj, by first | rfl | go_num, by go_num, by omega, by omega, by omega, hsj, hide (HWj.out.old hwq), HRj, hide (by rw [← HEk.out, pins_go hn HK.out hkb h50, ← hd2.out, ← hd3.out, fixUp_go h3, ← HEj.out, shiftUp_end (Or.inr (by rw [← hvx.out, ← hvy.out]; exact HL.out))])⟩
                      case measure => simp [intOf]; omega
                    · have hng2 : decide (cf vx vy < 0) = true := hl
                      have HL := hide hl
                      clear hl
                      go_wp2_with fail
                      refine region_later (by kernel_rfl) (by kernel_rfl) ?_
                      repeat (go_big_quiet_step ((exact Later.call (HA.out _))))
                      refine wpQuiet_nil ?_
                      rintro wq ⟨⟨_, hwq⟩, rfl⟩
                      clear cx cy
                      have HWq := hide (HWj.out.old hwq)
                      have B1 := hide (show j < dj.size by rw [hsj.out]; omega)
                      have B2 := hide (show (j + 1) < dj.size by rw [hsj.out]; omega)
                      have b1 : j < d.size := by omega
                      have b2 : (j + 1) < d.size := by omega
                      obtain ⟨u1, hu1, _, _⟩ := look HWq HRj _ B1.out
                      obtain ⟨u2, hu2, _, _⟩ := look HWq HRj _ B2.out
                      have x1 := lookedAt HWq.out hu1 B1.out
                      have y1 := lookedAt HWq.out hu2 B2.out
                      have f1 := HWq.out.ints.free j
                      have f2 := HWq.out.ints.free (j + 1)
                      obtain ⟨z, hz⟩ := set_some (p := ⟨g, (j + 1), none⟩) (u := .int .i64 u1) x1
                      obtain ⟨d4, hd4⟩ : ∃ d4, Hid (d4 = Sort.swp dj (j + 1) j) := ⟨_, rfl⟩
                      have hs4 : Hid (d4.size = d.size) := by show _ = _; rw [hd4.out, size_swp, hsj.out]
                      have HR4 : Hid (AllR R d4) := by show AllR R d4; rw [hd4.out]; exact AllR_swp HRj.out B2.out B1.out
                      have HW4 : Hid (SW w0 g d4 ((wq.setCell ⟨g, (j + 1), none⟩ (.int .i64 u1)).setCell ⟨g, j, none⟩ (.int .i64 u2)).drew) := by
                        have h := SW.swp HWq.out (j + 1) j
                        rw [← hu1.out, ← hu2.out] at h
                        show SW _ _ _ _
                        rw [hd4.out]
                        exact h.drew
                      go_wp2_with fail
                      go_region
                      clear x1 y1 f1 f2 hz
                      go_wp2_with fail
                      go_roundw
                      case rel => exact ⟨j + 1, d4, by go_num, by omega, by omega, hs4, HW4, HR4, hide (by rw [← HEj.out, shiftUp_go hlt (by rw [← hvx.out, ← hvy.out]; exact HL.out), hd4.out])⟩
                      case measure => simp [intOf]; omega
                  · have hg7 : ¬ (j : Int) + 1 < (b : Int) := by omega
                    go_wp2_with fail
                    go_roundw
                    case rel => exact ⟨k, n + 1, dj, by first | rfl | go_num, by go_num, by omega, by omega, by omega, hsj, HWj, HRj, hide (by rw [← HEk.out, pins_go hn HK.out hkb h50, ← hd2.out, ← hd3.out, fixUp_go h3, ← HEj.out, shiftUp_end (Or.inl hlt)])⟩
                    case measure => simp [intOf]; omega
              · have hg6 : ¬ (2 : Int) ≤ (b : Int) - ((k : Int) + 1) := by omega
                go_wp2_with fail
                go_roundw
                case rel => exact ⟨k, n + 1, d3, by first | rfl | go_num, by go_num, by omega, by omega, by omega, hs3, HW5, HR3, hide (by rw [← HEk.out, pins_go hn HK.out hkb h50, ← hd2.out, ← hd3.out, fixUp_no h3])⟩
                case measure => simp [intOf]; omega
    · have hng : decide ((n : Int) < 5) = false := decide_eq_false (by omega)
      obtain rfl : n = 5 := by omega
      go_wp2_with fail
      rw [partialInsertionSort, ← HEk.out, partialIns]
      exact bodyPost_ret (v := .bool false) (by simp [results, Tryz.results108, go_sem]) rfl ⟨rfl, HWk.out⟩
end Go.Proofs.YtmfbblcipakaiaaGreatDoor

