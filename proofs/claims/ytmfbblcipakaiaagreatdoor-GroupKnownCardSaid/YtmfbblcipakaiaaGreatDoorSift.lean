/- the heap's part of slices.SortFunc -/
import Derived.Test.YtmfbblcipakaiaaGreatDoorSort
import Derived.Sort.LotB
namespace Go.Proofs.YtmfbblcipakaiaaGreatDoor
open Go.RowKit Go.Sort

theorem sift_step (lt : Int → Int → Bool) (hi first r c : Nat) (d : Array Int) (h : 2 * r + 1 < hi)
    (hc : (c = 2 * r + 1 + 1 ∧ 2 * r + 2 < hi ∧ lt d[first + (2 * r + 1)]! d[first + (2 * r + 1) + 1]! = true) ∨ (c = 2 * r + 1 ∧ ¬ (2 * r + 2 < hi ∧ lt d[first + (2 * r + 1)]! d[first + (2 * r + 1) + 1]! = true))) :
    siftDown lt hi first r d = if lt d[first + r]! d[first + c]! = true then siftDown lt hi first c (Sort.swp d (first + r) (first + c)) else d := by
  rw [siftDown, dif_neg (by omega)]
  rcases hc with ⟨rfl, h2, h3⟩ | ⟨rfl, h2⟩
  · rw [if_pos (by simp [h3]; omega)]
    by_cases hl : lt d[first + r]! d[first + (2 * r + 2)]! = true
    · rw [if_neg (by simp [hl]), dif_pos h2, if_pos hl]
    · rw [if_pos (by simp [hl]), if_neg hl]
  · rw [if_neg (by simp; intro h4; have := fun h5 => h2 ⟨h4, h5⟩; simpa using this)]
    by_cases hl : lt d[first + r]! d[first + (2 * r + 1)]! = true
    · rw [if_neg (by simp [hl]), if_pos hl]
    · rw [if_pos (by simp [hl]), if_neg hl]

set_option maxRecDepth 100000 in
set_option maxHeartbeats 2000000 in
theorem siftDown_run (w0 : World) (g cap f : Nat) (rv : Value) (R : Int → Prop) (cf : Int → Int → Int) (hf : ∀ args w, (callFunc f args).run Tryz.prog w = .ok (.enter f args) w) (hc : CmpOk w0 g f #[rv] #[] R cf)
    (d : Array Int) (lo hi first : Nat) (w : World) (hw : SW w0 g d w) (hR : AllR R d) (hb : first + hi ≤ d.size) (hsz : d.size < 1152921504606846976) (hlo : lo ≤ hi) :
    Calls Tryz.prog 122 #[.slice (some ⟨g, 0, none⟩) d.size cap, .int .i64 lo, .int .i64 hi, .int .i64 first, .func (.func f) #[rv] #[]] w fun e w' => e = .returned (.tuple #[]) ∧ SW w0 g (siftDown (ltOf cf) hi first lo d) w' := by
  have HC := Lib.hid hc
  have HW := Lib.hid hw
  have HR := Lib.hid hR
  clear hc hw hR
  go_enter Tryz.func122, Tryz.ntmps122
  go_wp2_with fail
  go_loopw [10] (fun i wr => ∃ (r : Nat) (dr : Array Int), i = .int .i64 r ∧ r ≤ hi ∧ Hid (dr.size = d.size) ∧ Hid (SW w0 g dr wr) ∧ Hid (AllR R dr) ∧ Hid (siftDown (ltOf cf) hi first r dr = siftDown (ltOf cf) hi first lo d)) (fun i _ => hi - (intOf i).toNat)
  case atStart => exact ⟨lo, d, rfl, hlo, rfl, HW, HR, rfl⟩
  case round =>
    obtain ⟨r, dr, rfl, hrh, hsr, HWr, HRr, HEr⟩ := hrel
    by_cases hend : 2 * r + 1 < hi
    · have hr1 : r < d.size := by omega
      have HB1 := hide (show first + r < dr.size by rw [hsr.out]; omega)
      have HB2 := hide (show first + (2 * r + 1) < dr.size by rw [hsr.out]; omega)
      obtain ⟨v1, hv1, R1, hx⟩ := look HWr HRr _ HB2.out
      obtain ⟨vr, hvr, Rr, _⟩ := look HWr HRr _ HB1.out
      have key : ∃ c : Nat, 2 * r + 1 ≤ c ∧ c ≤ 2 * r + 2 ∧ c < hi ∧ Hid ((c = 2 * r + 1 + 1 ∧ 2 * r + 2 < hi ∧ ltOf cf dr[first + (2 * r + 1)]! dr[first + (2 * r + 1) + 1]! = true) ∨ (c = 2 * r + 1 ∧ ¬ (2 * r + 2 < hi ∧ ltOf cf dr[first + (2 * r + 1)]! dr[first + (2 * r + 1) + 1]! = true))) := by
        by_cases hh : 2 * r + 2 < hi ∧ ltOf cf dr[first + (2 * r + 1)]! dr[first + (2 * r + 1) + 1]! = true
        · exact ⟨2 * r + 1 + 1, by omega, by omega, by omega, Or.inl ⟨rfl, hh.1, hh.2⟩⟩
        · exact ⟨2 * r + 1, by omega, by omega, by omega, Or.inr ⟨rfl, hh⟩⟩
      obtain ⟨c, hc1, hc2, hchi, HK⟩ := key
      have HB3 := hide (show first + c < dr.size by rw [hsr.out]; omega)
      obtain ⟨vc, hvc, Rc, _⟩ := look HWr HRr _ HB3.out
      have hcase : (2 * r + 2 < hi ∧ ltOf cf dr[first + (2 * r + 1)]! dr[first + (2 * r + 1) + 1]! = true) ∨ (2 * r + 2 < hi ∧ ltOf cf dr[first + (2 * r + 1)]! dr[first + (2 * r + 1) + 1]! = false) ∨ ¬ 2 * r + 2 < hi := by
        by_cases h2 : 2 * r + 2 < hi
        · cases h3 : ltOf cf dr[first + (2 * r + 1)]! dr[first + (2 * r + 1) + 1]!
          · exact .inr (.inl ⟨h2, rfl⟩)
          · exact .inl ⟨h2, rfl⟩
        · exact .inr (.inr h2)
      rcases hcase with ⟨h2, hneg⟩ | ⟨h2, hneg⟩ | h2
      case' pos.inl =>
        have hg : decide (2 * (r : Int) + 1 + 1 < (hi : Int)) = true := decide_eq_true (by omega)
        have HB4 := hide (show first + (2 * r + 1) + 1 < dr.size by rw [hsr.out]; omega)
        obtain ⟨v2, hv2, R2, hy⟩ := look HWr HRr _ HB4.out
        have HA := ask HC HWr.out R1 R2
        have hcv : c = 2 * r + 1 + 1 := by
          rcases HK.out with h | h
          · exact h.1
          · exact absurd ⟨h2, hneg⟩ h.2
        rw [← hv1.out, ← hv2.out] at hneg
        have hlt : cf v1 v2 < 0 := by simpa [ltOf] using hneg
        have HCZ := hide (show 2 * (r : Int) + 1 + 1 = (c : Int) by omega)
        clear hcv hneg
        go_wp2_with fail
        refine region_later (by kernel_rfl) (by kernel_rfl) ?_
        repeat (go_big_quiet_step ((exact Later.call (HA.out _))))
        refine wpQuiet_nil ?_
        rintro wq ⟨⟨_, hwq⟩, rfl⟩
        clear hx hy
        go_wp2_with fail
        rw [HCZ.out]
      case' pos.inr.inl =>
        have hg : decide (2 * (r : Int) + 1 + 1 < (hi : Int)) = true := decide_eq_true (by omega)
        have HB4 := hide (show first + (2 * r + 1) + 1 < dr.size by rw [hsr.out]; omega)
        obtain ⟨v2, hv2, R2, hy⟩ := look HWr HRr _ HB4.out
        have HA := ask HC HWr.out R1 R2
        have hcv : c = 2 * r + 1 := by
          rcases HK.out with h | h
          · rw [hneg] at h; exact absurd h.2.2 (by simp)
          · exact h.1
        rw [← hv1.out, ← hv2.out] at hneg
        have hlt : ¬ cf v1 v2 < 0 := by simpa [ltOf] using hneg
        have HCZ := hide (show 2 * (r : Int) + 1 = (c : Int) by omega)
        clear hcv hneg
        go_wp2_with fail
        refine region_later (by kernel_rfl) (by kernel_rfl) ?_
        repeat (go_big_quiet_step ((exact Later.call (HA.out _))))
        refine wpQuiet_nil ?_
        rintro wq ⟨⟨_, hwq⟩, rfl⟩
        clear hx hy
        go_wp2_with fail
        rw [HCZ.out]
      case' pos.inr.inr =>
        have hg : decide (2 * (r : Int) + 1 + 1 < (hi : Int)) = false := decide_eq_false (by omega)
        have hcv : c = 2 * r + 1 := by
          rcases HK.out with h | h
          · omega
          · exact h.1
        have HCZ := hide (show 2 * (r : Int) + 1 = (c : Int) by omega)
        clear hcv
        go_wp2_with fail
        refine region_later (by kernel_rfl) (by kernel_rfl) ?_
        repeat (go_big_quiet_step (fail))
        refine wpQuiet_nil ?_
        rintro wq ⟨⟨_, hwq⟩, rfl⟩
        clear hx
        go_wp2_with fail
        rw [HCZ.out]
      all_goals
        clear HCZ
        have HWq := hide (SW.old HWr.out hwq)
        have hx := looked HWq.out hvr HB1.out
        have hy := looked HWq.out hvc HB3.out
        have HA2 := ask HC HWq.out Rr Rc
        cases hl : ltOf cf vr vc
        · have hlt2 : ¬ cf vr vc < 0 := by simpa [ltOf] using hl
          have HL := hide hl
          clear hl
          refine region_later (by kernel_rfl) (by kernel_rfl) ?_
          repeat (go_big_quiet_step ((exact Later.call (HA2.out _))))
          refine wpQuiet_nil ?_
          rintro wz ⟨⟨_, hwz⟩, rfl⟩
          clear hx hy
          go_wp2_with fail
          refine bodyPost_ret (results_none rfl _ _ _) rfl ⟨rfl, ?_⟩
          rw [← HEr.out, sift_step _ _ _ _ _ _ hend HK.out, ← hvr.out, ← hvc.out, HL.out, if_neg (by simp)]
          exact SW.old HWq.out hwz
        · have hlt2 : cf vr vc < 0 := by simpa [ltOf] using hl
          have HL := hide hl
          clear hl
          refine region_later (by kernel_rfl) (by kernel_rfl) ?_
          repeat (go_big_quiet_step ((exact Later.call (HA2.out _))))
          refine wpQuiet_nil ?_
          rintro wz ⟨⟨_, hwz⟩, rfl⟩
          clear hx hy
          have HWz := hide (SW.old HWq.out hwz)
          have x1 := lookedAt HWz.out hvr HB1.out
          have y1 := lookedAt HWz.out hvc HB3.out
          have f1 := HWz.out.ints.free (first + r)
          have f2 := HWz.out.ints.free (first + c)
          go_wp2_with fail
          go_region
          all_goals
            clear x1 y1 f1 f2
            go_wp2_with fail
            go_roundw
            case rel => exact ⟨c, Sort.swp dr (first + r) (first + c), rfl, by omega, hide (by rw [size_swp]; exact hsr.out), hide (by
              have h := SW.swp HWz.out (first + r) (first + c)
              rw [← hvr.out, ← hvc.out] at h
              exact h.drew), hide (AllR_swp HRr.out HB1.out HB3.out), hide (by
              rw [← HEr.out, sift_step _ _ _ _ _ _ hend HK.out, ← hvr.out, ← hvc.out, HL.out, if_pos rfl])⟩
            case measure => simp [intOf]; omega
    · go_wp2_with fail
      go_end0
      exact ⟨rfl, by
        have h := HWr.out
        rw [← HEr.out, siftDown, dif_pos (by omega)]
        exact h⟩
end Go.Proofs.YtmfbblcipakaiaaGreatDoor

