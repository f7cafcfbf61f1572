/- heapSort and reverseRange of slices.SortFunc -/
import Derived.Test.YtmfbblcipakaiaaGreatDoorSift
namespace Go.Proofs.YtmfbblcipakaiaaGreatDoor
open Go.RowKit Go.Sort

theorem sift_facts {R : Int → Prop} {cf : Int → Int → Int} (d : Array Int) (hi first r : Nat) (hb : first + hi ≤ d.size) (h : AllR R d) : (siftDown (ltOf cf) hi first r d).size = d.size ∧ AllR R (siftDown (ltOf cf) hi first r d) := by
  fun_induction siftDown (ltOf cf) hi first r d with
  | case1 => exact ⟨rfl, h⟩
  | case2 => exact ⟨rfl, h⟩
  | case3 r d _ _ _ h2 ih =>
    have hs := size_swp d (first + r) (first + (2 * r + 2))
    have := ih (by rw [hs]; exact hb) (AllR_swp h (by omega) (by omega))
    exact ⟨this.1.trans hs, this.2⟩
  | case4 => exact ⟨rfl, h⟩
  | case5 => exact ⟨rfl, h⟩
  | case6 r d _ _ _ ih =>
    have hs := size_swp d (first + r) (first + (2 * r + 1))
    have := ih (by rw [hs]; exact hb) (AllR_swp h (by omega) (by omega))
    exact ⟨this.1.trans hs, this.2⟩

set_option maxRecDepth 100000 in
set_option maxHeartbeats 1000000 in
theorem heapSort_run (w0 : World) (g cap f : Nat) (rv : Value) (R : Int → Prop) (cf : Int → Int → Int) (hf : ∀ args w, (callFunc f args).run Tryz.prog w = .ok (.enter f args) w) (hc : CmpOk w0 g f #[rv] #[] R cf)
    (d : Array Int) (a n : Nat) (w : World) (hw : SW w0 g d w) (hR : AllR R d) (hb : a + n ≤ d.size) (hn : 1 ≤ n) (hsz : d.size < 1152921504606846976) :
    Calls Tryz.prog 104 #[.slice (some ⟨g, 0, none⟩) d.size cap, .int .i64 a, .int .i64 ((a : Int) + (n : Int)), .func (.func f) #[rv] #[]] w fun e w' => e = .returned (.tuple #[]) ∧ SW w0 g (heapSort (ltOf cf) d a (a + n)) w' := by
  have HW := Lib.hid hw
  have HR := Lib.hid hR
  have hsift : ∀ (dk : Array Int) (lo hi : Nat) (w : World), SW w0 g dk w → AllR R dk → dk.size = d.size → a + hi ≤ d.size → lo ≤ hi →
      Calls Tryz.prog 122 #[.slice (some ⟨g, 0, none⟩) d.size cap, .int .i64 lo, .int .i64 hi, .int .i64 a, .func (.func f) #[rv] #[]] w fun e w' => e = .returned (.tuple #[]) ∧ SW w0 g (siftDown (ltOf cf) hi a lo dk) w' := by
    intro dk lo hi w h1 h2 h3 h4 h5
    rw [← h3]
    exact siftDown_run w0 g cap f rv R cf hf hc dk lo hi a w h1 h2 (by omega) (by omega) h5
  have HS := Lib.hid hsift
  clear hw hR hc hsift
  go_enter Tryz.func104, Tryz.ntmps104
  go_wp2_with fail
  rw [show (a : Int) + (n : Int) - (a : Int) = (n : Int) by omega]
  go_loopw [11] (fun i wr => ∃ (k : Nat) (dk : Array Int), i = .int .i64 ((k : Int) - 1) ∧ k ≤ (n - 1) / 2 + 1 ∧ Hid (dk.size = d.size) ∧ Hid (SW w0 g dk wr) ∧ Hid (AllR R dk) ∧ Hid (heapBuild (ltOf cf) n a k dk = heapBuild (ltOf cf) n a ((n - 1) / 2 + 1) d)) (fun i _ => (intOf i + 1).toNat)
  case atStart => exact ⟨(n - 1) / 2 + 1, d, by congr 1; omega, Nat.le_refl _, rfl, HW, HR, rfl⟩
  case round =>
    obtain ⟨k, dk, rfl, hkn, hsk, HWk, HRk, HEk⟩ := hrel
    cases k with
    | succ k =>
      have h0 : decide ((k : Int) ≥ 0) = true := decide_eq_true (by omega)
      have hki : (0 : Int) ≤ (k : Int) := by omega
      rw [show ((k + 1 : Nat) : Int) - 1 = (k : Int) by omega]
      go_wp2_with fail
      have hcall := HS.out dk k n wr HWk.out HRk.out hsk.out hb (by omega)
      refine hcall.mono ?_
      rintro e w1 ⟨rfl, h1⟩
      have hf1 := sift_facts (R := R) (cf := cf) dk n a k (by rw [hsk.out]; exact hb) HRk.out
      have HF := hide hf1
      have H1 := hide h1
      clear hcall h1 hf1
      go_wp2_with fail
      go_roundw
      case rel => exact ⟨k, siftDown (ltOf cf) n a k dk, rfl, by omega, hide (HF.out.1.trans hsk.out), H1, hide HF.out.2, hide (by rw [← HEk.out, heapBuild])⟩
      case measure => simp [intOf]
    | zero =>
      rw [show ((0 : Nat) : Int) - 1 = -1 by omega]
      go_wp2_with fail
      go_loopw [12] (fun i wr => ∃ (k : Nat) (dj : Array Int), i = .int .i64 ((k : Int) - 1) ∧ k ≤ n ∧ Hid (dj.size = d.size) ∧ Hid (SW w0 g dj wr) ∧ Hid (AllR R dj) ∧ Hid (heapPop (ltOf cf) a k dj = heapPop (ltOf cf) a n dk)) (fun i _ => (intOf i + 1).toNat)
      case atStart => exact ⟨n, dk, rfl, Nat.le_refl _, hsk, HWk, HRk, rfl⟩
      case round =>
        obtain ⟨k, dj, rfl, hkj, hsj, HWj, HRj, HEj⟩ := hrel
        cases k with
        | succ k =>
          have hki : (0 : Int) ≤ (k : Int) := by omega
          rw [show ((k + 1 : Nat) : Int) - 1 = (k : Int) by omega]
          have HB1 := hide (show a + k < dj.size by rw [hsj.out]; omega)
          have HB2 := hide (show a < dj.size by rw [hsj.out]; omega)
          obtain ⟨vk, hvk, _, _⟩ := look HWj HRj _ HB1.out
          obtain ⟨va, hva, _, _⟩ := look HWj HRj _ HB2.out
          have x1 := lookedAt HWj.out hvk HB1.out
          have y1 := lookedAt HWj.out hva HB2.out
          have f1 := HWj.out.ints.free (a + k)
          have f2 := HWj.out.ints.free a
          have hak : a + k < d.size := by omega
          have hsw := hide (SW.swp HWj.out a (a + k))
          rw [← hvk.out, ← hva.out] at hsw
          have hpost : ∀ w2, w2 = ((wr.setCell ⟨g, a, none⟩ (.int .i64 vk)).setCell ⟨g, a + k, none⟩ (.int .i64 va)).drew → Calls Tryz.prog 122 #[.slice (some ⟨g, 0, none⟩) d.size cap, .int .i64 0, .int .i64 k, .int .i64 a, .func (.func f) #[rv] #[]] w2 fun e w' => e = .returned (.tuple #[]) ∧ SW w0 g (siftDown (ltOf cf) k a 0 (Sort.swp dj a (a + k))) w' := by
            rintro w2 rfl
            exact HS.out _ 0 k _ hsw.out.drew (AllR_swp HRj.out HB2.out HB1.out) (by rw [size_swp]; exact hsj.out) (by omega) (by omega)
          have hf1 := sift_facts (R := R) (cf := cf) (Sort.swp dj a (a + k)) k a 0 (by rw [size_swp, hsj.out]; omega) (AllR_swp HRj.out HB2.out HB1.out)
          have HF := hide hf1
          have HP := hide hpost
          clear hpost hf1 hsw
          by_cases hk0 : k = 0
          · subst hk0
            have hvv : vk = va := by rw [hvk.out, hva.out, Nat.add_zero]
            have hp0 := HP.out
            rw [hvv] at hp0
            simp only [Nat.add_zero] at hp0
            have HP0 := hide hp0
            clear hp0 hvv HP
            go_wp2_with fail
            go_region
            all_goals
              clear x1 y1 f1 f2
              go_wp2_with fail
              refine (HP0.out _ rfl).mono ?_
              rintro e w1 ⟨rfl, h1⟩
              have H1 := hide h1
              clear h1
              go_wp2_with fail
              go_roundw
              case rel => exact ⟨0, siftDown (ltOf cf) 0 a 0 (Sort.swp dj a a), rfl, by omega, hide (HF.out.1.trans (by rw [size_swp]; exact hsj.out)), H1, hide HF.out.2, hide (by rw [← HEj.out, heapPop]; rfl)⟩
              case measure => simp [intOf]
          · go_wp2_with fail
            go_region
            all_goals
              clear x1 y1 f1 f2
              go_wp2_with fail
              refine (HP.out _ rfl).mono ?_
              rintro e w1 ⟨rfl, h1⟩
              have H1 := hide h1
              clear h1
              go_wp2_with fail
              go_roundw
              case rel => exact ⟨k, siftDown (ltOf cf) k a 0 (Sort.swp dj a (a + k)), rfl, by omega, hide (HF.out.1.trans (by rw [size_swp]; exact hsj.out)), H1, hide HF.out.2, hide (by rw [← HEj.out, heapPop])⟩
              case measure => simp [intOf]
        | zero =>
          rw [show ((0 : Nat) : Int) - 1 = -1 by omega]
          go_wp2_with fail
          refine bodyPost_end (results_none rfl _ _ _) rfl ⟨rfl, ?_⟩
          rw [heapSort, Nat.add_sub_cancel_left, ← HEk.out, heapBuild, ← HEj.out, heapPop]
          exact HWj.out

theorem reverse_go (i j : Nat) (d : Array Int) (h : i < j) : reverseLoop i j d = reverseLoop (i + 1) (j - 1) (Sort.swp d i j) := by rw [reverseLoop, if_pos h]
theorem reverse_stop (i j : Nat) (d : Array Int) (h : ¬ i < j) : reverseLoop i j d = d := by rw [reverseLoop, if_neg h]
set_option maxRecDepth 100000 in
set_option maxHeartbeats 1000000 in
theorem reverseRange_run (w0 : World) (g cap : Nat) (fv : Value) (R : Int → Prop) (d : Array Int) (a b : Nat) (w : World) (hw : SW w0 g d w) (hR : AllR R d) (hab : a < b) (hb : b ≤ d.size) (hsz : d.size < 1152921504606846976) :
    Calls Tryz.prog 107 #[.slice (some ⟨g, 0, none⟩) d.size cap, .int .i64 a, .int .i64 b, fv] w fun e w' => e = .returned (.tuple #[]) ∧ SW w0 g (reverseRange d a b) w' := by
  have HW := Lib.hid hw
  have HR := Lib.hid hR
  clear hw hR
  go_enter Tryz.func107, Tryz.ntmps107
  go_wp2_with fail
  go_loopw [8, 9] (fun i j wr => ∃ (x y : Nat) (dk : Array Int), i = .int .i64 x ∧ j = .int .i64 ((y : Int)) ∧ a ≤ x ∧ y < b ∧ Hid (dk.size = d.size) ∧ Hid (SW w0 g dk wr) ∧ Hid (AllR R dk) ∧ Hid (reverseLoop x y dk = reverseLoop a (b - 1) d)) (fun i j _ => (intOf j - intOf i).toNat)
  case atStart => exact ⟨a, b - 1, d, rfl, by congr 1; omega, by omega, by omega, rfl, HW, HR, rfl⟩
  case round =>
    obtain ⟨x, y, dk, rfl, rfl, hax, hyb, hsk, HWk, HRk, HEk⟩ := hrel
    by_cases hlt : x < y
    · have HB1 := hide (show x < dk.size by rw [hsk.out]; omega)
      have HB2 := hide (show y < dk.size by rw [hsk.out]; omega)
      obtain ⟨vx, hvx, _, _⟩ := look HWk HRk _ HB1.out
      obtain ⟨vy, hvy, _, _⟩ := look HWk HRk _ HB2.out
      have x1 := lookedAt HWk.out hvx HB1.out
      have y1 := lookedAt HWk.out hvy HB2.out
      have f1 := HWk.out.ints.free x
      have f2 := HWk.out.ints.free y
      have hxy : ¬ x = y := by omega
      have hyd : y < d.size := by omega
      go_wp2_with fail
      go_region
      all_goals
        clear x1 y1 f1 f2
        go_wp2_with fail
        go_roundw
        case rel => exact ⟨x + 1, y - 1, Sort.swp dk x y, by go_num, by congr 1; omega, by omega, by omega, hide (by rw [size_swp]; exact hsk.out), hide (by
          have h := SW.swp HWk.out x y
          rw [← hvx.out, ← hvy.out] at h
          exact h.drew), hide (AllR_swp HRk.out HB1.out HB2.out), hide (by rw [← HEk.out, reverse_go _ _ _ hlt])⟩
        case measure => simp [intOf]; omega
    · go_wp2_with fail
      refine bodyPost_end (results_none rfl _ _ _) rfl ⟨rfl, ?_⟩
      rw [reverseRange, ← HEk.out, reverse_stop _ _ _ hlt]
      exact HWk.out
end Go.Proofs.YtmfbblcipakaiaaGreatDoor

