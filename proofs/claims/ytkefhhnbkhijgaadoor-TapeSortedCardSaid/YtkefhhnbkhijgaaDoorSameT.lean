/- tape.Same. -/
import Derived.Test.YtkefhhnbkhijgaaDoorSortedT
namespace Go.Proofs.YtkefhhnbkhijgaaDoor
open Go.RowKit

/-- what Same answers -/
def SameT (a b : List Nd) (B : Bool) : Prop := ((chkT a ≠ 0 ∨ chkT b ≠ 0) ∧ B = false) ∨ ∃ ja jb, May a ja ∧ May b jb ∧ B = sameNds ja.sort.flat jb.sort.flat
theorem SortedT.good {t ps : List Nd} (h : SortedT t ps) (h0 : chkT t = 0) : ∃ j, May t j ∧ ps = j.sort.flat := by
  rcases h with h | ⟨h, _⟩
  · exact h
  · exact absurd h0 h

set_option maxRecDepth 100000 in
set_option maxHeartbeats 1000000 in
theorem same_run (va vb : Value) (a b : List Nd) (w : World) (ha : NodesIs w va a) (hb : NodesIs w vb b) (hka : TextsOk a) (hkb : TextsOk b) (hT : Tabs w) :
    Calls Tryd.prog 40 #[va, vb] w fun e w' => ∃ B, SameT a b B ∧ e = .returned (.bool B) ∧ Old w w' := by
  have CA := hide (show ∀ w', Old w w' → Calls Tryd.prog 28 #[va] w' fun e w2 => e = .returned (.int .i64 (chkT a)) ∧ Old w' w2 from fun w' h => check_run va a w' (ha.old h) hka (hT.old h))
  have CB := hide (show ∀ w', Old w w' → Calls Tryd.prog 28 #[vb] w' fun e w2 => e = .returned (.int .i64 (chkT b)) ∧ Old w' w2 from fun w' h => check_run vb b w' (hb.old h) hkb (hT.old h))
  have SA := hide (show ∀ w', Old w w' → Calls Tryd.prog 44 #[va] w' fun e w2 => ∃ ps, SortedT a ps ∧ NewNodes w' ps e w2 from fun w' h => sorted_run va a w' (ha.old h) hka (hT.old h))
  have SB := hide (show ∀ w', Old w w' → Calls Tryd.prog 44 #[vb] w' fun e w2 => ∃ ps, SortedT b ps ∧ NewNodes w' ps e w2 from fun w' h => sorted_run vb b w' (hb.old h) hkb (hT.old h))
  obtain ⟨c, hc⟩ : ∃ c, Hid (chkT a = c) := ⟨_, hide rfl⟩
  obtain ⟨d, hd⟩ : ∃ d, Hid (chkT b = d) := ⟨_, hide rfl⟩
  rw [hc.out] at CA
  rw [hd.out] at CB
  go_enter Tryd.func40, Tryd.ntmps40
  by_cases hc0 : c = 0
  · have hc' : (c == 0) = true := by simp [hc0]
    by_cases hd0 : d = 0
    · have hd' : (d == 0) = true := by simp [hd0]
      go_wp2_with (first
        | (go_at_call 28; (with_reducible refine (CA.out _ (Old.refl _)).mono ?_); rintro e w1 ⟨rfl, o1⟩)
        | (go_at_call 28; (with_reducible refine (CB.out _ o1).mono ?_); rintro e w2 ⟨rfl, o2⟩; have o3 := Old.trans o1 o2)
        | (go_at_call 44; (with_reducible refine (SA.out _ o3).mono ?_); rintro e w4 ⟨pa, hpa, va', rfl, na, o4⟩; have o5 := Old.trans o3 o4)
        | (go_at_call 44; (with_reducible refine (SB.out _ o5).mono ?_); rintro e w6 ⟨pb, hpb, vb', rfl, nb, o6⟩)
        | (go_at_call 60; refine (slices_Equal va' vb' pa pb w6 (na.sl.old o6) nb.sl).mono ?_; rintro e w7 ⟨rfl, o7⟩))
      go_ret
      obtain ⟨ja, m1, rfl⟩ := hpa.good (hc.out.trans hc0)
      obtain ⟨jb, m2, rfl⟩ := hpb.good (hd.out.trans hd0)
      exact ⟨_, .inr ⟨ja, jb, m1, m2, rfl⟩, rfl, Old.trans (Old.trans o5 o6) o7⟩
    · have hd' : (d == 0) = false := by simp [hd0]
      go_wp2_with (first
        | (go_at_call 28; (with_reducible refine (CA.out _ (Old.refl _)).mono ?_); rintro e w1 ⟨rfl, o1⟩)
        | (go_at_call 28; (with_reducible refine (CB.out _ o1).mono ?_); rintro e w2 ⟨rfl, o2⟩; have o3 := Old.trans o1 o2))
      go_ret
      exact ⟨false, .inl ⟨.inr (by rw [hd.out]; exact hd0), rfl⟩, rfl, o3⟩
  · have hc' : (c == 0) = false := by simp [hc0]
    go_wp2_with (go_at_call 28; (with_reducible refine (CA.out _ (Old.refl _)).mono ?_); rintro e w1 ⟨rfl, o1⟩)
    go_ret
    exact ⟨false, .inl ⟨.inl (by rw [hc.out]; exact hc0), rfl⟩, rfl, o1⟩
end Go.Proofs.YtkefhhnbkhijgaaDoor
