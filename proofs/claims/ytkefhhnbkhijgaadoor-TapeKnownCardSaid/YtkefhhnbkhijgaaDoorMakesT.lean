/- TapeMakes: the program and the document make the same of all values and parts. -/
import Derived.Test.YtkefhhnbkhijgaaDoorTellsT
import Derived.Test.YtkefhhnbkhijgaaDoorAgainL
import Derived.Test.YtkefhhnbkhijgaaDoorTwoRow
import Derived.Deep.RegionHeld3
namespace Go.Proofs.YtkefhhnbkhijgaaDoor
open Go.RowKit

theorem kept_set {T base size n : Nat} {w : World} {g cap : Nat} {xs : List Value} (h : w.ownsRow base T size (.slice (some ⟨g, 0, none⟩) n cap) n xs) (j : Nat) (u : Value) : Kept T base w (w.setCell ⟨g, j, none⟩ u) := by
  have hlt := h.lt g rfl
  rcases h.2 with ⟨h, _⟩ | ⟨g', c', cur, he, hb, hh, _⟩
  · cases h
  · injection he with he _ _
    injection he with he
    injection he with he
    subst he
    refine ⟨Below.setCell (Below.refl _ _) hlt.1 u, fun b cs T' f hb' hne => ?_⟩
    have : g ≠ b := by
      rintro rfl
      rw [hh] at hb'
      injection hb' with hb'
      injection hb' with _ hT _
      exact hne hT.symm
    simp [World.setCell, Array.getElem?_modify, this, hb']

set_option maxRecDepth 100000 in
theorem copyTexts_run (v : Value) (l : List ByteArray) (w : World) (h : TextsIs w v l) (hlen : l.length ≤ 1048576) : Calls Tryd.prog 11 #[v] w fun e w' => ∃ v', e = .returned v' ∧ TextsOwn w.heap.size w' v' l ∧ Old w w' := by
  have H := hide h
  obtain ⟨A, cap, rfl, rest⟩ := h
  clear rest
  obtain ⟨i0, hi, hz0, hz1, hz2⟩ := info_parts textInfo
  have HI := hide hi
  have Z0 := hide hz0
  have Z1 := hide hz1
  have Z2 := hide hz2
  clear hi hz0 hz1 hz2
  go_enter Tryd.func11, Tryd.ntmps11
  go_wp2_with (at_builtin; refine wpList_plain rfl (fun K hK => ?_); refine wp_append_sl _ _ _ 22 rfl w.heap.size 9 i0 (.string ⟨#[]⟩) 1 16 Tryd.underlying22 HI.out Z0.out Z1.out Z2.out rfl (by omega) (.slice none 0 0) 0 [] rfl (World.ownsRow_nil _ _ _ _) _ l.length (l.map Value.string) rfl H.out (by simp) (by intro u hu; obtain ⟨s, _, rfl⟩ := List.mem_map.1 hu; rfl) (by unfold maxLen; omega) (by omega) (Nat.le_refl _) ?_; intro v' w' own hg; refine hK _ _ ?_; clear hK)
  go_ret
  refine ⟨_, rfl, ?_, Below.grown (Old.refl w) hg (Nat.le_refl _) (fun k hk => by cases hk)⟩
  unfold TextsOwn
  rw [Nat.zero_add, List.nil_append] at own
  exact own
end Go.Proofs.YtkefhhnbkhijgaaDoor
