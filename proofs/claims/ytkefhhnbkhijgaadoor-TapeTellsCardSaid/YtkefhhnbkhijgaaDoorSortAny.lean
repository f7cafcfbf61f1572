/- slices.SortFunc of a list of positions just made, empty or not. -/
import Derived.Test.YtkefhhnbkhijgaaDoorStarts
namespace Go.Proofs.YtkefhhnbkhijgaaDoor
open Go.RowKit Go.Shelf

theorem sort_any (v : Value) (ks : List Nat) (t : List Nd) (rb base : Nat) (kv : Value) (w w0 : World) (hn : ks.length ≤ 4194304) (hv : IntsT base w v ks)
    (ho : Old w0 w) (hg0 : w0.heap.size ≤ base) (hrb : w0.cell? ⟨rb, 0, none⟩ = some kv) (hkv : NodesIs w0 kv t) (hk : ∀ k ∈ ks, k < t.length) :
    Calls Tryd.prog 62 #[v, .func (.func 63) #[] #[.pointer (some ⟨rb, 0, none⟩)]] w fun e w' =>
      e = .returned (.tuple #[]) ∧ ∃ ks' : List Nat, ks'.Perm ks ∧ ks'.Pairwise (fun a b => ¬ keyLt (keyAt t b) (keyAt t a)) ∧ (∃ A cap, v = .slice A ks'.length cap ∧ ks'.length ≤ cap ∧ cap ≤ maxLen ∧
        (ks' = [] ∨ ∃ b off, A = some ⟨b, off, none⟩ ∧ base ≤ b ∧ b < w.heap.size ∧ ∀ j, (h : j < ks'.length) → w'.cell? ⟨b, off + j, none⟩ = some (.int .i64 (ks'[j] : Int)))) ∧
        ∃ B, base ≤ B ∧ w.grownBy w' (some B) := by
  obtain ⟨A, cap, rfl, h1, h2, h3⟩ := hv
  by_cases hne : ks = []
  · subst hne
    have h := fun W => AnyF.slices_SortFunc_none (P := Tryd.prog) (ρ := Tryd.sortInts_ren) { Tryd.sortInts with } A cap (.func (.func 63) #[] #[.pointer (some ⟨rb, 0, none⟩)]) W
    change ∀ W, Calls Tryd.prog 62 _ _ _ at h
    refine (h w).mono ?_
    rintro e w' ⟨rfl, rfl⟩
    exact ⟨rfl, [], .refl _, List.Pairwise.nil, ⟨A, cap, rfl, h1, h2, .inl rfl⟩, base, Nat.le_refl _, World.grownBy.refl _ _⟩
  · obtain ⟨b, off, cs, rfl, hb, hh, hc⟩ := h3 (by cases ks with | nil => exact absurd rfl hne | cons _ _ => simp [intVals])
    have hbw := block_lt hh
    refine (sort_ints b off cap ks t rb kv w w0 hne hn ?_ hbw ho (Nat.le_trans hg0 hb) hrb hkv hk).mono ?_
    · intro j hj
      refine ⟨(cell_of_heap hh).trans (hc j _ (by simp [intVals, hj])), free_of_heap hh⟩
    · rintro e w' ⟨rfl, ks', p1, p2, p3, p4⟩
      have hl := p1.length_eq
      exact ⟨rfl, ks', p1, p2, ⟨_, cap, by rw [hl], by omega, h2, .inr ⟨b, off, rfl, hb, hbw, p3⟩⟩, b, hb, p4⟩
end Go.Proofs.YtkefhhnbkhijgaaDoor
