/- An argument of three lists of items, opened. -/
import Derived.Test.YtggknmagpcnkoaaOpen
namespace Go.Proofs.Ytggknmagpcnkoaa
open Go.RowKit Go.ChangeShapes Go.WideShapes Go.Deep

set_option maxRecDepth 100000 in
theorem open_three {w : World} {H : Type} {enc : TypeId × Value → H} {base : Nat} {spare : Nat → Bool} {held : Bool} {r : Reach} {b0 : Nat} {v : Value} {d : DataW H} {p : List MemPlace} (hv : Value.okWide Try.prog w r b0 45 v) (h : DataW.Trod enc Try.prog w base spare held 45 v d p) :
    ∃ (va vb vc : Value) (la lb lc : List Item), v = .agg #[va, vb, vc] ∧ ItemsIs w va la ∧ ItemsIs w vb lb ∧ ItemsIs w vc lc ∧ (∀ y ∈ la, fit y.w) ∧ (∀ y ∈ lb, fit y.w) ∧ (∀ y ∈ lc, fit y.w) := by
  simp only [Value.okWide, Try.underlying45] at hv
  obtain ⟨cs, rfl, hsz, _⟩ := hv
  have hc3 : Try.prog.cellsOf 45 = 3 := by kernel_rfl
  have hc1 : Try.prog.cellsOf 22 = 1 := by kernel_rfl
  rw [hc3] at hsz
  obtain ⟨l⟩ := cs
  match l, hsz with
  | [c0, c1, c2], _ =>
    obtain ⟨fuel, hf⟩ := h
    obtain ⟨xs, n, _, _, _, hxl, hg⟩ := DataW.trod_array Try.underlying45 hf
    rw [hc1] at hg
    match xs, hxl with
    | [y0, y1, y2], _ =>
      have g0 := hg 0 (by omega)
      have g1 := hg 1 (by omega)
      have g2 := hg 2 (by omega)
      simp [Value.cells] at g0 g1 g2
      obtain ⟨v0, l0, e0, i0, f0⟩ := open_items g0
      obtain ⟨v1, l1, e1, i1, f1⟩ := open_items g1
      obtain ⟨v2, l2, e2, i2, f2⟩ := open_items g2
      injection e0 with e0
      injection e1 with e1
      injection e2 with e2
      subst e0 e1 e2
      exact ⟨c0, c1, c2, l0, l1, l2, rfl, i0, i1, i2, f0, f1, f2⟩
end Go.Proofs.Ytggknmagpcnkoaa
