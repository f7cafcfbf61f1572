/- What an argument's reading says of it: a seed; a row of seeds. -/
import Derived.Test.YtmolmphbhdbcaaaGreatDoorOpenR
import Derived.Test.YtmolmphbhdbcaaaGreatDoorSeeds
/-! ### What an argument's reading says of it: a seed; a row of seeds. -/
namespace Go.Proofs.YtmolmphbhdbcaaaGreatDoor
open Go.RowKit Go.ChangeShapes Go.WideShapes Go.Deep

/-- a slice value that is these seeds: their one cell, and its numbers -/
def SeedsIs (w : World) (v : Value) (L : List (Value × List Int)) : Prop := Sl w v L.length (L.map (·.1)) ∧ ∀ p ∈ L, NumsIs w p.1 p.2
section
variable {H : Type} {enc : TypeId × Value → H} {w : World} {base : Nat} {spare : Nat → Bool} {held : Bool}
set_option maxRecDepth 100000 in
theorem open_nums {fuel : Nat} {cs : List Value} {x : DataW H × List MemPlace} (h : DataW.trod enc Tryz.prog w base spare held fuel 31 cs = some x) : ∃ v l, cs = [v] ∧ NumsIs w v l := by
  rcases open_slice_one Tryz.underlying31 (by kernel_rfl) h with rfl | ⟨a, len, cap, rfl, hl, hm, hf⟩
  · exact ⟨_, [], rfl, Sl.nil_ w⟩
  · have hx : ∀ i, i < len → ∃ s : Int, w.cell? (a.add i) = some (.int .i64 s) := by
      intro i hi
      obtain ⟨n, v, y, h0, t0⟩ := hf i hi
      obtain ⟨k0, e0, _⟩ := DataW.trod_int Tryz.underlying3 t0
      injection e0 with e0
      subst e0
      exact ⟨k0, h0⟩
    obtain ⟨V, hV⟩ := choose_lt hx
    refine ⟨_, (List.range len).map V, rfl, ?_⟩
    have := sl_of_cells (V := fun i => .int .i64 (V i)) hl hm hV
    unfold NumsIs numVals
    simpa [List.map_map, Function.comp_def] using this
set_option maxRecDepth 100000 in
theorem open_seed {fuel : Nat} {cs : List Value} {x : DataW H × List MemPlace} (h : DataW.trod enc Tryz.prog w base spare held fuel 33 cs = some x) : ∃ v l, cs = [v] ∧ NumsIs w v l := by
  obtain ⟨y0, n, rfl, hl, h0⟩ := trod_struct1 Tryz.underlying33 h
  have hc : Tryz.prog.cellsOf 33 = 1 := by kernel_rfl
  have hc2 : Tryz.prog.cellsOf 31 = 1 := by kernel_rfl
  rw [hc] at hl
  match cs, hl, h0 with
  | [v], _, h0 =>
    obtain ⟨v', l, e, hn⟩ := open_nums h0
    have e2 : List.take 1 [v] = [v'] := by simpa [hc2] using e
    injection e2 with e2
    subst e2
    exact ⟨_, l, rfl, hn⟩
set_option maxRecDepth 100000 in
theorem seed_arg {r : Reach} {b0 : Nat} {v : Value} {d : DataW H} {p : List MemPlace} (hv : Value.okWide Tryz.prog w r b0 33 v) (h : DataW.Trod enc Tryz.prog w base spare held 33 v d p) : ∃ u l, v = .agg #[u] ∧ NumsIs w u l := by
  obtain ⟨cs, rfl, hsz⟩ := okWide_struct Tryz.underlying33 hv
  obtain ⟨fuel, hf⟩ := h
  obtain ⟨v, l, e, h1⟩ := open_seed hf
  have e2 : cs.toList = [v] := by simpa [Value.cells] using e
  refine ⟨v, l, ?_, h1⟩
  congr 1
  exact Array.ext' (by simpa using e2)
end
end Go.Proofs.YtmolmphbhdbcaaaGreatDoor
