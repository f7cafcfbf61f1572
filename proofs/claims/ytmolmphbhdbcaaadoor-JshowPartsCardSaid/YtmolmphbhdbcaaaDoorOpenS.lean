/- What an argument's reading says of it: a seed; a row of seeds. -/
import Derived.Test.YtmolmphbhdbcaaaDoorOpenP
import Derived.Test.YtmolmphbhdbcaaaDoorSeeds
namespace Go.Proofs.YtmolmphbhdbcaaaDoor
open Go.RowKit Go.ChangeShapes Go.WideShapes Go.Deep

/-- a slice value that is these seeds: their one cell, and its numbers -/
def SeedsIs (w : World) (v : Value) (L : List (Value × List Int)) : Prop := Sl w v L.length (L.map (·.1)) ∧ ∀ p ∈ L, NumsIs w p.1 p.2
section
variable {H : Type} {enc : TypeId × Value → H} {w : World} {base : Nat} {spare : Nat → Bool} {held : Bool}
set_option maxRecDepth 100000 in
theorem open_nums {fuel : Nat} {cs : List Value} {x : DataW H × List MemPlace} (h : DataW.trod enc Tryd.prog w base spare held fuel 38 cs = some x) : ∃ v l, cs = [v] ∧ NumsIs w v l := by
  rcases open_slice_one Tryd.underlying38 (by kernel_rfl) h with rfl | ⟨a, len, cap, rfl, hl, hm, hf⟩
  · exact ⟨_, [], rfl, Sl.nil_ w⟩
  · have hx : ∀ i, i < len → ∃ s : Int, w.cell? (a.add i) = some (.int .i64 s) := by
      intro i hi
      obtain ⟨n, v, y, h0, t0⟩ := hf i hi
      obtain ⟨k0, e0, _⟩ := DataW.trod_int Tryd.underlying3 t0
      injection e0 with e0
      subst e0
      exact ⟨k0, h0⟩
    obtain ⟨V, hV⟩ := choose_lt hx
    refine ⟨_, (List.range len).map V, rfl, ?_⟩
    have := sl_of_cells (V := fun i => .int .i64 (V i)) hl hm hV
    unfold NumsIs numVals
    simpa [List.map_map, Function.comp_def] using this
set_option maxRecDepth 100000 in
theorem open_seed {fuel : Nat} {cs : List Value} {x : DataW H × List MemPlace} (h : DataW.trod enc Tryd.prog w base spare held fuel 40 cs = some x) : ∃ v l, cs = [v] ∧ NumsIs w v l := by
  obtain ⟨y0, n, rfl, hl, h0⟩ := trod_struct1 Tryd.underlying40 h
  have hc : Tryd.prog.cellsOf 40 = 1 := by kernel_rfl
  have hc2 : Tryd.prog.cellsOf 38 = 1 := by kernel_rfl
  rw [hc] at hl
  match cs, hl, h0 with
  | [v], _, h0 =>
    obtain ⟨v', l, e, hn⟩ := open_nums h0
    have e2 : List.take 1 [v] = [v'] := by simpa [hc2] using e
    injection e2 with e2
    subst e2
    exact ⟨_, l, rfl, hn⟩
set_option maxRecDepth 100000 in
theorem open_seeds {fuel : Nat} {cs : List Value} {x : DataW H × List MemPlace} (h : DataW.trod enc Tryd.prog w base spare held fuel 34 cs = some x) : ∃ v L, cs = [v] ∧ SeedsIs w v L := by
  rcases open_slice_one Tryd.underlying34 (by kernel_rfl) h with rfl | ⟨a, len, cap, rfl, hl, hm, hf⟩
  · exact ⟨_, [], rfl, Sl.nil_ w, by simp⟩
  · have hx : ∀ i, i < len → ∃ c : Value × List Int, w.cell? (a.add i) = some c.1 ∧ NumsIs w c.1 c.2 := by
      intro i hi
      obtain ⟨n, v, y, h0, t0⟩ := hf i hi
      obtain ⟨v', l, e0, hn⟩ := open_seed t0
      injection e0 with e0
      subst e0
      exact ⟨(v, l), h0, hn⟩
    have : Inhabited (Value × List Int) := ⟨(.nilIface, [])⟩
    obtain ⟨V, hV⟩ := choose_lt hx
    refine ⟨_, (List.range len).map V, rfl, ?_, fun p hp => ?_⟩
    · have := sl_of_cells (V := fun i => (V i).1) hl hm (fun i hi => (hV i hi).1)
      simpa [List.map_map, Function.comp_def] using this
    · obtain ⟨i, hi, rfl⟩ := List.mem_map.1 hp
      exact (hV i (by simpa using hi)).2
set_option maxRecDepth 100000 in
theorem seed_arg {r : Reach} {b0 : Nat} {v : Value} {d : DataW H} {p : List MemPlace} (hv : Value.okWide Tryd.prog w r b0 40 v) (h : DataW.Trod enc Tryd.prog w base spare held 40 v d p) : ∃ u l, v = .agg #[u] ∧ NumsIs w u l := by
  obtain ⟨cs, rfl, hsz⟩ := okWide_struct Tryd.underlying40 hv
  obtain ⟨fuel, hf⟩ := h
  obtain ⟨v, l, e, h1⟩ := open_seed hf
  have e2 : cs.toList = [v] := by simpa [Value.cells] using e
  refine ⟨v, l, ?_, h1⟩
  congr 1
  exact Array.ext' (by simpa using e2)
set_option maxRecDepth 100000 in
theorem seeds_arg {r : Reach} {b0 : Nat} {v : Value} {d : DataW H} {p : List MemPlace} (hv : Value.okWide Tryd.prog w r b0 34 v) (h : DataW.Trod enc Tryd.prog w base spare held 34 v d p) : ∃ l, SeedsIs w v l := by
  obtain ⟨a, len, cap, rfl⟩ := okWide_slice Tryd.underlying34 hv
  obtain ⟨fuel, hf⟩ := h
  obtain ⟨v, l, e, h1⟩ := open_seeds hf
  simp [Value.cells] at e
  subst e
  exact ⟨l, h1⟩
end
end Go.Proofs.YtmolmphbhdbcaaaDoor

