/- What an argument's reading says of it: texts; rows of rows of nodes. -/
import Derived.Test.YtmolmphbhdbcaaaDoorOpenT
namespace Go.Proofs.YtmolmphbhdbcaaaDoor
open Go.RowKit Go.ChangeShapes Go.WideShapes Go.Deep

section
variable {H : Type} {enc : TypeId × Value → H} {P : Program} {w : World} {base : Nat} {spare : Nat → Bool} {held : Bool}
/-- a slice of elements of one cell each, opened -/
theorem open_slice_one {t e : TypeId} {fuel : Nat} {cs : List Value} {x : DataW H × List MemPlace} (ht : P.underlying t = some (.slice e)) (hC : P.cellsOf e = 1) (h : DataW.trod enc P w base spare held fuel t cs = some x) :
    cs = [.slice none 0 0] ∨
    ∃ (a : Addr) (len cap : Nat), cs = [.slice (some a) len cap] ∧ len ≤ cap ∧ cap ≤ maxLen ∧
      ∀ i, i < len → ∃ (n : Nat) (v : Value) (y : DataW H × List MemPlace), w.cell? (a.add i) = some v ∧ DataW.trod enc P w base spare held n e [v] = some y := by
  rcases open_slice ht h with h0 | ⟨a, len, cap, m, n, D, Pl, hcs, hb, hl, hm, hmm, hx, hi⟩
  · exact .inl h0.1
  · refine .inr ⟨a, len, cap, hcs, hl, hm, fun i him => ?_⟩
    obtain ⟨cs', hc, ht'⟩ := hi i (by rw [hmm]; split <;> omega)
    rw [hC, Nat.mul_one] at hc
    obtain ⟨_, hcl, hat⟩ := World.cells?_some hc
    have h0 := hat 0 (by omega)
    match cs', hcl, ht', h0 with
    | [v], _, ht', h0 =>
      refine ⟨_, v, _, ?_, ht'⟩
      rw [Go.Deep.add_add, Nat.add_zero] at h0
      simpa using h0
end
section
variable {H : Type} {enc : TypeId × Value → H} {w : World} {base : Nat} {spare : Nat → Bool} {held : Bool}
theorem sl_of_cells {a : Addr} {len cap : Nat} {V : Nat → Value} (hl : len ≤ cap) (hm : cap ≤ maxLen) (hV : ∀ i, i < len → w.cell? (a.add i) = some (V i)) : Sl w (.slice (some a) len cap) len ((List.range len).map V) := by
  refine ⟨some a, cap, rfl, hl, hm, fun hne => ?_⟩
  have hlen : 0 < len := by
    rcases Nat.eq_zero_or_pos len with h0 | h0
    · subst h0; exact absurd rfl hne
    · exact h0
  have hs : a.spot = none := by
    have := hV 0 hlen
    exact spot_none (a := a) (by simpa [Addr.add] using this)
  refine ⟨a.block, a.off, by cases a; simp_all, fun j u hu => ?_⟩
  have hj : j < len := by
    have := (List.getElem?_eq_some_iff.1 hu).1
    simpa using this
  have := hV j hj
  rw [add_spot hs] at this
  rw [this]
  rw [List.getElem?_map, List.getElem?_range hj] at hu
  simpa using hu
theorem open_texts {fuel : Nat} {cs : List Value} {x : DataW H × List MemPlace} (h : DataW.trod enc Tryd.prog w base spare held fuel 36 cs = some x) : ∃ v l, cs = [v] ∧ TextsIs w v l := by
  rcases open_slice_one Tryd.underlying36 (by kernel_rfl) h with rfl | ⟨a, len, cap, rfl, hl, hm, hf⟩
  · exact ⟨_, [], rfl, Sl.nil_ w⟩
  · have hx : ∀ i, i < len → ∃ s : ByteArray, w.cell? (a.add i) = some (.string s) := by
      intro i hi
      obtain ⟨n, v, y, h0, t0⟩ := hf i hi
      obtain ⟨k0, e0, _⟩ := DataW.trod_string Tryd.underlying9 t0
      injection e0 with e0
      subst e0
      exact ⟨k0, h0⟩
    obtain ⟨V, hV⟩ := choose_lt hx
    refine ⟨_, (List.range len).map V, rfl, ?_⟩
    have := sl_of_cells (V := fun i => .string (V i)) hl hm hV
    unfold TextsIs
    simpa [List.map_map, Function.comp_def] using this
theorem open_parts {fuel : Nat} {cs : List Value} {x : DataW H × List MemPlace} (h : DataW.trod enc Tryd.prog w base spare held fuel 35 cs = some x) : ∃ v l, cs = [v] ∧ PartsIs w v l := by
  rcases open_slice_one Tryd.underlying35 (by kernel_rfl) h with rfl | ⟨a, len, cap, rfl, hl, hm, hf⟩
  · exact ⟨_, [], rfl, [], rfl, Sl.nil_ w, fun i hi => absurd hi (by simp)⟩
  · have hx : ∀ i, i < len → ∃ c : Value × List Nd, w.cell? (a.add i) = some c.1 ∧ NodesIs w c.1 c.2 := by
      intro i hi
      obtain ⟨n, v, y, h0, t0⟩ := hf i hi
      obtain ⟨v', l, e0, hn⟩ := open_nodes t0
      injection e0 with e0
      subst e0
      exact ⟨(v, l), h0, hn⟩
    have : Inhabited (Value × List Nd) := ⟨(.nilIface, [])⟩
    obtain ⟨V, hV⟩ := choose_lt hx
    refine ⟨_, (List.range len).map fun i => (V i).2, rfl, (List.range len).map fun i => (V i).1, by simp, ?_, fun i hi hi' => ?_⟩
    · have := sl_of_cells (V := fun i => (V i).1) hl hm (fun i hi => (hV i hi).1)
      simpa using this
    · have hil : i < len := by simpa using hi
      simpa using (hV i hil).2
set_option maxRecDepth 100000 in
theorem texts_arg {r : Reach} {b0 : Nat} {v : Value} {d : DataW H} {p : List MemPlace} (hv : Value.okWide Tryd.prog w r b0 36 v) (h : DataW.Trod enc Tryd.prog w base spare held 36 v d p) : ∃ l, TextsIs w v l := by
  obtain ⟨a, len, cap, rfl⟩ := okWide_slice Tryd.underlying36 hv
  obtain ⟨fuel, hf⟩ := h
  obtain ⟨v, l, e, h1⟩ := open_texts hf
  simp [Value.cells] at e
  subst e
  exact ⟨l, h1⟩
set_option maxRecDepth 100000 in
theorem parts_arg {r : Reach} {b0 : Nat} {v : Value} {d : DataW H} {p : List MemPlace} (hv : Value.okWide Tryd.prog w r b0 35 v) (h : DataW.Trod enc Tryd.prog w base spare held 35 v d p) : ∃ l, PartsIs w v l := by
  obtain ⟨a, len, cap, rfl⟩ := okWide_slice Tryd.underlying35 hv
  obtain ⟨fuel, hf⟩ := h
  obtain ⟨v, l, e, h1⟩ := open_parts hf
  simp [Value.cells] at e
  subst e
  exact ⟨l, h1⟩
end
end Go.Proofs.YtmolmphbhdbcaaaDoor

