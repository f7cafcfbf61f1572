/- Arguments opened: columns; cells with their numbers' range. -/
import Derived.Test.YthlfljmfggmfdaaGreatDoorQm49
/-! ### Arguments opened: columns; cells with their numbers' range. -/
namespace Go.Proofs.YthlfljmfggmfdaaGreatDoor
open Go.RowKit Go.ChangeShapes Go.WideShapes Go.Deep

theorem i64_of_wfC {n : Int} (h : (Lit.int .i64 n).wf = true) : -9223372036854775808 ≤ n ∧ n ≤ 9223372036854775807 := by
  simp [Lit.wf, IntKind.min, IntKind.max, IntKind.signed, IntKind.bits] at h
  omega
section
variable {H : Type} {enc : TypeId × Value → H} {w : World} {base : Nat} {spare : Nat → Bool} {held : Bool}
instance : Inhabited Cell := ⟨⟨false, 0, ⟨#[]⟩⟩⟩
instance : Inhabited Col := ⟨⟨0, ⟨#[]⟩, 0, false, ⟨false, 0, ⟨#[]⟩⟩⟩⟩
set_option maxRecDepth 100000 in
theorem open_cellsC {fuel : Nat} {cs : List Value} {x : DataW H × List MemPlace} (h : DataW.trod enc Tryz.prog w base spare held fuel 23 cs = some x) : ∃ v r, cs = [v] ∧ RowIs w v r ∧ ∀ c ∈ r, Wf c := by
  rcases open_slice_fields Tryz.underlying23 Tryz.underlying38 (by kernel_rfl) (by kernel_rfl) h with rfl | ⟨a, len, cap, rfl, hl, hm, hf⟩
  · exact ⟨_, [], rfl, Sl.nil_ w, fun c hc => by cases hc⟩
  · have hx : ∀ i, i < len → ∃ c : Cell, (w.cell? (a.add (i * 3 + 0)) = some (.bool c.null) ∧ w.cell? (a.add (i * 3 + 1)) = some (.int .i64 c.n) ∧ w.cell? (a.add (i * 3 + 2)) = some (.string c.s)) ∧ Wf c := by
      intro i hi
      obtain ⟨n, hf⟩ := hf i hi
      obtain ⟨v0, y0, h0, t0⟩ := hf 0 _ rfl
      obtain ⟨v1, y1, h1, t1⟩ := hf 1 _ rfl
      obtain ⟨v2, y2, h2, t2⟩ := hf 2 _ rfl
      obtain ⟨b, e0, _⟩ := DataW.trod_bool Tryz.underlying4 t0
      obtain ⟨k, e1, _, hw⟩ := DataW.trod_int Tryz.underlying2 t1
      obtain ⟨s, e2, _⟩ := DataW.trod_string Tryz.underlying9 t2
      injection e0 with e0
      injection e1 with e1
      injection e2 with e2
      subst e0 e1 e2
      exact ⟨⟨b, k, s⟩, ⟨h0, h1, h2⟩, i64_of_wfC hw⟩
    obtain ⟨V, hV⟩ := choose_lt hx
    refine ⟨_, (List.range len).map V, rfl, ⟨some a, cap, by simp, by simpa using hl, hm, fun hne => ?_⟩, fun c hc => ?_⟩
    · have hlen : 0 < len := by
        rcases Nat.eq_zero_or_pos len with h0 | h0
        · subst h0; exact absurd rfl hne
        · exact h0
      have hs : a.spot = none := by
        have := (hV 0 hlen).1.1
        exact spot_none (a := a) (by simpa [Addr.add] using this)
      refine ⟨a.block, a.off, by cases a; simp_all, fun j u hu => ?_⟩
      have hj : j < len * 3 := by
        have := (List.getElem?_eq_some_iff.1 hu).1
        rw [rowVals_length] at this
        simpa using this
      obtain ⟨i, k, rfl, hk⟩ : ∃ i k, j = i * 3 + k ∧ k < 3 := ⟨j / 3, j % 3, by omega, by omega⟩
      have hi : i < len := by omega
      have hg := rowVals_get ((List.range len).map V) i k hk (by simpa using hi)
      rw [hg] at hu
      obtain ⟨⟨c0, c1, c2⟩, _⟩ := hV i hi
      rw [add_spot hs] at c0 c1 c2
      match k, hk, hu with
      | 0, _, hu => simp [Cell.vals] at hu; subst hu; exact c0
      | 1, _, hu => simp [Cell.vals] at hu; subst hu; exact c1
      | 2, _, hu => simp [Cell.vals] at hu; subst hu; exact c2
    · obtain ⟨i, hi, rfl⟩ := List.mem_map.1 hc
      exact (hV i (List.mem_range.1 hi)).2
set_option maxRecDepth 100000 in
theorem row_argC {r : Reach} {b0 : Nat} {v : Value} {d : DataW H} {p : List MemPlace} (hv : Value.okWide Tryz.prog w r b0 23 v) (h : DataW.Trod enc Tryz.prog w base spare held 23 v d p) : ∃ l, RowIs w v l ∧ ∀ c ∈ l, Wf c := by
  obtain ⟨a, len, cap, rfl⟩ := okWide_slice Tryz.underlying23 hv
  obtain ⟨fuel, hf⟩ := h
  obtain ⟨v, l, e, h1, h2⟩ := open_cellsC hf
  simp [Value.cells] at e
  subst e
  exact ⟨l, h1, h2⟩
set_option maxRecDepth 100000 in
theorem open_colsC {fuel : Nat} {cs : List Value} {x : DataW H × List MemPlace} (h : DataW.trod enc Tryz.prog w base spare held fuel 22 cs = some x) : ∃ v r, cs = [v] ∧ ColsIs w v r := by
  rcases open_slice Tryz.underlying22 h with h0 | ⟨a, len, cap, m, n, D, Pl, rfl, hb, hl, hm, hmm, hx, hi⟩
  · exact ⟨_, [], h0.1, Sl.nil_ w⟩
  · have hC : Tryz.prog.cellsOf 56 = 7 := by kernel_rfl
    have hx : ∀ i, i < len → ∃ c : Col, w.cell? (a.add (i * 7 + 0)) = some (.int .i64 c.id) ∧ w.cell? (a.add (i * 7 + 1)) = some (.string c.name) ∧ w.cell? (a.add (i * 7 + 2)) = some (.int .i64 c.kind) ∧ w.cell? (a.add (i * 7 + 3)) = some (.bool c.null) ∧
        w.cell? (a.add (i * 7 + 4)) = some (.bool c.dflt.null) ∧ w.cell? (a.add (i * 7 + 5)) = some (.int .i64 c.dflt.n) ∧ w.cell? (a.add (i * 7 + 6)) = some (.string c.dflt.s) := by
      intro i hil
      obtain ⟨cs', hc, ht'⟩ := hi i (by rw [hmm]; split <;> omega)
      rw [hC] at hc
      obtain ⟨ys, n', _, _, _, hyl, hf⟩ := DataW.trod_struct Tryz.underlying56 ht'
      obtain ⟨_, hcl, hat⟩ := World.cells?_some hc
      obtain ⟨c0, c1, c2, c3, c4, c5, c6, rfl⟩ : ∃ c0 c1 c2 c3 c4 c5 c6, cs' = [c0, c1, c2, c3, c4, c5, c6] := by
        match cs', hcl with
        | [c0, c1, c2, c3, c4, c5, c6], _ => exact ⟨c0, c1, c2, c3, c4, c5, c6, rfl⟩
      have some_of : ∀ {l : List (DataW H × List MemPlace)} {k : Nat}, k < l.length → ∃ y, l[k]? = some y := fun hk => ⟨_, List.getElem?_eq_getElem hk⟩
      have hys : ys.length = 4 := hyl
      obtain ⟨z0, hz0⟩ := some_of (l := ys) (k := 0) (by omega)
      obtain ⟨z1, hz1⟩ := some_of (l := ys) (k := 1) (by omega)
      obtain ⟨z2, hz2⟩ := some_of (l := ys) (k := 2) (by omega)
      obtain ⟨z3, hz3⟩ := some_of (l := ys) (k := 3) (by omega)
      have t0 : DataW.trod enc Tryz.prog w base spare held n' 3 [c0] = some z0 := (hf 0 _ rfl).trans hz0
      have t1 : DataW.trod enc Tryz.prog w base spare held n' 9 [c1] = some z1 := (hf 1 _ rfl).trans hz1
      have t2 : DataW.trod enc Tryz.prog w base spare held n' 54 [c2, c3] = some z2 := (hf 2 _ rfl).trans hz2
      have t3 : DataW.trod enc Tryz.prog w base spare held n' 38 [c4, c5, c6] = some z3 := (hf 3 _ rfl).trans hz3
      obtain ⟨ys2, n2, _, _, _, hyl2, hf2⟩ := DataW.trod_struct Tryz.underlying54 t2
      obtain ⟨ys3, n3, _, _, _, hyl3, hf3⟩ := DataW.trod_struct Tryz.underlying38 t3
      have hys2 : ys2.length = 2 := hyl2
      have hys3 : ys3.length = 3 := hyl3
      obtain ⟨q0, hq0⟩ := some_of (l := ys2) (k := 0) (by omega)
      obtain ⟨q1, hq1⟩ := some_of (l := ys2) (k := 1) (by omega)
      obtain ⟨r0, hr0⟩ := some_of (l := ys3) (k := 0) (by omega)
      obtain ⟨r1, hr1⟩ := some_of (l := ys3) (k := 1) (by omega)
      obtain ⟨r2, hr2⟩ := some_of (l := ys3) (k := 2) (by omega)
      have u2 : DataW.trod enc Tryz.prog w base spare held n2 3 [c2] = some q0 := (hf2 0 _ rfl).trans hq0
      have u3 : DataW.trod enc Tryz.prog w base spare held n2 4 [c3] = some q1 := (hf2 1 _ rfl).trans hq1
      have u4 : DataW.trod enc Tryz.prog w base spare held n3 4 [c4] = some r0 := (hf3 0 _ rfl).trans hr0
      have u5 : DataW.trod enc Tryz.prog w base spare held n3 2 [c5] = some r1 := (hf3 1 _ rfl).trans hr1
      have u6 : DataW.trod enc Tryz.prog w base spare held n3 9 [c6] = some r2 := (hf3 2 _ rfl).trans hr2
      obtain ⟨k0, e0, _⟩ := DataW.trod_int Tryz.underlying3 t0
      obtain ⟨k1, e1, _⟩ := DataW.trod_string Tryz.underlying9 t1
      obtain ⟨k2, e2, _⟩ := DataW.trod_int Tryz.underlying3 u2
      obtain ⟨k3, e3, _⟩ := DataW.trod_bool Tryz.underlying4 u3
      obtain ⟨k4, e4, _⟩ := DataW.trod_bool Tryz.underlying4 u4
      obtain ⟨k5, e5, _⟩ := DataW.trod_int Tryz.underlying2 u5
      obtain ⟨k6, e6, _⟩ := DataW.trod_string Tryz.underlying9 u6
      injection e0 with e0
      injection e1 with e1
      injection e2 with e2
      injection e3 with e3
      injection e4 with e4
      injection e5 with e5
      injection e6 with e6
      subst e0 e1 e2 e3 e4 e5 e6
      exact ⟨⟨k0, k1, k2, k3, ⟨k4, k5, k6⟩⟩, (by have := hat 0 (by omega); rwa [Go.Deep.add_add] at this), (by have := hat 1 (by omega); rwa [Go.Deep.add_add] at this), (by have := hat 2 (by omega); rwa [Go.Deep.add_add] at this), (by have := hat 3 (by omega); rwa [Go.Deep.add_add] at this), (by have := hat 4 (by omega); rwa [Go.Deep.add_add] at this), (by have := hat 5 (by omega); rwa [Go.Deep.add_add] at this), (by have := hat 6 (by omega); rwa [Go.Deep.add_add] at this)⟩
    obtain ⟨V, hV⟩ := choose_lt hx
    refine ⟨_, (List.range len).map V, rfl, some a, cap, by simp, by simpa using hl, hm, fun hne => ?_⟩
    have hlen : 0 < len := by
      rcases Nat.eq_zero_or_pos len with h0 | h0
      · subst h0; exact absurd rfl hne
      · exact h0
    have hs : a.spot = none := by
      have := (hV 0 hlen).1
      exact spot_none (a := a) (by simpa [Addr.add] using this)
    refine ⟨a.block, a.off, by cases a; simp_all, fun j u hu => ?_⟩
    have hj : j < len * 7 := by
      have := (List.getElem?_eq_some_iff.1 hu).1
      rw [colVals_length] at this
      simpa using this
    obtain ⟨i, k, rfl, hk⟩ : ∃ i k, j = i * 7 + k ∧ k < 7 := ⟨j / 7, j % 7, by omega, by omega⟩
    have hi : i < len := by omega
    have hg := colVals_get ((List.range len).map V) i k hk (by simpa using hi)
    rw [hg] at hu
    obtain ⟨c0, c1, c2, c3, c4, c5, c6⟩ := hV i hi
    rw [add_spot hs] at c0 c1 c2 c3 c4 c5 c6
    match k, hk, hu with
    | 0, _, hu => simp [Col.vals] at hu; subst hu; exact c0
    | 1, _, hu => simp [Col.vals] at hu; subst hu; exact c1
    | 2, _, hu => simp [Col.vals] at hu; subst hu; exact c2
    | 3, _, hu => simp [Col.vals] at hu; subst hu; exact c3
    | 4, _, hu => simp [Col.vals] at hu; subst hu; exact c4
    | 5, _, hu => simp [Col.vals] at hu; subst hu; exact c5
    | 6, _, hu => simp [Col.vals] at hu; subst hu; exact c6
set_option maxRecDepth 100000 in
theorem cols_argC {r : Reach} {b0 : Nat} {v : Value} {d : DataW H} {p : List MemPlace} (hv : Value.okWide Tryz.prog w r b0 22 v) (h : DataW.Trod enc Tryz.prog w base spare held 22 v d p) : ∃ l, ColsIs w v l := by
  obtain ⟨a, len, cap, rfl⟩ := okWide_slice Tryz.underlying22 hv
  obtain ⟨fuel, hf⟩ := h
  obtain ⟨v, l, e, h1⟩ := open_colsC hf
  simp [Value.cells] at e
  subst e
  exact ⟨l, h1⟩
set_option maxRecDepth 100000 in
theorem nodes_argC {r : Reach} {b0 : Nat} {v : Value} {d : DataW H} {p : List MemPlace} (hv : Value.okWide Tryz.prog w r b0 24 v) (h : DataW.Trod enc Tryz.prog w base spare held 24 v d p) : ∃ l, NodesIs w v l ∧ NumsOk l := by
  obtain ⟨l, hl⟩ := nodes_arg hv h
  refine ⟨l, hl, fun x hx => ?_⟩
  obtain ⟨fuel, hf⟩ := h
  obtain ⟨A, cp, rfl, h1, h2, h3⟩ := hl.nodes
  obtain ⟨i, hi, rfl⟩ := List.getElem_of_mem hx
  obtain ⟨b, off, rfl, hc⟩ := h3.resolve_left (by omega)
  obtain ⟨x0, x1, c2, x3, x4⟩ := hc i hi
  rcases open_slice_fields Tryz.underlying24 Tryz.underlying36 (by kernel_rfl) (by kernel_rfl) hf with e | ⟨a', len', cap', e, q1, q2, hf2⟩
  · simp [Value.cells] at e
  · simp only [Value.cells] at e
    injection e with e _
    injection e with e1 e2 e3
    injection e1 with e1
    subst e1 e2
    obtain ⟨n, hf3⟩ := hf2 i hi
    obtain ⟨v2, y2, hcell, t2⟩ := hf3 2 _ rfl
    have hcell' : w.cell? ((⟨b, off, none⟩ : Addr).add (i * 5 + 2)) = some v2 := hcell
    obtain ⟨k2, e2, _, hw⟩ := DataW.trod_int Tryz.underlying2 t2
    injection e2 with e2
    subst e2
    rw [add_spot rfl, ← Nat.add_assoc, c2] at hcell'
    injection hcell' with hcell'
    injection hcell' with _ hk
    rw [hk]
    exact i64_of_wfC hw
end
end Go.Proofs.YthlfljmfggmfdaaGreatDoor
