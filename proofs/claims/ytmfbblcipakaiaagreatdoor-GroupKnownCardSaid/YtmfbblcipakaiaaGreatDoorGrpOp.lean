/- What an argument's reading says of it: entries, lists of entries, two numbers; the three tables that the rows list. -/
import Derived.Test.YtmfbblcipakaiaaGreatDoorOpen
import Derived.Test.YtmfbblcipakaiaaGreatDoorGrpJ
import Derived.Test.YtmfbblcipakaiaaGreatDoorRows
import Derived.Lib.LaidIn
import Derived.Lib.LaidU8
import Derived.MakeChecks
import Derived.Stop.Joined
import Derived.Stop.LaidErr
namespace Go.Proofs.YtmfbblcipakaiaaGreatDoor
open Go.RowKit Go.ChangeShapes Go.WideShapes Go.Deep

section
variable {H : Type} {enc : TypeId × Value → H} {P : Program} {w : World} {base : Nat} {spare : Nat → Bool} {held : Bool}
/-- a slice of elements of one cell each, opened -/
theorem open_slice_one {t e : TypeId} {fuel : Nat} {cs : List Value} {x : DataW H × List MemPlace} (ht : P.underlying t = some (.slice e)) (hC : P.cellsOf e = 1) (h : DataW.trod enc P w base spare held fuel t cs = some x) :
    cs = [.slice none 0 0] ∨
    ∃ (a : Addr) (len cap : Nat), cs = [.slice (some a) len cap] ∧ len ≤ cap ∧ cap ≤ maxLen ∧
      ∀ i, i < len → ∃ (n : Nat) (v : Value) (y : DataW H × List MemPlace), w.cell? (a.add i) = some v ∧ DataW.trod enc P w base spare held n e [v] = some y := by
  rcases open_slice ht h with h0 | ⟨a, len, cap, m, n, D, Pl, hcs, hb, hl, hm, hmm, hx, hi⟩
  · exact .inl h0.1
  · refine .inr ⟨a, len, cap, hcs, hl, hm, fun i him => ?_⟩
    obtain ⟨cs', hc, ht'⟩ := hi i (by rw [hmm]; split <;> omega)
    rw [hC, Nat.mul_one] at hc
    obtain ⟨_, hcl, hat⟩ := World.cells?_some hc
    have h0 := hat 0 (by omega)
    match cs', hcl, ht', h0 with
    | [v], _, ht', h0 =>
      refine ⟨_, v, _, ?_, ht'⟩
      rw [Go.Deep.add_add, Nat.add_zero] at h0
      simpa using h0
end
section
variable {H : Type} {enc : TypeId × Value → H} {w : World} {base : Nat} {spare : Nat → Bool} {held : Bool}
theorem sl_of_cells {a : Addr} {len cap : Nat} {V : Nat → Value} (hl : len ≤ cap) (hm : cap ≤ maxLen) (hV : ∀ i, i < len → w.cell? (a.add i) = some (V i)) : Sl w (.slice (some a) len cap) len ((List.range len).map V) := by
  refine ⟨some a, cap, rfl, hl, hm, fun hne => ?_⟩
  have hlen : 0 < len := by
    rcases Nat.eq_zero_or_pos len with h0 | h0
    · subst h0; exact absurd rfl hne
    · exact h0
  have hs : a.spot = none := by
    have := hV 0 hlen
    exact spot_none (a := a) (by simpa [Addr.add] using this)
  refine ⟨a.block, a.off, by cases a; simp_all, fun j u hu => ?_⟩
  have hj : j < len := by
    have := (List.getElem?_eq_some_iff.1 hu).1
    simpa using this
  have := hV j hj
  rw [add_spot hs] at this
  rw [this]
  rw [List.getElem?_map, List.getElem?_range hj] at hu
  simpa using hu
/-- the numbers of a row that is read are of 64 bits -/
theorem open_row_fit {fuel : Nat} {cs : List Value} {x : DataW H × List MemPlace} (h : DataW.trod enc Tryz.prog w base spare held fuel 49 cs = some x) : ∃ v r, cs = [v] ∧ RowIs w v r ∧ ∀ c ∈ r, fit c.n := by
  rcases open_slice_fields Tryz.underlying49 Tryz.underlying65 (by kernel_rfl) (by kernel_rfl) h with rfl | ⟨a, len, cap, rfl, hl, hm, hf⟩
  · exact ⟨_, [], rfl, Sl.nil_ w, by simp⟩
  · have hx : ∀ i, i < len → ∃ c : Cell, w.cell? (a.add (i * 3 + 0)) = some (.bool c.null) ∧ w.cell? (a.add (i * 3 + 1)) = some (.int .i64 c.n) ∧ w.cell? (a.add (i * 3 + 2)) = some (.string c.s) ∧ fit c.n := by
      intro i hi
      obtain ⟨n, hf⟩ := hf i hi
      obtain ⟨v0, y0, h0, t0⟩ := hf 0 _ rfl
      obtain ⟨v1, y1, h1, t1⟩ := hf 1 _ rfl
      obtain ⟨v2, y2, h2, t2⟩ := hf 2 _ rfl
      obtain ⟨b, e0, _⟩ := DataW.trod_bool Tryz.underlying4 t0
      obtain ⟨k, e1, _, hk⟩ := DataW.trod_int Tryz.underlying2 t1
      obtain ⟨s, e2, _⟩ := DataW.trod_string Tryz.underlying9 t2
      injection e0 with e0
      injection e1 with e1
      injection e2 with e2
      subst e0 e1 e2
      refine ⟨⟨b, k, s⟩, h0, h1, h2, ?_⟩
      simp [Lit.wf, IntKind.min, IntKind.max, IntKind.signed, IntKind.bits] at hk
      show -9223372036854775808 ≤ k ∧ k < 9223372036854775808
      omega
    obtain ⟨V, hV⟩ := choose_lt hx
    refine ⟨_, (List.range len).map V, rfl, ⟨some a, cap, by simp, by simpa using hl, hm, fun hne => ?_⟩, fun c hc => ?_⟩
    · have hlen : 0 < len := by
        rcases Nat.eq_zero_or_pos len with h0 | h0
        · subst h0; exact absurd rfl hne
        · exact h0
      have hs : a.spot = none := by
        have := (hV 0 hlen).1
        exact spot_none (a := a) (by simpa [Addr.add] using this)
      refine ⟨a.block, a.off, by cases a; simp_all, fun j u hu => ?_⟩
      have hj : j < len * 3 := by
        have := (List.getElem?_eq_some_iff.1 hu).1
        rw [rowVals_length] at this
        simpa using this
      obtain ⟨i, k, rfl, hk⟩ : ∃ i k, j = i * 3 + k ∧ k < 3 := ⟨j / 3, j % 3, by omega, by omega⟩
      have hi : i < len := by omega
      have hg := rowVals_get ((List.range len).map V) i k hk (by simpa using hi)
      rw [hg] at hu
      obtain ⟨c0, c1, c2, _⟩ := hV i hi
      rw [add_spot hs] at c0 c1 c2
      match k, hk, hu with
      | 0, _, hu => simp [Cell.vals] at hu; subst hu; exact c0
      | 1, _, hu => simp [Cell.vals] at hu; subst hu; exact c1
      | 2, _, hu => simp [Cell.vals] at hu; subst hu; exact c2
    · obtain ⟨i, hi, rfl⟩ := List.mem_map.1 hc
      exact (hV i (List.mem_range.1 hi)).2.2.2
theorem open_ents {fuel : Nat} {cs : List Value} {x : DataW H × List MemPlace} (h : DataW.trod enc Tryz.prog w base spare held fuel 31 cs = some x) : ∃ v l, cs = [v] ∧ EntsIs w v l ∧ EFits l := by
  rcases open_slice_fields Tryz.underlying31 Tryz.underlying51 (by kernel_rfl) (by kernel_rfl) h with rfl | ⟨a, len, cap, rfl, hl, hm, hf⟩
  · exact ⟨_, [], rfl, EntsIs.nil_ w, fun e he => absurd he (by simp)⟩
  · have hx : ∀ i, i < len → ∃ c : (Value × Value) × Ent, w.cell? (a.add (i * 3 + 0)) = some c.1.1 ∧ w.cell? (a.add (i * 3 + 1)) = some c.1.2 ∧ w.cell? (a.add (i * 3 + 2)) = some (.int .i64 c.2.w) ∧ RowIs w c.1.1 c.2.key ∧ RowIs w c.1.2 c.2.vals ∧ (∀ y ∈ c.2.key, fit y.n) ∧ (∀ y ∈ c.2.vals, fit y.n) ∧ fit c.2.w := by
      intro i hi
      obtain ⟨n, hf⟩ := hf i hi
      obtain ⟨v0, y0, h0, t0⟩ := hf 0 _ rfl
      obtain ⟨v1, y1, h1, t1⟩ := hf 1 _ rfl
      obtain ⟨v2, y2, h2, t2⟩ := hf 2 _ rfl
      obtain ⟨v, r, e0, hr, hrf⟩ := open_row_fit t0
      obtain ⟨u, q, e1, hq, hqf⟩ := open_row_fit t1
      obtain ⟨k, e2, _, hk⟩ := DataW.trod_int Tryz.underlying2 t2
      injection e0 with e0
      injection e1 with e1
      injection e2 with e2
      subst e0 e1 e2
      refine ⟨((v0, v1), ⟨r, q, k⟩), h0, h1, h2, hr, hq, hrf, hqf, ?_⟩
      simp [Lit.wf, IntKind.min, IntKind.max, IntKind.signed, IntKind.bits] at hk
      show -9223372036854775808 ≤ k ∧ k < 9223372036854775808
      omega
    have : Inhabited ((Value × Value) × Ent) := ⟨((.nilIface, .nilIface), ⟨[], [], 0⟩)⟩
    obtain ⟨V, hV⟩ := choose_lt hx
    refine ⟨_, (List.range len).map fun i => (V i).2, rfl, ⟨(List.range len).map fun i => (V i).1, by simp, ⟨some a, cap, by simp, by simpa using hl, hm, fun hne => ?_⟩, fun i hi hi' => ?_⟩, fun y hy => ?_⟩
    · have hlen : 0 < len := by
        rcases Nat.eq_zero_or_pos len with h0 | h0
        · subst h0; exact absurd rfl hne
        · exact h0
      have hs : a.spot = none := by
        have := (hV 0 hlen).1
        exact spot_none (a := a) (by simpa [Addr.add] using this)
      refine ⟨a.block, a.off, by cases a; simp_all, fun j u hu => ?_⟩
      have hj : j < len * 3 := by
        have := (List.getElem?_eq_some_iff.1 hu).1
        rw [entVals_length _ _ (by simp)] at this
        simpa using this
      obtain ⟨i, k, rfl, hk⟩ : ∃ i k, j = i * 3 + k ∧ k < 3 := ⟨j / 3, j % 3, by omega, by omega⟩
      have hi : i < len := by omega
      obtain ⟨g1, g2, g3⟩ := entVals_get ((List.range len).map fun i => (V i).1) ((List.range len).map fun i => (V i).2) i (by simpa using hi) (by simpa using hi)
      obtain ⟨c0, c1, c2, _⟩ := hV i hi
      rw [add_spot hs] at c0 c1 c2
      match k, hk, hu with
      | 0, _, hu => rw [Nat.add_zero, g1] at hu; simp at hu; subst hu; exact c0
      | 1, _, hu => rw [g2] at hu; simp at hu; subst hu; exact c1
      | 2, _, hu => rw [g3] at hu; simp at hu; subst hu; exact c2
    · have hil : i < len := by simpa using hi
      obtain ⟨_, _, _, c3, c4, _⟩ := hV i hil
      simpa using ⟨c3, c4⟩
    · obtain ⟨i, hi, rfl⟩ := List.mem_map.1 hy
      exact (hV i (List.mem_range.1 hi)).2.2.2.2.2
theorem open_lists {fuel : Nat} {cs : List Value} {x : DataW H × List MemPlace} (h : DataW.trod enc Tryz.prog w base spare held fuel 23 cs = some x) : ∃ v l, cs = [v] ∧ ListsIs w v l ∧ ∀ y ∈ l, EFits y := by
  rcases open_slice_one Tryz.underlying23 (by kernel_rfl) h with rfl | ⟨a, len, cap, rfl, hl, hm, hf⟩
  · exact ⟨_, [], rfl, ⟨[], rfl, Sl.nil_ w, fun i hi => absurd hi (by simp)⟩, by simp⟩
  · have hx : ∀ i, i < len → ∃ c : Value × List Ent, w.cell? (a.add i) = some c.1 ∧ EntsIs w c.1 c.2 ∧ EFits c.2 := by
      intro i hi
      obtain ⟨n, v, y, h0, t0⟩ := hf i hi
      obtain ⟨v', l, e0, hn, hq⟩ := open_ents t0
      injection e0 with e0
      subst e0
      exact ⟨(v, l), h0, hn, hq⟩
    have : Inhabited (Value × List Ent) := ⟨(.nilIface, [])⟩
    obtain ⟨V, hV⟩ := choose_lt hx
    refine ⟨_, (List.range len).map fun i => (V i).2, rfl, ⟨(List.range len).map fun i => (V i).1, by simp, ?_, fun i hi hi' => ?_⟩, fun y hy => ?_⟩
    · have := sl_of_cells (V := fun i => (V i).1) hl hm (fun i hi => (hV i hi).1)
      simpa using this
    · have hil : i < len := by simpa using hi
      simpa using (hV i hil).2.1
    · obtain ⟨i, hi, rfl⟩ := List.mem_map.1 hy
      exact (hV i (List.mem_range.1 hi)).2.2
set_option maxRecDepth 100000 in
theorem ents_arg {r : Reach} {b0 : Nat} {v : Value} {d : DataW H} {p : List MemPlace} (hv : Value.okWide Tryz.prog w r b0 31 v) (h : DataW.Trod enc Tryz.prog w base spare held 31 v d p) : ∃ l, EntsIs w v l ∧ EFits l := by
  obtain ⟨a, len, cap, rfl⟩ := okWide_slice Tryz.underlying31 hv
  obtain ⟨fuel, hf⟩ := h
  obtain ⟨v, l, e, h1, h2⟩ := open_ents hf
  simp [Value.cells] at e
  subst e
  exact ⟨l, h1, h2⟩
set_option maxRecDepth 100000 in
theorem lists_arg {r : Reach} {b0 : Nat} {v : Value} {d : DataW H} {p : List MemPlace} (hv : Value.okWide Tryz.prog w r b0 23 v) (h : DataW.Trod enc Tryz.prog w base spare held 23 v d p) : ∃ l, ListsIs w v l ∧ ∀ y ∈ l, EFits y := by
  obtain ⟨a, len, cap, rfl⟩ := okWide_slice Tryz.underlying23 hv
  obtain ⟨fuel, hf⟩ := h
  obtain ⟨v, l, e, h1, h2⟩ := open_lists hf
  simp [Value.cells] at e
  subst e
  exact ⟨l, h1, h2⟩
end
set_option maxRecDepth 100000 in
theorem two_arg {w : World} {H : Type} {enc : TypeId × Value → H} {base : Nat} {spare : Nat → Bool} {held : Bool} {r : Reach} {b0 : Nat} {v : Value} {d : DataW H} {p : List MemPlace} (hv : Value.okWide Tryz.prog w r b0 22 v) (h : DataW.Trod enc Tryz.prog w base spare held 22 v d p) :
    ∃ k0 k1 : Int, v = .agg #[.int .i64 k0, .int .i64 k1] := by
  simp only [Value.okWide, Tryz.underlying22] at hv
  obtain ⟨cs, rfl, hsz, _⟩ := hv
  have hc2 : Tryz.prog.cellsOf 22 = 2 := by kernel_rfl
  have hc1 : Tryz.prog.cellsOf 3 = 1 := by kernel_rfl
  rw [hc2] at hsz
  obtain ⟨l⟩ := cs
  match l, hsz with
  | [c0, c1], _ =>
    obtain ⟨fuel, hf⟩ := h
    obtain ⟨xs, n, _, _, _, hxl, hg⟩ := DataW.trod_array Tryz.underlying22 hf
    rw [hc1] at hg
    match xs, hxl with
    | [y0, y1], _ =>
      have g0 := hg 0 (by omega)
      have g1 := hg 1 (by omega)
      simp [Value.cells] at g0 g1
      obtain ⟨k0, e0, _⟩ := DataW.trod_int Tryz.underlying3 g0
      obtain ⟨k1, e1, _⟩ := DataW.trod_int Tryz.underlying3 g1
      injection e0 with e0
      injection e1 with e1
      subst e0 e1
      exact ⟨k0, k1, rfl⟩

/-! ### the tables that are laid -/
def laidThree : List (String × DataW Unit) := [("math/bits.deBruijn32tab", Rows.laid_math_bits_deBruijn32tab), ("math/bits.deBruijn64tab", Rows.laid_math_bits_deBruijn64tab), ("internal/strconv.uint64pow10", Rows.laid_internal_strconv_uint64pow10)]
theorem pow_eq : (Rows.laid_internal_strconv_uint64pow10 : DataW Unit) = Lib.tabData .u64 Lib.pow10Tab := by kernel_rfl
theorem tabIs_reads {P : Program} {W : World} {name : String} {k : IntKind} {zs : List Int} {g : Nat} {t e : TypeId} {n : Nat}
    (hg : P.globalNamed name = some g) (hty : (P.globals[g]?).map (·.type) = some t) (ht : P.underlying t = some (.array n e)) (he : P.underlying e = some (.int k)) (hce : P.cellsOf e = 1) (hct : P.cellsOf t = n)
    (h : Lib.VarReads P W name (Lib.tabData k zs)) : Lib.TabIs P W name k zs := by
  obtain ⟨g', t', cs, fuel, p, hg', ht', hvar, hd⟩ := h
  obtain rfl := Option.some.inj (hg.symm.trans hg')
  obtain rfl := Option.some.inj (hty.symm.trans ht')
  unfold Lib.TabIs
  rw [hvar, ← Lib.cells_of_tab ht he hce hct hd]
theorem three_pow {W : World} (h : laidMetH Tryz.prog laidThree W) : PowTab W := by
  rw [Go.MakeChecks.laidMetH_plain _ _ _ (by kernel_rfl)] at h
  have h2 := Lib.laidMet.reads h (.tail _ (.tail _ (.head _)))
  rw [pow_eq] at h2
  exact tabIs_reads (g := 0) (t := 190) (e := 82) (n := 20) (by kernel_rfl) (by kernel_rfl) (by kernel_rfl) Tryz.underlying82 (by kernel_rfl) (by kernel_rfl) h2
def litCells : List (DataW Unit) → List Value
  | [] => []
  | .lit (.int k z) :: l => .int k z :: litCells l
  | _ :: l => litCells l
def aggCells : DataW Unit → List Value
  | .agg l => litCells l
  | _ => []
/-- the witness: the settled world, the variables holding what their initialisers lay -/
theorem three_met (os : Os) (args : Array Value) : laidMetH Tryz.prog laidThree (({ World.holding Tryz.prog os ⟨#[], #[], []⟩ with
    heap := ((((World.holding Tryz.prog os ⟨#[], #[], []⟩).heap.setIfInBounds 0 (.cells (aggCells Rows.laid_internal_strconv_uint64pow10).toArray 190)).setIfInBounds 2 (.cells (aggCells Rows.laid_math_bits_deBruijn32tab).toArray 195)).setIfInBounds 3 (.cells (aggCells Rows.laid_math_bits_deBruijn64tab).toArray 196)) } : World).forCall (fun _ _ => 0) ⟨#[], args, []⟩).memory := by
  rw [Go.MakeChecks.laidMetH_plain _ _ _ (by kernel_rfl)]
  exact (LaidIn.of_run [0, 2, 3] 8 (by kernel_rfl) (by kernel_rfl) (by kernel_rfl) (by kernel_rfl)).met
end Go.Proofs.YtmfbblcipakaiaaGreatDoor
