/- The five tables that the chapter's rows list; an argument of nodes with its numbers' range. -/
import Derived.Test.YtmolmphbhdbcaaaDoorOpenT
import Derived.Test.YtmolmphbhdbcaaaDoorPut
import Derived.Test.YtmolmphbhdbcaaaDoorShowW
namespace Go.Proofs.YtmolmphbhdbcaaaDoor
open Go.RowKit Go.ChangeShapes Go.WideShapes Go.Deep

def laidFive : List (String × DataW Unit) := [("math/bits.deBruijn32tab", Rows.laid_math_bits_deBruijn32tab), ("math/bits.deBruijn64tab", Rows.laid_math_bits_deBruijn64tab), ("internal/strconv.uint64pow10", Rows.laid_internal_strconv_uint64pow10), ("unicode/utf8.acceptRanges", Rows.laid_unicode_utf8_acceptRanges), ("unicode/utf8.first", Rows.laid_unicode_utf8_first)]
theorem pow_eq : (Rows.laid_internal_strconv_uint64pow10 : DataW Unit) = Lib.tabData .u64 Lib.pow10Tab := by kernel_rfl
theorem tabIs_reads {P : Program} {W : World} {name : String} {k : IntKind} {zs : List Int} {g : Nat} {t e : TypeId} {n : Nat}
    (hg : P.globalNamed name = some g) (hty : (P.globals[g]?).map (·.type) = some t) (ht : P.underlying t = some (.array n e)) (he : P.underlying e = some (.int k)) (hce : P.cellsOf e = 1) (hct : P.cellsOf t = n)
    (h : Lib.VarReads P W name (Lib.tabData k zs)) : Lib.TabIs P W name k zs := by
  obtain ⟨g', t', cs, fuel, p, hg', ht', hvar, hd⟩ := h
  obtain rfl := Option.some.inj (hg.symm.trans hg')
  obtain rfl := Option.some.inj (hty.symm.trans ht')
  unfold Lib.TabIs
  rw [hvar, ← Lib.cells_of_tab ht he hce hct hd]
theorem five_laid {W : World} (h : laidMetH Tryd.prog laidFive W) : Tabs W ∧ PowTab W := by
  rw [Go.MakeChecks.laidMetH_plain _ _ _ (by kernel_rfl)] at h
  have h2 := Lib.laidMet.reads h (.tail _ (.tail _ (.head _)))
  have h4 := Lib.laidMet.reads h (.tail _ (.tail _ (.tail _ (.head _))))
  have h3 := Lib.laidMet.reads h (.tail _ (.tail _ (.tail _ (.tail _ (.head _)))))
  rw [accept_eq] at h4
  rw [pow_eq] at h2
  rw [show Rows.laid_unicode_utf8_first = Lib.firstData from Pinned.utf8First_eq] at h3
  exact ⟨utf8Tabs_of_readsT (U8Types.of196 Tryd.lays196) u8extra h3 h4, tabIs_reads (g := 3) (t := 143) (e := 105) (n := 20) (by kernel_rfl) (by kernel_rfl) (by kernel_rfl) Tryd.underlying105 (by kernel_rfl) (by kernel_rfl) h2⟩
def litCells : List (DataW Unit) → List Value
  | [] => []
  | .lit (.int k z) :: l => .int k z :: litCells l
  | _ :: l => litCells l
def aggCells : DataW Unit → List Value
  | .agg l => litCells l
  | _ => []
/-- the witness: the settled world, the variables holding what their initialisers lay -/
theorem five_met (os : Os) (args : Array Value) : laidMetH Tryd.prog laidFive (({ World.holding Tryd.prog os ⟨#[], #[], []⟩ with
    heap := ((((World.holding Tryd.prog os ⟨#[], #[], []⟩).heap.setIfInBounds (Tryd.lays196_ren.g 3) (.cells (Lib.firstTab.map fun z => Value.int .u8 z).toArray (Tryd.lays196_ren.t 119))).setIfInBounds (Tryd.lays196_ren.g 4)
      (.cells ((List.range 16).flatMap fun i => [Value.int .u8 (Lib.accLo i), Value.int .u8 (Lib.accHi i)]).toArray (Tryd.lays196_ren.t 139))).setIfInBounds 3 (.cells (Lib.pow10Tab.map fun z => Value.int .u64 z).toArray 143)).setIfInBounds 4 (.cells (aggCells Rows.laid_math_bits_deBruijn32tab).toArray 157) |>.setIfInBounds 5 (.cells (aggCells Rows.laid_math_bits_deBruijn64tab).toArray 158) } : World).forCall (fun _ _ => 0) ⟨#[], args, []⟩).memory := by
  rw [Go.MakeChecks.laidMetH_plain _ _ _ (by kernel_rfl)]
  exact (LaidIn.of_run [Tryd.lays196_ren.g 4, Tryd.lays196_ren.g 3, 3, 4, 5] 8 (by kernel_rfl) (by kernel_rfl) (by kernel_rfl) (by kernel_rfl)).met
theorem i64_of_wf {n : Int} (h : (Lit.int .i64 n).wf = true) : -9223372036854775808 ≤ n ∧ n ≤ 9223372036854775807 := by
  simp [Lit.wf, IntKind.min, IntKind.max, IntKind.signed, IntKind.bits] at h
  omega
section
variable {H : Type} {enc : TypeId × Value → H} {w : World} {base : Nat} {spare : Nat → Bool} {held : Bool}
set_option maxRecDepth 100000 in
theorem nodes_arg_n {r : Reach} {b0 : Nat} {v : Value} {d : DataW H} {p : List MemPlace} (hv : Value.okWide Tryd.prog w r b0 22 v) (h : DataW.Trod enc Tryd.prog w base spare held 22 v d p) : ∃ l, NodesIs w v l ∧ NumsOk l := by
  obtain ⟨l, hl⟩ := nodes_arg hv h
  refine ⟨l, hl, fun x hx => ?_⟩
  obtain ⟨fuel, hf⟩ := h
  obtain ⟨A, cp, rfl, h1, h2, h3⟩ := hl.nodes
  obtain ⟨i, hi, rfl⟩ := List.getElem_of_mem hx
  obtain ⟨b, off, rfl, hc⟩ := h3.resolve_left (by omega)
  obtain ⟨x0, x1, c2, x3, x4⟩ := hc i hi
  rcases open_slice_fields Tryd.underlying22 Tryd.underlying50 (by kernel_rfl) (by kernel_rfl) hf with e | ⟨a', len', cap', e, q1, q2, hf2⟩
  · simp [Value.cells] at e
  · simp only [Value.cells] at e
    injection e with e _
    injection e with e1 e2 e3
    injection e1 with e1
    subst e1 e2
    obtain ⟨n, hf3⟩ := hf2 i hi
    obtain ⟨v2, y2, hcell, t2⟩ := hf3 2 _ rfl
    have hcell' : w.cell? ((⟨b, off, none⟩ : Addr).add (i * 5 + 2)) = some v2 := hcell
    obtain ⟨k2, e2, _, hw⟩ := DataW.trod_int Tryd.underlying2 t2
    injection e2 with e2
    subst e2
    rw [add_spot rfl, ← Nat.add_assoc, c2] at hcell'
    injection hcell' with hcell'
    injection hcell' with _ hk
    rw [hk]
    exact i64_of_wf hw
end
end Go.Proofs.YtmolmphbhdbcaaaDoor
