/- The seven variables that the chapter's rows list: the tables of UTF-8, the powers of ten, the tables of bits, and the two errors of strconv. -/
import Derived.Test.YtcddfpcapbdphaaDoorOpenT
import Derived.Test.YtcddfpcapbdphaaDoorJr5
import Derived.Stop.LaidErr
namespace Go.Proofs.YtcddfpcapbdphaaDoor
open Go.RowKit Go.ChangeShapes Go.WideShapes Go.Deep

def laidSeven : List (String × DataW Unit) := [("math/bits.deBruijn32tab", Rows.laid_math_bits_deBruijn32tab), ("math/bits.deBruijn64tab", Rows.laid_math_bits_deBruijn64tab), ("internal/strconv.uint64pow10", Rows.laid_internal_strconv_uint64pow10), ("unicode/utf8.acceptRanges", Rows.laid_unicode_utf8_acceptRanges), ("strconv.ErrRange", Rows.laid_strconv_ErrRange), ("strconv.ErrSyntax", Rows.laid_strconv_ErrSyntax), ("unicode/utf8.first", Rows.laid_unicode_utf8_first)]
theorem errStar : "*" ++ "errors.errorString" = "*errors.errorString" := by decide
theorem errRow (u : TypeId) (h : Tryd.prog.typeName? 3 u = some "*errors.errorString") : u = 181 :=
  typeName_ptr_named (nm := "errors.errorString") (by rw [errStar]; kernel_rfl) (by kernel_rfl) (by decide) u (by rw [errStar]; exact h)
theorem seven_laid {W : World} (h : laidMetH Tryd.prog laidSeven W) : Tabs W ∧ Errs W := by
  rw [Go.MakeChecks.laidMetH_plain _ _ _ (by kernel_rfl)] at h
  have h4 := Lib.laidMet.reads h (.tail _ (.tail _ (.tail _ (.head _))))
  have h3 := Lib.laidMet.reads h (.tail _ (.tail _ (.tail _ (.tail _ (.tail _ (.tail _ (.head _)))))))
  rw [accept_eq] at h4
  rw [show Rows.laid_unicode_utf8_first = Lib.firstData from Pinned.utf8First_eq] at h3
  have t4 : laidMet Tryd.prog [("strconv.ErrRange", Rows.laid_strconv_ErrRange), ("strconv.ErrSyntax", Rows.laid_strconv_ErrSyntax), ("unicode/utf8.first", Rows.laid_unicode_utf8_first)] W := laidMet.tail (laidMet.tail (laidMet.tail (laidMet.tail h)))
  obtain ⟨a1, s1, e1, _⟩ := laid_sentinel t4 (g := 7) (ti := 76) (tp := 181) (te := 183) (ts := 9) (by kernel_rfl) (by kernel_rfl) Tryd.underlying76 errRow Tryd.underlying181 Tryd.underlying183 rfl rfl Tryd.underlying9 (by kernel_rfl) (by kernel_rfl)
  obtain ⟨a2, s2, e2, _⟩ := laid_sentinel (laidMet.tail t4) (g := 6) (ti := 76) (tp := 181) (te := 183) (ts := 9) (by kernel_rfl) (by kernel_rfl) Tryd.underlying76 errRow Tryd.underlying181 Tryd.underlying183 rfl rfl Tryd.underlying9 (by kernel_rfl) (by kernel_rfl)
  exact ⟨utf8Tabs_of_readsT (U8Types.of196 Tryd.lays196) u8extra h3 h4, ⟨_, _, e2⟩, _, _, e1⟩
def litCells : List (DataW Unit) → List Value
  | [] => []
  | .lit (.int k z) :: l => .int k z :: litCells l
  | _ :: l => litCells l
def aggCells : DataW Unit → List Value
  | .agg l => litCells l
  | _ => []
abbrev rangeS : ByteArray := ⟨#[118, 97, 108, 117, 101, 32, 111, 117, 116, 32, 111, 102, 32, 114, 97, 110, 103, 101]⟩
abbrev syntaxS : ByteArray := ⟨#[105, 110, 118, 97, 108, 105, 100, 32, 115, 121, 110, 116, 97, 120]⟩
/-- the witness: the settled world, the variables holding what their initialisers lay -/
theorem seven_met (os : Os) (args : Array Value) : laidMetH Tryd.prog laidSeven (({ World.holding Tryd.prog os ⟨#[.cells #[.string rangeS] 183, .cells #[.string syntaxS] 183], #[], []⟩ with
    heap := (((((((World.holding Tryd.prog os ⟨#[.cells #[.string rangeS] 183, .cells #[.string syntaxS] 183], #[], []⟩).heap.setIfInBounds 1 (.cells (Lib.firstTab.map fun z => Value.int .u8 z).toArray (Tryd.lays196_ren.t 119))).setIfInBounds 2
      (.cells ((List.range 16).flatMap fun i => [Value.int .u8 (Lib.accLo i), Value.int .u8 (Lib.accHi i)]).toArray (Tryd.lays196_ren.t 139))).setIfInBounds 0 (.cells (aggCells Rows.laid_internal_strconv_uint64pow10).toArray 130)).setIfInBounds 4 (.cells (aggCells Rows.laid_math_bits_deBruijn32tab).toArray 169)).setIfInBounds 5 (.cells (aggCells Rows.laid_math_bits_deBruijn64tab).toArray 170)).setIfInBounds 7 (.cells #[.iface 181 (.pointer (some ⟨(World.holding Tryd.prog os ⟨#[], #[], []⟩).heap.size, 0, none⟩))] 76)).setIfInBounds 6 (.cells #[.iface 181 (.pointer (some ⟨(World.holding Tryd.prog os ⟨#[], #[], []⟩).heap.size + 1, 0, none⟩))] 76) } : World).forCall (fun _ _ => 0) ⟨#[], args, []⟩).memory := by
  rw [Go.MakeChecks.laidMetH_plain _ _ _ (by kernel_rfl)]
  exact (LaidIn.of_run [1, 2, 0, 4, 5, 7, 6, (World.holding Tryd.prog os ⟨#[], #[], []⟩).heap.size, (World.holding Tryd.prog os ⟨#[], #[], []⟩).heap.size + 1] 8 (by kernel_rfl) (by kernel_rfl) (by kernel_rfl) (by kernel_rfl)).met
end Go.Proofs.YtcddfpcapbdphaaDoor
