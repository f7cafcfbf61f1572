/-
  NARROWER THAN 'FOR EVERY INPUT', by the rows' own cells (each row's printed sentence says how): TapeMakes: laid · TapeApart: laid · TapeDeep: laid · TapeTells: laid · TapeAgain: laid · TapeSorted: laid · TapeOrder: laid · TapeKnown: laid.
  DERIVED. THE GIVEN ROWS OF THIS SEAT. 8 by the template 'for every input the law returns true; each argument reads behind the call as it read before'; 0 by the template 'total and deterministic' (their statements: YtkefhhnbkhijgaaDoorTotals.lean).
  GIVEN WITH THE SEED: the statements are not yours to turn. If you find one false, say at which input.
  Laid BY PROGRAM, IN A SANDBOX (cutbox-rows.mjs): the forced cells as the released guide's own fill.sh prints them over the translation d1f37cc7e25090cf… (all of the seat's roots in one cut). By AI agents, Wed Nov 11 2026. No macro, syntax, notation, axiom, sorry.
-/
import Derived.Test.YtkefhhnbkhijgaaDoorChecked
import GoSem.PinnedTables
import GoSem.Claim
import GoSem.ClaimJoined
import GoSem.ClaimMapViews
import Derived.JoinedTies
import Derived.KernelRfl
namespace Go.Proofs.YtkefhhnbkhijgaaDoor
/- THE CELL 'sum', in the pinned program and in every row, IS THE sha256 OF THE DUMP (.gsa) THAT YtkefhhnbkhijgaaDoorProg.lean LOADS. Nothing in Lean hashes anything: it is a label: what it is worth is what the hold of that sum in a sandbox is worth. -/
noncomputable def Tryd.pinned : Pinned := { name := "ytkefhhnbkhijgaadoor", sum := "d1f37cc7e25090cf5aa9ebbf4e43e949561ec5b66a2665f13a784bc3bc41e767", checked := Tryd.checked }
namespace Rows
def none {H : Type} : Left H := { results := [], args := [] }

/- WHAT THE LISTED PACKAGE-LEVEL VARIABLES READ AS WHEN THE CALL BEGINS. Each datum BY PROGRAM (the guide's laid-datum.mjs) off the statement by which the dump's own 'gosem.cut.vars' lays the variable. In a bare row this is a premise. The card (YtkefhhnbkhijgaaDoorCards.lean) ties it to the program's text. -/
def laid_unicode_utf8_acceptRanges {H : Type} : DataW H := .agg [.agg [.lit (.int .u8 128), .lit (.int .u8 191)], .agg [.lit (.int .u8 160), .lit (.int .u8 191)], .agg [.lit (.int .u8 128), .lit (.int .u8 159)], .agg [.lit (.int .u8 144), .lit (.int .u8 191)], .agg [.lit (.int .u8 128), .lit (.int .u8 143)], .agg [.lit (.int .u8 0), .lit (.int .u8 0)], .agg [.lit (.int .u8 0), .lit (.int .u8 0)], .agg [.lit (.int .u8 0), .lit (.int .u8 0)], .agg [.lit (.int .u8 0), .lit (.int .u8 0)], .agg [.lit (.int .u8 0), .lit (.int .u8 0)], .agg [.lit (.int .u8 0), .lit (.int .u8 0)], .agg [.lit (.int .u8 0), .lit (.int .u8 0)], .agg [.lit (.int .u8 0), .lit (.int .u8 0)], .agg [.lit (.int .u8 0), .lit (.int .u8 0)], .agg [.lit (.int .u8 0), .lit (.int .u8 0)], .agg [.lit (.int .u8 0), .lit (.int .u8 0)]]
/-- One of Go's own tables, pinned by name: the form's constant. -/
def laid_unicode_utf8_first : DataW Unit := Go.Pinned.utf8First

/-- 'millstreamlaw06.TapeMakes': WHATEVER THE INPUT: true; the input reads as it did. -/
def tapeMakesSpec : ChangeSpec := { name := "tapeMakes", fn := fun _ => fun
  | [d1, d2, d3] => { results := [.lit (.bool true)], args := [d1, d2, d3] }
  | _ => none }
def tapeMakesRow : OpenClaim := { program := "ytkefhhnbkhijgaadoor", sum := "d1f37cc7e25090cf5aa9ebbf4e43e949561ec5b66a2665f13a784bc3bc41e767", func := "millstream/millstreamlaw06.TapeMakes", spec := "tapeMakes", unfollowed := true, recurses := true, named := ["unicode/utf8.first", "unicode/utf8.acceptRanges"], apart := false, laid := [("unicode/utf8.acceptRanges", laid_unicode_utf8_acceptRanges), ("unicode/utf8.first", laid_unicode_utf8_first)] }
def TapeMakesSaid : Prop := tapeMakesRow.holds Tryd.pinned (OpenSpec.ofChange tapeMakesSpec)

/-- ITS FALSE NEIGHBOUR: 'it returns false'. Refute it at one input. -/
def tapeMakesWrong : ChangeSpec := { name := "tapeMakes", fn := fun _ => fun
  | [d1, d2, d3] => { results := [.lit (.bool false)], args := [d1, d2, d3] }
  | _ => none }
def TapeMakesWrongFalsely : Prop := tapeMakesRow.holds Tryd.pinned (OpenSpec.ofChange tapeMakesWrong)

/-- 'millstreamlaw06.TapeApart': WHATEVER THE INPUT: true; the input reads as it did. -/
def tapeApartSpec : ChangeSpec := { name := "tapeApart", fn := fun _ => fun
  | [d] => { results := [.lit (.bool true)], args := [d] }
  | _ => none }
def tapeApartRow : OpenClaim := { program := "ytkefhhnbkhijgaadoor", sum := "d1f37cc7e25090cf5aa9ebbf4e43e949561ec5b66a2665f13a784bc3bc41e767", func := "millstream/millstreamlaw06.TapeApart", spec := "tapeApart", unfollowed := true, recurses := true, named := ["unicode/utf8.first", "unicode/utf8.acceptRanges"], apart := false, laid := [("unicode/utf8.acceptRanges", laid_unicode_utf8_acceptRanges), ("unicode/utf8.first", laid_unicode_utf8_first)] }
def TapeApartSaid : Prop := tapeApartRow.holds Tryd.pinned (OpenSpec.ofChange tapeApartSpec)

/-- ITS FALSE NEIGHBOUR: 'it returns false'. Refute it at one input. -/
def tapeApartWrong : ChangeSpec := { name := "tapeApart", fn := fun _ => fun
  | [d] => { results := [.lit (.bool false)], args := [d] }
  | _ => none }
def TapeApartWrongFalsely : Prop := tapeApartRow.holds Tryd.pinned (OpenSpec.ofChange tapeApartWrong)

/-- 'millstreamlaw06.TapeDeep': WHATEVER THE INPUT: true; the input reads as it did. -/
def tapeDeepSpec : ChangeSpec := { name := "tapeDeep", fn := fun _ => fun
  | [d1, d2] => { results := [.lit (.bool true)], args := [d1, d2] }
  | _ => none }
def tapeDeepRow : OpenClaim := { program := "ytkefhhnbkhijgaadoor", sum := "d1f37cc7e25090cf5aa9ebbf4e43e949561ec5b66a2665f13a784bc3bc41e767", func := "millstream/millstreamlaw06.TapeDeep", spec := "tapeDeep", unfollowed := true, recurses := true, named := ["unicode/utf8.first", "unicode/utf8.acceptRanges"], apart := false, laid := [("unicode/utf8.acceptRanges", laid_unicode_utf8_acceptRanges), ("unicode/utf8.first", laid_unicode_utf8_first)] }
def TapeDeepSaid : Prop := tapeDeepRow.holds Tryd.pinned (OpenSpec.ofChange tapeDeepSpec)

/-- ITS FALSE NEIGHBOUR: 'it returns false'. Refute it at one input. -/
def tapeDeepWrong : ChangeSpec := { name := "tapeDeep", fn := fun _ => fun
  | [d1, d2] => { results := [.lit (.bool false)], args := [d1, d2] }
  | _ => none }
def TapeDeepWrongFalsely : Prop := tapeDeepRow.holds Tryd.pinned (OpenSpec.ofChange tapeDeepWrong)

/-- 'millstreamlaw06.TapeTells': WHATEVER THE INPUT: true; the input reads as it did. -/
def tapeTellsSpec : ChangeSpec := { name := "tapeTells", fn := fun _ => fun
  | [d1, d2, d3] => { results := [.lit (.bool true)], args := [d1, d2, d3] }
  | _ => none }
def tapeTellsRow : OpenClaim := { program := "ytkefhhnbkhijgaadoor", sum := "d1f37cc7e25090cf5aa9ebbf4e43e949561ec5b66a2665f13a784bc3bc41e767", func := "millstream/millstreamlaw06.TapeTells", spec := "tapeTells", unfollowed := true, recurses := true, named := ["unicode/utf8.first", "unicode/utf8.acceptRanges"], apart := false, laid := [("unicode/utf8.acceptRanges", laid_unicode_utf8_acceptRanges), ("unicode/utf8.first", laid_unicode_utf8_first)] }
def TapeTellsSaid : Prop := tapeTellsRow.holds Tryd.pinned (OpenSpec.ofChange tapeTellsSpec)

/-- ITS FALSE NEIGHBOUR: 'it returns false'. Refute it at one input. -/
def tapeTellsWrong : ChangeSpec := { name := "tapeTells", fn := fun _ => fun
  | [d1, d2, d3] => { results := [.lit (.bool false)], args := [d1, d2, d3] }
  | _ => none }
def TapeTellsWrongFalsely : Prop := tapeTellsRow.holds Tryd.pinned (OpenSpec.ofChange tapeTellsWrong)

/-- 'millstreamlaw06.TapeAgain': WHATEVER THE INPUT: true; the input reads as it did. -/
def tapeAgainSpec : ChangeSpec := { name := "tapeAgain", fn := fun _ => fun
  | [d] => { results := [.lit (.bool true)], args := [d] }
  | _ => none }
def tapeAgainRow : OpenClaim := { program := "ytkefhhnbkhijgaadoor", sum := "d1f37cc7e25090cf5aa9ebbf4e43e949561ec5b66a2665f13a784bc3bc41e767", func := "millstream/millstreamlaw06.TapeAgain", spec := "tapeAgain", unfollowed := true, recurses := true, named := ["unicode/utf8.first", "unicode/utf8.acceptRanges"], apart := false, laid := [("unicode/utf8.acceptRanges", laid_unicode_utf8_acceptRanges), ("unicode/utf8.first", laid_unicode_utf8_first)] }
def TapeAgainSaid : Prop := tapeAgainRow.holds Tryd.pinned (OpenSpec.ofChange tapeAgainSpec)

/-- ITS FALSE NEIGHBOUR: 'it returns false'. Refute it at one input. -/
def tapeAgainWrong : ChangeSpec := { name := "tapeAgain", fn := fun _ => fun
  | [d] => { results := [.lit (.bool false)], args := [d] }
  | _ => none }
def TapeAgainWrongFalsely : Prop := tapeAgainRow.holds Tryd.pinned (OpenSpec.ofChange tapeAgainWrong)

/-- 'millstreamlaw06.TapeSorted': WHATEVER THE INPUT: true; the input reads as it did. -/
def tapeSortedSpec : ChangeSpec := { name := "tapeSorted", fn := fun _ => fun
  | [d] => { results := [.lit (.bool true)], args := [d] }
  | _ => none }
def tapeSortedRow : OpenClaim := { program := "ytkefhhnbkhijgaadoor", sum := "d1f37cc7e25090cf5aa9ebbf4e43e949561ec5b66a2665f13a784bc3bc41e767", func := "millstream/millstreamlaw06.TapeSorted", spec := "tapeSorted", unfollowed := true, recurses := true, named := ["unicode/utf8.first", "unicode/utf8.acceptRanges"], apart := false, laid := [("unicode/utf8.acceptRanges", laid_unicode_utf8_acceptRanges), ("unicode/utf8.first", laid_unicode_utf8_first)] }
def TapeSortedSaid : Prop := tapeSortedRow.holds Tryd.pinned (OpenSpec.ofChange tapeSortedSpec)

/-- ITS FALSE NEIGHBOUR: 'it returns false'. Refute it at one input. -/
def tapeSortedWrong : ChangeSpec := { name := "tapeSorted", fn := fun _ => fun
  | [d] => { results := [.lit (.bool false)], args := [d] }
  | _ => none }
def TapeSortedWrongFalsely : Prop := tapeSortedRow.holds Tryd.pinned (OpenSpec.ofChange tapeSortedWrong)

/-- 'millstreamlaw06.TapeOrder': WHATEVER THE INPUT: true; the input reads as it did. -/
def tapeOrderSpec : ChangeSpec := { name := "tapeOrder", fn := fun _ => fun
  | [d1, d2, d3] => { results := [.lit (.bool true)], args := [d1, d2, d3] }
  | _ => none }
def tapeOrderRow : OpenClaim := { program := "ytkefhhnbkhijgaadoor", sum := "d1f37cc7e25090cf5aa9ebbf4e43e949561ec5b66a2665f13a784bc3bc41e767", func := "millstream/millstreamlaw06.TapeOrder", spec := "tapeOrder", unfollowed := true, recurses := true, named := ["unicode/utf8.first", "unicode/utf8.acceptRanges"], apart := false, laid := [("unicode/utf8.acceptRanges", laid_unicode_utf8_acceptRanges), ("unicode/utf8.first", laid_unicode_utf8_first)] }
def TapeOrderSaid : Prop := tapeOrderRow.holds Tryd.pinned (OpenSpec.ofChange tapeOrderSpec)

/-- ITS FALSE NEIGHBOUR: 'it returns false'. Refute it at one input. -/
def tapeOrderWrong : ChangeSpec := { name := "tapeOrder", fn := fun _ => fun
  | [d1, d2, d3] => { results := [.lit (.bool false)], args := [d1, d2, d3] }
  | _ => none }
def TapeOrderWrongFalsely : Prop := tapeOrderRow.holds Tryd.pinned (OpenSpec.ofChange tapeOrderWrong)

/-- 'millstreamlaw06.TapeKnown': WHATEVER THE INPUT: true; the input reads as it did. -/
def tapeKnownSpec : ChangeSpec := { name := "tapeKnown", fn := fun _ => fun
  | [] => { results := [.lit (.bool true)], args := [] }
  | _ => none }
def tapeKnownRow : OpenClaim := { program := "ytkefhhnbkhijgaadoor", sum := "d1f37cc7e25090cf5aa9ebbf4e43e949561ec5b66a2665f13a784bc3bc41e767", func := "millstream/millstreamlaw06.TapeKnown", spec := "tapeKnown", unfollowed := true, recurses := true, named := ["unicode/utf8.first", "unicode/utf8.acceptRanges"], apart := false, laid := [("unicode/utf8.acceptRanges", laid_unicode_utf8_acceptRanges), ("unicode/utf8.first", laid_unicode_utf8_first)] }
def TapeKnownSaid : Prop := tapeKnownRow.holds Tryd.pinned (OpenSpec.ofChange tapeKnownSpec)

/-- ITS FALSE NEIGHBOUR: 'it returns false'. Refute it at one input. -/
def tapeKnownWrong : ChangeSpec := { name := "tapeKnown", fn := fun _ => fun
  | [] => { results := [.lit (.bool false)], args := [] }
  | _ => none }
def TapeKnownWrongFalsely : Prop := tapeKnownRow.holds Tryd.pinned (OpenSpec.ofChange tapeKnownWrong)

/- THE SECOND FORM. 'bulk': how many values and letters a reading holds, each counted each time it is reached (what is shared counts as often as it is met; a slice's spare places count too). A statement '..UptoSaid' is the law's where the arguments, and the package variables that the reading takes, are together of bulk at most 1048576: NARROWER than '..Said'. Prove '..Said' where nothing that the law and all that it calls make is longer than what came in: it says more and counts as full. Else prove '..UptoSaid'. A law counts once. -/
mutual
def uptoBulk {H : Type} : DataW H → Nat
  | .lit (.string bytes) => bytes.length + 1
  | .lit _ => 1
  | .nil => 1
  | .ptr d => uptoBulk d + 1
  | .slice elems spare => uptoBulkAll elems + uptoBulkAll spare + 1
  | .agg parts => uptoBulkAll parts + 1
  | .iface _ d => uptoBulk d + 1
  | .map entries => uptoBulkEntries entries + 1
  | .held _ => 1
def uptoBulkAll {H : Type} : List (DataW H) → Nat
  | [] => 0
  | d :: r => uptoBulk d + uptoBulkAll r
def uptoBulkEntries {H : Type} : List (Lit × DataW H) → Nat
  | [] => 0
  | x :: r => uptoBulkEntry x + uptoBulkEntries r
def uptoBulkEntry {H : Type} : Lit × DataW H → Nat
  | (.string bytes, d) => bytes.length + uptoBulk d + 1
  | (_, d) => uptoBulk d + 1
 end
def uptoSmall : (H : Type) → List (DataW H) → Bool := fun _ ds => decide (uptoBulkAll ds ≤ 1048576)
def OpenSpec.upto (s : _root_.Go.ChangeSpec) : _root_.Go.OpenSpec := { _root_.Go.OpenSpec.ofChange s with cond := some uptoSmall }

/-- 'millstreamlaw06.TapeMakes', WHERE WHAT IT READS IS OF BULK AT MOST 1048576: true; the input reads as it did. -/
def tapeMakesUptoRow : OpenClaim := { program := "ytkefhhnbkhijgaadoor", sum := "d1f37cc7e25090cf5aa9ebbf4e43e949561ec5b66a2665f13a784bc3bc41e767", func := "millstream/millstreamlaw06.TapeMakes", spec := "tapeMakes", unfollowed := true, recurses := true, named := ["unicode/utf8.first", "unicode/utf8.acceptRanges"], apart := false, laid := [("unicode/utf8.acceptRanges", laid_unicode_utf8_acceptRanges), ("unicode/utf8.first", laid_unicode_utf8_first)], narrowed := true }
def TapeMakesUptoSaid : Prop := tapeMakesUptoRow.holds Tryd.pinned (OpenSpec.upto tapeMakesSpec)

/-- 'millstreamlaw06.TapeApart', WHERE WHAT IT READS IS OF BULK AT MOST 1048576: true; the input reads as it did. -/
def tapeApartUptoRow : OpenClaim := { program := "ytkefhhnbkhijgaadoor", sum := "d1f37cc7e25090cf5aa9ebbf4e43e949561ec5b66a2665f13a784bc3bc41e767", func := "millstream/millstreamlaw06.TapeApart", spec := "tapeApart", unfollowed := true, recurses := true, named := ["unicode/utf8.first", "unicode/utf8.acceptRanges"], apart := false, laid := [("unicode/utf8.acceptRanges", laid_unicode_utf8_acceptRanges), ("unicode/utf8.first", laid_unicode_utf8_first)], narrowed := true }
def TapeApartUptoSaid : Prop := tapeApartUptoRow.holds Tryd.pinned (OpenSpec.upto tapeApartSpec)

/-- 'millstreamlaw06.TapeDeep', WHERE WHAT IT READS IS OF BULK AT MOST 1048576: true; the input reads as it did. -/
def tapeDeepUptoRow : OpenClaim := { program := "ytkefhhnbkhijgaadoor", sum := "d1f37cc7e25090cf5aa9ebbf4e43e949561ec5b66a2665f13a784bc3bc41e767", func := "millstream/millstreamlaw06.TapeDeep", spec := "tapeDeep", unfollowed := true, recurses := true, named := ["unicode/utf8.first", "unicode/utf8.acceptRanges"], apart := false, laid := [("unicode/utf8.acceptRanges", laid_unicode_utf8_acceptRanges), ("unicode/utf8.first", laid_unicode_utf8_first)], narrowed := true }
def TapeDeepUptoSaid : Prop := tapeDeepUptoRow.holds Tryd.pinned (OpenSpec.upto tapeDeepSpec)

/-- 'millstreamlaw06.TapeTells', WHERE WHAT IT READS IS OF BULK AT MOST 1048576: true; the input reads as it did. -/
def tapeTellsUptoRow : OpenClaim := { program := "ytkefhhnbkhijgaadoor", sum := "d1f37cc7e25090cf5aa9ebbf4e43e949561ec5b66a2665f13a784bc3bc41e767", func := "millstream/millstreamlaw06.TapeTells", spec := "tapeTells", unfollowed := true, recurses := true, named := ["unicode/utf8.first", "unicode/utf8.acceptRanges"], apart := false, laid := [("unicode/utf8.acceptRanges", laid_unicode_utf8_acceptRanges), ("unicode/utf8.first", laid_unicode_utf8_first)], narrowed := true }
def TapeTellsUptoSaid : Prop := tapeTellsUptoRow.holds Tryd.pinned (OpenSpec.upto tapeTellsSpec)

/-- 'millstreamlaw06.TapeAgain', WHERE WHAT IT READS IS OF BULK AT MOST 1048576: true; the input reads as it did. -/
def tapeAgainUptoRow : OpenClaim := { program := "ytkefhhnbkhijgaadoor", sum := "d1f37cc7e25090cf5aa9ebbf4e43e949561ec5b66a2665f13a784bc3bc41e767", func := "millstream/millstreamlaw06.TapeAgain", spec := "tapeAgain", unfollowed := true, recurses := true, named := ["unicode/utf8.first", "unicode/utf8.acceptRanges"], apart := false, laid := [("unicode/utf8.acceptRanges", laid_unicode_utf8_acceptRanges), ("unicode/utf8.first", laid_unicode_utf8_first)], narrowed := true }
def TapeAgainUptoSaid : Prop := tapeAgainUptoRow.holds Tryd.pinned (OpenSpec.upto tapeAgainSpec)

/-- 'millstreamlaw06.TapeSorted', WHERE WHAT IT READS IS OF BULK AT MOST 1048576: true; the input reads as it did. -/
def tapeSortedUptoRow : OpenClaim := { program := "ytkefhhnbkhijgaadoor", sum := "d1f37cc7e25090cf5aa9ebbf4e43e949561ec5b66a2665f13a784bc3bc41e767", func := "millstream/millstreamlaw06.TapeSorted", spec := "tapeSorted", unfollowed := true, recurses := true, named := ["unicode/utf8.first", "unicode/utf8.acceptRanges"], apart := false, laid := [("unicode/utf8.acceptRanges", laid_unicode_utf8_acceptRanges), ("unicode/utf8.first", laid_unicode_utf8_first)], narrowed := true }
def TapeSortedUptoSaid : Prop := tapeSortedUptoRow.holds Tryd.pinned (OpenSpec.upto tapeSortedSpec)

/-- 'millstreamlaw06.TapeOrder', WHERE WHAT IT READS IS OF BULK AT MOST 1048576: true; the input reads as it did. -/
def tapeOrderUptoRow : OpenClaim := { program := "ytkefhhnbkhijgaadoor", sum := "d1f37cc7e25090cf5aa9ebbf4e43e949561ec5b66a2665f13a784bc3bc41e767", func := "millstream/millstreamlaw06.TapeOrder", spec := "tapeOrder", unfollowed := true, recurses := true, named := ["unicode/utf8.first", "unicode/utf8.acceptRanges"], apart := false, laid := [("unicode/utf8.acceptRanges", laid_unicode_utf8_acceptRanges), ("unicode/utf8.first", laid_unicode_utf8_first)], narrowed := true }
def TapeOrderUptoSaid : Prop := tapeOrderUptoRow.holds Tryd.pinned (OpenSpec.upto tapeOrderSpec)

/-- 'millstreamlaw06.TapeKnown', WHERE WHAT IT READS IS OF BULK AT MOST 1048576: true; the input reads as it did. -/
def tapeKnownUptoRow : OpenClaim := { program := "ytkefhhnbkhijgaadoor", sum := "d1f37cc7e25090cf5aa9ebbf4e43e949561ec5b66a2665f13a784bc3bc41e767", func := "millstream/millstreamlaw06.TapeKnown", spec := "tapeKnown", unfollowed := true, recurses := true, named := ["unicode/utf8.first", "unicode/utf8.acceptRanges"], apart := false, laid := [("unicode/utf8.acceptRanges", laid_unicode_utf8_acceptRanges), ("unicode/utf8.first", laid_unicode_utf8_first)], narrowed := true }
def TapeKnownUptoSaid : Prop := tapeKnownUptoRow.holds Tryd.pinned (OpenSpec.upto tapeKnownSpec)

end Rows
end Go.Proofs.YtkefhhnbkhijgaaDoor
