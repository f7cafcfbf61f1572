/-
  No cell of these rows narrows 'for every input' (looked for: loops, veiled, ifaces, maps, wideKeys, modest, calm, conditions, laid).
  DERIVED. THE GIVEN ROWS OF THIS SEAT. 7 by the template 'for every input the law returns true; each argument reads behind the call as it read before'; 0 by the template 'total and deterministic' (their statements: YtggknmagpcnkoaaTotals.lean).
  GIVEN WITH THE SEED: the statements are not yours to turn. If you find one false, say at which input.
  Laid BY PROGRAM, IN A SANDBOX (cutbox-rows.mjs): the forced cells as the released guide's own fill.sh prints them over the translation 59497fd21e0a5252… (all of the seat's roots in one cut). By AI agents, Wed Nov 11 2026. No macro, syntax, notation, axiom, sorry.
-/
import Derived.Test.YtggknmagpcnkoaaChecked
import GoSem.Claim
import GoSem.ClaimJoined
import GoSem.ClaimMapViews
import Derived.JoinedTies
import Derived.KernelRfl
namespace Go.Proofs.Ytggknmagpcnkoaa
/- THE CELL 'sum', in the pinned program and in every row, IS THE sha256 OF THE DUMP (.gsa) THAT YtggknmagpcnkoaaProg.lean LOADS. Nothing in Lean hashes anything: it is a label: what it is worth is what the hold of that sum in a sandbox is worth. -/
noncomputable def Try.pinned : Pinned := { name := "ytggknmagpcnkoaa", sum := "59497fd21e0a5252f0bb099da452cd7ef93d011ff1856970d3759a1cee88339c", checked := Try.checked }
namespace Rows
def none {H : Type} : Left H := { results := [], args := [] }

/-- 'millstreamlaw21.ZsetMakes': WHATEVER THE INPUT: true; the input reads as it did. -/
def zsetMakesSpec : ChangeSpec := { name := "zsetMakes", fn := fun _ => fun
  | [d1, d2, d3] => { results := [.lit (.bool true)], args := [d1, d2, d3] }
  | _ => none }
def zsetMakesRow : OpenClaim := { program := "ytggknmagpcnkoaa", sum := "59497fd21e0a5252f0bb099da452cd7ef93d011ff1856970d3759a1cee88339c", func := "millstream/millstreamlaw21.ZsetMakes", spec := "zsetMakes", inPlace := ["internal/bytealg.abigen_runtime_cmpstring", "math/bits.Add64"], unfollowed := true, recurses := true, apart := false }
def ZsetMakesSaid : Prop := zsetMakesRow.holds Try.pinned (OpenSpec.ofChange zsetMakesSpec)

/-- ITS FALSE NEIGHBOUR: 'it returns false'. Refute it at one input. -/
def zsetMakesWrong : ChangeSpec := { name := "zsetMakes", fn := fun _ => fun
  | [d1, d2, d3] => { results := [.lit (.bool false)], args := [d1, d2, d3] }
  | _ => none }
def ZsetMakesWrongFalsely : Prop := zsetMakesRow.holds Try.pinned (OpenSpec.ofChange zsetMakesWrong)

/-- 'millstreamlaw21.ZsetGets': WHATEVER THE INPUT: true; the input reads as it did. -/
def zsetGetsSpec : ChangeSpec := { name := "zsetGets", fn := fun _ => fun
  | [d1, d2, d3] => { results := [.lit (.bool true)], args := [d1, d2, d3] }
  | _ => none }
def zsetGetsRow : OpenClaim := { program := "ytggknmagpcnkoaa", sum := "59497fd21e0a5252f0bb099da452cd7ef93d011ff1856970d3759a1cee88339c", func := "millstream/millstreamlaw21.ZsetGets", spec := "zsetGets", inPlace := ["internal/bytealg.abigen_runtime_cmpstring", "math/bits.Add64"], unfollowed := true, recurses := true, apart := false }
def ZsetGetsSaid : Prop := zsetGetsRow.holds Try.pinned (OpenSpec.ofChange zsetGetsSpec)

/-- ITS FALSE NEIGHBOUR: 'it returns false'. Refute it at one input. -/
def zsetGetsWrong : ChangeSpec := { name := "zsetGets", fn := fun _ => fun
  | [d1, d2, d3] => { results := [.lit (.bool false)], args := [d1, d2, d3] }
  | _ => none }
def ZsetGetsWrongFalsely : Prop := zsetGetsRow.holds Try.pinned (OpenSpec.ofChange zsetGetsWrong)

/-- 'millstreamlaw21.ZsetNorm': WHATEVER THE INPUT: true; the input reads as it did. -/
def zsetNormSpec : ChangeSpec := { name := "zsetNorm", fn := fun _ => fun
  | [d1, d2, d3] => { results := [.lit (.bool true)], args := [d1, d2, d3] }
  | _ => none }
def zsetNormRow : OpenClaim := { program := "ytggknmagpcnkoaa", sum := "59497fd21e0a5252f0bb099da452cd7ef93d011ff1856970d3759a1cee88339c", func := "millstream/millstreamlaw21.ZsetNorm", spec := "zsetNorm", inPlace := ["internal/bytealg.abigen_runtime_cmpstring", "math/bits.Add64"], unfollowed := true, recurses := true, apart := false }
def ZsetNormSaid : Prop := zsetNormRow.holds Try.pinned (OpenSpec.ofChange zsetNormSpec)

/-- ITS FALSE NEIGHBOUR: 'it returns false'. Refute it at one input. -/
def zsetNormWrong : ChangeSpec := { name := "zsetNorm", fn := fun _ => fun
  | [d1, d2, d3] => { results := [.lit (.bool false)], args := [d1, d2, d3] }
  | _ => none }
def ZsetNormWrongFalsely : Prop := zsetNormRow.holds Try.pinned (OpenSpec.ofChange zsetNormWrong)

/-- 'millstreamlaw21.ZsetGroup': WHATEVER THE INPUT: true; the input reads as it did. -/
def zsetGroupSpec : ChangeSpec := { name := "zsetGroup", fn := fun _ => fun
  | [d] => { results := [.lit (.bool true)], args := [d] }
  | _ => none }
def zsetGroupRow : OpenClaim := { program := "ytggknmagpcnkoaa", sum := "59497fd21e0a5252f0bb099da452cd7ef93d011ff1856970d3759a1cee88339c", func := "millstream/millstreamlaw21.ZsetGroup", spec := "zsetGroup", inPlace := ["internal/bytealg.abigen_runtime_cmpstring", "math/bits.Add64"], unfollowed := true, recurses := true, apart := false }
def ZsetGroupSaid : Prop := zsetGroupRow.holds Try.pinned (OpenSpec.ofChange zsetGroupSpec)

/-- ITS FALSE NEIGHBOUR: 'it returns false'. Refute it at one input. -/
def zsetGroupWrong : ChangeSpec := { name := "zsetGroup", fn := fun _ => fun
  | [d] => { results := [.lit (.bool false)], args := [d] }
  | _ => none }
def ZsetGroupWrongFalsely : Prop := zsetGroupRow.holds Try.pinned (OpenSpec.ofChange zsetGroupWrong)

/-- 'millstreamlaw21.ZsetScales': WHATEVER THE INPUT: true; the input reads as it did. -/
def zsetScalesSpec : ChangeSpec := { name := "zsetScales", fn := fun _ => fun
  | [d1, d2, d3] => { results := [.lit (.bool true)], args := [d1, d2, d3] }
  | _ => none }
def zsetScalesRow : OpenClaim := { program := "ytggknmagpcnkoaa", sum := "59497fd21e0a5252f0bb099da452cd7ef93d011ff1856970d3759a1cee88339c", func := "millstream/millstreamlaw21.ZsetScales", spec := "zsetScales", inPlace := ["internal/bytealg.abigen_runtime_cmpstring", "math/bits.Add64"], unfollowed := true, recurses := true, apart := false }
def ZsetScalesSaid : Prop := zsetScalesRow.holds Try.pinned (OpenSpec.ofChange zsetScalesSpec)

/-- ITS FALSE NEIGHBOUR: 'it returns false'. Refute it at one input. -/
def zsetScalesWrong : ChangeSpec := { name := "zsetScales", fn := fun _ => fun
  | [d1, d2, d3] => { results := [.lit (.bool false)], args := [d1, d2, d3] }
  | _ => none }
def ZsetScalesWrongFalsely : Prop := zsetScalesRow.holds Try.pinned (OpenSpec.ofChange zsetScalesWrong)

/-- 'millstreamlaw21.ZsetTells': WHATEVER THE INPUT: true; the input reads as it did. -/
def zsetTellsSpec : ChangeSpec := { name := "zsetTells", fn := fun _ => fun
  | [d1, d2, d3] => { results := [.lit (.bool true)], args := [d1, d2, d3] }
  | _ => none }
def zsetTellsRow : OpenClaim := { program := "ytggknmagpcnkoaa", sum := "59497fd21e0a5252f0bb099da452cd7ef93d011ff1856970d3759a1cee88339c", func := "millstream/millstreamlaw21.ZsetTells", spec := "zsetTells", inPlace := ["internal/bytealg.abigen_runtime_cmpstring", "math/bits.Add64"], unfollowed := true, recurses := true, apart := false }
def ZsetTellsSaid : Prop := zsetTellsRow.holds Try.pinned (OpenSpec.ofChange zsetTellsSpec)

/-- ITS FALSE NEIGHBOUR: 'it returns false'. Refute it at one input. -/
def zsetTellsWrong : ChangeSpec := { name := "zsetTells", fn := fun _ => fun
  | [d1, d2, d3] => { results := [.lit (.bool false)], args := [d1, d2, d3] }
  | _ => none }
def ZsetTellsWrongFalsely : Prop := zsetTellsRow.holds Try.pinned (OpenSpec.ofChange zsetTellsWrong)

/-- 'millstreamlaw21.ZsetKnown': WHATEVER THE INPUT: true; the input reads as it did. -/
def zsetKnownSpec : ChangeSpec := { name := "zsetKnown", fn := fun _ => fun
  | [] => { results := [.lit (.bool true)], args := [] }
  | _ => none }
def zsetKnownRow : OpenClaim := { program := "ytggknmagpcnkoaa", sum := "59497fd21e0a5252f0bb099da452cd7ef93d011ff1856970d3759a1cee88339c", func := "millstream/millstreamlaw21.ZsetKnown", spec := "zsetKnown", inPlace := ["internal/bytealg.abigen_runtime_cmpstring", "math/bits.Add64"], unfollowed := true, recurses := true, apart := false }
def ZsetKnownSaid : Prop := zsetKnownRow.holds Try.pinned (OpenSpec.ofChange zsetKnownSpec)

/-- ITS FALSE NEIGHBOUR: 'it returns false'. Refute it at one input. -/
def zsetKnownWrong : ChangeSpec := { name := "zsetKnown", fn := fun _ => fun
  | [] => { results := [.lit (.bool false)], args := [] }
  | _ => none }
def ZsetKnownWrongFalsely : Prop := zsetKnownRow.holds Try.pinned (OpenSpec.ofChange zsetKnownWrong)

/- THE SECOND FORM. 'bulk': how many values and letters a reading holds, each counted each time it is reached (what is shared counts as often as it is met; a slice's spare places count too). A statement '..UptoSaid' is the law's where the arguments, and the package variables that the reading takes, are together of bulk at most 1048576: NARROWER than '..Said'. Prove '..Said' where nothing that the law and all that it calls make is longer than what came in: it says more and counts as full. Else prove '..UptoSaid'. A law counts once. -/
mutual
def uptoBulk {H : Type} : DataW H → Nat
  | .lit (.string bytes) => bytes.length + 1
  | .lit _ => 1
  | .nil => 1
  | .ptr d => uptoBulk d + 1
  | .slice elems spare => uptoBulkAll elems + uptoBulkAll spare + 1
  | .agg parts => uptoBulkAll parts + 1
  | .iface _ d => uptoBulk d + 1
  | .map entries => uptoBulkEntries entries + 1
  | .held _ => 1
def uptoBulkAll {H : Type} : List (DataW H) → Nat
  | [] => 0
  | d :: r => uptoBulk d + uptoBulkAll r
def uptoBulkEntries {H : Type} : List (Lit × DataW H) → Nat
  | [] => 0
  | x :: r => uptoBulkEntry x + uptoBulkEntries r
def uptoBulkEntry {H : Type} : Lit × DataW H → Nat
  | (.string bytes, d) => bytes.length + uptoBulk d + 1
  | (_, d) => uptoBulk d + 1
 end
def uptoSmall : (H : Type) → List (DataW H) → Bool := fun _ ds => decide (uptoBulkAll ds ≤ 1048576)
def OpenSpec.upto (s : _root_.Go.ChangeSpec) : _root_.Go.OpenSpec := { _root_.Go.OpenSpec.ofChange s with cond := some uptoSmall }

/-- 'millstreamlaw21.ZsetMakes', WHERE WHAT IT READS IS OF BULK AT MOST 1048576: true; the input reads as it did. -/
def zsetMakesUptoRow : OpenClaim := { program := "ytggknmagpcnkoaa", sum := "59497fd21e0a5252f0bb099da452cd7ef93d011ff1856970d3759a1cee88339c", func := "millstream/millstreamlaw21.ZsetMakes", spec := "zsetMakes", inPlace := ["internal/bytealg.abigen_runtime_cmpstring", "math/bits.Add64"], unfollowed := true, recurses := true, apart := false, narrowed := true }
def ZsetMakesUptoSaid : Prop := zsetMakesUptoRow.holds Try.pinned (OpenSpec.upto zsetMakesSpec)

/-- 'millstreamlaw21.ZsetGets', WHERE WHAT IT READS IS OF BULK AT MOST 1048576: true; the input reads as it did. -/
def zsetGetsUptoRow : OpenClaim := { program := "ytggknmagpcnkoaa", sum := "59497fd21e0a5252f0bb099da452cd7ef93d011ff1856970d3759a1cee88339c", func := "millstream/millstreamlaw21.ZsetGets", spec := "zsetGets", inPlace := ["internal/bytealg.abigen_runtime_cmpstring", "math/bits.Add64"], unfollowed := true, recurses := true, apart := false, narrowed := true }
def ZsetGetsUptoSaid : Prop := zsetGetsUptoRow.holds Try.pinned (OpenSpec.upto zsetGetsSpec)

/-- 'millstreamlaw21.ZsetNorm', WHERE WHAT IT READS IS OF BULK AT MOST 1048576: true; the input reads as it did. -/
def zsetNormUptoRow : OpenClaim := { program := "ytggknmagpcnkoaa", sum := "59497fd21e0a5252f0bb099da452cd7ef93d011ff1856970d3759a1cee88339c", func := "millstream/millstreamlaw21.ZsetNorm", spec := "zsetNorm", inPlace := ["internal/bytealg.abigen_runtime_cmpstring", "math/bits.Add64"], unfollowed := true, recurses := true, apart := false, narrowed := true }
def ZsetNormUptoSaid : Prop := zsetNormUptoRow.holds Try.pinned (OpenSpec.upto zsetNormSpec)

/-- 'millstreamlaw21.ZsetGroup', WHERE WHAT IT READS IS OF BULK AT MOST 1048576: true; the input reads as it did. -/
def zsetGroupUptoRow : OpenClaim := { program := "ytggknmagpcnkoaa", sum := "59497fd21e0a5252f0bb099da452cd7ef93d011ff1856970d3759a1cee88339c", func := "millstream/millstreamlaw21.ZsetGroup", spec := "zsetGroup", inPlace := ["internal/bytealg.abigen_runtime_cmpstring", "math/bits.Add64"], unfollowed := true, recurses := true, apart := false, narrowed := true }
def ZsetGroupUptoSaid : Prop := zsetGroupUptoRow.holds Try.pinned (OpenSpec.upto zsetGroupSpec)

/-- 'millstreamlaw21.ZsetScales', WHERE WHAT IT READS IS OF BULK AT MOST 1048576: true; the input reads as it did. -/
def zsetScalesUptoRow : OpenClaim := { program := "ytggknmagpcnkoaa", sum := "59497fd21e0a5252f0bb099da452cd7ef93d011ff1856970d3759a1cee88339c", func := "millstream/millstreamlaw21.ZsetScales", spec := "zsetScales", inPlace := ["internal/bytealg.abigen_runtime_cmpstring", "math/bits.Add64"], unfollowed := true, recurses := true, apart := false, narrowed := true }
def ZsetScalesUptoSaid : Prop := zsetScalesUptoRow.holds Try.pinned (OpenSpec.upto zsetScalesSpec)

/-- 'millstreamlaw21.ZsetTells', WHERE WHAT IT READS IS OF BULK AT MOST 1048576: true; the input reads as it did. -/
def zsetTellsUptoRow : OpenClaim := { program := "ytggknmagpcnkoaa", sum := "59497fd21e0a5252f0bb099da452cd7ef93d011ff1856970d3759a1cee88339c", func := "millstream/millstreamlaw21.ZsetTells", spec := "zsetTells", inPlace := ["internal/bytealg.abigen_runtime_cmpstring", "math/bits.Add64"], unfollowed := true, recurses := true, apart := false, narrowed := true }
def ZsetTellsUptoSaid : Prop := zsetTellsUptoRow.holds Try.pinned (OpenSpec.upto zsetTellsSpec)

/-- 'millstreamlaw21.ZsetKnown', WHERE WHAT IT READS IS OF BULK AT MOST 1048576: true; the input reads as it did. -/
def zsetKnownUptoRow : OpenClaim := { program := "ytggknmagpcnkoaa", sum := "59497fd21e0a5252f0bb099da452cd7ef93d011ff1856970d3759a1cee88339c", func := "millstream/millstreamlaw21.ZsetKnown", spec := "zsetKnown", inPlace := ["internal/bytealg.abigen_runtime_cmpstring", "math/bits.Add64"], unfollowed := true, recurses := true, apart := false, narrowed := true }
def ZsetKnownUptoSaid : Prop := zsetKnownUptoRow.holds Try.pinned (OpenSpec.upto zsetKnownSpec)

end Rows
end Go.Proofs.Ytggknmagpcnkoaa
