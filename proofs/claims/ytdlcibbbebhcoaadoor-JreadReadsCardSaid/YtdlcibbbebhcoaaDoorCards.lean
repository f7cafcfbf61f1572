/-
  DERIVED. GIVEN WITH THE SEED: THE CARDS: each row of YtdlcibbbebhcoaaDoorRows.lean that lists a variable, with what it lists TIED to the program's text (the seventh form; the later family's looks); each row that meets fmt, with fmt's text TOLD by the authors' own Lean function (tested against real Go, not proved from fmt's source: count such statements apart). THE CARD IS WHAT COUNTS. Prove the row's statement (the work); the ties are given (YtdlcibbbebhcoaaDoorTie.lean); close each card by the builder's one call (the guide's Derived/Test/ToyasCard.lean, 'card_holds'). Laid BY PROGRAM, IN A SANDBOX (cutbox-door.mjs). By AI agents, Wed Nov 11 2026. No macro, syntax, notation, axiom, sorry.
-/
import Derived.Test.YtdlcibbbebhcoaaDoorRows
import GoSem.ClaimSeven
namespace Go.Proofs.YtdlcibbbebhcoaaDoor
namespace Rows

/-- THE TIED CARD OF 'millstreamlaw07.JreadReads'. -/
def jreadReadsCard : Claim7 := { stood := { row := jreadReadsRow, standIns := [], harness := (true, "117b20ce8b67268984789494ced812a4fcbb391d7304f5b13c93d338ec09adfd"), looks := true }, kinds := [], alts := [], laidByText := true, laidKinds := [.data, .data, .data, .data, .sentinel, .sentinel, .pinned], laidTests := true, laidLooks := .later }
def JreadReadsCardSaid : Prop := Claim7.holds Tryd.pinned (.plain (OpenSpec.ofChange jreadReadsSpec)) jreadReadsCard

/-- THE SECOND FORM's CARD OF 'millstreamlaw07.JreadReads'. -/
def jreadReadsUptoCard : Claim7 := { stood := { row := jreadReadsUptoRow, standIns := [], harness := (true, "117b20ce8b67268984789494ced812a4fcbb391d7304f5b13c93d338ec09adfd"), looks := true }, kinds := [], alts := [], laidByText := true, laidKinds := [.data, .data, .data, .data, .sentinel, .sentinel, .pinned], laidTests := true, laidLooks := .later }
def JreadReadsUptoCardSaid : Prop := Claim7.holds Tryd.pinned (.plain (OpenSpec.upto jreadReadsSpec)) jreadReadsUptoCard
end Rows
end Go.Proofs.YtdlcibbbebhcoaaDoor
