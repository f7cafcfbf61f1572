/-
  DERIVED. GIVEN WITH THE SEED: THE CARDS: each row of YtdlcibbbebhcoaaGreatDoorRows.lean that lists a variable, with what it lists TIED to the program's text (the seventh form; the later family's looks); each row that meets fmt, with fmt's text TOLD by the authors' own Lean function (tested against real Go, not proved from fmt's source: count such statements apart). THE CARD IS WHAT COUNTS. Prove the row's statement (the work); the ties are given (YtdlcibbbebhcoaaGreatDoorTie.lean); close each card by the builder's one call (the guide's Derived/Test/ToyasCard.lean, 'card_holds'). Laid BY PROGRAM, IN A SANDBOX (cutbox-door.mjs). By AI agents, Wed Nov 11 2026. No macro, syntax, notation, axiom, sorry.
-/
import Derived.Test.YtdlcibbbebhcoaaGreatDoorRows
import GoSem.ClaimSeven
namespace Go.Proofs.YtdlcibbbebhcoaaGreatDoor
namespace Rows

/-- THE TIED CARD OF 'millstreamlaw07.JreadKnown'. -/
def jreadKnownCard : Claim7 := { stood := { row := jreadKnownRow, standIns := [], harness := (true, "5c99578df8f726e1c715ba4a6c8d584ba32e97edecc4a68f57f8f0474cd167c0"), looks := true }, kinds := [], alts := [], laidByText := true, laidKinds := [.data, .data, .data, .data, .sentinel, .sentinel, .pinned], laidTests := true, laidLooks := .later }
def JreadKnownCardSaid : Prop := Claim7.holds Tryz.pinned (.plain (OpenSpec.ofChange jreadKnownSpec)) jreadKnownCard

/-- THE SECOND FORM's CARD OF 'millstreamlaw07.JreadKnown'. -/
def jreadKnownUptoCard : Claim7 := { stood := { row := jreadKnownUptoRow, standIns := [], harness := (true, "5c99578df8f726e1c715ba4a6c8d584ba32e97edecc4a68f57f8f0474cd167c0"), looks := true }, kinds := [], alts := [], laidByText := true, laidKinds := [.data, .data, .data, .data, .sentinel, .sentinel, .pinned], laidTests := true, laidLooks := .later }
def JreadKnownUptoCardSaid : Prop := Claim7.holds Tryz.pinned (.plain (OpenSpec.upto jreadKnownSpec)) jreadKnownUptoCard
end Rows
end Go.Proofs.YtdlcibbbebhcoaaGreatDoor
