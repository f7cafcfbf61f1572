/-
  DERIVED. GIVEN WITH THE SEED: THE CARDS: each row of YtmolmphbhdbcaaaGreatDoorRows.lean that lists a variable, with what it lists TIED to the program's text (the seventh form; the later family's looks); each row that meets fmt, with fmt's text TOLD by the authors' own Lean function (tested against real Go, not proved from fmt's source: count such statements apart). THE CARD IS WHAT COUNTS. Prove the row's statement (the work); the ties are given (YtmolmphbhdbcaaaGreatDoorTie.lean); close each card by the builder's one call (the guide's Derived/Test/ToyasCard.lean, 'card_holds'). Laid BY PROGRAM, IN A SANDBOX (cutbox-door.mjs). By AI agents, Wed Nov 11 2026. No macro, syntax, notation, axiom, sorry.
-/
import Derived.Test.YtmolmphbhdbcaaaGreatDoorRows
import GoSem.ClaimSeven
namespace Go.Proofs.YtmolmphbhdbcaaaGreatDoor
namespace Rows

/-- THE TIED CARD OF 'millstreamlaw08.JshowShort'. -/
def jshowShortCard : Claim7 := { stood := { row := jshowShortRow, standIns := [], harness := (true, "344439d4775652b7131d41573b8ac199fa93e53b1f5aadac68e67f5813ca6389"), looks := true }, kinds := [], alts := [], laidByText := true, laidKinds := [.data, .data, .data, .data, .sentinel, .sentinel, .pinned], laidTests := true, laidLooks := .later }
def JshowShortCardSaid : Prop := Claim7.holds Tryz.pinned (.plain (OpenSpec.ofChange jshowShortSpec)) jshowShortCard

/-- THE TIED CARD OF 'millstreamlaw08.JshowBack'. -/
def jshowBackCard : Claim7 := { stood := { row := jshowBackRow, standIns := [], harness := (true, "344439d4775652b7131d41573b8ac199fa93e53b1f5aadac68e67f5813ca6389"), looks := true }, kinds := [], alts := [], laidByText := true, laidKinds := [.data, .data, .data, .data, .sentinel, .sentinel, .pinned], laidTests := true, laidLooks := .later }
def JshowBackCardSaid : Prop := Claim7.holds Tryz.pinned (.plain (OpenSpec.ofChange jshowBackSpec)) jshowBackCard

/-- THE TIED CARD OF 'millstreamlaw08.JshowSame'. -/
def jshowSameCard : Claim7 := { stood := { row := jshowSameRow, standIns := [], harness := (true, "344439d4775652b7131d41573b8ac199fa93e53b1f5aadac68e67f5813ca6389"), looks := true }, kinds := [], alts := [], laidByText := true, laidKinds := [.data, .data, .data, .data, .sentinel, .sentinel, .pinned], laidTests := true, laidLooks := .later }
def JshowSameCardSaid : Prop := Claim7.holds Tryz.pinned (.plain (OpenSpec.ofChange jshowSameSpec)) jshowSameCard

/-- THE SECOND FORM's CARD OF 'millstreamlaw08.JshowShort'. -/
def jshowShortUptoCard : Claim7 := { stood := { row := jshowShortUptoRow, standIns := [], harness := (true, "344439d4775652b7131d41573b8ac199fa93e53b1f5aadac68e67f5813ca6389"), looks := true }, kinds := [], alts := [], laidByText := true, laidKinds := [.data, .data, .data, .data, .sentinel, .sentinel, .pinned], laidTests := true, laidLooks := .later }
def JshowShortUptoCardSaid : Prop := Claim7.holds Tryz.pinned (.plain (OpenSpec.upto jshowShortSpec)) jshowShortUptoCard

/-- THE SECOND FORM's CARD OF 'millstreamlaw08.JshowBack'. -/
def jshowBackUptoCard : Claim7 := { stood := { row := jshowBackUptoRow, standIns := [], harness := (true, "344439d4775652b7131d41573b8ac199fa93e53b1f5aadac68e67f5813ca6389"), looks := true }, kinds := [], alts := [], laidByText := true, laidKinds := [.data, .data, .data, .data, .sentinel, .sentinel, .pinned], laidTests := true, laidLooks := .later }
def JshowBackUptoCardSaid : Prop := Claim7.holds Tryz.pinned (.plain (OpenSpec.upto jshowBackSpec)) jshowBackUptoCard

/-- THE SECOND FORM's CARD OF 'millstreamlaw08.JshowSame'. -/
def jshowSameUptoCard : Claim7 := { stood := { row := jshowSameUptoRow, standIns := [], harness := (true, "344439d4775652b7131d41573b8ac199fa93e53b1f5aadac68e67f5813ca6389"), looks := true }, kinds := [], alts := [], laidByText := true, laidKinds := [.data, .data, .data, .data, .sentinel, .sentinel, .pinned], laidTests := true, laidLooks := .later }
def JshowSameUptoCardSaid : Prop := Claim7.holds Tryz.pinned (.plain (OpenSpec.upto jshowSameSpec)) jshowSameUptoCard
end Rows
end Go.Proofs.YtmolmphbhdbcaaaGreatDoor
