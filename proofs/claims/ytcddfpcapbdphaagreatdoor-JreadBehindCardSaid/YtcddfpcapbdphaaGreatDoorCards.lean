/-
  DERIVED. GIVEN WITH THE SEED: THE CARDS: each row of YtcddfpcapbdphaaGreatDoorRows.lean that lists a variable, with what it lists TIED to the program's text (the seventh form; the later family's looks); each row that meets fmt, with fmt's text TOLD by the authors' own Lean function (tested against real Go, not proved from fmt's source: count such statements apart). THE CARD IS WHAT COUNTS. Prove the row's statement (the work); the ties are given (YtcddfpcapbdphaaGreatDoorTie.lean); close each card by the builder's one call (the guide's Derived/Test/ToyasCard.lean, 'card_holds'). Laid BY PROGRAM, IN A SANDBOX (cutbox-door.mjs). By AI agents, Wed Nov 11 2026. No macro, syntax, notation, axiom, sorry.
-/
import Derived.Test.YtcddfpcapbdphaaGreatDoorRows
import GoSem.ClaimSeven
namespace Go.Proofs.YtcddfpcapbdphaaGreatDoor
namespace Rows

/-- THE TIED CARD OF 'millstreamlaw07.JreadKnown'. -/
def jreadKnownCard : Claim7 := { stood := { row := jreadKnownRow, standIns := [], harness := (true, "9a32c2f2ee7a995fc39642457922129dba916501e4686e0f97dee14adc55b416"), looks := true }, kinds := [], alts := [], laidByText := true, laidKinds := [.data, .data, .data, .data, .sentinel, .sentinel, .pinned], laidTests := true, laidLooks := .later }
def JreadKnownCardSaid : Prop := Claim7.holds Tryz.pinned (.plain (OpenSpec.ofChange jreadKnownSpec)) jreadKnownCard

/-- THE TIED CARD OF 'millstreamlaw07.JreadSays'. -/
def jreadSaysCard : Claim7 := { stood := { row := jreadSaysRow, standIns := [], harness := (true, "9a32c2f2ee7a995fc39642457922129dba916501e4686e0f97dee14adc55b416"), looks := true }, kinds := [], alts := [], laidByText := true, laidKinds := [.data, .data, .data, .data, .sentinel, .sentinel, .pinned], laidTests := true, laidLooks := .later }
def JreadSaysCardSaid : Prop := Claim7.holds Tryz.pinned (.plain (OpenSpec.ofChange jreadSaysSpec)) jreadSaysCard

/-- THE TIED CARD OF 'millstreamlaw07.JreadBehind'. -/
def jreadBehindCard : Claim7 := { stood := { row := jreadBehindRow, standIns := [], harness := (true, "9a32c2f2ee7a995fc39642457922129dba916501e4686e0f97dee14adc55b416"), looks := true }, kinds := [], alts := [], laidByText := true, laidKinds := [.data, .data, .data, .data, .sentinel, .sentinel, .pinned], laidTests := true, laidLooks := .later }
def JreadBehindCardSaid : Prop := Claim7.holds Tryz.pinned (.plain (OpenSpec.ofChange jreadBehindSpec)) jreadBehindCard

/-- THE SECOND FORM's CARD OF 'millstreamlaw07.JreadKnown'. -/
def jreadKnownUptoCard : Claim7 := { stood := { row := jreadKnownUptoRow, standIns := [], harness := (true, "9a32c2f2ee7a995fc39642457922129dba916501e4686e0f97dee14adc55b416"), looks := true }, kinds := [], alts := [], laidByText := true, laidKinds := [.data, .data, .data, .data, .sentinel, .sentinel, .pinned], laidTests := true, laidLooks := .later }
def JreadKnownUptoCardSaid : Prop := Claim7.holds Tryz.pinned (.plain (OpenSpec.upto jreadKnownSpec)) jreadKnownUptoCard

/-- THE SECOND FORM's CARD OF 'millstreamlaw07.JreadSays'. -/
def jreadSaysUptoCard : Claim7 := { stood := { row := jreadSaysUptoRow, standIns := [], harness := (true, "9a32c2f2ee7a995fc39642457922129dba916501e4686e0f97dee14adc55b416"), looks := true }, kinds := [], alts := [], laidByText := true, laidKinds := [.data, .data, .data, .data, .sentinel, .sentinel, .pinned], laidTests := true, laidLooks := .later }
def JreadSaysUptoCardSaid : Prop := Claim7.holds Tryz.pinned (.plain (OpenSpec.upto jreadSaysSpec)) jreadSaysUptoCard

/-- THE SECOND FORM's CARD OF 'millstreamlaw07.JreadBehind'. -/
def jreadBehindUptoCard : Claim7 := { stood := { row := jreadBehindUptoRow, standIns := [], harness := (true, "9a32c2f2ee7a995fc39642457922129dba916501e4686e0f97dee14adc55b416"), looks := true }, kinds := [], alts := [], laidByText := true, laidKinds := [.data, .data, .data, .data, .sentinel, .sentinel, .pinned], laidTests := true, laidLooks := .later }
def JreadBehindUptoCardSaid : Prop := Claim7.holds Tryz.pinned (.plain (OpenSpec.upto jreadBehindSpec)) jreadBehindUptoCard
end Rows
end Go.Proofs.YtcddfpcapbdphaaGreatDoor
