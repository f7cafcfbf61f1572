/-
  DERIVED. GIVEN WITH THE SEED: THE CARDS: each row of YtcddfpcapbdphaaDoorRows.lean that lists a variable, with what it lists TIED to the program's text (the seventh form; the later family's looks); each row that meets fmt, with fmt's text TOLD by the authors' own Lean function (tested against real Go, not proved from fmt's source: count such statements apart). THE CARD IS WHAT COUNTS. Prove the row's statement (the work); the ties are given (YtcddfpcapbdphaaDoorTie.lean); close each card by the builder's one call (the guide's Derived/Test/ToyasCard.lean, 'card_holds'). Laid BY PROGRAM, IN A SANDBOX (cutbox-door.mjs). By AI agents, Wed Nov 11 2026. No macro, syntax, notation, axiom, sorry.
-/
import Derived.Test.YtcddfpcapbdphaaDoorRows
import GoSem.ClaimSeven
namespace Go.Proofs.YtcddfpcapbdphaaDoor
namespace Rows

/-- THE TIED CARD OF 'millstreamlaw07.JreadReads'. -/
def jreadReadsCard : Claim7 := { stood := { row := jreadReadsRow, standIns := [], harness := (true, "3cdc956dbdc4d041244ecde3e22125c3e9c1fccdd69ae31b2b99805c62788e2f"), looks := true }, kinds := [], alts := [], laidByText := true, laidKinds := [.data, .data, .data, .data, .sentinel, .sentinel, .pinned], laidTests := true, laidLooks := .later }
def JreadReadsCardSaid : Prop := Claim7.holds Tryd.pinned (.plain (OpenSpec.ofChange jreadReadsSpec)) jreadReadsCard

/-- THE TIED CARD OF 'millstreamlaw07.JreadMay'. -/
def jreadMayCard : Claim7 := { stood := { row := jreadMayRow, standIns := [], harness := (true, "3cdc956dbdc4d041244ecde3e22125c3e9c1fccdd69ae31b2b99805c62788e2f"), looks := true }, kinds := [], alts := [], laidByText := true, laidKinds := [.data, .data, .data, .data, .sentinel, .sentinel, .pinned], laidTests := true, laidLooks := .later }
def JreadMayCardSaid : Prop := Claim7.holds Tryd.pinned (.plain (OpenSpec.ofChange jreadMaySpec)) jreadMayCard

/-- THE TIED CARD OF 'millstreamlaw07.JreadNumbers'. -/
def jreadNumbersCard : Claim7 := { stood := { row := jreadNumbersRow, standIns := [], harness := (true, "3cdc956dbdc4d041244ecde3e22125c3e9c1fccdd69ae31b2b99805c62788e2f"), looks := true }, kinds := [], alts := [], laidByText := true, laidKinds := [.data, .data, .data, .data, .sentinel, .sentinel, .pinned], laidTests := true, laidLooks := .later }
def JreadNumbersCardSaid : Prop := Claim7.holds Tryd.pinned (.plain (OpenSpec.ofChange jreadNumbersSpec)) jreadNumbersCard

/-- THE TIED CARD OF 'millstreamlaw07.JreadLists'. -/
def jreadListsCard : Claim7 := { stood := { row := jreadListsRow, standIns := [], harness := (true, "3cdc956dbdc4d041244ecde3e22125c3e9c1fccdd69ae31b2b99805c62788e2f"), looks := true }, kinds := [], alts := [], laidByText := true, laidKinds := [.data, .data, .data, .data, .sentinel, .sentinel, .pinned], laidTests := true, laidLooks := .later }
def JreadListsCardSaid : Prop := Claim7.holds Tryd.pinned (.plain (OpenSpec.ofChange jreadListsSpec)) jreadListsCard

/-- THE TIED CARD OF 'millstreamlaw07.JreadCuts'. -/
def jreadCutsCard : Claim7 := { stood := { row := jreadCutsRow, standIns := [], harness := (true, "3cdc956dbdc4d041244ecde3e22125c3e9c1fccdd69ae31b2b99805c62788e2f"), looks := true }, kinds := [], alts := [], laidByText := true, laidKinds := [.data, .data, .data, .data, .sentinel, .sentinel, .pinned], laidTests := true, laidLooks := .later }
def JreadCutsCardSaid : Prop := Claim7.holds Tryd.pinned (.plain (OpenSpec.ofChange jreadCutsSpec)) jreadCutsCard

/-- THE SECOND FORM's CARD OF 'millstreamlaw07.JreadReads'. -/
def jreadReadsUptoCard : Claim7 := { stood := { row := jreadReadsUptoRow, standIns := [], harness := (true, "3cdc956dbdc4d041244ecde3e22125c3e9c1fccdd69ae31b2b99805c62788e2f"), looks := true }, kinds := [], alts := [], laidByText := true, laidKinds := [.data, .data, .data, .data, .sentinel, .sentinel, .pinned], laidTests := true, laidLooks := .later }
def JreadReadsUptoCardSaid : Prop := Claim7.holds Tryd.pinned (.plain (OpenSpec.upto jreadReadsSpec)) jreadReadsUptoCard

/-- THE SECOND FORM's CARD OF 'millstreamlaw07.JreadMay'. -/
def jreadMayUptoCard : Claim7 := { stood := { row := jreadMayUptoRow, standIns := [], harness := (true, "3cdc956dbdc4d041244ecde3e22125c3e9c1fccdd69ae31b2b99805c62788e2f"), looks := true }, kinds := [], alts := [], laidByText := true, laidKinds := [.data, .data, .data, .data, .sentinel, .sentinel, .pinned], laidTests := true, laidLooks := .later }
def JreadMayUptoCardSaid : Prop := Claim7.holds Tryd.pinned (.plain (OpenSpec.upto jreadMaySpec)) jreadMayUptoCard

/-- THE SECOND FORM's CARD OF 'millstreamlaw07.JreadNumbers'. -/
def jreadNumbersUptoCard : Claim7 := { stood := { row := jreadNumbersUptoRow, standIns := [], harness := (true, "3cdc956dbdc4d041244ecde3e22125c3e9c1fccdd69ae31b2b99805c62788e2f"), looks := true }, kinds := [], alts := [], laidByText := true, laidKinds := [.data, .data, .data, .data, .sentinel, .sentinel, .pinned], laidTests := true, laidLooks := .later }
def JreadNumbersUptoCardSaid : Prop := Claim7.holds Tryd.pinned (.plain (OpenSpec.upto jreadNumbersSpec)) jreadNumbersUptoCard

/-- THE SECOND FORM's CARD OF 'millstreamlaw07.JreadLists'. -/
def jreadListsUptoCard : Claim7 := { stood := { row := jreadListsUptoRow, standIns := [], harness := (true, "3cdc956dbdc4d041244ecde3e22125c3e9c1fccdd69ae31b2b99805c62788e2f"), looks := true }, kinds := [], alts := [], laidByText := true, laidKinds := [.data, .data, .data, .data, .sentinel, .sentinel, .pinned], laidTests := true, laidLooks := .later }
def JreadListsUptoCardSaid : Prop := Claim7.holds Tryd.pinned (.plain (OpenSpec.upto jreadListsSpec)) jreadListsUptoCard

/-- THE SECOND FORM's CARD OF 'millstreamlaw07.JreadCuts'. -/
def jreadCutsUptoCard : Claim7 := { stood := { row := jreadCutsUptoRow, standIns := [], harness := (true, "3cdc956dbdc4d041244ecde3e22125c3e9c1fccdd69ae31b2b99805c62788e2f"), looks := true }, kinds := [], alts := [], laidByText := true, laidKinds := [.data, .data, .data, .data, .sentinel, .sentinel, .pinned], laidTests := true, laidLooks := .later }
def JreadCutsUptoCardSaid : Prop := Claim7.holds Tryd.pinned (.plain (OpenSpec.upto jreadCutsSpec)) jreadCutsUptoCard
end Rows
end Go.Proofs.YtcddfpcapbdphaaDoor
