/-
  DERIVED. GIVEN WITH THE SEED: THE CARDS: each row of YthlfljmfggmfdaaGreatDoorRows.lean that lists a variable, with what it lists TIED to the program's text (the seventh form; the later family's looks); each row that meets fmt, with fmt's text TOLD by the authors' own Lean function (tested against real Go, not proved from fmt's source: count such statements apart). THE CARD IS WHAT COUNTS. Prove the row's statement (the work); the ties are given (YthlfljmfggmfdaaGreatDoorTie.lean); close each card by the builder's one call (the guide's Derived/Test/ToyasCard.lean, 'card_holds'). Laid BY PROGRAM, IN A SANDBOX (cutbox-door.mjs). By AI agents, Wed Nov 11 2026. No macro, syntax, notation, axiom, sorry.
-/
import Derived.Test.YthlfljmfggmfdaaGreatDoorRows
import GoSem.ClaimSeven
namespace Go.Proofs.YthlfljmfggmfdaaGreatDoor
namespace Rows

/-- THE TIED CARD OF 'millstreamlaw19.CelljMaps'. -/
def celljMapsCard : Claim7 := { stood := { row := celljMapsRow, standIns := [], harness := (true, "0c1a9bff8c250a83829aa23ddc5a18b29df13cb55e5e9a3bf5ad67b3e03bd4f9"), looks := true }, kinds := [], alts := [], laidByText := true, laidKinds := [.data, .data, .data, .data, .sentinel, .sentinel, .pinned], laidTests := true, laidLooks := .later }
def CelljMapsCardSaid : Prop := Claim7.holds Tryz.pinned (.plain (OpenSpec.ofChange celljMapsSpec)) celljMapsCard

/-- THE TIED CARD OF 'millstreamlaw19.CelljBack'. -/
def celljBackCard : Claim7 := { stood := { row := celljBackRow, standIns := [], harness := (true, "0c1a9bff8c250a83829aa23ddc5a18b29df13cb55e5e9a3bf5ad67b3e03bd4f9"), looks := true }, kinds := [], alts := [], laidByText := true, laidKinds := [.data, .data, .data, .data, .sentinel, .sentinel, .pinned], laidTests := true, laidLooks := .later }
def CelljBackCardSaid : Prop := Claim7.holds Tryz.pinned (.plain (OpenSpec.ofChange celljBackSpec)) celljBackCard

/-- THE TIED CARD OF 'millstreamlaw19.CelljKnown'. -/
def celljKnownCard : Claim7 := { stood := { row := celljKnownRow, standIns := [], harness := (true, "0c1a9bff8c250a83829aa23ddc5a18b29df13cb55e5e9a3bf5ad67b3e03bd4f9"), looks := true }, kinds := [], alts := [], laidByText := true, laidKinds := [.data, .data, .data, .data, .sentinel, .sentinel, .pinned], laidTests := true, laidLooks := .later }
def CelljKnownCardSaid : Prop := Claim7.holds Tryz.pinned (.plain (OpenSpec.ofChange celljKnownSpec)) celljKnownCard

/-- THE TIED CARD OF 'millstreamlaw19.CelljMissing'. -/
def celljMissingCard : Claim7 := { stood := { row := celljMissingRow, standIns := [], harness := (true, "0c1a9bff8c250a83829aa23ddc5a18b29df13cb55e5e9a3bf5ad67b3e03bd4f9"), looks := true }, kinds := [], alts := [], laidByText := true, laidKinds := [.data, .data, .data, .data, .sentinel, .sentinel, .pinned], laidTests := true, laidLooks := .later }
def CelljMissingCardSaid : Prop := Claim7.holds Tryz.pinned (.plain (OpenSpec.ofChange celljMissingSpec)) celljMissingCard

/-- THE TIED CARD OF 'millstreamlaw19.CelljSays'. -/
def celljSaysCard : Claim7 := { stood := { row := celljSaysRow, standIns := [], harness := (true, "0c1a9bff8c250a83829aa23ddc5a18b29df13cb55e5e9a3bf5ad67b3e03bd4f9"), looks := true }, kinds := [], alts := [], laidByText := true, laidKinds := [.data, .data, .data, .data, .sentinel, .sentinel, .pinned], laidTests := true, laidLooks := .later }
def CelljSaysCardSaid : Prop := Claim7.holds Tryz.pinned (.plain (OpenSpec.ofChange celljSaysSpec)) celljSaysCard

/-- THE TIED CARD OF 'millstreamlaw19.CelljUnlike'. -/
def celljUnlikeCard : Claim7 := { stood := { row := celljUnlikeRow, standIns := [], harness := (true, "0c1a9bff8c250a83829aa23ddc5a18b29df13cb55e5e9a3bf5ad67b3e03bd4f9"), looks := true }, kinds := [], alts := [], laidByText := true, laidKinds := [.data, .data, .data, .data, .sentinel, .sentinel, .pinned], laidTests := true, laidLooks := .later }
def CelljUnlikeCardSaid : Prop := Claim7.holds Tryz.pinned (.plain (OpenSpec.ofChange celljUnlikeSpec)) celljUnlikeCard

/-- THE TIED CARD OF 'millstreamlaw19.CelljOrder'. -/
def celljOrderCard : Claim7 := { stood := { row := celljOrderRow, standIns := [], harness := (true, "0c1a9bff8c250a83829aa23ddc5a18b29df13cb55e5e9a3bf5ad67b3e03bd4f9"), looks := true }, kinds := [], alts := [], laidByText := true, laidKinds := [.data, .data, .data, .data, .sentinel, .sentinel, .pinned], laidTests := true, laidLooks := .later }
def CelljOrderCardSaid : Prop := Claim7.holds Tryz.pinned (.plain (OpenSpec.ofChange celljOrderSpec)) celljOrderCard

/-- THE SECOND FORM's CARD OF 'millstreamlaw19.CelljMaps'. -/
def celljMapsUptoCard : Claim7 := { stood := { row := celljMapsUptoRow, standIns := [], harness := (true, "0c1a9bff8c250a83829aa23ddc5a18b29df13cb55e5e9a3bf5ad67b3e03bd4f9"), looks := true }, kinds := [], alts := [], laidByText := true, laidKinds := [.data, .data, .data, .data, .sentinel, .sentinel, .pinned], laidTests := true, laidLooks := .later }
def CelljMapsUptoCardSaid : Prop := Claim7.holds Tryz.pinned (.plain (OpenSpec.upto celljMapsSpec)) celljMapsUptoCard

/-- THE SECOND FORM's CARD OF 'millstreamlaw19.CelljBack'. -/
def celljBackUptoCard : Claim7 := { stood := { row := celljBackUptoRow, standIns := [], harness := (true, "0c1a9bff8c250a83829aa23ddc5a18b29df13cb55e5e9a3bf5ad67b3e03bd4f9"), looks := true }, kinds := [], alts := [], laidByText := true, laidKinds := [.data, .data, .data, .data, .sentinel, .sentinel, .pinned], laidTests := true, laidLooks := .later }
def CelljBackUptoCardSaid : Prop := Claim7.holds Tryz.pinned (.plain (OpenSpec.upto celljBackSpec)) celljBackUptoCard

/-- THE SECOND FORM's CARD OF 'millstreamlaw19.CelljKnown'. -/
def celljKnownUptoCard : Claim7 := { stood := { row := celljKnownUptoRow, standIns := [], harness := (true, "0c1a9bff8c250a83829aa23ddc5a18b29df13cb55e5e9a3bf5ad67b3e03bd4f9"), looks := true }, kinds := [], alts := [], laidByText := true, laidKinds := [.data, .data, .data, .data, .sentinel, .sentinel, .pinned], laidTests := true, laidLooks := .later }
def CelljKnownUptoCardSaid : Prop := Claim7.holds Tryz.pinned (.plain (OpenSpec.upto celljKnownSpec)) celljKnownUptoCard

/-- THE SECOND FORM's CARD OF 'millstreamlaw19.CelljMissing'. -/
def celljMissingUptoCard : Claim7 := { stood := { row := celljMissingUptoRow, standIns := [], harness := (true, "0c1a9bff8c250a83829aa23ddc5a18b29df13cb55e5e9a3bf5ad67b3e03bd4f9"), looks := true }, kinds := [], alts := [], laidByText := true, laidKinds := [.data, .data, .data, .data, .sentinel, .sentinel, .pinned], laidTests := true, laidLooks := .later }
def CelljMissingUptoCardSaid : Prop := Claim7.holds Tryz.pinned (.plain (OpenSpec.upto celljMissingSpec)) celljMissingUptoCard

/-- THE SECOND FORM's CARD OF 'millstreamlaw19.CelljSays'. -/
def celljSaysUptoCard : Claim7 := { stood := { row := celljSaysUptoRow, standIns := [], harness := (true, "0c1a9bff8c250a83829aa23ddc5a18b29df13cb55e5e9a3bf5ad67b3e03bd4f9"), looks := true }, kinds := [], alts := [], laidByText := true, laidKinds := [.data, .data, .data, .data, .sentinel, .sentinel, .pinned], laidTests := true, laidLooks := .later }
def CelljSaysUptoCardSaid : Prop := Claim7.holds Tryz.pinned (.plain (OpenSpec.upto celljSaysSpec)) celljSaysUptoCard

/-- THE SECOND FORM's CARD OF 'millstreamlaw19.CelljUnlike'. -/
def celljUnlikeUptoCard : Claim7 := { stood := { row := celljUnlikeUptoRow, standIns := [], harness := (true, "0c1a9bff8c250a83829aa23ddc5a18b29df13cb55e5e9a3bf5ad67b3e03bd4f9"), looks := true }, kinds := [], alts := [], laidByText := true, laidKinds := [.data, .data, .data, .data, .sentinel, .sentinel, .pinned], laidTests := true, laidLooks := .later }
def CelljUnlikeUptoCardSaid : Prop := Claim7.holds Tryz.pinned (.plain (OpenSpec.upto celljUnlikeSpec)) celljUnlikeUptoCard

/-- THE SECOND FORM's CARD OF 'millstreamlaw19.CelljOrder'. -/
def celljOrderUptoCard : Claim7 := { stood := { row := celljOrderUptoRow, standIns := [], harness := (true, "0c1a9bff8c250a83829aa23ddc5a18b29df13cb55e5e9a3bf5ad67b3e03bd4f9"), looks := true }, kinds := [], alts := [], laidByText := true, laidKinds := [.data, .data, .data, .data, .sentinel, .sentinel, .pinned], laidTests := true, laidLooks := .later }
def CelljOrderUptoCardSaid : Prop := Claim7.holds Tryz.pinned (.plain (OpenSpec.upto celljOrderSpec)) celljOrderUptoCard
end Rows
end Go.Proofs.YthlfljmfggmfdaaGreatDoor
