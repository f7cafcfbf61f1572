/-
  DERIVED. GIVEN WITH THE SEED: THE CARDS: each row of YtkefhhnbkhijgaaDoorRows.lean that lists a variable, with what it lists TIED to the program's text (the seventh form; the later family's looks); each row that meets fmt, with fmt's text TOLD by the authors' own Lean function (tested against real Go, not proved from fmt's source: count such statements apart). THE CARD IS WHAT COUNTS. Prove the row's statement (the work); the ties are given (YtkefhhnbkhijgaaDoorTie.lean); close each card by the builder's one call (the guide's Derived/Test/ToyasCard.lean, 'card_holds'). Laid BY PROGRAM, IN A SANDBOX (cutbox-door.mjs). By AI agents, Wed Nov 11 2026. No macro, syntax, notation, axiom, sorry.
-/
import Derived.Test.YtkefhhnbkhijgaaDoorRows
import GoSem.ClaimSeven
namespace Go.Proofs.YtkefhhnbkhijgaaDoor
namespace Rows

/-- THE TIED CARD OF 'millstreamlaw06.TapeMakes'. -/
def tapeMakesCard : Claim7 := { stood := { row := tapeMakesRow, standIns := [], harness := (true, "a6b6bcdc6ad3ff2e2ee5534d8697943023610547f9f74dec450032734df023f7"), looks := false }, kinds := [], alts := [], laidByText := true, laidKinds := [.data, .pinned], laidTests := true, laidLooks := .later }
def TapeMakesCardSaid : Prop := Claim7.holds Tryd.pinned (.plain (OpenSpec.ofChange tapeMakesSpec)) tapeMakesCard

/-- THE TIED CARD OF 'millstreamlaw06.TapeApart'. -/
def tapeApartCard : Claim7 := { stood := { row := tapeApartRow, standIns := [], harness := (true, "a6b6bcdc6ad3ff2e2ee5534d8697943023610547f9f74dec450032734df023f7"), looks := false }, kinds := [], alts := [], laidByText := true, laidKinds := [.data, .pinned], laidTests := true, laidLooks := .later }
def TapeApartCardSaid : Prop := Claim7.holds Tryd.pinned (.plain (OpenSpec.ofChange tapeApartSpec)) tapeApartCard

/-- THE TIED CARD OF 'millstreamlaw06.TapeDeep'. -/
def tapeDeepCard : Claim7 := { stood := { row := tapeDeepRow, standIns := [], harness := (true, "a6b6bcdc6ad3ff2e2ee5534d8697943023610547f9f74dec450032734df023f7"), looks := false }, kinds := [], alts := [], laidByText := true, laidKinds := [.data, .pinned], laidTests := true, laidLooks := .later }
def TapeDeepCardSaid : Prop := Claim7.holds Tryd.pinned (.plain (OpenSpec.ofChange tapeDeepSpec)) tapeDeepCard

/-- THE TIED CARD OF 'millstreamlaw06.TapeTells'. -/
def tapeTellsCard : Claim7 := { stood := { row := tapeTellsRow, standIns := [], harness := (true, "a6b6bcdc6ad3ff2e2ee5534d8697943023610547f9f74dec450032734df023f7"), looks := false }, kinds := [], alts := [], laidByText := true, laidKinds := [.data, .pinned], laidTests := true, laidLooks := .later }
def TapeTellsCardSaid : Prop := Claim7.holds Tryd.pinned (.plain (OpenSpec.ofChange tapeTellsSpec)) tapeTellsCard

/-- THE TIED CARD OF 'millstreamlaw06.TapeAgain'. -/
def tapeAgainCard : Claim7 := { stood := { row := tapeAgainRow, standIns := [], harness := (true, "a6b6bcdc6ad3ff2e2ee5534d8697943023610547f9f74dec450032734df023f7"), looks := false }, kinds := [], alts := [], laidByText := true, laidKinds := [.data, .pinned], laidTests := true, laidLooks := .later }
def TapeAgainCardSaid : Prop := Claim7.holds Tryd.pinned (.plain (OpenSpec.ofChange tapeAgainSpec)) tapeAgainCard

/-- THE TIED CARD OF 'millstreamlaw06.TapeSorted'. -/
def tapeSortedCard : Claim7 := { stood := { row := tapeSortedRow, standIns := [], harness := (true, "a6b6bcdc6ad3ff2e2ee5534d8697943023610547f9f74dec450032734df023f7"), looks := false }, kinds := [], alts := [], laidByText := true, laidKinds := [.data, .pinned], laidTests := true, laidLooks := .later }
def TapeSortedCardSaid : Prop := Claim7.holds Tryd.pinned (.plain (OpenSpec.ofChange tapeSortedSpec)) tapeSortedCard

/-- THE TIED CARD OF 'millstreamlaw06.TapeOrder'. -/
def tapeOrderCard : Claim7 := { stood := { row := tapeOrderRow, standIns := [], harness := (true, "a6b6bcdc6ad3ff2e2ee5534d8697943023610547f9f74dec450032734df023f7"), looks := false }, kinds := [], alts := [], laidByText := true, laidKinds := [.data, .pinned], laidTests := true, laidLooks := .later }
def TapeOrderCardSaid : Prop := Claim7.holds Tryd.pinned (.plain (OpenSpec.ofChange tapeOrderSpec)) tapeOrderCard

/-- THE TIED CARD OF 'millstreamlaw06.TapeKnown'. -/
def tapeKnownCard : Claim7 := { stood := { row := tapeKnownRow, standIns := [], harness := (true, "a6b6bcdc6ad3ff2e2ee5534d8697943023610547f9f74dec450032734df023f7"), looks := false }, kinds := [], alts := [], laidByText := true, laidKinds := [.data, .pinned], laidTests := true, laidLooks := .later }
def TapeKnownCardSaid : Prop := Claim7.holds Tryd.pinned (.plain (OpenSpec.ofChange tapeKnownSpec)) tapeKnownCard

/-- THE SECOND FORM's CARD OF 'millstreamlaw06.TapeMakes'. -/
def tapeMakesUptoCard : Claim7 := { stood := { row := tapeMakesUptoRow, standIns := [], harness := (true, "a6b6bcdc6ad3ff2e2ee5534d8697943023610547f9f74dec450032734df023f7"), looks := false }, kinds := [], alts := [], laidByText := true, laidKinds := [.data, .pinned], laidTests := true, laidLooks := .later }
def TapeMakesUptoCardSaid : Prop := Claim7.holds Tryd.pinned (.plain (OpenSpec.upto tapeMakesSpec)) tapeMakesUptoCard

/-- THE SECOND FORM's CARD OF 'millstreamlaw06.TapeApart'. -/
def tapeApartUptoCard : Claim7 := { stood := { row := tapeApartUptoRow, standIns := [], harness := (true, "a6b6bcdc6ad3ff2e2ee5534d8697943023610547f9f74dec450032734df023f7"), looks := false }, kinds := [], alts := [], laidByText := true, laidKinds := [.data, .pinned], laidTests := true, laidLooks := .later }
def TapeApartUptoCardSaid : Prop := Claim7.holds Tryd.pinned (.plain (OpenSpec.upto tapeApartSpec)) tapeApartUptoCard

/-- THE SECOND FORM's CARD OF 'millstreamlaw06.TapeDeep'. -/
def tapeDeepUptoCard : Claim7 := { stood := { row := tapeDeepUptoRow, standIns := [], harness := (true, "a6b6bcdc6ad3ff2e2ee5534d8697943023610547f9f74dec450032734df023f7"), looks := false }, kinds := [], alts := [], laidByText := true, laidKinds := [.data, .pinned], laidTests := true, laidLooks := .later }
def TapeDeepUptoCardSaid : Prop := Claim7.holds Tryd.pinned (.plain (OpenSpec.upto tapeDeepSpec)) tapeDeepUptoCard

/-- THE SECOND FORM's CARD OF 'millstreamlaw06.TapeTells'. -/
def tapeTellsUptoCard : Claim7 := { stood := { row := tapeTellsUptoRow, standIns := [], harness := (true, "a6b6bcdc6ad3ff2e2ee5534d8697943023610547f9f74dec450032734df023f7"), looks := false }, kinds := [], alts := [], laidByText := true, laidKinds := [.data, .pinned], laidTests := true, laidLooks := .later }
def TapeTellsUptoCardSaid : Prop := Claim7.holds Tryd.pinned (.plain (OpenSpec.upto tapeTellsSpec)) tapeTellsUptoCard

/-- THE SECOND FORM's CARD OF 'millstreamlaw06.TapeAgain'. -/
def tapeAgainUptoCard : Claim7 := { stood := { row := tapeAgainUptoRow, standIns := [], harness := (true, "a6b6bcdc6ad3ff2e2ee5534d8697943023610547f9f74dec450032734df023f7"), looks := false }, kinds := [], alts := [], laidByText := true, laidKinds := [.data, .pinned], laidTests := true, laidLooks := .later }
def TapeAgainUptoCardSaid : Prop := Claim7.holds Tryd.pinned (.plain (OpenSpec.upto tapeAgainSpec)) tapeAgainUptoCard

/-- THE SECOND FORM's CARD OF 'millstreamlaw06.TapeSorted'. -/
def tapeSortedUptoCard : Claim7 := { stood := { row := tapeSortedUptoRow, standIns := [], harness := (true, "a6b6bcdc6ad3ff2e2ee5534d8697943023610547f9f74dec450032734df023f7"), looks := false }, kinds := [], alts := [], laidByText := true, laidKinds := [.data, .pinned], laidTests := true, laidLooks := .later }
def TapeSortedUptoCardSaid : Prop := Claim7.holds Tryd.pinned (.plain (OpenSpec.upto tapeSortedSpec)) tapeSortedUptoCard

/-- THE SECOND FORM's CARD OF 'millstreamlaw06.TapeOrder'. -/
def tapeOrderUptoCard : Claim7 := { stood := { row := tapeOrderUptoRow, standIns := [], harness := (true, "a6b6bcdc6ad3ff2e2ee5534d8697943023610547f9f74dec450032734df023f7"), looks := false }, kinds := [], alts := [], laidByText := true, laidKinds := [.data, .pinned], laidTests := true, laidLooks := .later }
def TapeOrderUptoCardSaid : Prop := Claim7.holds Tryd.pinned (.plain (OpenSpec.upto tapeOrderSpec)) tapeOrderUptoCard

/-- THE SECOND FORM's CARD OF 'millstreamlaw06.TapeKnown'. -/
def tapeKnownUptoCard : Claim7 := { stood := { row := tapeKnownUptoRow, standIns := [], harness := (true, "a6b6bcdc6ad3ff2e2ee5534d8697943023610547f9f74dec450032734df023f7"), looks := false }, kinds := [], alts := [], laidByText := true, laidKinds := [.data, .pinned], laidTests := true, laidLooks := .later }
def TapeKnownUptoCardSaid : Prop := Claim7.holds Tryd.pinned (.plain (OpenSpec.upto tapeKnownSpec)) tapeKnownUptoCard
end Rows
end Go.Proofs.YtkefhhnbkhijgaaDoor
