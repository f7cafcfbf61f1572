/-
  DERIVED. GIVEN WITH THE SEED: THE CARDS: each row of YtmfbblcipakaiaaGreatDoorRows.lean that lists a variable, with what it lists TIED to the program's text (the seventh form; the later family's looks); each row that meets fmt, with fmt's text TOLD by the authors' own Lean function (tested against real Go, not proved from fmt's source: count such statements apart). THE CARD IS WHAT COUNTS. Prove the row's statement (the work); the ties are given (YtmfbblcipakaiaaGreatDoorTie.lean); close each card by the builder's one call (the guide's Derived/Test/ToyasCard.lean, 'card_holds'). Laid BY PROGRAM, IN A SANDBOX (cutbox-door.mjs). By AI agents, Wed Nov 11 2026. No macro, syntax, notation, axiom, sorry.
-/
import Derived.Test.YtmfbblcipakaiaaGreatDoorRows
import GoSem.ClaimSeven
namespace Go.Proofs.YtmfbblcipakaiaaGreatDoor
namespace Rows

/-- THE TIED CARD OF 'millstreamlaw24.GroupDoes'. -/
def groupDoesCard : Claim7 := { stood := { row := groupDoesRow, standIns := [], harness := (true, "77c4e8b883d805dc3a6702e106440ce4fb516c2676a7e5abbb4b7ab3a872ab2b"), looks := true }, kinds := [], alts := [], laidByText := true, laidKinds := [.data, .data, .data], laidTests := true, laidLooks := .later }
def GroupDoesCardSaid : Prop := Claim7.holds Tryz.pinned (.plain (OpenSpec.ofChange groupDoesSpec)) groupDoesCard

/-- THE TIED CARD OF 'millstreamlaw24.GroupOnce'. -/
def groupOnceCard : Claim7 := { stood := { row := groupOnceRow, standIns := [], harness := (true, "77c4e8b883d805dc3a6702e106440ce4fb516c2676a7e5abbb4b7ab3a872ab2b"), looks := true }, kinds := [], alts := [], laidByText := true, laidKinds := [.data, .data, .data], laidTests := true, laidLooks := .later }
def GroupOnceCardSaid : Prop := Claim7.holds Tryz.pinned (.plain (OpenSpec.ofChange groupOnceSpec)) groupOnceCard

/-- THE TIED CARD OF 'millstreamlaw24.GroupBack'. -/
def groupBackCard : Claim7 := { stood := { row := groupBackRow, standIns := [], harness := (true, "77c4e8b883d805dc3a6702e106440ce4fb516c2676a7e5abbb4b7ab3a872ab2b"), looks := true }, kinds := [], alts := [], laidByText := true, laidKinds := [.data, .data, .data], laidTests := true, laidLooks := .later }
def GroupBackCardSaid : Prop := Claim7.holds Tryz.pinned (.plain (OpenSpec.ofChange groupBackSpec)) groupBackCard

/-- THE TIED CARD OF 'millstreamlaw24.GroupCopies'. -/
def groupCopiesCard : Claim7 := { stood := { row := groupCopiesRow, standIns := [], harness := (true, "77c4e8b883d805dc3a6702e106440ce4fb516c2676a7e5abbb4b7ab3a872ab2b"), looks := true }, kinds := [], alts := [], laidByText := true, laidKinds := [.data, .data, .data], laidTests := true, laidLooks := .later }
def GroupCopiesCardSaid : Prop := Claim7.holds Tryz.pinned (.plain (OpenSpec.ofChange groupCopiesSpec)) groupCopiesCard

/-- THE TIED CARD OF 'millstreamlaw24.GroupDelta'. -/
def groupDeltaCard : Claim7 := { stood := { row := groupDeltaRow, standIns := [], harness := (true, "77c4e8b883d805dc3a6702e106440ce4fb516c2676a7e5abbb4b7ab3a872ab2b"), looks := true }, kinds := [], alts := [], laidByText := true, laidKinds := [.data, .data, .data], laidTests := true, laidLooks := .later }
def GroupDeltaCardSaid : Prop := Claim7.holds Tryz.pinned (.plain (OpenSpec.ofChange groupDeltaSpec)) groupDeltaCard

/-- THE TIED CARD OF 'millstreamlaw24.GroupKnown'. -/
def groupKnownCard : Claim7 := { stood := { row := groupKnownRow, standIns := [], harness := (true, "77c4e8b883d805dc3a6702e106440ce4fb516c2676a7e5abbb4b7ab3a872ab2b"), looks := true }, kinds := [], alts := [], laidByText := true, laidKinds := [.data, .data, .data], laidTests := true, laidLooks := .later }
def GroupKnownCardSaid : Prop := Claim7.holds Tryz.pinned (.plain (OpenSpec.ofChange groupKnownSpec)) groupKnownCard

/-- THE SECOND FORM's CARD OF 'millstreamlaw24.GroupDoes'. -/
def groupDoesUptoCard : Claim7 := { stood := { row := groupDoesUptoRow, standIns := [], harness := (true, "77c4e8b883d805dc3a6702e106440ce4fb516c2676a7e5abbb4b7ab3a872ab2b"), looks := true }, kinds := [], alts := [], laidByText := true, laidKinds := [.data, .data, .data], laidTests := true, laidLooks := .later }
def GroupDoesUptoCardSaid : Prop := Claim7.holds Tryz.pinned (.plain (OpenSpec.upto groupDoesSpec)) groupDoesUptoCard

/-- THE SECOND FORM's CARD OF 'millstreamlaw24.GroupOnce'. -/
def groupOnceUptoCard : Claim7 := { stood := { row := groupOnceUptoRow, standIns := [], harness := (true, "77c4e8b883d805dc3a6702e106440ce4fb516c2676a7e5abbb4b7ab3a872ab2b"), looks := true }, kinds := [], alts := [], laidByText := true, laidKinds := [.data, .data, .data], laidTests := true, laidLooks := .later }
def GroupOnceUptoCardSaid : Prop := Claim7.holds Tryz.pinned (.plain (OpenSpec.upto groupOnceSpec)) groupOnceUptoCard

/-- THE SECOND FORM's CARD OF 'millstreamlaw24.GroupBack'. -/
def groupBackUptoCard : Claim7 := { stood := { row := groupBackUptoRow, standIns := [], harness := (true, "77c4e8b883d805dc3a6702e106440ce4fb516c2676a7e5abbb4b7ab3a872ab2b"), looks := true }, kinds := [], alts := [], laidByText := true, laidKinds := [.data, .data, .data], laidTests := true, laidLooks := .later }
def GroupBackUptoCardSaid : Prop := Claim7.holds Tryz.pinned (.plain (OpenSpec.upto groupBackSpec)) groupBackUptoCard

/-- THE SECOND FORM's CARD OF 'millstreamlaw24.GroupCopies'. -/
def groupCopiesUptoCard : Claim7 := { stood := { row := groupCopiesUptoRow, standIns := [], harness := (true, "77c4e8b883d805dc3a6702e106440ce4fb516c2676a7e5abbb4b7ab3a872ab2b"), looks := true }, kinds := [], alts := [], laidByText := true, laidKinds := [.data, .data, .data], laidTests := true, laidLooks := .later }
def GroupCopiesUptoCardSaid : Prop := Claim7.holds Tryz.pinned (.plain (OpenSpec.upto groupCopiesSpec)) groupCopiesUptoCard

/-- THE SECOND FORM's CARD OF 'millstreamlaw24.GroupDelta'. -/
def groupDeltaUptoCard : Claim7 := { stood := { row := groupDeltaUptoRow, standIns := [], harness := (true, "77c4e8b883d805dc3a6702e106440ce4fb516c2676a7e5abbb4b7ab3a872ab2b"), looks := true }, kinds := [], alts := [], laidByText := true, laidKinds := [.data, .data, .data], laidTests := true, laidLooks := .later }
def GroupDeltaUptoCardSaid : Prop := Claim7.holds Tryz.pinned (.plain (OpenSpec.upto groupDeltaSpec)) groupDeltaUptoCard

/-- THE SECOND FORM's CARD OF 'millstreamlaw24.GroupKnown'. -/
def groupKnownUptoCard : Claim7 := { stood := { row := groupKnownUptoRow, standIns := [], harness := (true, "77c4e8b883d805dc3a6702e106440ce4fb516c2676a7e5abbb4b7ab3a872ab2b"), looks := true }, kinds := [], alts := [], laidByText := true, laidKinds := [.data, .data, .data], laidTests := true, laidLooks := .later }
def GroupKnownUptoCardSaid : Prop := Claim7.holds Tryz.pinned (.plain (OpenSpec.upto groupKnownSpec)) groupKnownUptoCard
end Rows
end Go.Proofs.YtmfbblcipakaiaaGreatDoor
