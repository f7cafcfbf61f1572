/-
  DERIVED. GIVEN WITH THE SEED: THE CARDS: each row of YtmolmphbhdbcaaaDoorRows.lean that lists a variable, with what it lists TIED to the program's text (the seventh form; the later family's looks); each row that meets fmt, with fmt's text TOLD by the authors' own Lean function (tested against real Go, not proved from fmt's source: count such statements apart). THE CARD IS WHAT COUNTS. Prove the row's statement (the work); the ties are given (YtmolmphbhdbcaaaDoorTie.lean); close each card by the builder's one call (the guide's Derived/Test/ToyasCard.lean, 'card_holds'). Laid BY PROGRAM, IN A SANDBOX (cutbox-door.mjs). By AI agents, Wed Nov 11 2026. No macro, syntax, notation, axiom, sorry.
-/
import Derived.Test.YtmolmphbhdbcaaaDoorRows
import GoSem.ClaimSeven
namespace Go.Proofs.YtmolmphbhdbcaaaDoor
namespace Rows

/-- THE TIED CARD OF 'millstreamlaw08.JshowShows'. -/
def jshowShowsCard : Claim7 := { stood := { row := jshowShowsRow, standIns := [], harness := (true, "73badebfcf9934fec591d334cf1a853a1679e91a8ec75baaef0ab14ac259dc37"), looks := false }, kinds := [], alts := [], laidByText := true, laidKinds := [.data, .data, .data, .data, .pinned], laidTests := true, laidLooks := .later }
def JshowShowsCardSaid : Prop := Claim7.holds Tryd.pinned (.plain (OpenSpec.ofChange jshowShowsSpec)) jshowShowsCard

/-- THE TIED CARD OF 'millstreamlaw08.JshowNumbers'. -/
def jshowNumbersCard : Claim7 := { stood := { row := jshowNumbersRow, standIns := [], harness := (true, "73badebfcf9934fec591d334cf1a853a1679e91a8ec75baaef0ab14ac259dc37"), looks := false }, kinds := [], alts := [], laidByText := true, laidKinds := [.data, .data, .data, .data, .pinned], laidTests := true, laidLooks := .later }
def JshowNumbersCardSaid : Prop := Claim7.holds Tryd.pinned (.plain (OpenSpec.ofChange jshowNumbersSpec)) jshowNumbersCard

/-- THE TIED CARD OF 'millstreamlaw08.JshowParts'. -/
def jshowPartsCard : Claim7 := { stood := { row := jshowPartsRow, standIns := [], harness := (true, "73badebfcf9934fec591d334cf1a853a1679e91a8ec75baaef0ab14ac259dc37"), looks := false }, kinds := [], alts := [], laidByText := true, laidKinds := [.data, .data, .data, .data, .pinned], laidTests := true, laidLooks := .later }
def JshowPartsCardSaid : Prop := Claim7.holds Tryd.pinned (.plain (OpenSpec.ofChange jshowPartsSpec)) jshowPartsCard

/-- THE TIED CARD OF 'millstreamlaw08.JshowPlain'. -/
def jshowPlainCard : Claim7 := { stood := { row := jshowPlainRow, standIns := [], harness := (true, "73badebfcf9934fec591d334cf1a853a1679e91a8ec75baaef0ab14ac259dc37"), looks := false }, kinds := [], alts := [], laidByText := true, laidKinds := [.data, .data, .data, .data, .pinned], laidTests := true, laidLooks := .later }
def JshowPlainCardSaid : Prop := Claim7.holds Tryd.pinned (.plain (OpenSpec.ofChange jshowPlainSpec)) jshowPlainCard

/-- THE TIED CARD OF 'millstreamlaw08.JshowKnown'. -/
def jshowKnownCard : Claim7 := { stood := { row := jshowKnownRow, standIns := [], harness := (true, "73badebfcf9934fec591d334cf1a853a1679e91a8ec75baaef0ab14ac259dc37"), looks := false }, kinds := [], alts := [], laidByText := true, laidKinds := [.data, .data, .data, .data, .pinned], laidTests := true, laidLooks := .later }
def JshowKnownCardSaid : Prop := Claim7.holds Tryd.pinned (.plain (OpenSpec.ofChange jshowKnownSpec)) jshowKnownCard

/-- THE SECOND FORM's CARD OF 'millstreamlaw08.JshowShows'. -/
def jshowShowsUptoCard : Claim7 := { stood := { row := jshowShowsUptoRow, standIns := [], harness := (true, "73badebfcf9934fec591d334cf1a853a1679e91a8ec75baaef0ab14ac259dc37"), looks := false }, kinds := [], alts := [], laidByText := true, laidKinds := [.data, .data, .data, .data, .pinned], laidTests := true, laidLooks := .later }
def JshowShowsUptoCardSaid : Prop := Claim7.holds Tryd.pinned (.plain (OpenSpec.upto jshowShowsSpec)) jshowShowsUptoCard

/-- THE SECOND FORM's CARD OF 'millstreamlaw08.JshowNumbers'. -/
def jshowNumbersUptoCard : Claim7 := { stood := { row := jshowNumbersUptoRow, standIns := [], harness := (true, "73badebfcf9934fec591d334cf1a853a1679e91a8ec75baaef0ab14ac259dc37"), looks := false }, kinds := [], alts := [], laidByText := true, laidKinds := [.data, .data, .data, .data, .pinned], laidTests := true, laidLooks := .later }
def JshowNumbersUptoCardSaid : Prop := Claim7.holds Tryd.pinned (.plain (OpenSpec.upto jshowNumbersSpec)) jshowNumbersUptoCard

/-- THE SECOND FORM's CARD OF 'millstreamlaw08.JshowParts'. -/
def jshowPartsUptoCard : Claim7 := { stood := { row := jshowPartsUptoRow, standIns := [], harness := (true, "73badebfcf9934fec591d334cf1a853a1679e91a8ec75baaef0ab14ac259dc37"), looks := false }, kinds := [], alts := [], laidByText := true, laidKinds := [.data, .data, .data, .data, .pinned], laidTests := true, laidLooks := .later }
def JshowPartsUptoCardSaid : Prop := Claim7.holds Tryd.pinned (.plain (OpenSpec.upto jshowPartsSpec)) jshowPartsUptoCard

/-- THE SECOND FORM's CARD OF 'millstreamlaw08.JshowPlain'. -/
def jshowPlainUptoCard : Claim7 := { stood := { row := jshowPlainUptoRow, standIns := [], harness := (true, "73badebfcf9934fec591d334cf1a853a1679e91a8ec75baaef0ab14ac259dc37"), looks := false }, kinds := [], alts := [], laidByText := true, laidKinds := [.data, .data, .data, .data, .pinned], laidTests := true, laidLooks := .later }
def JshowPlainUptoCardSaid : Prop := Claim7.holds Tryd.pinned (.plain (OpenSpec.upto jshowPlainSpec)) jshowPlainUptoCard

/-- THE SECOND FORM's CARD OF 'millstreamlaw08.JshowKnown'. -/
def jshowKnownUptoCard : Claim7 := { stood := { row := jshowKnownUptoRow, standIns := [], harness := (true, "73badebfcf9934fec591d334cf1a853a1679e91a8ec75baaef0ab14ac259dc37"), looks := false }, kinds := [], alts := [], laidByText := true, laidKinds := [.data, .data, .data, .data, .pinned], laidTests := true, laidLooks := .later }
def JshowKnownUptoCardSaid : Prop := Claim7.holds Tryd.pinned (.plain (OpenSpec.upto jshowKnownSpec)) jshowKnownUptoCard
end Rows
end Go.Proofs.YtmolmphbhdbcaaaDoor
