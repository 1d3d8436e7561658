/-
  DERIVED. GIVEN WITH THE SEED: THE CARDS: each row of YtdjlpmelmhhooaaGreatDoorRows.lean that lists a variable, with what it lists TIED to the program's text (the seventh form; the later family's looks); each row that meets fmt, with fmt's text TOLD by the authors' own Lean function (tested against real Go, not proved from fmt's source: count such statements apart). THE CARD IS WHAT COUNTS. Prove the row's statement (the work); the ties are given (YtdjlpmelmhhooaaGreatDoorTie.lean); close each card by the builder's one call (the guide's Derived/Test/ToyasCard.lean, 'card_holds'). Laid BY PROGRAM, IN A SANDBOX (cutbox-door.mjs). By AI agents, Wed Nov 11 2026. No macro, syntax, notation, axiom, sorry.
-/
import Derived.Test.YtdjlpmelmhhooaaGreatDoorRows
import GoSem.ClaimSeven
namespace Go.Proofs.YtdjlpmelmhhooaaGreatDoor
namespace Rows

/-- THE TIED CARD OF 'cashierlaw10.IdsTexts'. -/
def idsTextsCard : Claim7 := { stood := { row := idsTextsRow, standIns := [], harness := (true, "8e5ed2fb4f37ffebe688d6d1942b08ea17867520068b2218c83e39fde2a614da"), looks := true }, kinds := [], alts := [], laidByText := true, laidKinds := [.data, .data, .data, .data, .pinned], laidTests := true, laidLooks := .later }
def IdsTextsCardSaid : Prop := Claim7.holds Tryz.pinned (.plain (OpenSpec.ofChange idsTextsSpec)) idsTextsCard

/-- THE TIED CARD OF 'cashierlaw14.FormatFits'. -/
def formatFitsCard : Claim7 := { stood := { row := formatFitsRow, standIns := [], harness := (true, "8e5ed2fb4f37ffebe688d6d1942b08ea17867520068b2218c83e39fde2a614da"), looks := true }, kinds := [], alts := [], laidByText := true, laidKinds := [.data, .data, .data, .data, .sentinel, .sentinel, .pinned], laidTests := true, laidLooks := .later }
def FormatFitsCardSaid : Prop := Claim7.holds Tryz.pinned (.plain (OpenSpec.ofChange formatFitsSpec)) formatFitsCard

/-- THE TIED CARD OF 'cashierlaw14.FormatTight'. -/
def formatTightCard : Claim7 := { stood := { row := formatTightRow, standIns := [], harness := (true, "8e5ed2fb4f37ffebe688d6d1942b08ea17867520068b2218c83e39fde2a614da"), looks := true }, kinds := [], alts := [], laidByText := true, laidKinds := [.data, .data, .data, .data, .sentinel, .sentinel, .pinned], laidTests := true, laidLooks := .later }
def FormatTightCardSaid : Prop := Claim7.holds Tryz.pinned (.plain (OpenSpec.ofChange formatTightSpec)) formatTightCard

/-- THE TIED CARD OF 'cashierlaw14.FormatNames'. -/
def formatNamesCard : Claim7 := { stood := { row := formatNamesRow, standIns := [], harness := (true, "8e5ed2fb4f37ffebe688d6d1942b08ea17867520068b2218c83e39fde2a614da"), looks := true }, kinds := [], alts := [], laidByText := true, laidKinds := [.data, .data, .data, .data, .sentinel, .sentinel, .pinned], laidTests := true, laidLooks := .later }
def FormatNamesCardSaid : Prop := Claim7.holds Tryz.pinned (.plain (OpenSpec.ofChange formatNamesSpec)) formatNamesCard

/-- THE TIED CARD OF 'cashierlaw14.FormatLongest'. -/
def formatLongestCard : Claim7 := { stood := { row := formatLongestRow, standIns := [], harness := (true, "8e5ed2fb4f37ffebe688d6d1942b08ea17867520068b2218c83e39fde2a614da"), looks := true }, kinds := [], alts := [], laidByText := true, laidKinds := [.data, .data, .data, .data, .sentinel, .sentinel, .pinned], laidTests := true, laidLooks := .later }
def FormatLongestCardSaid : Prop := Claim7.holds Tryz.pinned (.plain (OpenSpec.ofChange formatLongestSpec)) formatLongestCard

/-- THE TIED CARD OF 'cashierlaw15.CatalogTable'. -/
def catalogTableCard : Claim7 := { stood := { row := catalogTableRow, standIns := [], harness := (true, "8e5ed2fb4f37ffebe688d6d1942b08ea17867520068b2218c83e39fde2a614da"), looks := true }, kinds := [], alts := [], laidByText := true, laidKinds := [.data, .data, .data, .data, .sentinel, .sentinel, .pinned], laidTests := true, laidLooks := .later }
def CatalogTableCardSaid : Prop := Claim7.holds Tryz.pinned (.plain (OpenSpec.ofChange catalogTableSpec)) catalogTableCard

/-- THE TIED CARD OF 'cashierlaw15.CatalogMessages'. -/
def catalogMessagesCard : Claim7 := { stood := { row := catalogMessagesRow, standIns := [], harness := (true, "8e5ed2fb4f37ffebe688d6d1942b08ea17867520068b2218c83e39fde2a614da"), looks := true }, kinds := [], alts := [], laidByText := true, laidKinds := [.data, .data, .data, .data, .sentinel, .sentinel, .pinned], laidTests := true, laidLooks := .later }
def CatalogMessagesCardSaid : Prop := Claim7.holds Tryz.pinned (.plain (OpenSpec.ofChange catalogMessagesSpec)) catalogMessagesCard

/-- THE TIED CARD OF 'cashierlaw15.CatalogPlaces'. -/
def catalogPlacesCard : Claim7 := { stood := { row := catalogPlacesRow, standIns := [], harness := (true, "8e5ed2fb4f37ffebe688d6d1942b08ea17867520068b2218c83e39fde2a614da"), looks := true }, kinds := [], alts := [], laidByText := true, laidKinds := [.data, .data, .data, .data, .sentinel, .sentinel, .pinned], laidTests := true, laidLooks := .later }
def CatalogPlacesCardSaid : Prop := Claim7.holds Tryz.pinned (.plain (OpenSpec.ofChange catalogPlacesSpec)) catalogPlacesCard

/-- THE SECOND FORM's CARD OF 'cashierlaw10.IdsTexts'. -/
def idsTextsUptoCard : Claim7 := { stood := { row := idsTextsUptoRow, standIns := [], harness := (true, "8e5ed2fb4f37ffebe688d6d1942b08ea17867520068b2218c83e39fde2a614da"), looks := true }, kinds := [], alts := [], laidByText := true, laidKinds := [.data, .data, .data, .data, .pinned], laidTests := true, laidLooks := .later }
def IdsTextsUptoCardSaid : Prop := Claim7.holds Tryz.pinned (.plain (OpenSpec.upto idsTextsSpec)) idsTextsUptoCard

/-- THE SECOND FORM's CARD OF 'cashierlaw14.FormatFits'. -/
def formatFitsUptoCard : Claim7 := { stood := { row := formatFitsUptoRow, standIns := [], harness := (true, "8e5ed2fb4f37ffebe688d6d1942b08ea17867520068b2218c83e39fde2a614da"), looks := true }, kinds := [], alts := [], laidByText := true, laidKinds := [.data, .data, .data, .data, .sentinel, .sentinel, .pinned], laidTests := true, laidLooks := .later }
def FormatFitsUptoCardSaid : Prop := Claim7.holds Tryz.pinned (.plain (OpenSpec.upto formatFitsSpec)) formatFitsUptoCard

/-- THE SECOND FORM's CARD OF 'cashierlaw14.FormatTight'. -/
def formatTightUptoCard : Claim7 := { stood := { row := formatTightUptoRow, standIns := [], harness := (true, "8e5ed2fb4f37ffebe688d6d1942b08ea17867520068b2218c83e39fde2a614da"), looks := true }, kinds := [], alts := [], laidByText := true, laidKinds := [.data, .data, .data, .data, .sentinel, .sentinel, .pinned], laidTests := true, laidLooks := .later }
def FormatTightUptoCardSaid : Prop := Claim7.holds Tryz.pinned (.plain (OpenSpec.upto formatTightSpec)) formatTightUptoCard

/-- THE SECOND FORM's CARD OF 'cashierlaw14.FormatNames'. -/
def formatNamesUptoCard : Claim7 := { stood := { row := formatNamesUptoRow, standIns := [], harness := (true, "8e5ed2fb4f37ffebe688d6d1942b08ea17867520068b2218c83e39fde2a614da"), looks := true }, kinds := [], alts := [], laidByText := true, laidKinds := [.data, .data, .data, .data, .sentinel, .sentinel, .pinned], laidTests := true, laidLooks := .later }
def FormatNamesUptoCardSaid : Prop := Claim7.holds Tryz.pinned (.plain (OpenSpec.upto formatNamesSpec)) formatNamesUptoCard

/-- THE SECOND FORM's CARD OF 'cashierlaw14.FormatLongest'. -/
def formatLongestUptoCard : Claim7 := { stood := { row := formatLongestUptoRow, standIns := [], harness := (true, "8e5ed2fb4f37ffebe688d6d1942b08ea17867520068b2218c83e39fde2a614da"), looks := true }, kinds := [], alts := [], laidByText := true, laidKinds := [.data, .data, .data, .data, .sentinel, .sentinel, .pinned], laidTests := true, laidLooks := .later }
def FormatLongestUptoCardSaid : Prop := Claim7.holds Tryz.pinned (.plain (OpenSpec.upto formatLongestSpec)) formatLongestUptoCard

/-- THE SECOND FORM's CARD OF 'cashierlaw15.CatalogTable'. -/
def catalogTableUptoCard : Claim7 := { stood := { row := catalogTableUptoRow, standIns := [], harness := (true, "8e5ed2fb4f37ffebe688d6d1942b08ea17867520068b2218c83e39fde2a614da"), looks := true }, kinds := [], alts := [], laidByText := true, laidKinds := [.data, .data, .data, .data, .sentinel, .sentinel, .pinned], laidTests := true, laidLooks := .later }
def CatalogTableUptoCardSaid : Prop := Claim7.holds Tryz.pinned (.plain (OpenSpec.upto catalogTableSpec)) catalogTableUptoCard

/-- THE SECOND FORM's CARD OF 'cashierlaw15.CatalogMessages'. -/
def catalogMessagesUptoCard : Claim7 := { stood := { row := catalogMessagesUptoRow, standIns := [], harness := (true, "8e5ed2fb4f37ffebe688d6d1942b08ea17867520068b2218c83e39fde2a614da"), looks := true }, kinds := [], alts := [], laidByText := true, laidKinds := [.data, .data, .data, .data, .sentinel, .sentinel, .pinned], laidTests := true, laidLooks := .later }
def CatalogMessagesUptoCardSaid : Prop := Claim7.holds Tryz.pinned (.plain (OpenSpec.upto catalogMessagesSpec)) catalogMessagesUptoCard

/-- THE SECOND FORM's CARD OF 'cashierlaw15.CatalogPlaces'. -/
def catalogPlacesUptoCard : Claim7 := { stood := { row := catalogPlacesUptoRow, standIns := [], harness := (true, "8e5ed2fb4f37ffebe688d6d1942b08ea17867520068b2218c83e39fde2a614da"), looks := true }, kinds := [], alts := [], laidByText := true, laidKinds := [.data, .data, .data, .data, .sentinel, .sentinel, .pinned], laidTests := true, laidLooks := .later }
def CatalogPlacesUptoCardSaid : Prop := Claim7.holds Tryz.pinned (.plain (OpenSpec.upto catalogPlacesSpec)) catalogPlacesUptoCard
end Rows
end Go.Proofs.YtdjlpmelmhhooaaGreatDoor
