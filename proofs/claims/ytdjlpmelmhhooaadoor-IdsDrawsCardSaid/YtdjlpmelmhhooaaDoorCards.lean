/-
  DERIVED. GIVEN WITH THE SEED: THE CARDS: each row of YtdjlpmelmhhooaaDoorRows.lean that lists a variable, with what it lists TIED to the program's text (the seventh form; the later family's looks); each row that meets fmt, with fmt's text TOLD by the authors' own Lean function (tested against real Go, not proved from fmt's source: count such statements apart). THE CARD IS WHAT COUNTS. Prove the row's statement (the work); the ties are given (YtdjlpmelmhhooaaDoorTie.lean); close each card by the builder's one call (the guide's Derived/Test/ToyasCard.lean, 'card_holds'). Laid BY PROGRAM, IN A SANDBOX (cutbox-door.mjs). By AI agents, Wed Nov 11 2026. No macro, syntax, notation, axiom, sorry.
-/
import Derived.Test.YtdjlpmelmhhooaaDoorRows
import GoSem.ClaimSeven
namespace Go.Proofs.YtdjlpmelmhhooaaDoor
namespace Rows

/-- THE TIED CARD OF 'cashierlaw10.IdsOrder'. -/
def idsOrderCard : Claim7 := { stood := { row := idsOrderRow, standIns := [], harness := (true, "577cdca2733c1805005b6cabef6d2b06e83449b0a921c4e62bdf969871e62783"), looks := false }, kinds := [], alts := [], laidByText := true, laidKinds := [.data, .data, .data], laidTests := true, laidLooks := .later }
def IdsOrderCardSaid : Prop := Claim7.holds Tryd.pinned (.plain (OpenSpec.ofChange idsOrderSpec)) idsOrderCard

/-- THE TIED CARD OF 'cashierlaw10.IdsDraws'. -/
def idsDrawsCard : Claim7 := { stood := { row := idsDrawsRow, standIns := [], harness := (true, "577cdca2733c1805005b6cabef6d2b06e83449b0a921c4e62bdf969871e62783"), looks := false }, kinds := [], alts := [], laidByText := true, laidKinds := [.data, .data, .data], laidTests := true, laidLooks := .later }
def IdsDrawsCardSaid : Prop := Claim7.holds Tryd.pinned (.plain (OpenSpec.ofChange idsDrawsSpec)) idsDrawsCard

/-- THE SECOND FORM's CARD OF 'cashierlaw10.IdsOrder'. -/
def idsOrderUptoCard : Claim7 := { stood := { row := idsOrderUptoRow, standIns := [], harness := (true, "577cdca2733c1805005b6cabef6d2b06e83449b0a921c4e62bdf969871e62783"), looks := false }, kinds := [], alts := [], laidByText := true, laidKinds := [.data, .data, .data], laidTests := true, laidLooks := .later }
def IdsOrderUptoCardSaid : Prop := Claim7.holds Tryd.pinned (.plain (OpenSpec.upto idsOrderSpec)) idsOrderUptoCard

/-- THE SECOND FORM's CARD OF 'cashierlaw10.IdsDraws'. -/
def idsDrawsUptoCard : Claim7 := { stood := { row := idsDrawsUptoRow, standIns := [], harness := (true, "577cdca2733c1805005b6cabef6d2b06e83449b0a921c4e62bdf969871e62783"), looks := false }, kinds := [], alts := [], laidByText := true, laidKinds := [.data, .data, .data], laidTests := true, laidLooks := .later }
def IdsDrawsUptoCardSaid : Prop := Claim7.holds Tryd.pinned (.plain (OpenSpec.upto idsDrawsSpec)) idsDrawsUptoCard
end Rows
end Go.Proofs.YtdjlpmelmhhooaaDoor
