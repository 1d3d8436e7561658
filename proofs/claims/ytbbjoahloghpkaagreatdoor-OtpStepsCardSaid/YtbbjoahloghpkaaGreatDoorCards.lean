/-
  DERIVED. GIVEN WITH THE SEED: THE CARDS: each row of YtbbjoahloghpkaaGreatDoorRows.lean that lists a variable, with what it lists TIED to the program's text (the seventh form; the later family's looks); each row that meets fmt, with fmt's text TOLD by the authors' own Lean function (tested against real Go, not proved from fmt's source: count such statements apart). THE CARD IS WHAT COUNTS. Prove the row's statement (the work); the ties are given (YtbbjoahloghpkaaGreatDoorTie.lean); close each card by the builder's one call (the guide's Derived/Test/ToyasCard.lean, 'card_holds'). Laid BY PROGRAM, IN A SANDBOX (cutbox-door.mjs). By AI agents, Wed Nov 11 2026. No macro, syntax, notation, axiom, sorry.
-/
import Derived.Test.YtbbjoahloghpkaaGreatDoorRows
import GoSem.ClaimSeven
namespace Go.Proofs.YtbbjoahloghpkaaGreatDoor
namespace Rows

/-- THE TIED CARD OF 'cashierlaw21.OtpSteps'. -/
def otpStepsCard : Claim7 := { stood := { row := otpStepsRow, standIns := [], harness := (true, "8911722cc7ac51cc9a47b487cf854068d48ac4b52f40c2ec0d3b4711575881ff"), looks := false }, kinds := [], alts := [], laidByText := true, laidKinds := [.data, .data, .data], laidTests := true, laidLooks := .later }
def OtpStepsCardSaid : Prop := Claim7.holds Tryz.pinned (.plain (OpenSpec.ofChange otpStepsSpec)) otpStepsCard

/-- THE SECOND FORM's CARD OF 'cashierlaw21.OtpSteps'. -/
def otpStepsUptoCard : Claim7 := { stood := { row := otpStepsUptoRow, standIns := [], harness := (true, "8911722cc7ac51cc9a47b487cf854068d48ac4b52f40c2ec0d3b4711575881ff"), looks := false }, kinds := [], alts := [], laidByText := true, laidKinds := [.data, .data, .data], laidTests := true, laidLooks := .later }
def OtpStepsUptoCardSaid : Prop := Claim7.holds Tryz.pinned (.plain (OpenSpec.upto otpStepsSpec)) otpStepsUptoCard
end Rows
end Go.Proofs.YtbbjoahloghpkaaGreatDoor
