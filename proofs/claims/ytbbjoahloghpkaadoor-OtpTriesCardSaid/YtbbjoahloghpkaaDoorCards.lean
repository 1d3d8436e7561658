/-
  DERIVED. GIVEN WITH THE SEED: THE CARDS: each row of YtbbjoahloghpkaaDoorRows.lean that lists a variable, with what it lists TIED to the program's text (the seventh form; the later family's looks); each row that meets fmt, with fmt's text TOLD by the authors' own Lean function (tested against real Go, not proved from fmt's source: count such statements apart). THE CARD IS WHAT COUNTS. Prove the row's statement (the work); the ties are given (YtbbjoahloghpkaaDoorTie.lean); close each card by the builder's one call (the guide's Derived/Test/ToyasCard.lean, 'card_holds'). Laid BY PROGRAM, IN A SANDBOX (cutbox-door.mjs). By AI agents, Wed Nov 11 2026. No macro, syntax, notation, axiom, sorry.
-/
import Derived.Test.YtbbjoahloghpkaaDoorRows
import GoSem.ClaimSeven
namespace Go.Proofs.YtbbjoahloghpkaaDoor
namespace Rows

/-- THE TIED CARD OF 'cashierlaw03.DigitsCards'. -/
def digitsCardsCard : Claim7 := { stood := { row := digitsCardsRow, standIns := [], harness := (true, "1ee3ad5924de2ce1f74cf2d3bd55aab4cf4216bf7630c4da79725879fef83c2d"), looks := true }, kinds := [], alts := [], laidByText := true, laidKinds := [.data, .data, .data], laidTests := true, laidLooks := .later }
def DigitsCardsCardSaid : Prop := Claim7.holds Tryd.pinned (.plain (OpenSpec.ofChange digitsCardsSpec)) digitsCardsCard

/-- THE TIED CARD OF 'cashierlaw03.DigitsDates'. -/
def digitsDatesCard : Claim7 := { stood := { row := digitsDatesRow, standIns := [], harness := (true, "1ee3ad5924de2ce1f74cf2d3bd55aab4cf4216bf7630c4da79725879fef83c2d"), looks := true }, kinds := [], alts := [], laidByText := true, laidKinds := [.data, .data, .data, .sentinel, .sentinel], laidTests := true, laidLooks := .later }
def DigitsDatesCardSaid : Prop := Claim7.holds Tryd.pinned (.plain (OpenSpec.ofChange digitsDatesSpec)) digitsDatesCard

/-- THE TIED CARD OF 'cashierlaw06.HmacKeys'. -/
def hmacKeysCard : Claim7 := { stood := { row := hmacKeysRow, standIns := [], harness := (true, "1ee3ad5924de2ce1f74cf2d3bd55aab4cf4216bf7630c4da79725879fef83c2d"), looks := true }, kinds := [], alts := [], laidByText := true, laidKinds := [.data, .data, .data], laidTests := true, laidLooks := .later }
def HmacKeysCardSaid : Prop := Claim7.holds Tryd.pinned (.plain (OpenSpec.ofChange hmacKeysSpec)) hmacKeysCard

/-- THE TIED CARD OF 'cashierlaw06.HmacSums'. -/
def hmacSumsCard : Claim7 := { stood := { row := hmacSumsRow, standIns := [], harness := (true, "1ee3ad5924de2ce1f74cf2d3bd55aab4cf4216bf7630c4da79725879fef83c2d"), looks := true }, kinds := [], alts := [], laidByText := true, laidKinds := [.data, .data, .data], laidTests := true, laidLooks := .later }
def HmacSumsCardSaid : Prop := Claim7.holds Tryd.pinned (.plain (OpenSpec.ofChange hmacSumsSpec)) hmacSumsCard

/-- THE TIED CARD OF 'cashierlaw06.HmacCodes'. -/
def hmacCodesCard : Claim7 := { stood := { row := hmacCodesRow, standIns := [], harness := (true, "1ee3ad5924de2ce1f74cf2d3bd55aab4cf4216bf7630c4da79725879fef83c2d"), looks := true }, kinds := [], alts := [], laidByText := true, laidKinds := [.data, .data, .data], laidTests := true, laidLooks := .later }
def HmacCodesCardSaid : Prop := Claim7.holds Tryd.pinned (.plain (OpenSpec.ofChange hmacCodesSpec)) hmacCodesCard

/-- THE TIED CARD OF 'cashierlaw21.OtpLate'. -/
def otpLateCard : Claim7 := { stood := { row := otpLateRow, standIns := [], harness := (true, "1ee3ad5924de2ce1f74cf2d3bd55aab4cf4216bf7630c4da79725879fef83c2d"), looks := true }, kinds := [], alts := [], laidByText := true, laidKinds := [.data, .data, .data], laidTests := true, laidLooks := .later }
def OtpLateCardSaid : Prop := Claim7.holds Tryd.pinned (.plain (OpenSpec.ofChange otpLateSpec)) otpLateCard

/-- THE TIED CARD OF 'cashierlaw21.OtpTexts'. -/
def otpTextsCard : Claim7 := { stood := { row := otpTextsRow, standIns := [], harness := (true, "1ee3ad5924de2ce1f74cf2d3bd55aab4cf4216bf7630c4da79725879fef83c2d"), looks := true }, kinds := [], alts := [], laidByText := true, laidKinds := [.data, .data, .data], laidTests := true, laidLooks := .later }
def OtpTextsCardSaid : Prop := Claim7.holds Tryd.pinned (.plain (OpenSpec.ofChange otpTextsSpec)) otpTextsCard

/-- THE TIED CARD OF 'cashierlaw21.OtpTries'. -/
def otpTriesCard : Claim7 := { stood := { row := otpTriesRow, standIns := [], harness := (true, "1ee3ad5924de2ce1f74cf2d3bd55aab4cf4216bf7630c4da79725879fef83c2d"), looks := true }, kinds := [], alts := [], laidByText := true, laidKinds := [.data, .data, .data], laidTests := true, laidLooks := .later }
def OtpTriesCardSaid : Prop := Claim7.holds Tryd.pinned (.plain (OpenSpec.ofChange otpTriesSpec)) otpTriesCard

/-- THE SECOND FORM's CARD OF 'cashierlaw03.DigitsCards'. -/
def digitsCardsUptoCard : Claim7 := { stood := { row := digitsCardsUptoRow, standIns := [], harness := (true, "1ee3ad5924de2ce1f74cf2d3bd55aab4cf4216bf7630c4da79725879fef83c2d"), looks := true }, kinds := [], alts := [], laidByText := true, laidKinds := [.data, .data, .data], laidTests := true, laidLooks := .later }
def DigitsCardsUptoCardSaid : Prop := Claim7.holds Tryd.pinned (.plain (OpenSpec.upto digitsCardsSpec)) digitsCardsUptoCard

/-- THE SECOND FORM's CARD OF 'cashierlaw03.DigitsDates'. -/
def digitsDatesUptoCard : Claim7 := { stood := { row := digitsDatesUptoRow, standIns := [], harness := (true, "1ee3ad5924de2ce1f74cf2d3bd55aab4cf4216bf7630c4da79725879fef83c2d"), looks := true }, kinds := [], alts := [], laidByText := true, laidKinds := [.data, .data, .data, .sentinel, .sentinel], laidTests := true, laidLooks := .later }
def DigitsDatesUptoCardSaid : Prop := Claim7.holds Tryd.pinned (.plain (OpenSpec.upto digitsDatesSpec)) digitsDatesUptoCard

/-- THE SECOND FORM's CARD OF 'cashierlaw06.HmacKeys'. -/
def hmacKeysUptoCard : Claim7 := { stood := { row := hmacKeysUptoRow, standIns := [], harness := (true, "1ee3ad5924de2ce1f74cf2d3bd55aab4cf4216bf7630c4da79725879fef83c2d"), looks := true }, kinds := [], alts := [], laidByText := true, laidKinds := [.data, .data, .data], laidTests := true, laidLooks := .later }
def HmacKeysUptoCardSaid : Prop := Claim7.holds Tryd.pinned (.plain (OpenSpec.upto hmacKeysSpec)) hmacKeysUptoCard

/-- THE SECOND FORM's CARD OF 'cashierlaw06.HmacSums'. -/
def hmacSumsUptoCard : Claim7 := { stood := { row := hmacSumsUptoRow, standIns := [], harness := (true, "1ee3ad5924de2ce1f74cf2d3bd55aab4cf4216bf7630c4da79725879fef83c2d"), looks := true }, kinds := [], alts := [], laidByText := true, laidKinds := [.data, .data, .data], laidTests := true, laidLooks := .later }
def HmacSumsUptoCardSaid : Prop := Claim7.holds Tryd.pinned (.plain (OpenSpec.upto hmacSumsSpec)) hmacSumsUptoCard

/-- THE SECOND FORM's CARD OF 'cashierlaw06.HmacCodes'. -/
def hmacCodesUptoCard : Claim7 := { stood := { row := hmacCodesUptoRow, standIns := [], harness := (true, "1ee3ad5924de2ce1f74cf2d3bd55aab4cf4216bf7630c4da79725879fef83c2d"), looks := true }, kinds := [], alts := [], laidByText := true, laidKinds := [.data, .data, .data], laidTests := true, laidLooks := .later }
def HmacCodesUptoCardSaid : Prop := Claim7.holds Tryd.pinned (.plain (OpenSpec.upto hmacCodesSpec)) hmacCodesUptoCard

/-- THE SECOND FORM's CARD OF 'cashierlaw21.OtpLate'. -/
def otpLateUptoCard : Claim7 := { stood := { row := otpLateUptoRow, standIns := [], harness := (true, "1ee3ad5924de2ce1f74cf2d3bd55aab4cf4216bf7630c4da79725879fef83c2d"), looks := true }, kinds := [], alts := [], laidByText := true, laidKinds := [.data, .data, .data], laidTests := true, laidLooks := .later }
def OtpLateUptoCardSaid : Prop := Claim7.holds Tryd.pinned (.plain (OpenSpec.upto otpLateSpec)) otpLateUptoCard

/-- THE SECOND FORM's CARD OF 'cashierlaw21.OtpTexts'. -/
def otpTextsUptoCard : Claim7 := { stood := { row := otpTextsUptoRow, standIns := [], harness := (true, "1ee3ad5924de2ce1f74cf2d3bd55aab4cf4216bf7630c4da79725879fef83c2d"), looks := true }, kinds := [], alts := [], laidByText := true, laidKinds := [.data, .data, .data], laidTests := true, laidLooks := .later }
def OtpTextsUptoCardSaid : Prop := Claim7.holds Tryd.pinned (.plain (OpenSpec.upto otpTextsSpec)) otpTextsUptoCard

/-- THE SECOND FORM's CARD OF 'cashierlaw21.OtpTries'. -/
def otpTriesUptoCard : Claim7 := { stood := { row := otpTriesUptoRow, standIns := [], harness := (true, "1ee3ad5924de2ce1f74cf2d3bd55aab4cf4216bf7630c4da79725879fef83c2d"), looks := true }, kinds := [], alts := [], laidByText := true, laidKinds := [.data, .data, .data], laidTests := true, laidLooks := .later }
def OtpTriesUptoCardSaid : Prop := Claim7.holds Tryd.pinned (.plain (OpenSpec.upto otpTriesSpec)) otpTriesUptoCard
end Rows
end Go.Proofs.YtbbjoahloghpkaaDoor
