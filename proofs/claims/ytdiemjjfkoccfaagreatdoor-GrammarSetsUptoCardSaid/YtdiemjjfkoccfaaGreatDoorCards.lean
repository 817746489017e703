/-
  DERIVED. GIVEN WITH THE SEED: THE CARDS: each row of YtdiemjjfkoccfaaGreatDoorRows.lean that lists a variable, with what it lists TIED to the program's text (the seventh form; the later family's looks); each row that meets fmt, with fmt's text TOLD by the authors' own Lean function (tested against real Go, not proved from fmt's source: count such statements apart). THE CARD IS WHAT COUNTS. Prove the row's statement (the work); the ties are given (YtdiemjjfkoccfaaGreatDoorTie.lean); close each card by the builder's one call (the guide's Derived/Test/ToyasCard.lean, 'card_holds'). Laid BY PROGRAM, IN A SANDBOX (cutbox-door.mjs). By AI agents, Wed Nov 11 2026. No macro, syntax, notation, axiom, sorry.
-/
import Derived.Test.YtdiemjjfkoccfaaGreatDoorRows
import GoSem.ClaimSeven
namespace Go.Proofs.YtdiemjjfkoccfaaGreatDoor
namespace Rows

/-- THE TIED CARD OF 'apodixislaw13.GrammarLengths'. -/
def grammarLengthsCard : Claim7 := { stood := { row := grammarLengthsRow, standIns := [], harness := (true, "117da988e98725a16c0cf4f3698793e16b159f4ff62312cc487fa09b4d86cc8d"), looks := false }, kinds := [], alts := [], laidByText := true, laidKinds := [.data, .data, .data], laidTests := true, laidLooks := .later }
def GrammarLengthsCardSaid : Prop := Claim7.holds Tryz.pinned (.plain (OpenSpec.ofChange grammarLengthsSpec)) grammarLengthsCard

/-- THE TIED CARD OF 'apodixislaw13.GrammarSentences'. -/
def grammarSentencesCard : Claim7 := { stood := { row := grammarSentencesRow, standIns := [], harness := (true, "117da988e98725a16c0cf4f3698793e16b159f4ff62312cc487fa09b4d86cc8d"), looks := false }, kinds := [], alts := [], laidByText := true, laidKinds := [.data, .data, .data], laidTests := true, laidLooks := .later }
def GrammarSentencesCardSaid : Prop := Claim7.holds Tryz.pinned (.plain (OpenSpec.ofChange grammarSentencesSpec)) grammarSentencesCard

/-- THE TIED CARD OF 'apodixislaw13.GrammarAgrees'. -/
def grammarAgreesCard : Claim7 := { stood := { row := grammarAgreesRow, standIns := [], harness := (true, "117da988e98725a16c0cf4f3698793e16b159f4ff62312cc487fa09b4d86cc8d"), looks := false }, kinds := [], alts := [], laidByText := true, laidKinds := [.data, .data, .data], laidTests := true, laidLooks := .later }
def GrammarAgreesCardSaid : Prop := Claim7.holds Tryz.pinned (.plain (OpenSpec.ofChange grammarAgreesSpec)) grammarAgreesCard

/-- THE TIED CARD OF 'apodixislaw13.GrammarGrows'. -/
def grammarGrowsCard : Claim7 := { stood := { row := grammarGrowsRow, standIns := [], harness := (true, "117da988e98725a16c0cf4f3698793e16b159f4ff62312cc487fa09b4d86cc8d"), looks := false }, kinds := [], alts := [], laidByText := true, laidKinds := [.data, .data, .data], laidTests := true, laidLooks := .later }
def GrammarGrowsCardSaid : Prop := Claim7.holds Tryz.pinned (.plain (OpenSpec.ofChange grammarGrowsSpec)) grammarGrowsCard

/-- THE TIED CARD OF 'apodixislaw13.GrammarSets'. -/
def grammarSetsCard : Claim7 := { stood := { row := grammarSetsRow, standIns := [], harness := (true, "117da988e98725a16c0cf4f3698793e16b159f4ff62312cc487fa09b4d86cc8d"), looks := false }, kinds := [], alts := [], laidByText := true, laidKinds := [.data, .data, .data], laidTests := true, laidLooks := .later }
def GrammarSetsCardSaid : Prop := Claim7.holds Tryz.pinned (.plain (OpenSpec.ofChange grammarSetsSpec)) grammarSetsCard

/-- THE SECOND FORM's CARD OF 'apodixislaw13.GrammarLengths'. -/
def grammarLengthsUptoCard : Claim7 := { stood := { row := grammarLengthsUptoRow, standIns := [], harness := (true, "117da988e98725a16c0cf4f3698793e16b159f4ff62312cc487fa09b4d86cc8d"), looks := false }, kinds := [], alts := [], laidByText := true, laidKinds := [.data, .data, .data], laidTests := true, laidLooks := .later }
def GrammarLengthsUptoCardSaid : Prop := Claim7.holds Tryz.pinned (.plain (OpenSpec.upto grammarLengthsSpec)) grammarLengthsUptoCard

/-- THE SECOND FORM's CARD OF 'apodixislaw13.GrammarSentences'. -/
def grammarSentencesUptoCard : Claim7 := { stood := { row := grammarSentencesUptoRow, standIns := [], harness := (true, "117da988e98725a16c0cf4f3698793e16b159f4ff62312cc487fa09b4d86cc8d"), looks := false }, kinds := [], alts := [], laidByText := true, laidKinds := [.data, .data, .data], laidTests := true, laidLooks := .later }
def GrammarSentencesUptoCardSaid : Prop := Claim7.holds Tryz.pinned (.plain (OpenSpec.upto grammarSentencesSpec)) grammarSentencesUptoCard

/-- THE SECOND FORM's CARD OF 'apodixislaw13.GrammarAgrees'. -/
def grammarAgreesUptoCard : Claim7 := { stood := { row := grammarAgreesUptoRow, standIns := [], harness := (true, "117da988e98725a16c0cf4f3698793e16b159f4ff62312cc487fa09b4d86cc8d"), looks := false }, kinds := [], alts := [], laidByText := true, laidKinds := [.data, .data, .data], laidTests := true, laidLooks := .later }
def GrammarAgreesUptoCardSaid : Prop := Claim7.holds Tryz.pinned (.plain (OpenSpec.upto grammarAgreesSpec)) grammarAgreesUptoCard

/-- THE SECOND FORM's CARD OF 'apodixislaw13.GrammarGrows'. -/
def grammarGrowsUptoCard : Claim7 := { stood := { row := grammarGrowsUptoRow, standIns := [], harness := (true, "117da988e98725a16c0cf4f3698793e16b159f4ff62312cc487fa09b4d86cc8d"), looks := false }, kinds := [], alts := [], laidByText := true, laidKinds := [.data, .data, .data], laidTests := true, laidLooks := .later }
def GrammarGrowsUptoCardSaid : Prop := Claim7.holds Tryz.pinned (.plain (OpenSpec.upto grammarGrowsSpec)) grammarGrowsUptoCard

/-- THE SECOND FORM's CARD OF 'apodixislaw13.GrammarSets'. -/
def grammarSetsUptoCard : Claim7 := { stood := { row := grammarSetsUptoRow, standIns := [], harness := (true, "117da988e98725a16c0cf4f3698793e16b159f4ff62312cc487fa09b4d86cc8d"), looks := false }, kinds := [], alts := [], laidByText := true, laidKinds := [.data, .data, .data], laidTests := true, laidLooks := .later }
def GrammarSetsUptoCardSaid : Prop := Claim7.holds Tryz.pinned (.plain (OpenSpec.upto grammarSetsSpec)) grammarSetsUptoCard
end Rows
end Go.Proofs.YtdiemjjfkoccfaaGreatDoor
