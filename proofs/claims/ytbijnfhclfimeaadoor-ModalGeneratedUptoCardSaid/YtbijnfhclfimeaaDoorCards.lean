/-
  DERIVED. GIVEN WITH THE SEED: THE CARDS: each row of YtbijnfhclfimeaaDoorRows.lean that lists a variable, with what it lists TIED to the program's text (the seventh form; the later family's looks); each row that meets fmt, with fmt's text TOLD by the authors' own Lean function (tested against real Go, not proved from fmt's source: count such statements apart). THE CARD IS WHAT COUNTS. Prove the row's statement (the work); the ties are given (YtbijnfhclfimeaaDoorTie.lean); close each card by the builder's one call (the guide's Derived/Test/ToyasCard.lean, 'card_holds'). Laid BY PROGRAM, IN A SANDBOX (cutbox-door.mjs). By AI agents, Wed Nov 11 2026. No macro, syntax, notation, axiom, sorry.
-/
import Derived.Test.YtbijnfhclfimeaaDoorRows
import GoSem.ClaimSeven
namespace Go.Proofs.YtbijnfhclfimeaaDoor
namespace Rows

/-- THE TIED CARD OF 'apodixislaw35.ModalFollows'. -/
def modalFollowsCard : Claim7 := { stood := { row := modalFollowsRow, standIns := [], harness := (true, "c42a3159518de065a4f8f2c6d87136f7a0cf3fc6029932326eec623d843dc1ca"), looks := true }, kinds := [], alts := [], laidByText := true, laidKinds := [.data, .data], laidTests := true, laidLooks := .later }
def ModalFollowsCardSaid : Prop := Claim7.holds Tryd.pinned (.plain (OpenSpec.ofChange modalFollowsSpec)) modalFollowsCard

/-- THE TIED CARD OF 'apodixislaw35.ModalRules'. -/
def modalRulesCard : Claim7 := { stood := { row := modalRulesRow, standIns := [], harness := (true, "c42a3159518de065a4f8f2c6d87136f7a0cf3fc6029932326eec623d843dc1ca"), looks := true }, kinds := [], alts := [], laidByText := true, laidKinds := [.data, .data], laidTests := true, laidLooks := .later }
def ModalRulesCardSaid : Prop := Claim7.holds Tryd.pinned (.plain (OpenSpec.ofChange modalRulesSpec)) modalRulesCard

/-- THE TIED CARD OF 'apodixislaw35.ModalHolds'. -/
def modalHoldsCard : Claim7 := { stood := { row := modalHoldsRow, standIns := [], harness := (true, "c42a3159518de065a4f8f2c6d87136f7a0cf3fc6029932326eec623d843dc1ca"), looks := true }, kinds := [], alts := [], laidByText := true, laidKinds := [.data, .data], laidTests := true, laidLooks := .later }
def ModalHoldsCardSaid : Prop := Claim7.holds Tryd.pinned (.plain (OpenSpec.ofChange modalHoldsSpec)) modalHoldsCard

/-- THE TIED CARD OF 'apodixislaw35.ModalCorresponds'. -/
def modalCorrespondsCard : Claim7 := { stood := { row := modalCorrespondsRow, standIns := [], harness := (true, "c42a3159518de065a4f8f2c6d87136f7a0cf3fc6029932326eec623d843dc1ca"), looks := true }, kinds := [], alts := [], laidByText := true, laidKinds := [.data, .data], laidTests := true, laidLooks := .later }
def ModalCorrespondsCardSaid : Prop := Claim7.holds Tryd.pinned (.plain (OpenSpec.ofChange modalCorrespondsSpec)) modalCorrespondsCard

/-- THE TIED CARD OF 'apodixislaw35.ModalGenerated'. -/
def modalGeneratedCard : Claim7 := { stood := { row := modalGeneratedRow, standIns := [], harness := (true, "c42a3159518de065a4f8f2c6d87136f7a0cf3fc6029932326eec623d843dc1ca"), looks := true }, kinds := [], alts := [], laidByText := true, laidKinds := [.data, .data], laidTests := true, laidLooks := .later }
def ModalGeneratedCardSaid : Prop := Claim7.holds Tryd.pinned (.plain (OpenSpec.ofChange modalGeneratedSpec)) modalGeneratedCard

/-- THE TIED CARD OF 'apodixislaw35.ModalFrames'. -/
def modalFramesCard : Claim7 := { stood := { row := modalFramesRow, standIns := [], harness := (true, "c42a3159518de065a4f8f2c6d87136f7a0cf3fc6029932326eec623d843dc1ca"), looks := true }, kinds := [], alts := [], laidByText := true, laidKinds := [.data, .data], laidTests := true, laidLooks := .later }
def ModalFramesCardSaid : Prop := Claim7.holds Tryd.pinned (.plain (OpenSpec.ofChange modalFramesSpec)) modalFramesCard

/-- THE SECOND FORM's CARD OF 'apodixislaw35.ModalFollows'. -/
def modalFollowsUptoCard : Claim7 := { stood := { row := modalFollowsUptoRow, standIns := [], harness := (true, "c42a3159518de065a4f8f2c6d87136f7a0cf3fc6029932326eec623d843dc1ca"), looks := true }, kinds := [], alts := [], laidByText := true, laidKinds := [.data, .data], laidTests := true, laidLooks := .later }
def ModalFollowsUptoCardSaid : Prop := Claim7.holds Tryd.pinned (.plain (OpenSpec.upto modalFollowsSpec)) modalFollowsUptoCard

/-- THE SECOND FORM's CARD OF 'apodixislaw35.ModalRules'. -/
def modalRulesUptoCard : Claim7 := { stood := { row := modalRulesUptoRow, standIns := [], harness := (true, "c42a3159518de065a4f8f2c6d87136f7a0cf3fc6029932326eec623d843dc1ca"), looks := true }, kinds := [], alts := [], laidByText := true, laidKinds := [.data, .data], laidTests := true, laidLooks := .later }
def ModalRulesUptoCardSaid : Prop := Claim7.holds Tryd.pinned (.plain (OpenSpec.upto modalRulesSpec)) modalRulesUptoCard

/-- THE SECOND FORM's CARD OF 'apodixislaw35.ModalHolds'. -/
def modalHoldsUptoCard : Claim7 := { stood := { row := modalHoldsUptoRow, standIns := [], harness := (true, "c42a3159518de065a4f8f2c6d87136f7a0cf3fc6029932326eec623d843dc1ca"), looks := true }, kinds := [], alts := [], laidByText := true, laidKinds := [.data, .data], laidTests := true, laidLooks := .later }
def ModalHoldsUptoCardSaid : Prop := Claim7.holds Tryd.pinned (.plain (OpenSpec.upto modalHoldsSpec)) modalHoldsUptoCard

/-- THE SECOND FORM's CARD OF 'apodixislaw35.ModalCorresponds'. -/
def modalCorrespondsUptoCard : Claim7 := { stood := { row := modalCorrespondsUptoRow, standIns := [], harness := (true, "c42a3159518de065a4f8f2c6d87136f7a0cf3fc6029932326eec623d843dc1ca"), looks := true }, kinds := [], alts := [], laidByText := true, laidKinds := [.data, .data], laidTests := true, laidLooks := .later }
def ModalCorrespondsUptoCardSaid : Prop := Claim7.holds Tryd.pinned (.plain (OpenSpec.upto modalCorrespondsSpec)) modalCorrespondsUptoCard

/-- THE SECOND FORM's CARD OF 'apodixislaw35.ModalGenerated'. -/
def modalGeneratedUptoCard : Claim7 := { stood := { row := modalGeneratedUptoRow, standIns := [], harness := (true, "c42a3159518de065a4f8f2c6d87136f7a0cf3fc6029932326eec623d843dc1ca"), looks := true }, kinds := [], alts := [], laidByText := true, laidKinds := [.data, .data], laidTests := true, laidLooks := .later }
def ModalGeneratedUptoCardSaid : Prop := Claim7.holds Tryd.pinned (.plain (OpenSpec.upto modalGeneratedSpec)) modalGeneratedUptoCard

/-- THE SECOND FORM's CARD OF 'apodixislaw35.ModalFrames'. -/
def modalFramesUptoCard : Claim7 := { stood := { row := modalFramesUptoRow, standIns := [], harness := (true, "c42a3159518de065a4f8f2c6d87136f7a0cf3fc6029932326eec623d843dc1ca"), looks := true }, kinds := [], alts := [], laidByText := true, laidKinds := [.data, .data], laidTests := true, laidLooks := .later }
def ModalFramesUptoCardSaid : Prop := Claim7.holds Tryd.pinned (.plain (OpenSpec.upto modalFramesSpec)) modalFramesUptoCard
end Rows
end Go.Proofs.YtbijnfhclfimeaaDoor
