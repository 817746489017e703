/-
  DERIVED. GIVEN WITH THE SEED: THE CARDS: each row of YtmgajcmigkcmdaaGreatDoorRows.lean that lists a variable, with what it lists TIED to the program's text (the seventh form; the later family's looks); each row that meets fmt, with fmt's text TOLD by the authors' own Lean function (tested against real Go, not proved from fmt's source: count such statements apart). THE CARD IS WHAT COUNTS. Prove the row's statement (the work); the ties are given (YtmgajcmigkcmdaaGreatDoorTie.lean); close each card by the builder's one call (the guide's Derived/Test/ToyasCard.lean, 'card_holds'). Laid BY PROGRAM, IN A SANDBOX (cutbox-door.mjs). By AI agents, Wed Nov 11 2026. No macro, syntax, notation, axiom, sorry.
-/
import Derived.Test.YtmgajcmigkcmdaaGreatDoorRows
import GoSem.ClaimSeven
namespace Go.Proofs.YtmgajcmigkcmdaaGreatDoor
namespace Rows

/-- THE TIED CARD OF 'apodixislaw04.ScopeEnds'. -/
def scopeEndsCard : Claim7 := { stood := { row := scopeEndsRow, standIns := [], harness := (true, "7377d5390203dbaf575906b6a33a93d220e5c2aed3e9ff8fefb58c97fc39c972"), looks := true }, kinds := [], alts := [], laidByText := true, laidKinds := [.handle, .widerDeep], laidTests := true, laidLooks := .later }
def ScopeEndsCardSaid : Prop := Claim7.holds Tryz.pinned (.plain (OpenSpec.ofChange scopeEndsSpec)) scopeEndsCard

/-- THE TIED CARD OF 'apodixislaw04.ScopeWraps'. -/
def scopeWrapsCard : Claim7 := { stood := { row := scopeWrapsRow, standIns := [], harness := (true, "7377d5390203dbaf575906b6a33a93d220e5c2aed3e9ff8fefb58c97fc39c972"), looks := true }, kinds := [], alts := [], laidByText := true, laidKinds := [.handle, .widerDeep], laidTests := true, laidLooks := .later }
def ScopeWrapsCardSaid : Prop := Claim7.holds Tryz.pinned (.plain (OpenSpec.ofChange scopeWrapsSpec)) scopeWrapsCard

/-- THE TIED CARD OF 'apodixislaw04.ScopeActive'. -/
def scopeActiveCard : Claim7 := { stood := { row := scopeActiveRow, standIns := [], harness := (true, "7377d5390203dbaf575906b6a33a93d220e5c2aed3e9ff8fefb58c97fc39c972"), looks := true }, kinds := [], alts := [], laidByText := true, laidKinds := [.handle, .widerDeep], laidTests := true, laidLooks := .later }
def ScopeActiveCardSaid : Prop := Claim7.holds Tryz.pinned (.plain (OpenSpec.ofChange scopeActiveSpec)) scopeActiveCard

/-- THE TIED CARD OF 'apodixislaw04.ScopeChecks'. -/
def scopeChecksCard : Claim7 := { stood := { row := scopeChecksRow, standIns := [], harness := (true, "7377d5390203dbaf575906b6a33a93d220e5c2aed3e9ff8fefb58c97fc39c972"), looks := true }, kinds := [], alts := [], laidByText := true, laidKinds := [.handle, .widerDeep], laidTests := true, laidLooks := .later }
def ScopeChecksCardSaid : Prop := Claim7.holds Tryz.pinned (.plain (OpenSpec.ofChange scopeChecksSpec)) scopeChecksCard

/-- THE TIED CARD OF 'apodixislaw04.ScopePairs'. -/
def scopePairsCard : Claim7 := { stood := { row := scopePairsRow, standIns := [], harness := (true, "7377d5390203dbaf575906b6a33a93d220e5c2aed3e9ff8fefb58c97fc39c972"), looks := true }, kinds := [], alts := [], laidByText := true, laidKinds := [.handle, .widerDeep], laidTests := true, laidLooks := .later }
def ScopePairsCardSaid : Prop := Claim7.holds Tryz.pinned (.plain (OpenSpec.ofChange scopePairsSpec)) scopePairsCard

/-- THE TIED CARD OF 'apodixislaw04.ScopeRestores'. -/
def scopeRestoresCard : Claim7 := { stood := { row := scopeRestoresRow, standIns := [], harness := (true, "7377d5390203dbaf575906b6a33a93d220e5c2aed3e9ff8fefb58c97fc39c972"), looks := true }, kinds := [], alts := [], laidByText := true, laidKinds := [.handle, .widerDeep], laidTests := true, laidLooks := .later }
def ScopeRestoresCardSaid : Prop := Claim7.holds Tryz.pinned (.plain (OpenSpec.ofChange scopeRestoresSpec)) scopeRestoresCard

/-- THE SECOND FORM's CARD OF 'apodixislaw04.ScopeEnds'. -/
def scopeEndsUptoCard : Claim7 := { stood := { row := scopeEndsUptoRow, standIns := [], harness := (true, "7377d5390203dbaf575906b6a33a93d220e5c2aed3e9ff8fefb58c97fc39c972"), looks := true }, kinds := [], alts := [], laidByText := true, laidKinds := [.handle, .widerDeep], laidTests := true, laidLooks := .later }
def ScopeEndsUptoCardSaid : Prop := Claim7.holds Tryz.pinned (.plain (OpenSpec.upto scopeEndsSpec)) scopeEndsUptoCard

/-- THE SECOND FORM's CARD OF 'apodixislaw04.ScopeWraps'. -/
def scopeWrapsUptoCard : Claim7 := { stood := { row := scopeWrapsUptoRow, standIns := [], harness := (true, "7377d5390203dbaf575906b6a33a93d220e5c2aed3e9ff8fefb58c97fc39c972"), looks := true }, kinds := [], alts := [], laidByText := true, laidKinds := [.handle, .widerDeep], laidTests := true, laidLooks := .later }
def ScopeWrapsUptoCardSaid : Prop := Claim7.holds Tryz.pinned (.plain (OpenSpec.upto scopeWrapsSpec)) scopeWrapsUptoCard

/-- THE SECOND FORM's CARD OF 'apodixislaw04.ScopeActive'. -/
def scopeActiveUptoCard : Claim7 := { stood := { row := scopeActiveUptoRow, standIns := [], harness := (true, "7377d5390203dbaf575906b6a33a93d220e5c2aed3e9ff8fefb58c97fc39c972"), looks := true }, kinds := [], alts := [], laidByText := true, laidKinds := [.handle, .widerDeep], laidTests := true, laidLooks := .later }
def ScopeActiveUptoCardSaid : Prop := Claim7.holds Tryz.pinned (.plain (OpenSpec.upto scopeActiveSpec)) scopeActiveUptoCard

/-- THE SECOND FORM's CARD OF 'apodixislaw04.ScopeChecks'. -/
def scopeChecksUptoCard : Claim7 := { stood := { row := scopeChecksUptoRow, standIns := [], harness := (true, "7377d5390203dbaf575906b6a33a93d220e5c2aed3e9ff8fefb58c97fc39c972"), looks := true }, kinds := [], alts := [], laidByText := true, laidKinds := [.handle, .widerDeep], laidTests := true, laidLooks := .later }
def ScopeChecksUptoCardSaid : Prop := Claim7.holds Tryz.pinned (.plain (OpenSpec.upto scopeChecksSpec)) scopeChecksUptoCard

/-- THE SECOND FORM's CARD OF 'apodixislaw04.ScopePairs'. -/
def scopePairsUptoCard : Claim7 := { stood := { row := scopePairsUptoRow, standIns := [], harness := (true, "7377d5390203dbaf575906b6a33a93d220e5c2aed3e9ff8fefb58c97fc39c972"), looks := true }, kinds := [], alts := [], laidByText := true, laidKinds := [.handle, .widerDeep], laidTests := true, laidLooks := .later }
def ScopePairsUptoCardSaid : Prop := Claim7.holds Tryz.pinned (.plain (OpenSpec.upto scopePairsSpec)) scopePairsUptoCard

/-- THE SECOND FORM's CARD OF 'apodixislaw04.ScopeRestores'. -/
def scopeRestoresUptoCard : Claim7 := { stood := { row := scopeRestoresUptoRow, standIns := [], harness := (true, "7377d5390203dbaf575906b6a33a93d220e5c2aed3e9ff8fefb58c97fc39c972"), looks := true }, kinds := [], alts := [], laidByText := true, laidKinds := [.handle, .widerDeep], laidTests := true, laidLooks := .later }
def ScopeRestoresUptoCardSaid : Prop := Claim7.holds Tryz.pinned (.plain (OpenSpec.upto scopeRestoresSpec)) scopeRestoresUptoCard
end Rows
end Go.Proofs.YtmgajcmigkcmdaaGreatDoor
