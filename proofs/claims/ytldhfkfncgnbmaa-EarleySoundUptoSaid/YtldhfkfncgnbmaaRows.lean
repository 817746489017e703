/-
  No cell of these rows narrows 'for every input' (looked for: loops, veiled, ifaces, maps, wideKeys, modest, calm, conditions, laid).
  DERIVED. THE GIVEN ROWS OF THIS SEAT. 4 by the template 'for every input the law returns true; each argument reads behind the call as it read before'; 0 by the template 'total and deterministic' (their statements: YtldhfkfncgnbmaaTotals.lean).
  GIVEN WITH THE SEED: the statements are not yours to turn. If you find one false, say at which input.
  Laid BY PROGRAM, IN A SANDBOX (cutbox-rows.mjs): the forced cells as the released guide's own fill.sh prints them over the translation 9dacf83d704a5d8b… (all of the seat's roots in one cut). By AI agents, Wed Nov 11 2026. No macro, syntax, notation, axiom, sorry.
-/
import Derived.Test.YtldhfkfncgnbmaaChecked
import GoSem.Claim
import GoSem.ClaimJoined
import GoSem.ClaimMapViews
import Derived.JoinedTies
import Derived.KernelRfl
namespace Go.Proofs.Ytldhfkfncgnbmaa
/- THE CELL 'sum', in the pinned program and in every row, IS THE sha256 OF THE DUMP (.gsa) THAT YtldhfkfncgnbmaaProg.lean LOADS. Nothing in Lean hashes anything: it is a label: what it is worth is what the hold of that sum in a sandbox is worth. -/
noncomputable def Try.pinned : Pinned := { name := "ytldhfkfncgnbmaa", sum := "9dacf83d704a5d8b760f056e1edc0fd319dd1b740c13745041412d98d6350382", checked := Try.checked }
namespace Rows
def none {H : Type} : Left H := { results := [], args := [] }

/-- 'apodixislaw14.EarleyParses': WHATEVER THE INPUT: true; the input reads as it did. -/
def earleyParsesSpec : ChangeSpec := { name := "earleyParses", fn := fun _ => fun
  | [d1, d2, d3] => { results := [.lit (.bool true)], args := [d1, d2, d3] }
  | _ => none }
def earleyParsesRow : OpenClaim := { program := "ytldhfkfncgnbmaa", sum := "9dacf83d704a5d8b760f056e1edc0fd319dd1b740c13745041412d98d6350382", func := "apodixis/apodixislaw14.EarleyParses", spec := "earleyParses", unfollowed := true, recurses := true, plainKeys := false, apart := false }
def EarleyParsesSaid : Prop := earleyParsesRow.holds Try.pinned (OpenSpec.ofChange earleyParsesSpec)

/-- ITS FALSE NEIGHBOUR: 'it returns false'. Refute it at one input. -/
def earleyParsesWrong : ChangeSpec := { name := "earleyParses", fn := fun _ => fun
  | [d1, d2, d3] => { results := [.lit (.bool false)], args := [d1, d2, d3] }
  | _ => none }
def EarleyParsesWrongFalsely : Prop := earleyParsesRow.holds Try.pinned (OpenSpec.ofChange earleyParsesWrong)

/-- 'apodixislaw14.EarleyBegins': WHATEVER THE INPUT: true; the input reads as it did. -/
def earleyBeginsSpec : ChangeSpec := { name := "earleyBegins", fn := fun _ => fun
  | [d1, d2, d3, d4] => { results := [.lit (.bool true)], args := [d1, d2, d3, d4] }
  | _ => none }
def earleyBeginsRow : OpenClaim := { program := "ytldhfkfncgnbmaa", sum := "9dacf83d704a5d8b760f056e1edc0fd319dd1b740c13745041412d98d6350382", func := "apodixis/apodixislaw14.EarleyBegins", spec := "earleyBegins", unfollowed := true, recurses := true, plainKeys := false, apart := false }
def EarleyBeginsSaid : Prop := earleyBeginsRow.holds Try.pinned (OpenSpec.ofChange earleyBeginsSpec)

/-- ITS FALSE NEIGHBOUR: 'it returns false'. Refute it at one input. -/
def earleyBeginsWrong : ChangeSpec := { name := "earleyBegins", fn := fun _ => fun
  | [d1, d2, d3, d4] => { results := [.lit (.bool false)], args := [d1, d2, d3, d4] }
  | _ => none }
def EarleyBeginsWrongFalsely : Prop := earleyBeginsRow.holds Try.pinned (OpenSpec.ofChange earleyBeginsWrong)

/-- 'apodixislaw14.EarleyTrees': WHATEVER THE INPUT: true; the input reads as it did. -/
def earleyTreesSpec : ChangeSpec := { name := "earleyTrees", fn := fun _ => fun
  | [d1, d2, d3, d4] => { results := [.lit (.bool true)], args := [d1, d2, d3, d4] }
  | _ => none }
def earleyTreesRow : OpenClaim := { program := "ytldhfkfncgnbmaa", sum := "9dacf83d704a5d8b760f056e1edc0fd319dd1b740c13745041412d98d6350382", func := "apodixis/apodixislaw14.EarleyTrees", spec := "earleyTrees", unfollowed := true, recurses := true, plainKeys := false, apart := false }
def EarleyTreesSaid : Prop := earleyTreesRow.holds Try.pinned (OpenSpec.ofChange earleyTreesSpec)

/-- ITS FALSE NEIGHBOUR: 'it returns false'. Refute it at one input. -/
def earleyTreesWrong : ChangeSpec := { name := "earleyTrees", fn := fun _ => fun
  | [d1, d2, d3, d4] => { results := [.lit (.bool false)], args := [d1, d2, d3, d4] }
  | _ => none }
def EarleyTreesWrongFalsely : Prop := earleyTreesRow.holds Try.pinned (OpenSpec.ofChange earleyTreesWrong)

/-- 'apodixislaw14.EarleySound': WHATEVER THE INPUT: true; the input reads as it did. -/
def earleySoundSpec : ChangeSpec := { name := "earleySound", fn := fun _ => fun
  | [d1, d2, d3] => { results := [.lit (.bool true)], args := [d1, d2, d3] }
  | _ => none }
def earleySoundRow : OpenClaim := { program := "ytldhfkfncgnbmaa", sum := "9dacf83d704a5d8b760f056e1edc0fd319dd1b740c13745041412d98d6350382", func := "apodixis/apodixislaw14.EarleySound", spec := "earleySound", unfollowed := true, recurses := true, plainKeys := false, apart := false }
def EarleySoundSaid : Prop := earleySoundRow.holds Try.pinned (OpenSpec.ofChange earleySoundSpec)

/-- ITS FALSE NEIGHBOUR: 'it returns false'. Refute it at one input. -/
def earleySoundWrong : ChangeSpec := { name := "earleySound", fn := fun _ => fun
  | [d1, d2, d3] => { results := [.lit (.bool false)], args := [d1, d2, d3] }
  | _ => none }
def EarleySoundWrongFalsely : Prop := earleySoundRow.holds Try.pinned (OpenSpec.ofChange earleySoundWrong)

/- THE SECOND FORM. 'bulk': how many values and letters a reading holds, each counted each time it is reached (what is shared counts as often as it is met; a slice's spare places count too). A statement '..UptoSaid' is the law's where the arguments, and the package variables that the reading takes, are together of bulk at most 1048576: NARROWER than '..Said'. Prove '..Said' where nothing that the law and all that it calls make is longer than what came in: it says more and counts as full. Else prove '..UptoSaid'. A law counts once. -/
mutual
def uptoBulk {H : Type} : DataW H → Nat
  | .lit (.string bytes) => bytes.length + 1
  | .lit _ => 1
  | .nil => 1
  | .ptr d => uptoBulk d + 1
  | .slice elems spare => uptoBulkAll elems + uptoBulkAll spare + 1
  | .agg parts => uptoBulkAll parts + 1
  | .iface _ d => uptoBulk d + 1
  | .map entries => uptoBulkEntries entries + 1
  | .held _ => 1
def uptoBulkAll {H : Type} : List (DataW H) → Nat
  | [] => 0
  | d :: r => uptoBulk d + uptoBulkAll r
def uptoBulkEntries {H : Type} : List (Lit × DataW H) → Nat
  | [] => 0
  | x :: r => uptoBulkEntry x + uptoBulkEntries r
def uptoBulkEntry {H : Type} : Lit × DataW H → Nat
  | (.string bytes, d) => bytes.length + uptoBulk d + 1
  | (_, d) => uptoBulk d + 1
 end
def uptoSmall : (H : Type) → List (DataW H) → Bool := fun _ ds => decide (uptoBulkAll ds ≤ 1048576)
def OpenSpec.upto (s : _root_.Go.ChangeSpec) : _root_.Go.OpenSpec := { _root_.Go.OpenSpec.ofChange s with cond := some uptoSmall }

/-- 'apodixislaw14.EarleyParses', WHERE WHAT IT READS IS OF BULK AT MOST 1048576: true; the input reads as it did. -/
def earleyParsesUptoRow : OpenClaim := { program := "ytldhfkfncgnbmaa", sum := "9dacf83d704a5d8b760f056e1edc0fd319dd1b740c13745041412d98d6350382", func := "apodixis/apodixislaw14.EarleyParses", spec := "earleyParses", unfollowed := true, recurses := true, plainKeys := false, apart := false, narrowed := true }
def EarleyParsesUptoSaid : Prop := earleyParsesUptoRow.holds Try.pinned (OpenSpec.upto earleyParsesSpec)

/-- 'apodixislaw14.EarleyBegins', WHERE WHAT IT READS IS OF BULK AT MOST 1048576: true; the input reads as it did. -/
def earleyBeginsUptoRow : OpenClaim := { program := "ytldhfkfncgnbmaa", sum := "9dacf83d704a5d8b760f056e1edc0fd319dd1b740c13745041412d98d6350382", func := "apodixis/apodixislaw14.EarleyBegins", spec := "earleyBegins", unfollowed := true, recurses := true, plainKeys := false, apart := false, narrowed := true }
def EarleyBeginsUptoSaid : Prop := earleyBeginsUptoRow.holds Try.pinned (OpenSpec.upto earleyBeginsSpec)

/-- 'apodixislaw14.EarleyTrees', WHERE WHAT IT READS IS OF BULK AT MOST 1048576: true; the input reads as it did. -/
def earleyTreesUptoRow : OpenClaim := { program := "ytldhfkfncgnbmaa", sum := "9dacf83d704a5d8b760f056e1edc0fd319dd1b740c13745041412d98d6350382", func := "apodixis/apodixislaw14.EarleyTrees", spec := "earleyTrees", unfollowed := true, recurses := true, plainKeys := false, apart := false, narrowed := true }
def EarleyTreesUptoSaid : Prop := earleyTreesUptoRow.holds Try.pinned (OpenSpec.upto earleyTreesSpec)

/-- 'apodixislaw14.EarleySound', WHERE WHAT IT READS IS OF BULK AT MOST 1048576: true; the input reads as it did. -/
def earleySoundUptoRow : OpenClaim := { program := "ytldhfkfncgnbmaa", sum := "9dacf83d704a5d8b760f056e1edc0fd319dd1b740c13745041412d98d6350382", func := "apodixis/apodixislaw14.EarleySound", spec := "earleySound", unfollowed := true, recurses := true, plainKeys := false, apart := false, narrowed := true }
def EarleySoundUptoSaid : Prop := earleySoundUptoRow.holds Try.pinned (OpenSpec.upto earleySoundSpec)

end Rows
end Go.Proofs.Ytldhfkfncgnbmaa
