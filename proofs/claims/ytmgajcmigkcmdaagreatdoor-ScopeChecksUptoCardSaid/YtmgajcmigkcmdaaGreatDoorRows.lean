/-
  NARROWER THAN 'FOR EVERY INPUT', by the rows' own cells (each row's printed sentence says how): ScopeEnds: laid · ScopeWraps: laid · ScopeActive: laid · ScopeChecks: laid · ScopePairs: laid · ScopeRestores: laid.
  DERIVED. THE GIVEN ROWS OF THIS SEAT. 6 by the template 'for every input the law returns true; each argument reads behind the call as it read before'; 0 by the template 'total and deterministic' (their statements: YtmgajcmigkcmdaaGreatDoorTotals.lean).
  GIVEN WITH THE SEED: the statements are not yours to turn. If you find one false, say at which input.
  Laid BY PROGRAM, IN A SANDBOX (cutbox-rows.mjs): the forced cells as the released guide's own fill.sh prints them over the translation dbc077d831c38b65… (all of the seat's roots in one cut). By AI agents, Wed Nov 11 2026. No macro, syntax, notation, axiom, sorry.
-/
import Derived.Test.YtmgajcmigkcmdaaGreatDoorChecked
import GoSem.Claim
import GoSem.ClaimJoined
import GoSem.ClaimMapViews
import Derived.JoinedTies
import Derived.KernelRfl
namespace Go.Proofs.YtmgajcmigkcmdaaGreatDoor
/- THE CELL 'sum', in the pinned program and in every row, IS THE sha256 OF THE DUMP (.gsa) THAT YtmgajcmigkcmdaaGreatDoorProg.lean LOADS. Nothing in Lean hashes anything: it is a label: what it is worth is what the hold of that sum in a sandbox is worth. -/
noncomputable def Tryz.pinned : Pinned := { name := "ytmgajcmigkcmdaagreatdoor", sum := "dbc077d831c38b658535c24724ecdb6790bbf45982f6b8f5a53ada7337983dab", checked := Tryz.checked }
namespace Rows
def none {H : Type} : Left H := { results := [], args := [] }

/- WHAT THE LISTED PACKAGE-LEVEL VARIABLES READ AS WHEN THE CALL BEGINS. Each datum BY PROGRAM (the guide's laid-datum.mjs) off the statement by which the dump's own 'gosem.cut.vars' lays the variable. In a bare row this is a premise. The card (YtmgajcmigkcmdaaGreatDoorCards.lean) ties it to the program's text. -/
def laid_errors_errorType {H : Type} : DataW H := .iface "internal/reflectlite.rtype" (.agg [.ptr (.lit (.string [101, 114, 114, 111, 114]))])
def laid_apodixis_layout_forms {H : Type} : DataW H := .agg [.agg [.lit (.string []), .lit (.bool false), .lit (.int .i64 0), .lit (.int .i64 0)], .agg [.lit (.string [36, 99]), .lit (.bool false), .lit (.int .i64 1), .lit (.int .i64 200)], .agg [.lit (.string [36, 118]), .lit (.bool false), .lit (.int .i64 1), .lit (.int .i64 200)], .agg [.lit (.string [36, 102]), .lit (.bool true), .lit (.int .i64 2), .lit (.int .i64 2)], .agg [.lit (.string [36, 101]), .lit (.bool true), .lit (.int .i64 1), .lit (.int .i64 200)], .agg [.lit (.string [36, 100]), .lit (.bool false), .lit (.int .i64 1), .lit (.int .i64 200)], .agg [.lit (.string [36, 97]), .lit (.bool true), .lit (.int .i64 1), .lit (.int .i64 200)], .agg [.lit (.string [36, 112]), .lit (.bool true), .lit (.int .i64 1), .lit (.int .i64 200)], .agg [.lit (.string [36, 123]), .lit (.bool false), .lit (.int .i64 0), .lit (.int .i64 0)], .agg [.lit (.string [36, 125]), .lit (.bool false), .lit (.int .i64 0), .lit (.int .i64 0)]]

/-- 'apodixislaw04.ScopeEnds': WHATEVER THE INPUT: true; the input reads as it did. -/
def scopeEndsSpec : ChangeSpec := { name := "scopeEnds", fn := fun _ => fun
  | [d1, d2] => { results := [.lit (.bool true)], args := [d1, d2] }
  | _ => none }
def scopeEndsRow : OpenClaim := { program := "ytmgajcmigkcmdaagreatdoor", sum := "dbc077d831c38b658535c24724ecdb6790bbf45982f6b8f5a53ada7337983dab", func := "apodixis/apodixislaw04.ScopeEnds", spec := "scopeEnds", inPlace := ["internal/bytealg.IndexByteString", "internal/bytealg.IndexString", "internal/reflectlite.ValueOf", "(internal/reflectlite.Value).Type", "(internal/reflectlite.Value).IsNil", "internal/reflectlite.TypeOf", "(internal/reflectlite.Value).Elem", "(internal/reflectlite.Value).Set"], unfollowed := true, recurses := true, named := ["apodixis/layout.forms", "errors.errorType", "internal/bytealg.MaxLen"], apart := false, laid := [("errors.errorType", laid_errors_errorType), ("apodixis/layout.forms", laid_apodixis_layout_forms)] }
def ScopeEndsSaid : Prop := scopeEndsRow.holds Tryz.pinned (OpenSpec.ofChange scopeEndsSpec)

/-- ITS FALSE NEIGHBOUR: 'it returns false'. Refute it at one input. -/
def scopeEndsWrong : ChangeSpec := { name := "scopeEnds", fn := fun _ => fun
  | [d1, d2] => { results := [.lit (.bool false)], args := [d1, d2] }
  | _ => none }
def ScopeEndsWrongFalsely : Prop := scopeEndsRow.holds Tryz.pinned (OpenSpec.ofChange scopeEndsWrong)

/-- 'apodixislaw04.ScopeWraps': WHATEVER THE INPUT: true; the input reads as it did. -/
def scopeWrapsSpec : ChangeSpec := { name := "scopeWraps", fn := fun _ => fun
  | [d1, d2] => { results := [.lit (.bool true)], args := [d1, d2] }
  | _ => none }
def scopeWrapsRow : OpenClaim := { program := "ytmgajcmigkcmdaagreatdoor", sum := "dbc077d831c38b658535c24724ecdb6790bbf45982f6b8f5a53ada7337983dab", func := "apodixis/apodixislaw04.ScopeWraps", spec := "scopeWraps", inPlace := ["internal/bytealg.IndexByteString", "internal/bytealg.IndexString", "internal/reflectlite.ValueOf", "(internal/reflectlite.Value).Type", "(internal/reflectlite.Value).IsNil", "internal/reflectlite.TypeOf", "(internal/reflectlite.Value).Elem", "(internal/reflectlite.Value).Set"], unfollowed := true, recurses := true, named := ["apodixis/layout.forms", "errors.errorType", "internal/bytealg.MaxLen"], apart := false, laid := [("errors.errorType", laid_errors_errorType), ("apodixis/layout.forms", laid_apodixis_layout_forms)] }
def ScopeWrapsSaid : Prop := scopeWrapsRow.holds Tryz.pinned (OpenSpec.ofChange scopeWrapsSpec)

/-- ITS FALSE NEIGHBOUR: 'it returns false'. Refute it at one input. -/
def scopeWrapsWrong : ChangeSpec := { name := "scopeWraps", fn := fun _ => fun
  | [d1, d2] => { results := [.lit (.bool false)], args := [d1, d2] }
  | _ => none }
def ScopeWrapsWrongFalsely : Prop := scopeWrapsRow.holds Tryz.pinned (OpenSpec.ofChange scopeWrapsWrong)

/-- 'apodixislaw04.ScopeActive': WHATEVER THE INPUT: true; the input reads as it did. -/
def scopeActiveSpec : ChangeSpec := { name := "scopeActive", fn := fun _ => fun
  | [d] => { results := [.lit (.bool true)], args := [d] }
  | _ => none }
def scopeActiveRow : OpenClaim := { program := "ytmgajcmigkcmdaagreatdoor", sum := "dbc077d831c38b658535c24724ecdb6790bbf45982f6b8f5a53ada7337983dab", func := "apodixis/apodixislaw04.ScopeActive", spec := "scopeActive", inPlace := ["internal/bytealg.IndexByteString", "internal/bytealg.IndexString", "internal/reflectlite.ValueOf", "(internal/reflectlite.Value).Type", "(internal/reflectlite.Value).IsNil", "internal/reflectlite.TypeOf", "(internal/reflectlite.Value).Elem", "(internal/reflectlite.Value).Set"], unfollowed := true, recurses := true, named := ["apodixis/layout.forms", "errors.errorType", "internal/bytealg.MaxLen"], apart := false, laid := [("errors.errorType", laid_errors_errorType), ("apodixis/layout.forms", laid_apodixis_layout_forms)] }
def ScopeActiveSaid : Prop := scopeActiveRow.holds Tryz.pinned (OpenSpec.ofChange scopeActiveSpec)

/-- ITS FALSE NEIGHBOUR: 'it returns false'. Refute it at one input. -/
def scopeActiveWrong : ChangeSpec := { name := "scopeActive", fn := fun _ => fun
  | [d] => { results := [.lit (.bool false)], args := [d] }
  | _ => none }
def ScopeActiveWrongFalsely : Prop := scopeActiveRow.holds Tryz.pinned (OpenSpec.ofChange scopeActiveWrong)

/-- 'apodixislaw04.ScopeChecks': WHATEVER THE INPUT: true; the input reads as it did. -/
def scopeChecksSpec : ChangeSpec := { name := "scopeChecks", fn := fun _ => fun
  | [d1, d2] => { results := [.lit (.bool true)], args := [d1, d2] }
  | _ => none }
def scopeChecksRow : OpenClaim := { program := "ytmgajcmigkcmdaagreatdoor", sum := "dbc077d831c38b658535c24724ecdb6790bbf45982f6b8f5a53ada7337983dab", func := "apodixis/apodixislaw04.ScopeChecks", spec := "scopeChecks", inPlace := ["internal/bytealg.IndexByteString", "internal/bytealg.IndexString", "internal/reflectlite.ValueOf", "(internal/reflectlite.Value).Type", "(internal/reflectlite.Value).IsNil", "internal/reflectlite.TypeOf", "(internal/reflectlite.Value).Elem", "(internal/reflectlite.Value).Set"], unfollowed := true, recurses := true, named := ["apodixis/layout.forms", "errors.errorType", "internal/bytealg.MaxLen"], apart := false, laid := [("errors.errorType", laid_errors_errorType), ("apodixis/layout.forms", laid_apodixis_layout_forms)] }
def ScopeChecksSaid : Prop := scopeChecksRow.holds Tryz.pinned (OpenSpec.ofChange scopeChecksSpec)

/-- ITS FALSE NEIGHBOUR: 'it returns false'. Refute it at one input. -/
def scopeChecksWrong : ChangeSpec := { name := "scopeChecks", fn := fun _ => fun
  | [d1, d2] => { results := [.lit (.bool false)], args := [d1, d2] }
  | _ => none }
def ScopeChecksWrongFalsely : Prop := scopeChecksRow.holds Tryz.pinned (OpenSpec.ofChange scopeChecksWrong)

/-- 'apodixislaw04.ScopePairs': WHATEVER THE INPUT: true; the input reads as it did. -/
def scopePairsSpec : ChangeSpec := { name := "scopePairs", fn := fun _ => fun
  | [d1, d2, d3] => { results := [.lit (.bool true)], args := [d1, d2, d3] }
  | _ => none }
def scopePairsRow : OpenClaim := { program := "ytmgajcmigkcmdaagreatdoor", sum := "dbc077d831c38b658535c24724ecdb6790bbf45982f6b8f5a53ada7337983dab", func := "apodixis/apodixislaw04.ScopePairs", spec := "scopePairs", inPlace := ["internal/bytealg.IndexByteString", "internal/bytealg.IndexString", "internal/reflectlite.ValueOf", "(internal/reflectlite.Value).Type", "(internal/reflectlite.Value).IsNil", "internal/reflectlite.TypeOf", "(internal/reflectlite.Value).Elem", "(internal/reflectlite.Value).Set"], unfollowed := true, recurses := true, named := ["apodixis/layout.forms", "errors.errorType", "internal/bytealg.MaxLen"], apart := false, laid := [("errors.errorType", laid_errors_errorType), ("apodixis/layout.forms", laid_apodixis_layout_forms)] }
def ScopePairsSaid : Prop := scopePairsRow.holds Tryz.pinned (OpenSpec.ofChange scopePairsSpec)

/-- ITS FALSE NEIGHBOUR: 'it returns false'. Refute it at one input. -/
def scopePairsWrong : ChangeSpec := { name := "scopePairs", fn := fun _ => fun
  | [d1, d2, d3] => { results := [.lit (.bool false)], args := [d1, d2, d3] }
  | _ => none }
def ScopePairsWrongFalsely : Prop := scopePairsRow.holds Tryz.pinned (OpenSpec.ofChange scopePairsWrong)

/-- 'apodixislaw04.ScopeRestores': WHATEVER THE INPUT: true; the input reads as it did. -/
def scopeRestoresSpec : ChangeSpec := { name := "scopeRestores", fn := fun _ => fun
  | [d] => { results := [.lit (.bool true)], args := [d] }
  | _ => none }
def scopeRestoresRow : OpenClaim := { program := "ytmgajcmigkcmdaagreatdoor", sum := "dbc077d831c38b658535c24724ecdb6790bbf45982f6b8f5a53ada7337983dab", func := "apodixis/apodixislaw04.ScopeRestores", spec := "scopeRestores", inPlace := ["internal/bytealg.IndexByteString", "internal/bytealg.IndexString", "internal/reflectlite.ValueOf", "(internal/reflectlite.Value).Type", "(internal/reflectlite.Value).IsNil", "internal/reflectlite.TypeOf", "(internal/reflectlite.Value).Elem", "(internal/reflectlite.Value).Set"], unfollowed := true, recurses := true, named := ["apodixis/layout.forms", "errors.errorType", "internal/bytealg.MaxLen"], apart := false, laid := [("errors.errorType", laid_errors_errorType), ("apodixis/layout.forms", laid_apodixis_layout_forms)] }
def ScopeRestoresSaid : Prop := scopeRestoresRow.holds Tryz.pinned (OpenSpec.ofChange scopeRestoresSpec)

/-- ITS FALSE NEIGHBOUR: 'it returns false'. Refute it at one input. -/
def scopeRestoresWrong : ChangeSpec := { name := "scopeRestores", fn := fun _ => fun
  | [d] => { results := [.lit (.bool false)], args := [d] }
  | _ => none }
def ScopeRestoresWrongFalsely : Prop := scopeRestoresRow.holds Tryz.pinned (OpenSpec.ofChange scopeRestoresWrong)

/- THE SECOND FORM. 'bulk': how many values and letters a reading holds, each counted each time it is reached (what is shared counts as often as it is met; a slice's spare places count too). A statement '..UptoSaid' is the law's where the arguments, and the package variables that the reading takes, are together of bulk at most 1048576: NARROWER than '..Said'. Prove '..Said' where nothing that the law and all that it calls make is longer than what came in: it says more and counts as full. Else prove '..UptoSaid'. A law counts once. -/
mutual
def uptoBulk {H : Type} : DataW H → Nat
  | .lit (.string bytes) => bytes.length + 1
  | .lit _ => 1
  | .nil => 1
  | .ptr d => uptoBulk d + 1
  | .slice elems spare => uptoBulkAll elems + uptoBulkAll spare + 1
  | .agg parts => uptoBulkAll parts + 1
  | .iface _ d => uptoBulk d + 1
  | .map entries => uptoBulkEntries entries + 1
  | .held _ => 1
def uptoBulkAll {H : Type} : List (DataW H) → Nat
  | [] => 0
  | d :: r => uptoBulk d + uptoBulkAll r
def uptoBulkEntries {H : Type} : List (Lit × DataW H) → Nat
  | [] => 0
  | x :: r => uptoBulkEntry x + uptoBulkEntries r
def uptoBulkEntry {H : Type} : Lit × DataW H → Nat
  | (.string bytes, d) => bytes.length + uptoBulk d + 1
  | (_, d) => uptoBulk d + 1
 end
def uptoSmall : (H : Type) → List (DataW H) → Bool := fun _ ds => decide (uptoBulkAll ds ≤ 1048576)
def OpenSpec.upto (s : _root_.Go.ChangeSpec) : _root_.Go.OpenSpec := { _root_.Go.OpenSpec.ofChange s with cond := some uptoSmall }

/-- 'apodixislaw04.ScopeEnds', WHERE WHAT IT READS IS OF BULK AT MOST 1048576: true; the input reads as it did. -/
def scopeEndsUptoRow : OpenClaim := { program := "ytmgajcmigkcmdaagreatdoor", sum := "dbc077d831c38b658535c24724ecdb6790bbf45982f6b8f5a53ada7337983dab", func := "apodixis/apodixislaw04.ScopeEnds", spec := "scopeEnds", inPlace := ["internal/bytealg.IndexByteString", "internal/bytealg.IndexString", "internal/reflectlite.ValueOf", "(internal/reflectlite.Value).Type", "(internal/reflectlite.Value).IsNil", "internal/reflectlite.TypeOf", "(internal/reflectlite.Value).Elem", "(internal/reflectlite.Value).Set"], unfollowed := true, recurses := true, named := ["apodixis/layout.forms", "errors.errorType", "internal/bytealg.MaxLen"], apart := false, laid := [("errors.errorType", laid_errors_errorType), ("apodixis/layout.forms", laid_apodixis_layout_forms)], narrowed := true }
def ScopeEndsUptoSaid : Prop := scopeEndsUptoRow.holds Tryz.pinned (OpenSpec.upto scopeEndsSpec)

/-- 'apodixislaw04.ScopeWraps', WHERE WHAT IT READS IS OF BULK AT MOST 1048576: true; the input reads as it did. -/
def scopeWrapsUptoRow : OpenClaim := { program := "ytmgajcmigkcmdaagreatdoor", sum := "dbc077d831c38b658535c24724ecdb6790bbf45982f6b8f5a53ada7337983dab", func := "apodixis/apodixislaw04.ScopeWraps", spec := "scopeWraps", inPlace := ["internal/bytealg.IndexByteString", "internal/bytealg.IndexString", "internal/reflectlite.ValueOf", "(internal/reflectlite.Value).Type", "(internal/reflectlite.Value).IsNil", "internal/reflectlite.TypeOf", "(internal/reflectlite.Value).Elem", "(internal/reflectlite.Value).Set"], unfollowed := true, recurses := true, named := ["apodixis/layout.forms", "errors.errorType", "internal/bytealg.MaxLen"], apart := false, laid := [("errors.errorType", laid_errors_errorType), ("apodixis/layout.forms", laid_apodixis_layout_forms)], narrowed := true }
def ScopeWrapsUptoSaid : Prop := scopeWrapsUptoRow.holds Tryz.pinned (OpenSpec.upto scopeWrapsSpec)

/-- 'apodixislaw04.ScopeActive', WHERE WHAT IT READS IS OF BULK AT MOST 1048576: true; the input reads as it did. -/
def scopeActiveUptoRow : OpenClaim := { program := "ytmgajcmigkcmdaagreatdoor", sum := "dbc077d831c38b658535c24724ecdb6790bbf45982f6b8f5a53ada7337983dab", func := "apodixis/apodixislaw04.ScopeActive", spec := "scopeActive", inPlace := ["internal/bytealg.IndexByteString", "internal/bytealg.IndexString", "internal/reflectlite.ValueOf", "(internal/reflectlite.Value).Type", "(internal/reflectlite.Value).IsNil", "internal/reflectlite.TypeOf", "(internal/reflectlite.Value).Elem", "(internal/reflectlite.Value).Set"], unfollowed := true, recurses := true, named := ["apodixis/layout.forms", "errors.errorType", "internal/bytealg.MaxLen"], apart := false, laid := [("errors.errorType", laid_errors_errorType), ("apodixis/layout.forms", laid_apodixis_layout_forms)], narrowed := true }
def ScopeActiveUptoSaid : Prop := scopeActiveUptoRow.holds Tryz.pinned (OpenSpec.upto scopeActiveSpec)

/-- 'apodixislaw04.ScopeChecks', WHERE WHAT IT READS IS OF BULK AT MOST 1048576: true; the input reads as it did. -/
def scopeChecksUptoRow : OpenClaim := { program := "ytmgajcmigkcmdaagreatdoor", sum := "dbc077d831c38b658535c24724ecdb6790bbf45982f6b8f5a53ada7337983dab", func := "apodixis/apodixislaw04.ScopeChecks", spec := "scopeChecks", inPlace := ["internal/bytealg.IndexByteString", "internal/bytealg.IndexString", "internal/reflectlite.ValueOf", "(internal/reflectlite.Value).Type", "(internal/reflectlite.Value).IsNil", "internal/reflectlite.TypeOf", "(internal/reflectlite.Value).Elem", "(internal/reflectlite.Value).Set"], unfollowed := true, recurses := true, named := ["apodixis/layout.forms", "errors.errorType", "internal/bytealg.MaxLen"], apart := false, laid := [("errors.errorType", laid_errors_errorType), ("apodixis/layout.forms", laid_apodixis_layout_forms)], narrowed := true }
def ScopeChecksUptoSaid : Prop := scopeChecksUptoRow.holds Tryz.pinned (OpenSpec.upto scopeChecksSpec)

/-- 'apodixislaw04.ScopePairs', WHERE WHAT IT READS IS OF BULK AT MOST 1048576: true; the input reads as it did. -/
def scopePairsUptoRow : OpenClaim := { program := "ytmgajcmigkcmdaagreatdoor", sum := "dbc077d831c38b658535c24724ecdb6790bbf45982f6b8f5a53ada7337983dab", func := "apodixis/apodixislaw04.ScopePairs", spec := "scopePairs", inPlace := ["internal/bytealg.IndexByteString", "internal/bytealg.IndexString", "internal/reflectlite.ValueOf", "(internal/reflectlite.Value).Type", "(internal/reflectlite.Value).IsNil", "internal/reflectlite.TypeOf", "(internal/reflectlite.Value).Elem", "(internal/reflectlite.Value).Set"], unfollowed := true, recurses := true, named := ["apodixis/layout.forms", "errors.errorType", "internal/bytealg.MaxLen"], apart := false, laid := [("errors.errorType", laid_errors_errorType), ("apodixis/layout.forms", laid_apodixis_layout_forms)], narrowed := true }
def ScopePairsUptoSaid : Prop := scopePairsUptoRow.holds Tryz.pinned (OpenSpec.upto scopePairsSpec)

/-- 'apodixislaw04.ScopeRestores', WHERE WHAT IT READS IS OF BULK AT MOST 1048576: true; the input reads as it did. -/
def scopeRestoresUptoRow : OpenClaim := { program := "ytmgajcmigkcmdaagreatdoor", sum := "dbc077d831c38b658535c24724ecdb6790bbf45982f6b8f5a53ada7337983dab", func := "apodixis/apodixislaw04.ScopeRestores", spec := "scopeRestores", inPlace := ["internal/bytealg.IndexByteString", "internal/bytealg.IndexString", "internal/reflectlite.ValueOf", "(internal/reflectlite.Value).Type", "(internal/reflectlite.Value).IsNil", "internal/reflectlite.TypeOf", "(internal/reflectlite.Value).Elem", "(internal/reflectlite.Value).Set"], unfollowed := true, recurses := true, named := ["apodixis/layout.forms", "errors.errorType", "internal/bytealg.MaxLen"], apart := false, laid := [("errors.errorType", laid_errors_errorType), ("apodixis/layout.forms", laid_apodixis_layout_forms)], narrowed := true }
def ScopeRestoresUptoSaid : Prop := scopeRestoresUptoRow.holds Tryz.pinned (OpenSpec.upto scopeRestoresSpec)

end Rows
end Go.Proofs.YtmgajcmigkcmdaaGreatDoor
