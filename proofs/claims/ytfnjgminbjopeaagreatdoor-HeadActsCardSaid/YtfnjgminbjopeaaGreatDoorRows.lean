/-
  NARROWER THAN 'FOR EVERY INPUT', by the rows' own cells (each row's printed sentence says how): HeadActs: laid.
  DERIVED. THE GIVEN ROWS OF THIS SEAT. 1 by the template 'for every input the law returns true; each argument reads behind the call as it read before'; 0 by the template 'total and deterministic' (their statements: YtfnjgminbjopeaaGreatDoorTotals.lean).
  GIVEN WITH THE SEED: the statements are not yours to turn. If you find one false, say at which input.
  Laid BY PROGRAM, IN A SANDBOX (cutbox-rows.mjs): the forced cells as the released guide's own fill.sh prints them over the translation c85a4897fa0c5aa7… (all of the seat's roots in one cut). By AI agents, Wed Nov 11 2026. No macro, syntax, notation, axiom, sorry.
-/
import Derived.Test.YtfnjgminbjopeaaGreatDoorChecked
import GoSem.PinnedTables
import GoSem.Claim
import GoSem.ClaimJoined
import GoSem.ClaimMapViews
import Derived.JoinedTies
import Derived.KernelRfl
namespace Go.Proofs.YtfnjgminbjopeaaGreatDoor
/- THE CELL 'sum', in the pinned program and in every row, IS THE sha256 OF THE DUMP (.gsa) THAT YtfnjgminbjopeaaGreatDoorProg.lean LOADS. Nothing in Lean hashes anything: it is a label: what it is worth is what the hold of that sum in a sandbox is worth. -/
noncomputable def Tryz.pinned : Pinned := { name := "ytfnjgminbjopeaagreatdoor", sum := "c85a4897fa0c5aa7a53920ac943a18fa93d39ea6139a9ea7e7dce3963dc3a5d2", checked := Tryz.checked }
namespace Rows
def none {H : Type} : Left H := { results := [], args := [] }

/- WHAT THE LISTED PACKAGE-LEVEL VARIABLES READ AS WHEN THE CALL BEGINS. Each datum BY PROGRAM (the guide's laid-datum.mjs) off the statement by which the dump's own 'gosem.cut.vars' lays the variable. In a bare row this is a premise. The card (YtfnjgminbjopeaaGreatDoorCards.lean) ties it to the program's text. -/
def laid_unicode_utf8_acceptRanges {H : Type} : DataW H := .agg [.agg [.lit (.int .u8 128), .lit (.int .u8 191)], .agg [.lit (.int .u8 160), .lit (.int .u8 191)], .agg [.lit (.int .u8 128), .lit (.int .u8 159)], .agg [.lit (.int .u8 144), .lit (.int .u8 191)], .agg [.lit (.int .u8 128), .lit (.int .u8 143)], .agg [.lit (.int .u8 0), .lit (.int .u8 0)], .agg [.lit (.int .u8 0), .lit (.int .u8 0)], .agg [.lit (.int .u8 0), .lit (.int .u8 0)], .agg [.lit (.int .u8 0), .lit (.int .u8 0)], .agg [.lit (.int .u8 0), .lit (.int .u8 0)], .agg [.lit (.int .u8 0), .lit (.int .u8 0)], .agg [.lit (.int .u8 0), .lit (.int .u8 0)], .agg [.lit (.int .u8 0), .lit (.int .u8 0)], .agg [.lit (.int .u8 0), .lit (.int .u8 0)], .agg [.lit (.int .u8 0), .lit (.int .u8 0)], .agg [.lit (.int .u8 0), .lit (.int .u8 0)]]
def laid_errors_errorType {H : Type} : DataW H := .iface "internal/reflectlite.rtype" (.agg [.ptr (.lit (.string [101, 114, 114, 111, 114]))])
def laid_tidegauge_api_ErrText {H : Type} : DataW H := .iface "*errors.errorString" (.ptr (.agg [.lit (.string [116, 105, 100, 101, 103, 97, 117, 103, 101, 58, 32, 116, 101, 120, 116])]))
def laid_tidegauge_api_ErrBound {H : Type} : DataW H := .iface "*errors.errorString" (.ptr (.agg [.lit (.string [116, 105, 100, 101, 103, 97, 117, 103, 101, 58, 32, 98, 111, 117, 110, 100])]))
def laid_tidegauge_api_ErrShape {H : Type} : DataW H := .iface "*errors.errorString" (.ptr (.agg [.lit (.string [116, 105, 100, 101, 103, 97, 117, 103, 101, 58, 32, 115, 104, 97, 112, 101])]))
def laid_tidegauge_api_ErrName {H : Type} : DataW H := .iface "*errors.errorString" (.ptr (.agg [.lit (.string [116, 105, 100, 101, 103, 97, 117, 103, 101, 58, 32, 110, 97, 109, 101])]))
def laid_tidegauge_api_ErrNone {H : Type} : DataW H := .iface "*errors.errorString" (.ptr (.agg [.lit (.string [116, 105, 100, 101, 103, 97, 117, 103, 101, 58, 32, 110, 111, 110, 101])]))
def laid_tidegauge_api_ErrExist {H : Type} : DataW H := .iface "*errors.errorString" (.ptr (.agg [.lit (.string [116, 105, 100, 101, 103, 97, 117, 103, 101, 58, 32, 101, 120, 105, 115, 116])]))
def laid_tidegauge_api_ErrFull {H : Type} : DataW H := .iface "*errors.errorString" (.ptr (.agg [.lit (.string [116, 105, 100, 101, 103, 97, 117, 103, 101, 58, 32, 102, 117, 108, 108])]))
def laid_tidegauge_api_ErrOld {H : Type} : DataW H := .iface "*errors.errorString" (.ptr (.agg [.lit (.string [116, 105, 100, 101, 103, 97, 117, 103, 101, 58, 32, 111, 108, 100])]))
def laid_tidegauge_api_ErrSum {H : Type} : DataW H := .iface "*errors.errorString" (.ptr (.agg [.lit (.string [116, 105, 100, 101, 103, 97, 117, 103, 101, 58, 32, 115, 117, 109])]))
def laid_tidegauge_api_ErrOff {H : Type} : DataW H := .iface "*errors.errorString" (.ptr (.agg [.lit (.string [116, 105, 100, 101, 103, 97, 117, 103, 101, 58, 32, 111, 102, 102])]))
def laid_tidegauge_api_ErrKind {H : Type} : DataW H := .iface "*errors.errorString" (.ptr (.agg [.lit (.string [116, 105, 100, 101, 103, 97, 117, 103, 101, 58, 32, 107, 105, 110, 100])]))
/-- One of Go's own tables, pinned by name: the form's constant. -/
def laid_unicode_utf8_first : DataW Unit := Go.Pinned.utf8First

/-- 'tidegaugelaw2.HeadActs': WHATEVER THE INPUT: true; the input reads as it did. -/
def headActsSpec : ChangeSpec := { name := "headActs", fn := fun _ => fun
  | [d] => { results := [.lit (.bool true)], args := [d] }
  | _ => none }
def headActsRow : OpenClaim := { program := "ytfnjgminbjopeaagreatdoor", sum := "c85a4897fa0c5aa7a53920ac943a18fa93d39ea6139a9ea7e7dce3963dc3a5d2", func := "tidegauge/tidegaugelaw2.HeadActs", spec := "headActs", inPlace := ["internal/bytealg.IndexByteString", "internal/bytealg.IndexString", "internal/reflectlite.ValueOf", "(internal/reflectlite.Value).Type", "(internal/reflectlite.Value).IsNil", "internal/reflectlite.TypeOf", "(internal/reflectlite.Value).Elem", "(internal/reflectlite.Value).Set"], unfollowed := true, recurses := true, named := ["tidegauge/api.ErrBound", "tidegauge/api.ErrOld", "tidegauge/api.ErrFull", "tidegauge/api.ErrText", "unicode/utf8.first", "unicode/utf8.acceptRanges", "internal/bytealg.MaxLen", "tidegauge/api.ErrNone", "tidegauge/api.ErrName", "tidegauge/api.ErrShape", "tidegauge/api.ErrExist", "tidegauge/api.ErrSum", "tidegauge/api.ErrOff", "tidegauge/api.ErrKind", "errors.errorType"], apart := false, laid := [("unicode/utf8.acceptRanges", laid_unicode_utf8_acceptRanges), ("errors.errorType", laid_errors_errorType), ("tidegauge/api.ErrText", laid_tidegauge_api_ErrText), ("tidegauge/api.ErrBound", laid_tidegauge_api_ErrBound), ("tidegauge/api.ErrShape", laid_tidegauge_api_ErrShape), ("tidegauge/api.ErrName", laid_tidegauge_api_ErrName), ("tidegauge/api.ErrNone", laid_tidegauge_api_ErrNone), ("tidegauge/api.ErrExist", laid_tidegauge_api_ErrExist), ("tidegauge/api.ErrFull", laid_tidegauge_api_ErrFull), ("tidegauge/api.ErrOld", laid_tidegauge_api_ErrOld), ("tidegauge/api.ErrSum", laid_tidegauge_api_ErrSum), ("tidegauge/api.ErrOff", laid_tidegauge_api_ErrOff), ("tidegauge/api.ErrKind", laid_tidegauge_api_ErrKind), ("unicode/utf8.first", laid_unicode_utf8_first)] }
def HeadActsSaid : Prop := headActsRow.holds Tryz.pinned (OpenSpec.ofChange headActsSpec)

/-- ITS FALSE NEIGHBOUR: 'it returns false'. Refute it at one input. -/
def headActsWrong : ChangeSpec := { name := "headActs", fn := fun _ => fun
  | [d] => { results := [.lit (.bool false)], args := [d] }
  | _ => none }
def HeadActsWrongFalsely : Prop := headActsRow.holds Tryz.pinned (OpenSpec.ofChange headActsWrong)

/- THE SECOND FORM. 'bulk': how many values and letters a reading holds, each counted each time it is reached (what is shared counts as often as it is met; a slice's spare places count too). A statement '..UptoSaid' is the law's where the arguments, and the package variables that the reading takes, are together of bulk at most 1048576: NARROWER than '..Said'. Prove '..Said' where nothing that the law and all that it calls make is longer than what came in: it says more and counts as full. Else prove '..UptoSaid'. A law counts once. -/
mutual
def uptoBulk {H : Type} : DataW H → Nat
  | .lit (.string bytes) => bytes.length + 1
  | .lit _ => 1
  | .nil => 1
  | .ptr d => uptoBulk d + 1
  | .slice elems spare => uptoBulkAll elems + uptoBulkAll spare + 1
  | .agg parts => uptoBulkAll parts + 1
  | .iface _ d => uptoBulk d + 1
  | .map entries => uptoBulkEntries entries + 1
  | .held _ => 1
def uptoBulkAll {H : Type} : List (DataW H) → Nat
  | [] => 0
  | d :: r => uptoBulk d + uptoBulkAll r
def uptoBulkEntries {H : Type} : List (Lit × DataW H) → Nat
  | [] => 0
  | x :: r => uptoBulkEntry x + uptoBulkEntries r
def uptoBulkEntry {H : Type} : Lit × DataW H → Nat
  | (.string bytes, d) => bytes.length + uptoBulk d + 1
  | (_, d) => uptoBulk d + 1
 end
def uptoSmall : (H : Type) → List (DataW H) → Bool := fun _ ds => decide (uptoBulkAll ds ≤ 1048576)
def OpenSpec.upto (s : _root_.Go.ChangeSpec) : _root_.Go.OpenSpec := { _root_.Go.OpenSpec.ofChange s with cond := some uptoSmall }

/-- 'tidegaugelaw2.HeadActs', WHERE WHAT IT READS IS OF BULK AT MOST 1048576: true; the input reads as it did. -/
def headActsUptoRow : OpenClaim := { program := "ytfnjgminbjopeaagreatdoor", sum := "c85a4897fa0c5aa7a53920ac943a18fa93d39ea6139a9ea7e7dce3963dc3a5d2", func := "tidegauge/tidegaugelaw2.HeadActs", spec := "headActs", inPlace := ["internal/bytealg.IndexByteString", "internal/bytealg.IndexString", "internal/reflectlite.ValueOf", "(internal/reflectlite.Value).Type", "(internal/reflectlite.Value).IsNil", "internal/reflectlite.TypeOf", "(internal/reflectlite.Value).Elem", "(internal/reflectlite.Value).Set"], unfollowed := true, recurses := true, named := ["tidegauge/api.ErrBound", "tidegauge/api.ErrOld", "tidegauge/api.ErrFull", "tidegauge/api.ErrText", "unicode/utf8.first", "unicode/utf8.acceptRanges", "internal/bytealg.MaxLen", "tidegauge/api.ErrNone", "tidegauge/api.ErrName", "tidegauge/api.ErrShape", "tidegauge/api.ErrExist", "tidegauge/api.ErrSum", "tidegauge/api.ErrOff", "tidegauge/api.ErrKind", "errors.errorType"], apart := false, laid := [("unicode/utf8.acceptRanges", laid_unicode_utf8_acceptRanges), ("errors.errorType", laid_errors_errorType), ("tidegauge/api.ErrText", laid_tidegauge_api_ErrText), ("tidegauge/api.ErrBound", laid_tidegauge_api_ErrBound), ("tidegauge/api.ErrShape", laid_tidegauge_api_ErrShape), ("tidegauge/api.ErrName", laid_tidegauge_api_ErrName), ("tidegauge/api.ErrNone", laid_tidegauge_api_ErrNone), ("tidegauge/api.ErrExist", laid_tidegauge_api_ErrExist), ("tidegauge/api.ErrFull", laid_tidegauge_api_ErrFull), ("tidegauge/api.ErrOld", laid_tidegauge_api_ErrOld), ("tidegauge/api.ErrSum", laid_tidegauge_api_ErrSum), ("tidegauge/api.ErrOff", laid_tidegauge_api_ErrOff), ("tidegauge/api.ErrKind", laid_tidegauge_api_ErrKind), ("unicode/utf8.first", laid_unicode_utf8_first)], narrowed := true }
def HeadActsUptoSaid : Prop := headActsUptoRow.holds Tryz.pinned (OpenSpec.upto headActsSpec)

end Rows
end Go.Proofs.YtfnjgminbjopeaaGreatDoor
