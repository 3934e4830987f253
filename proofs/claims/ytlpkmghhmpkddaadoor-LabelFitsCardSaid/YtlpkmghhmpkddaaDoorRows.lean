/-
  NARROWER THAN 'FOR EVERY INPUT', by the rows' own cells (each row's printed sentence says how): LabelFits: laid.
  DERIVED. THE GIVEN ROWS OF THIS SEAT. 1 by the template 'for every input the law returns true; each argument reads behind the call as it read before'; 0 by the template 'total and deterministic' (their statements: YtlpkmghhmpkddaaDoorTotals.lean).
  GIVEN WITH THE SEED: the statements are not yours to turn. If you find one false, say at which input.
  Laid BY PROGRAM, IN A SANDBOX (cutbox-rows.mjs): the forced cells as the released guide's own fill.sh prints them over the translation c988cab2fa602302… (all of the seat's roots in one cut). By AI agents, Wed Nov 11 2026. No macro, syntax, notation, axiom, sorry.
-/
import Derived.Test.YtlpkmghhmpkddaaDoorChecked
import GoSem.Claim
import GoSem.ClaimJoined
import GoSem.ClaimMapViews
import Derived.JoinedTies
import Derived.KernelRfl
namespace Go.Proofs.YtlpkmghhmpkddaaDoor
/- THE CELL 'sum', in the pinned program and in every row, IS THE sha256 OF THE DUMP (.gsa) THAT YtlpkmghhmpkddaaDoorProg.lean LOADS. Nothing in Lean hashes anything: it is a label: what it is worth is what the hold of that sum in a sandbox is worth. -/
noncomputable def Tryd.pinned : Pinned := { name := "ytlpkmghhmpkddaadoor", sum := "c988cab2fa602302a1eed14d5838e1fc2e1f99a858fca8c46d787dc27dcb826c", checked := Tryd.checked }
namespace Rows
def none {H : Type} : Left H := { results := [], args := [] }

/- WHAT THE LISTED PACKAGE-LEVEL VARIABLES READ AS WHEN THE CALL BEGINS. Each datum BY PROGRAM (the guide's laid-datum.mjs) off the statement by which the dump's own 'gosem.cut.vars' lays the variable. In a bare row this is a premise. The card (YtlpkmghhmpkddaaDoorCards.lean) ties it to the program's text. -/
def laid_errors_errorType {H : Type} : DataW H := .iface "internal/reflectlite.rtype" (.agg [.ptr (.lit (.string [101, 114, 114, 111, 114]))])
def laid_tidegauge_api_ErrText {H : Type} : DataW H := .iface "*errors.errorString" (.ptr (.agg [.lit (.string [116, 105, 100, 101, 103, 97, 117, 103, 101, 58, 32, 116, 101, 120, 116])]))
def laid_tidegauge_api_ErrBound {H : Type} : DataW H := .iface "*errors.errorString" (.ptr (.agg [.lit (.string [116, 105, 100, 101, 103, 97, 117, 103, 101, 58, 32, 98, 111, 117, 110, 100])]))
def laid_tidegauge_api_ErrShape {H : Type} : DataW H := .iface "*errors.errorString" (.ptr (.agg [.lit (.string [116, 105, 100, 101, 103, 97, 117, 103, 101, 58, 32, 115, 104, 97, 112, 101])]))
def laid_tidegauge_api_ErrName {H : Type} : DataW H := .iface "*errors.errorString" (.ptr (.agg [.lit (.string [116, 105, 100, 101, 103, 97, 117, 103, 101, 58, 32, 110, 97, 109, 101])]))
def laid_tidegauge_api_ErrNone {H : Type} : DataW H := .iface "*errors.errorString" (.ptr (.agg [.lit (.string [116, 105, 100, 101, 103, 97, 117, 103, 101, 58, 32, 110, 111, 110, 101])]))
def laid_tidegauge_api_ErrExist {H : Type} : DataW H := .iface "*errors.errorString" (.ptr (.agg [.lit (.string [116, 105, 100, 101, 103, 97, 117, 103, 101, 58, 32, 101, 120, 105, 115, 116])]))
def laid_tidegauge_api_ErrFull {H : Type} : DataW H := .iface "*errors.errorString" (.ptr (.agg [.lit (.string [116, 105, 100, 101, 103, 97, 117, 103, 101, 58, 32, 102, 117, 108, 108])]))
def laid_tidegauge_api_ErrOld {H : Type} : DataW H := .iface "*errors.errorString" (.ptr (.agg [.lit (.string [116, 105, 100, 101, 103, 97, 117, 103, 101, 58, 32, 111, 108, 100])]))
def laid_tidegauge_api_ErrSum {H : Type} : DataW H := .iface "*errors.errorString" (.ptr (.agg [.lit (.string [116, 105, 100, 101, 103, 97, 117, 103, 101, 58, 32, 115, 117, 109])]))
def laid_tidegauge_api_ErrOff {H : Type} : DataW H := .iface "*errors.errorString" (.ptr (.agg [.lit (.string [116, 105, 100, 101, 103, 97, 117, 103, 101, 58, 32, 111, 102, 102])]))
def laid_tidegauge_api_ErrKind {H : Type} : DataW H := .iface "*errors.errorString" (.ptr (.agg [.lit (.string [116, 105, 100, 101, 103, 97, 117, 103, 101, 58, 32, 107, 105, 110, 100])]))

/-- 'tidegaugelaw1.LabelFits': WHATEVER THE INPUT: true; the input reads as it did. -/
def labelFitsSpec : ChangeSpec := { name := "labelFits", fn := fun _ => fun
  | [d1, d2, d3] => { results := [.lit (.bool true)], args := [d1, d2, d3] }
  | _ => none }
def labelFitsRow : OpenClaim := { program := "ytlpkmghhmpkddaadoor", sum := "c988cab2fa602302a1eed14d5838e1fc2e1f99a858fca8c46d787dc27dcb826c", func := "tidegauge/tidegaugelaw1.LabelFits", spec := "labelFits", inPlace := ["internal/abi.NoEscape", "internal/bytealg.MakeNoZero", "internal/bytealg.IndexByteString", "internal/reflectlite.ValueOf", "(internal/reflectlite.Value).Type", "(internal/reflectlite.Value).IsNil", "internal/reflectlite.TypeOf", "(internal/reflectlite.Value).Elem", "(internal/reflectlite.Value).Set"], unfollowed := true, recurses := true, named := ["tidegauge/api.ErrNone", "tidegauge/api.ErrBound", "tidegauge/api.ErrName", "tidegauge/api.ErrShape", "tidegauge/api.ErrKind", "tidegauge/api.ErrText", "tidegauge/api.ErrExist", "tidegauge/api.ErrFull", "tidegauge/api.ErrOld", "tidegauge/api.ErrSum", "tidegauge/api.ErrOff", "errors.errorType"], apart := false, laid := [("errors.errorType", laid_errors_errorType), ("tidegauge/api.ErrText", laid_tidegauge_api_ErrText), ("tidegauge/api.ErrBound", laid_tidegauge_api_ErrBound), ("tidegauge/api.ErrShape", laid_tidegauge_api_ErrShape), ("tidegauge/api.ErrName", laid_tidegauge_api_ErrName), ("tidegauge/api.ErrNone", laid_tidegauge_api_ErrNone), ("tidegauge/api.ErrExist", laid_tidegauge_api_ErrExist), ("tidegauge/api.ErrFull", laid_tidegauge_api_ErrFull), ("tidegauge/api.ErrOld", laid_tidegauge_api_ErrOld), ("tidegauge/api.ErrSum", laid_tidegauge_api_ErrSum), ("tidegauge/api.ErrOff", laid_tidegauge_api_ErrOff), ("tidegauge/api.ErrKind", laid_tidegauge_api_ErrKind)] }
def LabelFitsSaid : Prop := labelFitsRow.holds Tryd.pinned (OpenSpec.ofChange labelFitsSpec)

/-- ITS FALSE NEIGHBOUR: 'it returns false'. Refute it at one input. -/
def labelFitsWrong : ChangeSpec := { name := "labelFits", fn := fun _ => fun
  | [d1, d2, d3] => { results := [.lit (.bool false)], args := [d1, d2, d3] }
  | _ => none }
def LabelFitsWrongFalsely : Prop := labelFitsRow.holds Tryd.pinned (OpenSpec.ofChange labelFitsWrong)

/- THE SECOND FORM. 'bulk': how many values and letters a reading holds, each counted each time it is reached (what is shared counts as often as it is met; a slice's spare places count too). A statement '..UptoSaid' is the law's where the arguments, and the package variables that the reading takes, are together of bulk at most 1048576: NARROWER than '..Said'. Prove '..Said' where nothing that the law and all that it calls make is longer than what came in: it says more and counts as full. Else prove '..UptoSaid'. A law counts once. -/
mutual
def uptoBulk {H : Type} : DataW H → Nat
  | .lit (.string bytes) => bytes.length + 1
  | .lit _ => 1
  | .nil => 1
  | .ptr d => uptoBulk d + 1
  | .slice elems spare => uptoBulkAll elems + uptoBulkAll spare + 1
  | .agg parts => uptoBulkAll parts + 1
  | .iface _ d => uptoBulk d + 1
  | .map entries => uptoBulkEntries entries + 1
  | .held _ => 1
def uptoBulkAll {H : Type} : List (DataW H) → Nat
  | [] => 0
  | d :: r => uptoBulk d + uptoBulkAll r
def uptoBulkEntries {H : Type} : List (Lit × DataW H) → Nat
  | [] => 0
  | x :: r => uptoBulkEntry x + uptoBulkEntries r
def uptoBulkEntry {H : Type} : Lit × DataW H → Nat
  | (.string bytes, d) => bytes.length + uptoBulk d + 1
  | (_, d) => uptoBulk d + 1
 end
def uptoSmall : (H : Type) → List (DataW H) → Bool := fun _ ds => decide (uptoBulkAll ds ≤ 1048576)
def OpenSpec.upto (s : _root_.Go.ChangeSpec) : _root_.Go.OpenSpec := { _root_.Go.OpenSpec.ofChange s with cond := some uptoSmall }

/-- 'tidegaugelaw1.LabelFits', WHERE WHAT IT READS IS OF BULK AT MOST 1048576: true; the input reads as it did. -/
def labelFitsUptoRow : OpenClaim := { program := "ytlpkmghhmpkddaadoor", sum := "c988cab2fa602302a1eed14d5838e1fc2e1f99a858fca8c46d787dc27dcb826c", func := "tidegauge/tidegaugelaw1.LabelFits", spec := "labelFits", inPlace := ["internal/abi.NoEscape", "internal/bytealg.MakeNoZero", "internal/bytealg.IndexByteString", "internal/reflectlite.ValueOf", "(internal/reflectlite.Value).Type", "(internal/reflectlite.Value).IsNil", "internal/reflectlite.TypeOf", "(internal/reflectlite.Value).Elem", "(internal/reflectlite.Value).Set"], unfollowed := true, recurses := true, named := ["tidegauge/api.ErrNone", "tidegauge/api.ErrBound", "tidegauge/api.ErrName", "tidegauge/api.ErrShape", "tidegauge/api.ErrKind", "tidegauge/api.ErrText", "tidegauge/api.ErrExist", "tidegauge/api.ErrFull", "tidegauge/api.ErrOld", "tidegauge/api.ErrSum", "tidegauge/api.ErrOff", "errors.errorType"], apart := false, laid := [("errors.errorType", laid_errors_errorType), ("tidegauge/api.ErrText", laid_tidegauge_api_ErrText), ("tidegauge/api.ErrBound", laid_tidegauge_api_ErrBound), ("tidegauge/api.ErrShape", laid_tidegauge_api_ErrShape), ("tidegauge/api.ErrName", laid_tidegauge_api_ErrName), ("tidegauge/api.ErrNone", laid_tidegauge_api_ErrNone), ("tidegauge/api.ErrExist", laid_tidegauge_api_ErrExist), ("tidegauge/api.ErrFull", laid_tidegauge_api_ErrFull), ("tidegauge/api.ErrOld", laid_tidegauge_api_ErrOld), ("tidegauge/api.ErrSum", laid_tidegauge_api_ErrSum), ("tidegauge/api.ErrOff", laid_tidegauge_api_ErrOff), ("tidegauge/api.ErrKind", laid_tidegauge_api_ErrKind)], narrowed := true }
def LabelFitsUptoSaid : Prop := labelFitsUptoRow.holds Tryd.pinned (OpenSpec.upto labelFitsSpec)

end Rows
end Go.Proofs.YtlpkmghhmpkddaaDoor
