/-
  NARROWER THAN 'FOR EVERY INPUT', by the rows' own cells (each row's printed sentence says how): WaveShort: laid · Names: laid · SumsOf: laid · BitsRows: laid · WaveReads: laid · WaveNumbers: laid · WaveTicks: laid · MaskReads: laid · MaskValues: laid · ChunkSizes: laid · ChunkMerges: laid.
  DERIVED. THE GIVEN ROWS OF THIS SEAT. 11 by the template 'for every input the law returns true; each argument reads behind the call as it read before'; 0 by the template 'total and deterministic' (their statements: YtiohnehccmbplaaDoorTotals.lean).
  GIVEN WITH THE SEED: the statements are not yours to turn. If you find one false, say at which input.
  Laid BY PROGRAM, IN A SANDBOX (cutbox-rows.mjs): the forced cells as the released guide's own fill.sh prints them over the translation ccefdcb195abb811… (all of the seat's roots in one cut). By AI agents, Wed Nov 11 2026. No macro, syntax, notation, axiom, sorry.
-/
import Derived.Test.YtiohnehccmbplaaDoorChecked
import GoSem.Claim
import GoSem.ClaimJoined
import GoSem.ClaimMapViews
import Derived.JoinedTies
import Derived.KernelRfl
namespace Go.Proofs.YtiohnehccmbplaaDoor
/- THE CELL 'sum', in the pinned program and in every row, IS THE sha256 OF THE DUMP (.gsa) THAT YtiohnehccmbplaaDoorProg.lean LOADS. Nothing in Lean hashes anything: it is a label: what it is worth is what the hold of that sum in a sandbox is worth. -/
noncomputable def Tryd.pinned : Pinned := { name := "ytiohnehccmbplaadoor", sum := "ccefdcb195abb8117a85d030090988b361796719db75b5f9cae988dff99f95d3", checked := Tryd.checked }
namespace Rows
def none {H : Type} : Left H := { results := [], args := [] }

/- WHAT THE LISTED PACKAGE-LEVEL VARIABLES READ AS WHEN THE CALL BEGINS. Each datum BY PROGRAM (the guide's laid-datum.mjs) off the statement by which the dump's own 'gosem.cut.vars' lays the variable. In a bare row this is a premise. The card (YtiohnehccmbplaaDoorCards.lean) ties it to the program's text. -/
def laid_tidegauge_api_ErrBound {H : Type} : DataW H := .iface "*errors.errorString" (.ptr (.agg [.lit (.string [116, 105, 100, 101, 103, 97, 117, 103, 101, 58, 32, 98, 111, 117, 110, 100])]))
def laid_tidegauge_api_ErrShape {H : Type} : DataW H := .iface "*errors.errorString" (.ptr (.agg [.lit (.string [116, 105, 100, 101, 103, 97, 117, 103, 101, 58, 32, 115, 104, 97, 112, 101])]))
def laid_tidegauge_api_ErrFull {H : Type} : DataW H := .iface "*errors.errorString" (.ptr (.agg [.lit (.string [116, 105, 100, 101, 103, 97, 117, 103, 101, 58, 32, 102, 117, 108, 108])]))
def laid_errors_errorType {H : Type} : DataW H := .iface "internal/reflectlite.rtype" (.agg [.ptr (.lit (.string [101, 114, 114, 111, 114]))])
def laid_tidegauge_api_ErrText {H : Type} : DataW H := .iface "*errors.errorString" (.ptr (.agg [.lit (.string [116, 105, 100, 101, 103, 97, 117, 103, 101, 58, 32, 116, 101, 120, 116])]))
def laid_tidegauge_api_ErrName {H : Type} : DataW H := .iface "*errors.errorString" (.ptr (.agg [.lit (.string [116, 105, 100, 101, 103, 97, 117, 103, 101, 58, 32, 110, 97, 109, 101])]))
def laid_tidegauge_api_ErrNone {H : Type} : DataW H := .iface "*errors.errorString" (.ptr (.agg [.lit (.string [116, 105, 100, 101, 103, 97, 117, 103, 101, 58, 32, 110, 111, 110, 101])]))
def laid_tidegauge_api_ErrExist {H : Type} : DataW H := .iface "*errors.errorString" (.ptr (.agg [.lit (.string [116, 105, 100, 101, 103, 97, 117, 103, 101, 58, 32, 101, 120, 105, 115, 116])]))
def laid_tidegauge_api_ErrOld {H : Type} : DataW H := .iface "*errors.errorString" (.ptr (.agg [.lit (.string [116, 105, 100, 101, 103, 97, 117, 103, 101, 58, 32, 111, 108, 100])]))
def laid_tidegauge_api_ErrSum {H : Type} : DataW H := .iface "*errors.errorString" (.ptr (.agg [.lit (.string [116, 105, 100, 101, 103, 97, 117, 103, 101, 58, 32, 115, 117, 109])]))
def laid_tidegauge_api_ErrOff {H : Type} : DataW H := .iface "*errors.errorString" (.ptr (.agg [.lit (.string [116, 105, 100, 101, 103, 97, 117, 103, 101, 58, 32, 111, 102, 102])]))
def laid_tidegauge_api_ErrKind {H : Type} : DataW H := .iface "*errors.errorString" (.ptr (.agg [.lit (.string [116, 105, 100, 101, 103, 97, 117, 103, 101, 58, 32, 107, 105, 110, 100])]))
def laid_math_bits_deBruijn64tab {H : Type} : DataW H := .agg [.lit (.int .u8 0), .lit (.int .u8 1), .lit (.int .u8 56), .lit (.int .u8 2), .lit (.int .u8 57), .lit (.int .u8 49), .lit (.int .u8 28), .lit (.int .u8 3), .lit (.int .u8 61), .lit (.int .u8 58), .lit (.int .u8 42), .lit (.int .u8 50), .lit (.int .u8 38), .lit (.int .u8 29), .lit (.int .u8 17), .lit (.int .u8 4), .lit (.int .u8 62), .lit (.int .u8 47), .lit (.int .u8 59), .lit (.int .u8 36), .lit (.int .u8 45), .lit (.int .u8 43), .lit (.int .u8 51), .lit (.int .u8 22), .lit (.int .u8 53), .lit (.int .u8 39), .lit (.int .u8 33), .lit (.int .u8 30), .lit (.int .u8 24), .lit (.int .u8 18), .lit (.int .u8 12), .lit (.int .u8 5), .lit (.int .u8 63), .lit (.int .u8 55), .lit (.int .u8 48), .lit (.int .u8 27), .lit (.int .u8 60), .lit (.int .u8 41), .lit (.int .u8 37), .lit (.int .u8 16), .lit (.int .u8 46), .lit (.int .u8 35), .lit (.int .u8 44), .lit (.int .u8 21), .lit (.int .u8 52), .lit (.int .u8 32), .lit (.int .u8 23), .lit (.int .u8 11), .lit (.int .u8 54), .lit (.int .u8 26), .lit (.int .u8 40), .lit (.int .u8 15), .lit (.int .u8 34), .lit (.int .u8 20), .lit (.int .u8 31), .lit (.int .u8 10), .lit (.int .u8 25), .lit (.int .u8 14), .lit (.int .u8 19), .lit (.int .u8 9), .lit (.int .u8 13), .lit (.int .u8 8), .lit (.int .u8 7), .lit (.int .u8 6)]

/-- 'tidegaugelaw1.WaveShort': WHATEVER THE INPUT: true; the input reads as it did. -/
def waveShortSpec : ChangeSpec := { name := "waveShort", fn := fun _ => fun
  | [d1, d2, d3, d4, d5] => { results := [.lit (.bool true)], args := [d1, d2, d3, d4, d5] }
  | _ => none }
def waveShortRow : OpenClaim := { program := "ytiohnehccmbplaadoor", sum := "ccefdcb195abb8117a85d030090988b361796719db75b5f9cae988dff99f95d3", func := "tidegauge/tidegaugelaw1.WaveShort", spec := "waveShort", named := ["tidegauge/api.ErrShape", "tidegauge/api.ErrFull", "tidegauge/api.ErrBound"], apart := false, laid := [("tidegauge/api.ErrBound", laid_tidegauge_api_ErrBound), ("tidegauge/api.ErrShape", laid_tidegauge_api_ErrShape), ("tidegauge/api.ErrFull", laid_tidegauge_api_ErrFull)] }
def WaveShortSaid : Prop := waveShortRow.holds Tryd.pinned (OpenSpec.ofChange waveShortSpec)

/-- ITS FALSE NEIGHBOUR: 'it returns false'. Refute it at one input. -/
def waveShortWrong : ChangeSpec := { name := "waveShort", fn := fun _ => fun
  | [d1, d2, d3, d4, d5] => { results := [.lit (.bool false)], args := [d1, d2, d3, d4, d5] }
  | _ => none }
def WaveShortWrongFalsely : Prop := waveShortRow.holds Tryd.pinned (OpenSpec.ofChange waveShortWrong)

/-- 'tidegaugelaw1.Names': WHATEVER THE INPUT: true; the input reads as it did. -/
def namesSpec : ChangeSpec := { name := "names", fn := fun _ => fun
  | [] => { results := [.lit (.bool true)], args := [] }
  | _ => none }
def namesRow : OpenClaim := { program := "ytiohnehccmbplaadoor", sum := "ccefdcb195abb8117a85d030090988b361796719db75b5f9cae988dff99f95d3", func := "tidegauge/tidegaugelaw1.Names", spec := "names", inPlace := ["internal/reflectlite.ValueOf", "(internal/reflectlite.Value).Type", "(internal/reflectlite.Value).IsNil", "internal/reflectlite.TypeOf", "(internal/reflectlite.Value).Elem", "(internal/reflectlite.Value).Set"], unfollowed := true, recurses := true, named := ["tidegauge/api.ErrText", "tidegauge/api.ErrBound", "tidegauge/api.ErrShape", "tidegauge/api.ErrName", "tidegauge/api.ErrNone", "tidegauge/api.ErrExist", "tidegauge/api.ErrFull", "tidegauge/api.ErrOld", "tidegauge/api.ErrSum", "tidegauge/api.ErrOff", "tidegauge/api.ErrKind", "errors.errorType"], apart := false, laid := [("errors.errorType", laid_errors_errorType), ("tidegauge/api.ErrText", laid_tidegauge_api_ErrText), ("tidegauge/api.ErrBound", laid_tidegauge_api_ErrBound), ("tidegauge/api.ErrShape", laid_tidegauge_api_ErrShape), ("tidegauge/api.ErrName", laid_tidegauge_api_ErrName), ("tidegauge/api.ErrNone", laid_tidegauge_api_ErrNone), ("tidegauge/api.ErrExist", laid_tidegauge_api_ErrExist), ("tidegauge/api.ErrFull", laid_tidegauge_api_ErrFull), ("tidegauge/api.ErrOld", laid_tidegauge_api_ErrOld), ("tidegauge/api.ErrSum", laid_tidegauge_api_ErrSum), ("tidegauge/api.ErrOff", laid_tidegauge_api_ErrOff), ("tidegauge/api.ErrKind", laid_tidegauge_api_ErrKind)] }
def NamesSaid : Prop := namesRow.holds Tryd.pinned (OpenSpec.ofChange namesSpec)

/-- ITS FALSE NEIGHBOUR: 'it returns false'. Refute it at one input. -/
def namesWrong : ChangeSpec := { name := "names", fn := fun _ => fun
  | [] => { results := [.lit (.bool false)], args := [] }
  | _ => none }
def NamesWrongFalsely : Prop := namesRow.holds Tryd.pinned (OpenSpec.ofChange namesWrong)

/-- 'tidegaugelaw3.SumsOf': WHATEVER THE INPUT: true; the input reads as it did. -/
def sumsOfSpec : ChangeSpec := { name := "sumsOf", fn := fun _ => fun
  | [d1, d2, d3, d4, d5] => { results := [.lit (.bool true)], args := [d1, d2, d3, d4, d5] }
  | _ => none }
def sumsOfRow : OpenClaim := { program := "ytiohnehccmbplaadoor", sum := "ccefdcb195abb8117a85d030090988b361796719db75b5f9cae988dff99f95d3", func := "tidegauge/tidegaugelaw3.SumsOf", spec := "sumsOf", inPlace := ["internal/reflectlite.ValueOf", "(internal/reflectlite.Value).Type", "(internal/reflectlite.Value).IsNil", "internal/reflectlite.TypeOf", "(internal/reflectlite.Value).Elem", "(internal/reflectlite.Value).Set"], unfollowed := true, recurses := true, named := ["tidegauge/api.ErrBound", "tidegauge/api.ErrText", "tidegauge/api.ErrShape", "tidegauge/api.ErrName", "tidegauge/api.ErrNone", "tidegauge/api.ErrExist", "tidegauge/api.ErrFull", "tidegauge/api.ErrOld", "tidegauge/api.ErrSum", "tidegauge/api.ErrOff", "tidegauge/api.ErrKind", "errors.errorType"], apart := false, laid := [("errors.errorType", laid_errors_errorType), ("tidegauge/api.ErrText", laid_tidegauge_api_ErrText), ("tidegauge/api.ErrBound", laid_tidegauge_api_ErrBound), ("tidegauge/api.ErrShape", laid_tidegauge_api_ErrShape), ("tidegauge/api.ErrName", laid_tidegauge_api_ErrName), ("tidegauge/api.ErrNone", laid_tidegauge_api_ErrNone), ("tidegauge/api.ErrExist", laid_tidegauge_api_ErrExist), ("tidegauge/api.ErrFull", laid_tidegauge_api_ErrFull), ("tidegauge/api.ErrOld", laid_tidegauge_api_ErrOld), ("tidegauge/api.ErrSum", laid_tidegauge_api_ErrSum), ("tidegauge/api.ErrOff", laid_tidegauge_api_ErrOff), ("tidegauge/api.ErrKind", laid_tidegauge_api_ErrKind)] }
def SumsOfSaid : Prop := sumsOfRow.holds Tryd.pinned (OpenSpec.ofChange sumsOfSpec)

/-- ITS FALSE NEIGHBOUR: 'it returns false'. Refute it at one input. -/
def sumsOfWrong : ChangeSpec := { name := "sumsOf", fn := fun _ => fun
  | [d1, d2, d3, d4, d5] => { results := [.lit (.bool false)], args := [d1, d2, d3, d4, d5] }
  | _ => none }
def SumsOfWrongFalsely : Prop := sumsOfRow.holds Tryd.pinned (OpenSpec.ofChange sumsOfWrong)

/-- 'tidegaugelaw1.BitsRows': WHATEVER THE INPUT: true; the input reads as it did. -/
def bitsRowsSpec : ChangeSpec := { name := "bitsRows", fn := fun _ => fun
  | [d1, d2, d3] => { results := [.lit (.bool true)], args := [d1, d2, d3] }
  | _ => none }
def bitsRowsRow : OpenClaim := { program := "ytiohnehccmbplaadoor", sum := "ccefdcb195abb8117a85d030090988b361796719db75b5f9cae988dff99f95d3", func := "tidegauge/tidegaugelaw1.BitsRows", spec := "bitsRows", inPlace := ["internal/reflectlite.ValueOf", "(internal/reflectlite.Value).Type", "(internal/reflectlite.Value).IsNil", "internal/reflectlite.TypeOf", "(internal/reflectlite.Value).Elem", "(internal/reflectlite.Value).Set"], unfollowed := true, recurses := true, named := ["tidegauge/api.ErrBound", "tidegauge/api.ErrFull", "tidegauge/api.ErrText", "tidegauge/api.ErrShape", "tidegauge/api.ErrName", "tidegauge/api.ErrNone", "tidegauge/api.ErrExist", "tidegauge/api.ErrOld", "tidegauge/api.ErrSum", "tidegauge/api.ErrOff", "tidegauge/api.ErrKind", "errors.errorType"], apart := false, laid := [("errors.errorType", laid_errors_errorType), ("tidegauge/api.ErrText", laid_tidegauge_api_ErrText), ("tidegauge/api.ErrBound", laid_tidegauge_api_ErrBound), ("tidegauge/api.ErrShape", laid_tidegauge_api_ErrShape), ("tidegauge/api.ErrName", laid_tidegauge_api_ErrName), ("tidegauge/api.ErrNone", laid_tidegauge_api_ErrNone), ("tidegauge/api.ErrExist", laid_tidegauge_api_ErrExist), ("tidegauge/api.ErrFull", laid_tidegauge_api_ErrFull), ("tidegauge/api.ErrOld", laid_tidegauge_api_ErrOld), ("tidegauge/api.ErrSum", laid_tidegauge_api_ErrSum), ("tidegauge/api.ErrOff", laid_tidegauge_api_ErrOff), ("tidegauge/api.ErrKind", laid_tidegauge_api_ErrKind)] }
def BitsRowsSaid : Prop := bitsRowsRow.holds Tryd.pinned (OpenSpec.ofChange bitsRowsSpec)

/-- ITS FALSE NEIGHBOUR: 'it returns false'. Refute it at one input. -/
def bitsRowsWrong : ChangeSpec := { name := "bitsRows", fn := fun _ => fun
  | [d1, d2, d3] => { results := [.lit (.bool false)], args := [d1, d2, d3] }
  | _ => none }
def BitsRowsWrongFalsely : Prop := bitsRowsRow.holds Tryd.pinned (OpenSpec.ofChange bitsRowsWrong)

/-- 'tidegaugelaw1.WaveReads': WHATEVER THE INPUT: true; the input reads as it did. -/
def waveReadsSpec : ChangeSpec := { name := "waveReads", fn := fun _ => fun
  | [d] => { results := [.lit (.bool true)], args := [d] }
  | _ => none }
def waveReadsRow : OpenClaim := { program := "ytiohnehccmbplaadoor", sum := "ccefdcb195abb8117a85d030090988b361796719db75b5f9cae988dff99f95d3", func := "tidegauge/tidegaugelaw1.WaveReads", spec := "waveReads", inPlace := ["internal/reflectlite.ValueOf", "(internal/reflectlite.Value).Type", "(internal/reflectlite.Value).IsNil", "internal/reflectlite.TypeOf", "(internal/reflectlite.Value).Elem", "(internal/reflectlite.Value).Set"], unfollowed := true, recurses := true, named := ["tidegauge/api.ErrShape", "tidegauge/api.ErrFull", "tidegauge/api.ErrBound", "tidegauge/api.ErrText", "tidegauge/api.ErrNone", "tidegauge/api.ErrName", "tidegauge/api.ErrExist", "tidegauge/api.ErrOld", "tidegauge/api.ErrSum", "tidegauge/api.ErrOff", "tidegauge/api.ErrKind", "errors.errorType"], apart := false, laid := [("errors.errorType", laid_errors_errorType), ("tidegauge/api.ErrText", laid_tidegauge_api_ErrText), ("tidegauge/api.ErrBound", laid_tidegauge_api_ErrBound), ("tidegauge/api.ErrShape", laid_tidegauge_api_ErrShape), ("tidegauge/api.ErrName", laid_tidegauge_api_ErrName), ("tidegauge/api.ErrNone", laid_tidegauge_api_ErrNone), ("tidegauge/api.ErrExist", laid_tidegauge_api_ErrExist), ("tidegauge/api.ErrFull", laid_tidegauge_api_ErrFull), ("tidegauge/api.ErrOld", laid_tidegauge_api_ErrOld), ("tidegauge/api.ErrSum", laid_tidegauge_api_ErrSum), ("tidegauge/api.ErrOff", laid_tidegauge_api_ErrOff), ("tidegauge/api.ErrKind", laid_tidegauge_api_ErrKind)] }
def WaveReadsSaid : Prop := waveReadsRow.holds Tryd.pinned (OpenSpec.ofChange waveReadsSpec)

/-- ITS FALSE NEIGHBOUR: 'it returns false'. Refute it at one input. -/
def waveReadsWrong : ChangeSpec := { name := "waveReads", fn := fun _ => fun
  | [d] => { results := [.lit (.bool false)], args := [d] }
  | _ => none }
def WaveReadsWrongFalsely : Prop := waveReadsRow.holds Tryd.pinned (OpenSpec.ofChange waveReadsWrong)

/-- 'tidegaugelaw1.WaveNumbers': WHATEVER THE INPUT: true; the input reads as it did. -/
def waveNumbersSpec : ChangeSpec := { name := "waveNumbers", fn := fun _ => fun
  | [d] => { results := [.lit (.bool true)], args := [d] }
  | _ => none }
def waveNumbersRow : OpenClaim := { program := "ytiohnehccmbplaadoor", sum := "ccefdcb195abb8117a85d030090988b361796719db75b5f9cae988dff99f95d3", func := "tidegauge/tidegaugelaw1.WaveNumbers", spec := "waveNumbers", inPlace := ["internal/reflectlite.ValueOf", "(internal/reflectlite.Value).Type", "(internal/reflectlite.Value).IsNil", "internal/reflectlite.TypeOf", "(internal/reflectlite.Value).Elem", "(internal/reflectlite.Value).Set"], unfollowed := true, recurses := true, named := ["tidegauge/api.ErrShape", "tidegauge/api.ErrFull", "tidegauge/api.ErrBound", "tidegauge/api.ErrText", "tidegauge/api.ErrNone", "tidegauge/api.ErrName", "tidegauge/api.ErrExist", "tidegauge/api.ErrOld", "tidegauge/api.ErrSum", "tidegauge/api.ErrOff", "tidegauge/api.ErrKind", "errors.errorType"], apart := false, laid := [("errors.errorType", laid_errors_errorType), ("tidegauge/api.ErrText", laid_tidegauge_api_ErrText), ("tidegauge/api.ErrBound", laid_tidegauge_api_ErrBound), ("tidegauge/api.ErrShape", laid_tidegauge_api_ErrShape), ("tidegauge/api.ErrName", laid_tidegauge_api_ErrName), ("tidegauge/api.ErrNone", laid_tidegauge_api_ErrNone), ("tidegauge/api.ErrExist", laid_tidegauge_api_ErrExist), ("tidegauge/api.ErrFull", laid_tidegauge_api_ErrFull), ("tidegauge/api.ErrOld", laid_tidegauge_api_ErrOld), ("tidegauge/api.ErrSum", laid_tidegauge_api_ErrSum), ("tidegauge/api.ErrOff", laid_tidegauge_api_ErrOff), ("tidegauge/api.ErrKind", laid_tidegauge_api_ErrKind)] }
def WaveNumbersSaid : Prop := waveNumbersRow.holds Tryd.pinned (OpenSpec.ofChange waveNumbersSpec)

/-- ITS FALSE NEIGHBOUR: 'it returns false'. Refute it at one input. -/
def waveNumbersWrong : ChangeSpec := { name := "waveNumbers", fn := fun _ => fun
  | [d] => { results := [.lit (.bool false)], args := [d] }
  | _ => none }
def WaveNumbersWrongFalsely : Prop := waveNumbersRow.holds Tryd.pinned (OpenSpec.ofChange waveNumbersWrong)

/-- 'tidegaugelaw1.WaveTicks': WHATEVER THE INPUT: true; the input reads as it did. -/
def waveTicksSpec : ChangeSpec := { name := "waveTicks", fn := fun _ => fun
  | [d1, d2, d3] => { results := [.lit (.bool true)], args := [d1, d2, d3] }
  | _ => none }
def waveTicksRow : OpenClaim := { program := "ytiohnehccmbplaadoor", sum := "ccefdcb195abb8117a85d030090988b361796719db75b5f9cae988dff99f95d3", func := "tidegauge/tidegaugelaw1.WaveTicks", spec := "waveTicks", inPlace := ["internal/reflectlite.ValueOf", "(internal/reflectlite.Value).Type", "(internal/reflectlite.Value).IsNil", "internal/reflectlite.TypeOf", "(internal/reflectlite.Value).Elem", "(internal/reflectlite.Value).Set"], unfollowed := true, recurses := true, named := ["tidegauge/api.ErrShape", "tidegauge/api.ErrFull", "tidegauge/api.ErrBound", "tidegauge/api.ErrText", "tidegauge/api.ErrName", "tidegauge/api.ErrNone", "tidegauge/api.ErrExist", "tidegauge/api.ErrOld", "tidegauge/api.ErrSum", "tidegauge/api.ErrOff", "tidegauge/api.ErrKind", "errors.errorType"], apart := false, laid := [("errors.errorType", laid_errors_errorType), ("tidegauge/api.ErrText", laid_tidegauge_api_ErrText), ("tidegauge/api.ErrBound", laid_tidegauge_api_ErrBound), ("tidegauge/api.ErrShape", laid_tidegauge_api_ErrShape), ("tidegauge/api.ErrName", laid_tidegauge_api_ErrName), ("tidegauge/api.ErrNone", laid_tidegauge_api_ErrNone), ("tidegauge/api.ErrExist", laid_tidegauge_api_ErrExist), ("tidegauge/api.ErrFull", laid_tidegauge_api_ErrFull), ("tidegauge/api.ErrOld", laid_tidegauge_api_ErrOld), ("tidegauge/api.ErrSum", laid_tidegauge_api_ErrSum), ("tidegauge/api.ErrOff", laid_tidegauge_api_ErrOff), ("tidegauge/api.ErrKind", laid_tidegauge_api_ErrKind)] }
def WaveTicksSaid : Prop := waveTicksRow.holds Tryd.pinned (OpenSpec.ofChange waveTicksSpec)

/-- ITS FALSE NEIGHBOUR: 'it returns false'. Refute it at one input. -/
def waveTicksWrong : ChangeSpec := { name := "waveTicks", fn := fun _ => fun
  | [d1, d2, d3] => { results := [.lit (.bool false)], args := [d1, d2, d3] }
  | _ => none }
def WaveTicksWrongFalsely : Prop := waveTicksRow.holds Tryd.pinned (OpenSpec.ofChange waveTicksWrong)

/-- 'tidegaugelaw1.MaskReads': WHATEVER THE INPUT: true; the input reads as it did. -/
def maskReadsSpec : ChangeSpec := { name := "maskReads", fn := fun _ => fun
  | [d1, d2] => { results := [.lit (.bool true)], args := [d1, d2] }
  | _ => none }
def maskReadsRow : OpenClaim := { program := "ytiohnehccmbplaadoor", sum := "ccefdcb195abb8117a85d030090988b361796719db75b5f9cae988dff99f95d3", func := "tidegauge/tidegaugelaw1.MaskReads", spec := "maskReads", inPlace := ["internal/reflectlite.ValueOf", "(internal/reflectlite.Value).Type", "(internal/reflectlite.Value).IsNil", "internal/reflectlite.TypeOf", "(internal/reflectlite.Value).Elem", "(internal/reflectlite.Value).Set"], unfollowed := true, recurses := true, named := ["tidegauge/api.ErrShape", "tidegauge/api.ErrFull", "math/bits.deBruijn64tab", "tidegauge/api.ErrBound", "tidegauge/api.ErrNone", "tidegauge/api.ErrText", "tidegauge/api.ErrName", "tidegauge/api.ErrExist", "tidegauge/api.ErrOld", "tidegauge/api.ErrSum", "tidegauge/api.ErrOff", "tidegauge/api.ErrKind", "errors.errorType"], apart := false, laid := [("math/bits.deBruijn64tab", laid_math_bits_deBruijn64tab), ("errors.errorType", laid_errors_errorType), ("tidegauge/api.ErrText", laid_tidegauge_api_ErrText), ("tidegauge/api.ErrBound", laid_tidegauge_api_ErrBound), ("tidegauge/api.ErrShape", laid_tidegauge_api_ErrShape), ("tidegauge/api.ErrName", laid_tidegauge_api_ErrName), ("tidegauge/api.ErrNone", laid_tidegauge_api_ErrNone), ("tidegauge/api.ErrExist", laid_tidegauge_api_ErrExist), ("tidegauge/api.ErrFull", laid_tidegauge_api_ErrFull), ("tidegauge/api.ErrOld", laid_tidegauge_api_ErrOld), ("tidegauge/api.ErrSum", laid_tidegauge_api_ErrSum), ("tidegauge/api.ErrOff", laid_tidegauge_api_ErrOff), ("tidegauge/api.ErrKind", laid_tidegauge_api_ErrKind)] }
def MaskReadsSaid : Prop := maskReadsRow.holds Tryd.pinned (OpenSpec.ofChange maskReadsSpec)

/-- ITS FALSE NEIGHBOUR: 'it returns false'. Refute it at one input. -/
def maskReadsWrong : ChangeSpec := { name := "maskReads", fn := fun _ => fun
  | [d1, d2] => { results := [.lit (.bool false)], args := [d1, d2] }
  | _ => none }
def MaskReadsWrongFalsely : Prop := maskReadsRow.holds Tryd.pinned (OpenSpec.ofChange maskReadsWrong)

/-- 'tidegaugelaw1.MaskValues': WHATEVER THE INPUT: true; the input reads as it did. -/
def maskValuesSpec : ChangeSpec := { name := "maskValues", fn := fun _ => fun
  | [d] => { results := [.lit (.bool true)], args := [d] }
  | _ => none }
def maskValuesRow : OpenClaim := { program := "ytiohnehccmbplaadoor", sum := "ccefdcb195abb8117a85d030090988b361796719db75b5f9cae988dff99f95d3", func := "tidegauge/tidegaugelaw1.MaskValues", spec := "maskValues", inPlace := ["internal/reflectlite.ValueOf", "(internal/reflectlite.Value).Type", "(internal/reflectlite.Value).IsNil", "internal/reflectlite.TypeOf", "(internal/reflectlite.Value).Elem", "(internal/reflectlite.Value).Set"], unfollowed := true, recurses := true, named := ["tidegauge/api.ErrShape", "tidegauge/api.ErrFull", "math/bits.deBruijn64tab", "tidegauge/api.ErrBound", "tidegauge/api.ErrNone", "tidegauge/api.ErrText", "tidegauge/api.ErrName", "tidegauge/api.ErrExist", "tidegauge/api.ErrOld", "tidegauge/api.ErrSum", "tidegauge/api.ErrOff", "tidegauge/api.ErrKind", "errors.errorType"], apart := false, laid := [("math/bits.deBruijn64tab", laid_math_bits_deBruijn64tab), ("errors.errorType", laid_errors_errorType), ("tidegauge/api.ErrText", laid_tidegauge_api_ErrText), ("tidegauge/api.ErrBound", laid_tidegauge_api_ErrBound), ("tidegauge/api.ErrShape", laid_tidegauge_api_ErrShape), ("tidegauge/api.ErrName", laid_tidegauge_api_ErrName), ("tidegauge/api.ErrNone", laid_tidegauge_api_ErrNone), ("tidegauge/api.ErrExist", laid_tidegauge_api_ErrExist), ("tidegauge/api.ErrFull", laid_tidegauge_api_ErrFull), ("tidegauge/api.ErrOld", laid_tidegauge_api_ErrOld), ("tidegauge/api.ErrSum", laid_tidegauge_api_ErrSum), ("tidegauge/api.ErrOff", laid_tidegauge_api_ErrOff), ("tidegauge/api.ErrKind", laid_tidegauge_api_ErrKind)] }
def MaskValuesSaid : Prop := maskValuesRow.holds Tryd.pinned (OpenSpec.ofChange maskValuesSpec)

/-- ITS FALSE NEIGHBOUR: 'it returns false'. Refute it at one input. -/
def maskValuesWrong : ChangeSpec := { name := "maskValues", fn := fun _ => fun
  | [d] => { results := [.lit (.bool false)], args := [d] }
  | _ => none }
def MaskValuesWrongFalsely : Prop := maskValuesRow.holds Tryd.pinned (OpenSpec.ofChange maskValuesWrong)

/-- 'tidegaugelaw1.ChunkSizes': WHATEVER THE INPUT: true; the input reads as it did. -/
def chunkSizesSpec : ChangeSpec := { name := "chunkSizes", fn := fun _ => fun
  | [d1, d2, d3, d4] => { results := [.lit (.bool true)], args := [d1, d2, d3, d4] }
  | _ => none }
def chunkSizesRow : OpenClaim := { program := "ytiohnehccmbplaadoor", sum := "ccefdcb195abb8117a85d030090988b361796719db75b5f9cae988dff99f95d3", func := "tidegauge/tidegaugelaw1.ChunkSizes", spec := "chunkSizes", named := ["tidegauge/api.ErrBound", "tidegauge/api.ErrOld", "tidegauge/api.ErrFull", "tidegauge/api.ErrShape", "math/bits.deBruijn64tab", "tidegauge/api.ErrText", "tidegauge/api.ErrSum", "tidegauge/api.ErrNone"], apart := false, laid := [("math/bits.deBruijn64tab", laid_math_bits_deBruijn64tab), ("tidegauge/api.ErrText", laid_tidegauge_api_ErrText), ("tidegauge/api.ErrBound", laid_tidegauge_api_ErrBound), ("tidegauge/api.ErrShape", laid_tidegauge_api_ErrShape), ("tidegauge/api.ErrNone", laid_tidegauge_api_ErrNone), ("tidegauge/api.ErrFull", laid_tidegauge_api_ErrFull), ("tidegauge/api.ErrOld", laid_tidegauge_api_ErrOld), ("tidegauge/api.ErrSum", laid_tidegauge_api_ErrSum)] }
def ChunkSizesSaid : Prop := chunkSizesRow.holds Tryd.pinned (OpenSpec.ofChange chunkSizesSpec)

/-- ITS FALSE NEIGHBOUR: 'it returns false'. Refute it at one input. -/
def chunkSizesWrong : ChangeSpec := { name := "chunkSizes", fn := fun _ => fun
  | [d1, d2, d3, d4] => { results := [.lit (.bool false)], args := [d1, d2, d3, d4] }
  | _ => none }
def ChunkSizesWrongFalsely : Prop := chunkSizesRow.holds Tryd.pinned (OpenSpec.ofChange chunkSizesWrong)

/-- 'tidegaugelaw1.ChunkMerges': WHATEVER THE INPUT: true; the input reads as it did. -/
def chunkMergesSpec : ChangeSpec := { name := "chunkMerges", fn := fun _ => fun
  | [d1, d2, d3, d4] => { results := [.lit (.bool true)], args := [d1, d2, d3, d4] }
  | _ => none }
def chunkMergesRow : OpenClaim := { program := "ytiohnehccmbplaadoor", sum := "ccefdcb195abb8117a85d030090988b361796719db75b5f9cae988dff99f95d3", func := "tidegauge/tidegaugelaw1.ChunkMerges", spec := "chunkMerges", named := ["tidegauge/api.ErrBound", "tidegauge/api.ErrOld", "tidegauge/api.ErrFull", "tidegauge/api.ErrShape", "math/bits.deBruijn64tab", "tidegauge/api.ErrText", "tidegauge/api.ErrSum", "tidegauge/api.ErrNone"], apart := false, laid := [("math/bits.deBruijn64tab", laid_math_bits_deBruijn64tab), ("tidegauge/api.ErrText", laid_tidegauge_api_ErrText), ("tidegauge/api.ErrBound", laid_tidegauge_api_ErrBound), ("tidegauge/api.ErrShape", laid_tidegauge_api_ErrShape), ("tidegauge/api.ErrNone", laid_tidegauge_api_ErrNone), ("tidegauge/api.ErrFull", laid_tidegauge_api_ErrFull), ("tidegauge/api.ErrOld", laid_tidegauge_api_ErrOld), ("tidegauge/api.ErrSum", laid_tidegauge_api_ErrSum)] }
def ChunkMergesSaid : Prop := chunkMergesRow.holds Tryd.pinned (OpenSpec.ofChange chunkMergesSpec)

/-- ITS FALSE NEIGHBOUR: 'it returns false'. Refute it at one input. -/
def chunkMergesWrong : ChangeSpec := { name := "chunkMerges", fn := fun _ => fun
  | [d1, d2, d3, d4] => { results := [.lit (.bool false)], args := [d1, d2, d3, d4] }
  | _ => none }
def ChunkMergesWrongFalsely : Prop := chunkMergesRow.holds Tryd.pinned (OpenSpec.ofChange chunkMergesWrong)

/- THE SECOND FORM. 'bulk': how many values and letters a reading holds, each counted each time it is reached (what is shared counts as often as it is met; a slice's spare places count too). A statement '..UptoSaid' is the law's where the arguments, and the package variables that the reading takes, are together of bulk at most 1048576: NARROWER than '..Said'. Prove '..Said' where nothing that the law and all that it calls make is longer than what came in: it says more and counts as full. Else prove '..UptoSaid'. A law counts once. -/
mutual
def uptoBulk {H : Type} : DataW H → Nat
  | .lit (.string bytes) => bytes.length + 1
  | .lit _ => 1
  | .nil => 1
  | .ptr d => uptoBulk d + 1
  | .slice elems spare => uptoBulkAll elems + uptoBulkAll spare + 1
  | .agg parts => uptoBulkAll parts + 1
  | .iface _ d => uptoBulk d + 1
  | .map entries => uptoBulkEntries entries + 1
  | .held _ => 1
def uptoBulkAll {H : Type} : List (DataW H) → Nat
  | [] => 0
  | d :: r => uptoBulk d + uptoBulkAll r
def uptoBulkEntries {H : Type} : List (Lit × DataW H) → Nat
  | [] => 0
  | x :: r => uptoBulkEntry x + uptoBulkEntries r
def uptoBulkEntry {H : Type} : Lit × DataW H → Nat
  | (.string bytes, d) => bytes.length + uptoBulk d + 1
  | (_, d) => uptoBulk d + 1
 end
def uptoSmall : (H : Type) → List (DataW H) → Bool := fun _ ds => decide (uptoBulkAll ds ≤ 1048576)
def OpenSpec.upto (s : _root_.Go.ChangeSpec) : _root_.Go.OpenSpec := { _root_.Go.OpenSpec.ofChange s with cond := some uptoSmall }

/-- 'tidegaugelaw1.WaveShort', WHERE WHAT IT READS IS OF BULK AT MOST 1048576: true; the input reads as it did. -/
def waveShortUptoRow : OpenClaim := { program := "ytiohnehccmbplaadoor", sum := "ccefdcb195abb8117a85d030090988b361796719db75b5f9cae988dff99f95d3", func := "tidegauge/tidegaugelaw1.WaveShort", spec := "waveShort", named := ["tidegauge/api.ErrShape", "tidegauge/api.ErrFull", "tidegauge/api.ErrBound"], apart := false, laid := [("tidegauge/api.ErrBound", laid_tidegauge_api_ErrBound), ("tidegauge/api.ErrShape", laid_tidegauge_api_ErrShape), ("tidegauge/api.ErrFull", laid_tidegauge_api_ErrFull)], narrowed := true }
def WaveShortUptoSaid : Prop := waveShortUptoRow.holds Tryd.pinned (OpenSpec.upto waveShortSpec)

/-- 'tidegaugelaw1.Names', WHERE WHAT IT READS IS OF BULK AT MOST 1048576: true; the input reads as it did. -/
def namesUptoRow : OpenClaim := { program := "ytiohnehccmbplaadoor", sum := "ccefdcb195abb8117a85d030090988b361796719db75b5f9cae988dff99f95d3", func := "tidegauge/tidegaugelaw1.Names", spec := "names", inPlace := ["internal/reflectlite.ValueOf", "(internal/reflectlite.Value).Type", "(internal/reflectlite.Value).IsNil", "internal/reflectlite.TypeOf", "(internal/reflectlite.Value).Elem", "(internal/reflectlite.Value).Set"], unfollowed := true, recurses := true, named := ["tidegauge/api.ErrText", "tidegauge/api.ErrBound", "tidegauge/api.ErrShape", "tidegauge/api.ErrName", "tidegauge/api.ErrNone", "tidegauge/api.ErrExist", "tidegauge/api.ErrFull", "tidegauge/api.ErrOld", "tidegauge/api.ErrSum", "tidegauge/api.ErrOff", "tidegauge/api.ErrKind", "errors.errorType"], apart := false, laid := [("errors.errorType", laid_errors_errorType), ("tidegauge/api.ErrText", laid_tidegauge_api_ErrText), ("tidegauge/api.ErrBound", laid_tidegauge_api_ErrBound), ("tidegauge/api.ErrShape", laid_tidegauge_api_ErrShape), ("tidegauge/api.ErrName", laid_tidegauge_api_ErrName), ("tidegauge/api.ErrNone", laid_tidegauge_api_ErrNone), ("tidegauge/api.ErrExist", laid_tidegauge_api_ErrExist), ("tidegauge/api.ErrFull", laid_tidegauge_api_ErrFull), ("tidegauge/api.ErrOld", laid_tidegauge_api_ErrOld), ("tidegauge/api.ErrSum", laid_tidegauge_api_ErrSum), ("tidegauge/api.ErrOff", laid_tidegauge_api_ErrOff), ("tidegauge/api.ErrKind", laid_tidegauge_api_ErrKind)], narrowed := true }
def NamesUptoSaid : Prop := namesUptoRow.holds Tryd.pinned (OpenSpec.upto namesSpec)

/-- 'tidegaugelaw3.SumsOf', WHERE WHAT IT READS IS OF BULK AT MOST 1048576: true; the input reads as it did. -/
def sumsOfUptoRow : OpenClaim := { program := "ytiohnehccmbplaadoor", sum := "ccefdcb195abb8117a85d030090988b361796719db75b5f9cae988dff99f95d3", func := "tidegauge/tidegaugelaw3.SumsOf", spec := "sumsOf", inPlace := ["internal/reflectlite.ValueOf", "(internal/reflectlite.Value).Type", "(internal/reflectlite.Value).IsNil", "internal/reflectlite.TypeOf", "(internal/reflectlite.Value).Elem", "(internal/reflectlite.Value).Set"], unfollowed := true, recurses := true, named := ["tidegauge/api.ErrBound", "tidegauge/api.ErrText", "tidegauge/api.ErrShape", "tidegauge/api.ErrName", "tidegauge/api.ErrNone", "tidegauge/api.ErrExist", "tidegauge/api.ErrFull", "tidegauge/api.ErrOld", "tidegauge/api.ErrSum", "tidegauge/api.ErrOff", "tidegauge/api.ErrKind", "errors.errorType"], apart := false, laid := [("errors.errorType", laid_errors_errorType), ("tidegauge/api.ErrText", laid_tidegauge_api_ErrText), ("tidegauge/api.ErrBound", laid_tidegauge_api_ErrBound), ("tidegauge/api.ErrShape", laid_tidegauge_api_ErrShape), ("tidegauge/api.ErrName", laid_tidegauge_api_ErrName), ("tidegauge/api.ErrNone", laid_tidegauge_api_ErrNone), ("tidegauge/api.ErrExist", laid_tidegauge_api_ErrExist), ("tidegauge/api.ErrFull", laid_tidegauge_api_ErrFull), ("tidegauge/api.ErrOld", laid_tidegauge_api_ErrOld), ("tidegauge/api.ErrSum", laid_tidegauge_api_ErrSum), ("tidegauge/api.ErrOff", laid_tidegauge_api_ErrOff), ("tidegauge/api.ErrKind", laid_tidegauge_api_ErrKind)], narrowed := true }
def SumsOfUptoSaid : Prop := sumsOfUptoRow.holds Tryd.pinned (OpenSpec.upto sumsOfSpec)

/-- 'tidegaugelaw1.BitsRows', WHERE WHAT IT READS IS OF BULK AT MOST 1048576: true; the input reads as it did. -/
def bitsRowsUptoRow : OpenClaim := { program := "ytiohnehccmbplaadoor", sum := "ccefdcb195abb8117a85d030090988b361796719db75b5f9cae988dff99f95d3", func := "tidegauge/tidegaugelaw1.BitsRows", spec := "bitsRows", inPlace := ["internal/reflectlite.ValueOf", "(internal/reflectlite.Value).Type", "(internal/reflectlite.Value).IsNil", "internal/reflectlite.TypeOf", "(internal/reflectlite.Value).Elem", "(internal/reflectlite.Value).Set"], unfollowed := true, recurses := true, named := ["tidegauge/api.ErrBound", "tidegauge/api.ErrFull", "tidegauge/api.ErrText", "tidegauge/api.ErrShape", "tidegauge/api.ErrName", "tidegauge/api.ErrNone", "tidegauge/api.ErrExist", "tidegauge/api.ErrOld", "tidegauge/api.ErrSum", "tidegauge/api.ErrOff", "tidegauge/api.ErrKind", "errors.errorType"], apart := false, laid := [("errors.errorType", laid_errors_errorType), ("tidegauge/api.ErrText", laid_tidegauge_api_ErrText), ("tidegauge/api.ErrBound", laid_tidegauge_api_ErrBound), ("tidegauge/api.ErrShape", laid_tidegauge_api_ErrShape), ("tidegauge/api.ErrName", laid_tidegauge_api_ErrName), ("tidegauge/api.ErrNone", laid_tidegauge_api_ErrNone), ("tidegauge/api.ErrExist", laid_tidegauge_api_ErrExist), ("tidegauge/api.ErrFull", laid_tidegauge_api_ErrFull), ("tidegauge/api.ErrOld", laid_tidegauge_api_ErrOld), ("tidegauge/api.ErrSum", laid_tidegauge_api_ErrSum), ("tidegauge/api.ErrOff", laid_tidegauge_api_ErrOff), ("tidegauge/api.ErrKind", laid_tidegauge_api_ErrKind)], narrowed := true }
def BitsRowsUptoSaid : Prop := bitsRowsUptoRow.holds Tryd.pinned (OpenSpec.upto bitsRowsSpec)

/-- 'tidegaugelaw1.WaveReads', WHERE WHAT IT READS IS OF BULK AT MOST 1048576: true; the input reads as it did. -/
def waveReadsUptoRow : OpenClaim := { program := "ytiohnehccmbplaadoor", sum := "ccefdcb195abb8117a85d030090988b361796719db75b5f9cae988dff99f95d3", func := "tidegauge/tidegaugelaw1.WaveReads", spec := "waveReads", inPlace := ["internal/reflectlite.ValueOf", "(internal/reflectlite.Value).Type", "(internal/reflectlite.Value).IsNil", "internal/reflectlite.TypeOf", "(internal/reflectlite.Value).Elem", "(internal/reflectlite.Value).Set"], unfollowed := true, recurses := true, named := ["tidegauge/api.ErrShape", "tidegauge/api.ErrFull", "tidegauge/api.ErrBound", "tidegauge/api.ErrText", "tidegauge/api.ErrNone", "tidegauge/api.ErrName", "tidegauge/api.ErrExist", "tidegauge/api.ErrOld", "tidegauge/api.ErrSum", "tidegauge/api.ErrOff", "tidegauge/api.ErrKind", "errors.errorType"], apart := false, laid := [("errors.errorType", laid_errors_errorType), ("tidegauge/api.ErrText", laid_tidegauge_api_ErrText), ("tidegauge/api.ErrBound", laid_tidegauge_api_ErrBound), ("tidegauge/api.ErrShape", laid_tidegauge_api_ErrShape), ("tidegauge/api.ErrName", laid_tidegauge_api_ErrName), ("tidegauge/api.ErrNone", laid_tidegauge_api_ErrNone), ("tidegauge/api.ErrExist", laid_tidegauge_api_ErrExist), ("tidegauge/api.ErrFull", laid_tidegauge_api_ErrFull), ("tidegauge/api.ErrOld", laid_tidegauge_api_ErrOld), ("tidegauge/api.ErrSum", laid_tidegauge_api_ErrSum), ("tidegauge/api.ErrOff", laid_tidegauge_api_ErrOff), ("tidegauge/api.ErrKind", laid_tidegauge_api_ErrKind)], narrowed := true }
def WaveReadsUptoSaid : Prop := waveReadsUptoRow.holds Tryd.pinned (OpenSpec.upto waveReadsSpec)

/-- 'tidegaugelaw1.WaveNumbers', WHERE WHAT IT READS IS OF BULK AT MOST 1048576: true; the input reads as it did. -/
def waveNumbersUptoRow : OpenClaim := { program := "ytiohnehccmbplaadoor", sum := "ccefdcb195abb8117a85d030090988b361796719db75b5f9cae988dff99f95d3", func := "tidegauge/tidegaugelaw1.WaveNumbers", spec := "waveNumbers", inPlace := ["internal/reflectlite.ValueOf", "(internal/reflectlite.Value).Type", "(internal/reflectlite.Value).IsNil", "internal/reflectlite.TypeOf", "(internal/reflectlite.Value).Elem", "(internal/reflectlite.Value).Set"], unfollowed := true, recurses := true, named := ["tidegauge/api.ErrShape", "tidegauge/api.ErrFull", "tidegauge/api.ErrBound", "tidegauge/api.ErrText", "tidegauge/api.ErrNone", "tidegauge/api.ErrName", "tidegauge/api.ErrExist", "tidegauge/api.ErrOld", "tidegauge/api.ErrSum", "tidegauge/api.ErrOff", "tidegauge/api.ErrKind", "errors.errorType"], apart := false, laid := [("errors.errorType", laid_errors_errorType), ("tidegauge/api.ErrText", laid_tidegauge_api_ErrText), ("tidegauge/api.ErrBound", laid_tidegauge_api_ErrBound), ("tidegauge/api.ErrShape", laid_tidegauge_api_ErrShape), ("tidegauge/api.ErrName", laid_tidegauge_api_ErrName), ("tidegauge/api.ErrNone", laid_tidegauge_api_ErrNone), ("tidegauge/api.ErrExist", laid_tidegauge_api_ErrExist), ("tidegauge/api.ErrFull", laid_tidegauge_api_ErrFull), ("tidegauge/api.ErrOld", laid_tidegauge_api_ErrOld), ("tidegauge/api.ErrSum", laid_tidegauge_api_ErrSum), ("tidegauge/api.ErrOff", laid_tidegauge_api_ErrOff), ("tidegauge/api.ErrKind", laid_tidegauge_api_ErrKind)], narrowed := true }
def WaveNumbersUptoSaid : Prop := waveNumbersUptoRow.holds Tryd.pinned (OpenSpec.upto waveNumbersSpec)

/-- 'tidegaugelaw1.WaveTicks', WHERE WHAT IT READS IS OF BULK AT MOST 1048576: true; the input reads as it did. -/
def waveTicksUptoRow : OpenClaim := { program := "ytiohnehccmbplaadoor", sum := "ccefdcb195abb8117a85d030090988b361796719db75b5f9cae988dff99f95d3", func := "tidegauge/tidegaugelaw1.WaveTicks", spec := "waveTicks", inPlace := ["internal/reflectlite.ValueOf", "(internal/reflectlite.Value).Type", "(internal/reflectlite.Value).IsNil", "internal/reflectlite.TypeOf", "(internal/reflectlite.Value).Elem", "(internal/reflectlite.Value).Set"], unfollowed := true, recurses := true, named := ["tidegauge/api.ErrShape", "tidegauge/api.ErrFull", "tidegauge/api.ErrBound", "tidegauge/api.ErrText", "tidegauge/api.ErrName", "tidegauge/api.ErrNone", "tidegauge/api.ErrExist", "tidegauge/api.ErrOld", "tidegauge/api.ErrSum", "tidegauge/api.ErrOff", "tidegauge/api.ErrKind", "errors.errorType"], apart := false, laid := [("errors.errorType", laid_errors_errorType), ("tidegauge/api.ErrText", laid_tidegauge_api_ErrText), ("tidegauge/api.ErrBound", laid_tidegauge_api_ErrBound), ("tidegauge/api.ErrShape", laid_tidegauge_api_ErrShape), ("tidegauge/api.ErrName", laid_tidegauge_api_ErrName), ("tidegauge/api.ErrNone", laid_tidegauge_api_ErrNone), ("tidegauge/api.ErrExist", laid_tidegauge_api_ErrExist), ("tidegauge/api.ErrFull", laid_tidegauge_api_ErrFull), ("tidegauge/api.ErrOld", laid_tidegauge_api_ErrOld), ("tidegauge/api.ErrSum", laid_tidegauge_api_ErrSum), ("tidegauge/api.ErrOff", laid_tidegauge_api_ErrOff), ("tidegauge/api.ErrKind", laid_tidegauge_api_ErrKind)], narrowed := true }
def WaveTicksUptoSaid : Prop := waveTicksUptoRow.holds Tryd.pinned (OpenSpec.upto waveTicksSpec)

/-- 'tidegaugelaw1.MaskReads', WHERE WHAT IT READS IS OF BULK AT MOST 1048576: true; the input reads as it did. -/
def maskReadsUptoRow : OpenClaim := { program := "ytiohnehccmbplaadoor", sum := "ccefdcb195abb8117a85d030090988b361796719db75b5f9cae988dff99f95d3", func := "tidegauge/tidegaugelaw1.MaskReads", spec := "maskReads", inPlace := ["internal/reflectlite.ValueOf", "(internal/reflectlite.Value).Type", "(internal/reflectlite.Value).IsNil", "internal/reflectlite.TypeOf", "(internal/reflectlite.Value).Elem", "(internal/reflectlite.Value).Set"], unfollowed := true, recurses := true, named := ["tidegauge/api.ErrShape", "tidegauge/api.ErrFull", "math/bits.deBruijn64tab", "tidegauge/api.ErrBound", "tidegauge/api.ErrNone", "tidegauge/api.ErrText", "tidegauge/api.ErrName", "tidegauge/api.ErrExist", "tidegauge/api.ErrOld", "tidegauge/api.ErrSum", "tidegauge/api.ErrOff", "tidegauge/api.ErrKind", "errors.errorType"], apart := false, laid := [("math/bits.deBruijn64tab", laid_math_bits_deBruijn64tab), ("errors.errorType", laid_errors_errorType), ("tidegauge/api.ErrText", laid_tidegauge_api_ErrText), ("tidegauge/api.ErrBound", laid_tidegauge_api_ErrBound), ("tidegauge/api.ErrShape", laid_tidegauge_api_ErrShape), ("tidegauge/api.ErrName", laid_tidegauge_api_ErrName), ("tidegauge/api.ErrNone", laid_tidegauge_api_ErrNone), ("tidegauge/api.ErrExist", laid_tidegauge_api_ErrExist), ("tidegauge/api.ErrFull", laid_tidegauge_api_ErrFull), ("tidegauge/api.ErrOld", laid_tidegauge_api_ErrOld), ("tidegauge/api.ErrSum", laid_tidegauge_api_ErrSum), ("tidegauge/api.ErrOff", laid_tidegauge_api_ErrOff), ("tidegauge/api.ErrKind", laid_tidegauge_api_ErrKind)], narrowed := true }
def MaskReadsUptoSaid : Prop := maskReadsUptoRow.holds Tryd.pinned (OpenSpec.upto maskReadsSpec)

/-- 'tidegaugelaw1.MaskValues', WHERE WHAT IT READS IS OF BULK AT MOST 1048576: true; the input reads as it did. -/
def maskValuesUptoRow : OpenClaim := { program := "ytiohnehccmbplaadoor", sum := "ccefdcb195abb8117a85d030090988b361796719db75b5f9cae988dff99f95d3", func := "tidegauge/tidegaugelaw1.MaskValues", spec := "maskValues", inPlace := ["internal/reflectlite.ValueOf", "(internal/reflectlite.Value).Type", "(internal/reflectlite.Value).IsNil", "internal/reflectlite.TypeOf", "(internal/reflectlite.Value).Elem", "(internal/reflectlite.Value).Set"], unfollowed := true, recurses := true, named := ["tidegauge/api.ErrShape", "tidegauge/api.ErrFull", "math/bits.deBruijn64tab", "tidegauge/api.ErrBound", "tidegauge/api.ErrNone", "tidegauge/api.ErrText", "tidegauge/api.ErrName", "tidegauge/api.ErrExist", "tidegauge/api.ErrOld", "tidegauge/api.ErrSum", "tidegauge/api.ErrOff", "tidegauge/api.ErrKind", "errors.errorType"], apart := false, laid := [("math/bits.deBruijn64tab", laid_math_bits_deBruijn64tab), ("errors.errorType", laid_errors_errorType), ("tidegauge/api.ErrText", laid_tidegauge_api_ErrText), ("tidegauge/api.ErrBound", laid_tidegauge_api_ErrBound), ("tidegauge/api.ErrShape", laid_tidegauge_api_ErrShape), ("tidegauge/api.ErrName", laid_tidegauge_api_ErrName), ("tidegauge/api.ErrNone", laid_tidegauge_api_ErrNone), ("tidegauge/api.ErrExist", laid_tidegauge_api_ErrExist), ("tidegauge/api.ErrFull", laid_tidegauge_api_ErrFull), ("tidegauge/api.ErrOld", laid_tidegauge_api_ErrOld), ("tidegauge/api.ErrSum", laid_tidegauge_api_ErrSum), ("tidegauge/api.ErrOff", laid_tidegauge_api_ErrOff), ("tidegauge/api.ErrKind", laid_tidegauge_api_ErrKind)], narrowed := true }
def MaskValuesUptoSaid : Prop := maskValuesUptoRow.holds Tryd.pinned (OpenSpec.upto maskValuesSpec)

/-- 'tidegaugelaw1.ChunkSizes', WHERE WHAT IT READS IS OF BULK AT MOST 1048576: true; the input reads as it did. -/
def chunkSizesUptoRow : OpenClaim := { program := "ytiohnehccmbplaadoor", sum := "ccefdcb195abb8117a85d030090988b361796719db75b5f9cae988dff99f95d3", func := "tidegauge/tidegaugelaw1.ChunkSizes", spec := "chunkSizes", named := ["tidegauge/api.ErrBound", "tidegauge/api.ErrOld", "tidegauge/api.ErrFull", "tidegauge/api.ErrShape", "math/bits.deBruijn64tab", "tidegauge/api.ErrText", "tidegauge/api.ErrSum", "tidegauge/api.ErrNone"], apart := false, laid := [("math/bits.deBruijn64tab", laid_math_bits_deBruijn64tab), ("tidegauge/api.ErrText", laid_tidegauge_api_ErrText), ("tidegauge/api.ErrBound", laid_tidegauge_api_ErrBound), ("tidegauge/api.ErrShape", laid_tidegauge_api_ErrShape), ("tidegauge/api.ErrNone", laid_tidegauge_api_ErrNone), ("tidegauge/api.ErrFull", laid_tidegauge_api_ErrFull), ("tidegauge/api.ErrOld", laid_tidegauge_api_ErrOld), ("tidegauge/api.ErrSum", laid_tidegauge_api_ErrSum)], narrowed := true }
def ChunkSizesUptoSaid : Prop := chunkSizesUptoRow.holds Tryd.pinned (OpenSpec.upto chunkSizesSpec)

/-- 'tidegaugelaw1.ChunkMerges', WHERE WHAT IT READS IS OF BULK AT MOST 1048576: true; the input reads as it did. -/
def chunkMergesUptoRow : OpenClaim := { program := "ytiohnehccmbplaadoor", sum := "ccefdcb195abb8117a85d030090988b361796719db75b5f9cae988dff99f95d3", func := "tidegauge/tidegaugelaw1.ChunkMerges", spec := "chunkMerges", named := ["tidegauge/api.ErrBound", "tidegauge/api.ErrOld", "tidegauge/api.ErrFull", "tidegauge/api.ErrShape", "math/bits.deBruijn64tab", "tidegauge/api.ErrText", "tidegauge/api.ErrSum", "tidegauge/api.ErrNone"], apart := false, laid := [("math/bits.deBruijn64tab", laid_math_bits_deBruijn64tab), ("tidegauge/api.ErrText", laid_tidegauge_api_ErrText), ("tidegauge/api.ErrBound", laid_tidegauge_api_ErrBound), ("tidegauge/api.ErrShape", laid_tidegauge_api_ErrShape), ("tidegauge/api.ErrNone", laid_tidegauge_api_ErrNone), ("tidegauge/api.ErrFull", laid_tidegauge_api_ErrFull), ("tidegauge/api.ErrOld", laid_tidegauge_api_ErrOld), ("tidegauge/api.ErrSum", laid_tidegauge_api_ErrSum)], narrowed := true }
def ChunkMergesUptoSaid : Prop := chunkMergesUptoRow.holds Tryd.pinned (OpenSpec.upto chunkMergesSpec)

end Rows
end Go.Proofs.YtiohnehccmbplaaDoor
