/- The reference's Byte, Bits, Pack, Unpack, ValueOf by contracts. -/
import Derived.Test.YtlpkmghhmpkddaaDoorChecked
import Derived.Test.YtlpkmghhmpkddaaDoorTxt
import Derived.Laws.IdiomStrings
import Derived.Laws.DeepStrings4
namespace Go.Proofs.YtlpkmghhmpkddaaDoor
open Go.RowKit
set_option linter.unusedVariables false

/-- The bits of byte j of a row. -/
def bitF (l : List Bool) (j q : Nat) : Bool := l.getD (8 * j + q) false
end Go.Proofs.YtlpkmghhmpkddaaDoor
