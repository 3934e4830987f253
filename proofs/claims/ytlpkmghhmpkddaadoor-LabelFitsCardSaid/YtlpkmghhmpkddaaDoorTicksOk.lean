/- wave.Ticks by a contract: right ticks, where there is room: they are put. -/
import Derived.Test.YtlpkmghhmpkddaaDoorTicks
namespace Go.Proofs.YtlpkmghhmpkddaaDoor
open Go.RowKit
set_option linter.unusedVariables false

def wavesL (l : List Int) : List Bool := l.flatMap waveBits
def ticksBits (l : List Int) : List Bool := wavesL (stepsL l)
theorem wavesL_next {l : List Int} {k : Nat} {y : Int} (h : l[k]? = some y) : wavesL (l.take (k + 1)) = wavesL (l.take k) ++ waveBits y := by
  rw [take_snoc h]; simp [wavesL]
theorem wavesL_take (l : List Int) (k : Nat) : (wavesL (l.take k)).length ≤ (wavesL l).length := by
  have : wavesL l = wavesL (l.take k) ++ wavesL (l.drop k) := by unfold wavesL; rw [← List.flatMap_append, List.take_append_drop]
  rw [this, List.length_append]; omega

end Go.Proofs.YtlpkmghhmpkddaaDoor
