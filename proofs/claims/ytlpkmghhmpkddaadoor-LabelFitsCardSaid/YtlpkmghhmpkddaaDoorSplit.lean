/- strings.Cut at '=', and the iterator of strings.SplitSeq at ',', by contracts. -/
import Derived.RangeFuncNested
import Derived.RangeFuncBound
import Derived.RangeFuncCalls
import Derived.RangeFuncLeaves
import Derived.Shelf.Abstract
import Derived.Shelf.RegionOpen
import Derived.WalkKit
import Derived.OwnWalkIn
import Derived.TacticsInMore
import Derived.LoopNIn
import Derived.LoopIn
import Derived.Test.YtlpkmghhmpkddaaDoorLays
import Derived.Test.YtlpkmghhmpkddaaDoorLabChk
namespace Go.Proofs.YtlpkmghhmpkddaaDoor
open Go.RowKit Go.Shelf
attribute [local go_sem] Oper.semAt_some
set_option linter.unusedVariables false

theorem B8_data (s : Bs) : (B8 s).data.toList = s := rfl
theorem B8_one (c : UInt8) : (⟨#[c]⟩ : ByteArray) = B8 [c] := rfl
/-- How many bytes the box b holds still. -/
def left8 (b : Nat) (W : World) : Nat := match W.cell? ⟨b, 0, none⟩ with
  | some (.string s) => s.size
  | _ => 0
theorem left8_eq {b : Nat} {W : World} {s : ByteArray} (h : W.cell? ⟨b, 0, none⟩ = some (.string s)) : left8 b W = s.size := by unfold left8; rw [h]

theorem Fr.putObj {S : Nat → Prop} {a w : World} (h : Fr S a w) {l : Nat} (hl : S l) (o : Obj) : Fr S a (w.putObj l o) :=
  ⟨h.os, h.tape, h.output, by rw [World.putObj_size]; exact h.size, fun i hi hn => (World.putObj_heap_other (fun e => hn (by rw [e]; exact hl))).trans (h.block i hi hn)⟩

end Go.Proofs.YtlpkmghhmpkddaaDoor
