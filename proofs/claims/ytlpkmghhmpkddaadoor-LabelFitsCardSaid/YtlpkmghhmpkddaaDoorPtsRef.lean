/- The reference's SamePoints and PointsFault by contracts. -/
import Derived.Test.YtlpkmghhmpkddaaDoorChunkChk
namespace Go.Proofs.YtlpkmghhmpkddaaDoor
open Go.RowKit
set_option linter.unusedVariables false

theorem Blk.duo2 {w : World} {b : Nat} {t : TypeId} {v1 v2 : Value} (h : Blk w b t #[v1, v2]) : w.cell? ⟨b, 0, none⟩ = some v1 ∧ w.cell? ⟨b, 1, none⟩ = some v2 := ⟨h.cell 0, h.cell 1⟩
/-- What PointsFault answers of some points whose first wrong one is i (n: none). -/
def pfV (l : List (Int × Int)) (n i : Nat) : Value := if i = n then .agg #[.int .i64 0, .int .i64 (-1)] else .agg #[.int .i64 ((codeAt l i : Nat) + 1 : Int), .int .i64 i]
theorem pfV_ok (l : List (Int × Int)) (n : Nat) : pfV l n n = .agg #[.int .i64 0, .int .i64 (-1)] := by unfold pfV; rw [if_pos rfl]
theorem pfV_bad (l : List (Int × Int)) (n i c : Nat) (h : i < n) (hc : codeAt l i = c) : pfV l n i = .agg #[.int .i64 ((c : Int) + 1), .int .i64 i] := by unfold pfV; rw [if_neg (by omega), hc]

end Go.Proofs.YtlpkmghhmpkddaaDoor
