/- package wave's forms by their contracts: has, of, head, Size: for every number. -/
import Derived.Test.YtlpkmghhmpkddaaDoorProg
import Derived.Test.YtlpkmghhmpkddaaDoorBase
namespace Go.Proofs.YtlpkmghhmpkddaaDoor
open Go.RowKit
set_option linter.unusedVariables false

/-- The form of a number: how many bits are 1 at its head; how many follow. -/
def ofK (n : Int) : Nat := if n = 0 then 0 else if -64 < n ∧ n ≤ 64 then 1 else if -256 < n ∧ n ≤ 256 then 2 else if -2048 < n ∧ n ≤ 2048 then 3 else 4
def wideK (k : Nat) : Int := match k with | 0 => 0 | 1 => 7 | 2 => 9 | 3 => 12 | _ => 64
def mostW (wd : Int) : Int := if wd = 7 then 64 else if wd = 9 then 256 else 2048
def hasB (wd n : Int) : Bool := if wd = 0 then decide (n = 0) else if wd = 64 then true else decide (-(mostW wd) < n ∧ n ≤ mostW wd)
def headV (k : Nat) : Int := match k with | 0 => 0 | 1 => 2 | 2 => 6 | 3 => 14 | _ => 15
def headN (k : Nat) : Int := match k with | 0 => 1 | 1 => 2 | 2 => 3 | _ => 4
def sizeN (n : Int) : Int := headN (ofK n) + wideK (ofK n)
def formsL : List (Int × Int) := [(0, 0), (1, 7), (2, 9), (3, 12), (4, 64)]

theorem ofK_le (n : Int) : ofK n ≤ 4 := by unfold ofK; repeat' split
                                           all_goals omega
theorem forms_get (k : Nat) (hk : k ≤ 4) : formsL[k]? = some ((k : Int), wideK k) := by
  rcases k with _ | _ | _ | _ | _ | k
  · rfl
  · rfl
  · rfl
  · rfl
  · rfl
  · omega
theorem hasB_of (n : Int) : hasB (wideK (ofK n)) n = true := by
  unfold ofK
  split
  · rename_i h; simp [wideK, hasB, h]
  · split
    · rename_i h; simp [wideK, hasB, mostW]; omega
    · split
      · rename_i h; simp [wideK, hasB, mostW]; omega
      · split
        · rename_i h; simp [wideK, hasB, mostW]; omega
        · simp [wideK, hasB]
theorem hasB_before (n : Int) (k : Nat) (h : k < ofK n) : hasB (wideK k) n = false := by
  have h4 := ofK_le n
  have hc : (k = 0 ∨ k = 1 ∨ k = 2 ∨ k = 3) := by omega
  unfold ofK at h
  split at h
  · omega
  · rename_i h0
    split at h
    · obtain rfl : k = 0 := by omega
      simp [wideK, hasB, h0]
    · rename_i h1
      split at h
      · rcases hc with rfl | rfl | rfl | rfl
        · simp [wideK, hasB, h0]
        · simp [wideK, hasB, mostW]; omega
        · omega
        · omega
      · rename_i h2
        split at h
        · rcases hc with rfl | rfl | rfl | rfl
          · simp [wideK, hasB, h0]
          · simp [wideK, hasB, mostW]; omega
          · simp [wideK, hasB, mostW]; omega
          · omega
        · rename_i h3
          rcases hc with rfl | rfl | rfl | rfl
          · simp [wideK, hasB, h0]
          · simp [wideK, hasB, mostW]; omega
          · simp [wideK, hasB, mostW]; omega
          · simp [wideK, hasB, mostW]; omega

def formCells : Array Value := #[.int .i64 0, .int .i64 0, .int .i64 1, .int .i64 7, .int .i64 2, .int .i64 9, .int .i64 3, .int .i64 12, .int .i64 4, .int .i64 64]
theorem headN_bd (k : Nat) : 1 ≤ headN k ∧ headN k ≤ 4 := by unfold headN; split <;> omega
theorem wideK_bd (k : Nat) : 0 ≤ wideK k ∧ wideK k ≤ 64 := by unfold wideK; split <;> omega
end Go.Proofs.YtlpkmghhmpkddaaDoor
