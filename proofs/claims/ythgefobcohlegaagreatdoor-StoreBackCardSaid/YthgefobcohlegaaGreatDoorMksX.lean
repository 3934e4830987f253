/- slices.Concat of slices of rows by its contract. -/
import Derived.Test.YthgefobcohlegaaGreatDoorMkrX
import Derived.Test.YthgefobcohlegaaGreatDoorMkoX
import Derived.Test.YthgefobcohlegaaGreatDoorMkpX
import Derived.Deep.RegionHeld3
namespace Go.Proofs.YthgefobcohlegaaGreatDoor
open Go.RowKit
set_option linter.unusedVariables false

end Go.Proofs.YthgefobcohlegaaGreatDoor

namespace Go.Proofs.YthgefobcohlegaaGreatDoor
open Go.RowKit Go.Maps Go.Sort
set_option linter.unusedVariables false

theorem RowsRd.append {w : World} {base : Nat} {Au : Option Addr} {m cu : Nat} {ls : List RowV} (hown : w.ownsRow base 58 2 (.slice Au m cu) m (rowC ls)) (h : ∀ r ∈ ls, ∃ A' c', r.v = .slice A' r.pts.length c' ∧ Rd w w.heap.size 2 A' r.pts.length (ptsC r.pts)) : RowsRd w w.heap.size Au m ls := ⟨Rd.of_own hown, h⟩
theorem MapAt.new (w : World) : MapAt (w.alloc (.map #[] 0)) w.heap.size 0 (.map []) [] [] :=
  ⟨World.ownsMap_made w Tryz.prog 9 sliceR, DOfS.nil, CatM.nil, fun r h => by cases h⟩
theorem onceN_len : ∀ l : List Bs, (onceN l).length ≤ l.length
  | [] => Nat.le_refl _
  | b :: l => by
    unfold onceN
    have := onceN_len l
    split
    · rw [List.length_cons]; omega
    · rw [List.length_cons, List.length_cons]; omega
theorem srtN_len (l : List Rw) : (srtN l).length ≤ l.length := by
  unfold srtN
  rw [List.length_mergeSort]
  have := onceN_len (l.map Prod.fst)
  rw [List.length_map] at this
  exact this
theorem srtN_mem {l : List Rw} {s : Bs} : s ∈ srtN l ↔ ∃ r ∈ l, r.1 = s := by
  unfold srtN
  rw [List.mem_mergeSort, onceN_mem, List.mem_map]
end Go.Proofs.YthgefobcohlegaaGreatDoor
