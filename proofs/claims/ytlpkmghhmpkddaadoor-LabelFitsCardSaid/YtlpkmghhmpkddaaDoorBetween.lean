/- chunk.Between, the reference's BetweenOf and OwnPoints by contracts, for up to a hundred thousand points. -/
import Derived.Test.YtlpkmghhmpkddaaDoorChecked
import Derived.Test.YtlpkmghhmpkddaaDoorBase
namespace Go.Proofs.YtlpkmghhmpkddaaDoor
open Go.RowKit
set_option linter.unusedVariables false

abbrev ptsC (ps : List (Int × Int)) : List Value := ps.flatMap fun p => [.int .i64 p.1, .int .u64 p.2]
theorem ptsC_one (ps : List (Int × Int)) : ∀ u ∈ ptsC ps, u.oneCell' = true := by
  intro u hu
  obtain ⟨p, _, hp⟩ := List.mem_flatMap.1 hu
  simp at hp
  rcases hp with rfl | rfl <;> rfl
/-- One point laid in a block of its own reads as that point. -/
theorem Rd.one2 (w : World) (t : TypeId) (y : Int × Int) : Rd (w.alloc (.cells #[.int .i64 y.1, .int .u64 y.2] t)) (w.alloc (.cells #[.int .i64 y.1, .int .u64 y.2] t)).heap.size 2 (some ⟨w.heap.size, 0, none⟩) 1 (ptsC [y]) :=
  ⟨rfl, fun _ => ⟨_, _, rfl, by simp, fun j v hv => by rw [Nat.zero_add, (Blk.new w _ _).cell]; simpa [ptsC] using hv⟩⟩
def betL (f t : Int) (ps : List (Int × Int)) : List (Int × Int) := ps.filter fun p => decide (f ≤ p.1) && decide (p.1 ≤ t)
theorem betL_in {f t : Int} {ps : List (Int × Int)} {k : Nat} {y : Int × Int} (h : ps[k]? = some y) (h1 : f ≤ y.1) (h2 : y.1 ≤ t) : betL f t (ps.take (k + 1)) = betL f t (ps.take k) ++ [y] := by
  rw [take_snoc h, betL, List.filter_append]; simp [betL, h1, h2]
theorem betL_out {f t : Int} {ps : List (Int × Int)} {k : Nat} {y : Int × Int} (h : ps[k]? = some y) (h1 : ¬ (f ≤ y.1 ∧ y.1 ≤ t)) : betL f t (ps.take (k + 1)) = betL f t (ps.take k) := by
  have h2 : (decide (f ≤ y.1) && decide (y.1 ≤ t)) = false := by
    rw [← Bool.decide_and]; exact decide_eq_false h1
  rw [take_snoc h, betL, List.filter_append]
  simp only [betL, List.filter_cons, h2, List.filter_nil]
  simp
theorem betL_le (f t : Int) (ps : List (Int × Int)) : (betL f t ps).length ≤ ps.length := List.length_filter_le _ _
theorem betL_take_le (f t : Int) (ps : List (Int × Int)) (k : Nat) : (betL f t (ps.take k)).length ≤ k := Nat.le_trans (betL_le _ _ _) (List.length_take_le _ _)
theorem betL_mem {f t : Int} {ps : List (Int × Int)} {p : Int × Int} (h : p ∈ betL f t ps) : p ∈ ps := (List.mem_filter.1 h).1

end Go.Proofs.YtlpkmghhmpkddaaDoor
