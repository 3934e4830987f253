/- chunk.Between, the reference's BetweenOf and OwnPoints by contracts, for up to a hundred thousand points. -/
import Derived.Test.YtfkklcmepcocoaaDoorChecked
import Derived.Test.YtfkklcmepcocoaaDoorBase
import Derived.Test.YtfkklcmepcocoaaDoorMhad
namespace Go.Proofs.YtfkklcmepcocoaaDoor
open Go.RowKit
set_option linter.unusedVariables false

abbrev ptsC (ps : List (Int × Int)) : List Value := ps.flatMap fun p => [.int .i64 p.1, .int .u64 p.2]
theorem infoPt : (Tryd.prog.info? 34).map (fun i => (i.zero, i.size, i.bytes)) = some (some (.agg #[.int .i64 0, .int .u64 0]), 2, 16) := by kernel_rfl
theorem ptsC_one (ps : List (Int × Int)) : ∀ u ∈ ptsC ps, u.oneCell' = true := by
  intro u hu
  obtain ⟨p, _, hp⟩ := List.mem_flatMap.1 hu
  simp at hp
  rcases hp with rfl | rfl <;> rfl
/-- One point laid in a block of its own reads as that point. -/
theorem Rd.one2 (w : World) (t : TypeId) (y : Int × Int) : Rd (w.alloc (.cells #[.int .i64 y.1, .int .u64 y.2] t)) (w.alloc (.cells #[.int .i64 y.1, .int .u64 y.2] t)).heap.size 2 (some ⟨w.heap.size, 0, none⟩) 1 (ptsC [y]) :=
  ⟨rfl, fun _ => ⟨_, _, rfl, by simp, fun j v hv => by rw [Nat.zero_add, (Blk.new w _ _).cell]; simpa [ptsC] using hv⟩⟩
def betL (f t : Int) (ps : List (Int × Int)) : List (Int × Int) := ps.filter fun p => decide (f ≤ p.1) && decide (p.1 ≤ t)
theorem betL_in {f t : Int} {ps : List (Int × Int)} {k : Nat} {y : Int × Int} (h : ps[k]? = some y) (h1 : f ≤ y.1) (h2 : y.1 ≤ t) : betL f t (ps.take (k + 1)) = betL f t (ps.take k) ++ [y] := by
  rw [take_snoc h, betL, List.filter_append]; simp [betL, h1, h2]
theorem betL_out {f t : Int} {ps : List (Int × Int)} {k : Nat} {y : Int × Int} (h : ps[k]? = some y) (h1 : ¬ (f ≤ y.1 ∧ y.1 ≤ t)) : betL f t (ps.take (k + 1)) = betL f t (ps.take k) := by
  have h2 : (decide (f ≤ y.1) && decide (y.1 ≤ t)) = false := by
    rw [← Bool.decide_and]; exact decide_eq_false h1
  rw [take_snoc h, betL, List.filter_append]
  simp only [betL, List.filter_cons, h2, List.filter_nil]
  simp
theorem betL_le (f t : Int) (ps : List (Int × Int)) : (betL f t ps).length ≤ ps.length := List.length_filter_le _ _
theorem betL_take_le (f t : Int) (ps : List (Int × Int)) (k : Nat) : (betL f t (ps.take k)).length ≤ k := Nat.le_trans (betL_le _ _ _) (List.length_take_le _ _)
theorem betL_mem {f t : Int} {ps : List (Int × Int)} {p : Int × Int} (h : p ∈ betL f t ps) : p ∈ ps := (List.mem_filter.1 h).1

/-- A round that appends the point y: what it leaves. -/
theorem bet_append {w wr wx wa : World} {v v' : Value} {m : Nat} {l : List (Int × Int)} {y : Int × Int} (hown : wr.ownsRow w.heap.size 34 2 v m (ptsC l)) (hbel : Below w.heap.size w wx) (hx : wr.heap.size ≤ wx.heap.size)
    (hown' : wa.ownsRow w.heap.size 34 2 v' (m + 1) (ptsC l ++ ptsC [y])) (hgr : wx.grownBy wa v.ownBlock) (hw : w.heap.size ≤ wr.heap.size) : wa.ownsRow w.heap.size 34 2 v' (m + 1) (ptsC (l ++ [y])) ∧ Below w.heap.size w wa :=
  ⟨by rw [ptsC, List.flatMap_append]; exact hown', Below.grown hbel hgr (by omega) (fun g hg => (own_lt hown g hg).1)⟩

end Go.Proofs.YtfkklcmepcocoaaDoor

namespace Go.Proofs.YtfkklcmepcocoaaDoor
open Go.RowKit
set_option linter.unusedVariables false

def Tick (t : Int) : Prop := -1099511627776 ≤ t ∧ t ≤ 1099511627776
/-- What is put of tick number k. -/
def stepAt (l : List Int) (k : Nat) : Int := if k = 0 then l.getD 0 0 else if k = 1 then l.getD 1 0 - l.getD 0 0 else l.getD k 0 - l.getD (k - 1) 0 - (l.getD (k - 1) 0 - l.getD (k - 2) 0)
def stepsL (l : List Int) : List Int := (List.range l.length).map (stepAt l)
theorem stepsL_len (l : List Int) : (stepsL l).length = l.length := by simp [stepsL]
theorem stepsL_get (l : List Int) (k : Nat) (h : k < l.length) : (stepsL l)[k]? = some (stepAt l k) := by simp [stepsL, h]
theorem getD_of {l : List Int} {k : Nat} {y : Int} (h : l[k]? = some y) : l.getD k 0 = y := by rw [List.getD_eq_getElem?_getD, h]; rfl
theorem int_one (xs : List Int) : ∀ u ∈ xs.map (Value.int .i64), u.oneCell' = true := by
  intro u hu
  obtain ⟨x, _, rfl⟩ := List.mem_map.1 hu
  rfl
theorem infoInt : (Tryd.prog.info? 3).map (fun i => (i.zero, i.size, i.bytes)) = some (some (.int .i64 0), 1, 8) := by kernel_rfl

/-- One element laid in a block of its own reads as that element. -/
theorem Rd.one (w : World) (t : TypeId) (u : Value) : Rd (w.alloc (.cells #[u] t)) (w.alloc (.cells #[u] t)).heap.size 1 (some ⟨w.heap.size, 0, none⟩) 1 [u] :=
  ⟨rfl, fun _ => ⟨_, _, rfl, by simp, fun j v hv => by rw [Nat.zero_add, (Blk.new w _ _).cell]; simpa using hv⟩⟩

end Go.Proofs.YtfkklcmepcocoaaDoor

namespace Go.Proofs.YtfkklcmepcocoaaDoor
open Go.RowKit
set_option linter.unusedVariables false

def wavesL (l : List Int) : List Bool := l.flatMap waveBits
def ticksBits (l : List Int) : List Bool := wavesL (stepsL l)
theorem wavesL_next {l : List Int} {k : Nat} {y : Int} (h : l[k]? = some y) : wavesL (l.take (k + 1)) = wavesL (l.take k) ++ waveBits y := by
  rw [take_snoc h]; simp [wavesL]
theorem wavesL_take (l : List Int) (k : Nat) : (wavesL (l.take k)).length ≤ (wavesL l).length := by
  have : wavesL l = wavesL (l.take k) ++ wavesL (l.drop k) := by unfold wavesL; rw [← List.flatMap_append, List.take_append_drop]
  rw [this, List.length_append]; omega

end Go.Proofs.YtfkklcmepcocoaaDoor
