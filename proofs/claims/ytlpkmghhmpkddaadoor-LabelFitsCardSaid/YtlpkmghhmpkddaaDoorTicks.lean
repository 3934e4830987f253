/- wave's steps and Ticks by contracts: for right ticks, where there is room. -/
import Derived.Test.YtlpkmghhmpkddaaDoorWavePut
namespace Go.Proofs.YtlpkmghhmpkddaaDoor
open Go.RowKit
set_option linter.unusedVariables false

def Tick (t : Int) : Prop := -1099511627776 ≤ t ∧ t ≤ 1099511627776
/-- What is put of tick number k. -/
def stepAt (l : List Int) (k : Nat) : Int := if k = 0 then l.getD 0 0 else if k = 1 then l.getD 1 0 - l.getD 0 0 else l.getD k 0 - l.getD (k - 1) 0 - (l.getD (k - 1) 0 - l.getD (k - 2) 0)
def stepsL (l : List Int) : List Int := (List.range l.length).map (stepAt l)
theorem stepsL_len (l : List Int) : (stepsL l).length = l.length := by simp [stepsL]
theorem stepsL_get (l : List Int) (k : Nat) (h : k < l.length) : (stepsL l)[k]? = some (stepAt l k) := by simp [stepsL, h]
theorem getD_of {l : List Int} {k : Nat} {y : Int} (h : l[k]? = some y) : l.getD k 0 = y := by rw [List.getD_eq_getElem?_getD, h]; rfl
theorem int_one (xs : List Int) : ∀ u ∈ xs.map (Value.int .i64), u.oneCell' = true := by
  intro u hu
  obtain ⟨x, _, rfl⟩ := List.mem_map.1 hu
  rfl
theorem infoInt : (Tryd.prog.info? 3).map (fun i => (i.zero, i.size, i.bytes)) = some (some (.int .i64 0), 1, 8) := by kernel_rfl

/-- One element laid in a block of its own reads as that element. -/
theorem Rd.one (w : World) (t : TypeId) (u : Value) : Rd (w.alloc (.cells #[u] t)) (w.alloc (.cells #[u] t)).heap.size 1 (some ⟨w.heap.size, 0, none⟩) 1 [u] :=
  ⟨rfl, fun _ => ⟨_, _, rfl, by simp, fun j v hv => by rw [Nat.zero_add, (Blk.new w _ _).cell]; simpa using hv⟩⟩

end Go.Proofs.YtlpkmghhmpkddaaDoor
