/- An argument of int, opened. -/
import Derived.Test.YtiohnehccmbplaaDoorChecked
import Derived.Test.YtiohnehccmbplaaDoorOpen
namespace Go.Proofs.YtiohnehccmbplaaDoor
open Go.RowKit Go.ChangeShapes Go.WideShapes Go.ChangeAt
set_option linter.unusedVariables false

theorem oi_cellsInt : Tryd.prog.cellsOf 3 = 1 := by kernel_rfl
theorem oi_bytesInt : Tryd.prog.bytesOf 3 = 8 := by kernel_rfl
theorem i64_of_wf {n : Int} (h : (Lit.int IntKind.i64 n).wf) : -9223372036854775808 ≤ n ∧ n ≤ 9223372036854775807 := by
  simpa [Lit.wf, IntKind.min, IntKind.max, IntKind.signed, IntKind.bits] using h
section
variable {H : Type} {enc : TypeId × Value → H} {w : World} {base : Nat} {spare : Nat → Bool} {held : Bool}
set_option maxRecDepth 100000 in
theorem open_ints64 {fuel : Nat} {cs : List Value} {x : DataW H × List MemPlace} (h : DataW.trod enc Tryd.prog w base spare held fuel 24 cs = some x)
    (hw : (x.1.weights Tryd.prog 24).all (· ≤ reachBytes) = true) :
    ∃ (A : Option Addr) (n c : Nat) (xs : List Int), cs = [.slice A n c] ∧ n ≤ 140737488351232 ∧ n ≤ c ∧ c ≤ maxLen ∧ Rd w w.heap.size 1 A n (xs.map (Value.int .i64)) ∧ ∀ x ∈ xs, -9223372036854775808 ≤ x ∧ x ≤ 9223372036854775807 := by
  obtain ⟨A, cap, ys, rfl, hc, hm, hys, hrd, hx⟩ := open_rd Tryd.underlying24 oi_cellsInt (by omega) h
  have hxs : ∃ xs : List Int, ys.map (·.1) = xs.map (fun p => [Value.int .i64 p]) ∧ ∀ x ∈ xs, -9223372036854775808 ≤ x ∧ x ≤ 9223372036854775807 := by
    clear hx hrd hc h hw
    induction ys with
    | nil => exact ⟨[], rfl, by simp⟩
    | cons y ys ih =>
      obtain ⟨xs, e, hxs⟩ := ih (fun z hz => hys z (by simp [hz]))
      obtain ⟨hl, m, q, hq⟩ := hys y (by simp)
      obtain ⟨a, e0, _, wa⟩ := DataW.trod_int Tryd.underlying3 hq
      have e1 : y.1 = [Value.int .i64 a] := by
        match hy : y.1, hl with
        | [c0], _ => rw [hy] at e0; simpa using e0
      exact ⟨a :: xs, by simp [e1, e], by intro z hz; rcases List.mem_cons.1 hz with rfl | hz; exact i64_of_wf wa; exact hxs z hz⟩
  obtain ⟨xs, e, hxs⟩ := hxs
  refine ⟨A, ys.length, cap, xs, rfl, ?_, hc, hm, ?_, hxs⟩
  · rcases hx with ⟨_, rfl⟩ | ⟨sp, hx⟩
    · simp
    · rw [hx] at hw
      have := (weights_slice Tryd.underlying24 hw).1
      rw [oi_bytesInt] at this
      simp only [List.length_map, reachBytes] at this
      omega
  · have : ys.flatMap (·.1) = xs.map (Value.int .i64) := by
      rw [List.flatMap_def, e, ← List.flatMap_def]
      clear e hxs
      induction xs with
      | nil => rfl
      | cons a xs ih => simp [ih]
    rw [← this]; exact hrd
end
end Go.Proofs.YtiohnehccmbplaaDoor
