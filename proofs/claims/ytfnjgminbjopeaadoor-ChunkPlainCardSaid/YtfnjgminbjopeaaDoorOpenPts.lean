/- An argument of points, opened. -/
import Derived.Test.YtfnjgminbjopeaaDoorSums
import Derived.Test.YtfnjgminbjopeaaDoorOpen
namespace Go.Proofs.YtfnjgminbjopeaaDoor
open Go.RowKit Go.ChangeShapes Go.WideShapes Go.ChangeAt
set_option linter.unusedVariables false

theorem cellsPoint : Tryd.prog.cellsOf 33 = 2 := by kernel_rfl
theorem cellsInt : Tryd.prog.cellsOf 3 = 1 := by kernel_rfl
theorem cellsU64 : Tryd.prog.cellsOf 31 = 1 := by kernel_rfl
theorem bytesPoint : Tryd.prog.bytesOf 33 = 16 := by kernel_rfl

section
variable {H : Type} {enc : TypeId × Value → H} {w : World} {base : Nat} {spare : Nat → Bool} {held : Bool}
set_option maxRecDepth 100000 in
/-- A point's two cells. -/
theorem open_point {fuel : Nat} {cs : List Value} {x : DataW H × List MemPlace} (h : DataW.trod enc Tryd.prog w base spare held fuel 33 cs = some x) :
    ∃ p : Int × Int, cs = [.int .i64 p.1, .int .u64 p.2] ∧ Word p.2 := by
  obtain ⟨y0, y1, n, rfl, hl, h0, h1⟩ := trod_struct2 Tryd.underlying33 h
  rw [cellsPoint] at hl
  match cs, hl with
  | [c0, c1], _ =>
    simp only [cellsInt, cellsU64, List.drop_zero, List.take_succ_cons, List.take_zero, List.drop_succ_cons] at h0 h1
    obtain ⟨a, e0, _, _⟩ := DataW.trod_int Tryd.underlying3 h0
    obtain ⟨b, e1, _, wb⟩ := DataW.trod_int Tryd.underlying31 h1
    simp only [List.cons.injEq, and_true] at e0 e1
    subst e0; subst e1
    refine ⟨(a, b), rfl, ?_⟩
    have : 0 ≤ b ∧ b ≤ 18446744073709551615 := by simpa [Lit.wf, IntKind.min, IntKind.max, IntKind.signed, IntKind.bits] using wb
    exact ⟨this.1, by dsimp only; omega⟩
set_option maxRecDepth 100000 in
/-- A slice of points, opened. -/
theorem open_points {fuel : Nat} {cs : List Value} {x : DataW H × List MemPlace} (h : DataW.trod enc Tryd.prog w base spare held fuel 22 cs = some x)
    (hw : (x.1.weights Tryd.prog 22).all (· ≤ reachBytes) = true) :
    ∃ (A : Option Addr) (n c : Nat) (ps : List (Int × Int)), cs = [.slice A n c] ∧ n ≤ 140737488351232 ∧ n ≤ c ∧ c ≤ maxLen ∧ Rd w w.heap.size 2 A n (ps.flatMap fun p => [.int .i64 p.1, .int .u64 p.2]) ∧ ∀ p ∈ ps, Word p.2 := by
  obtain ⟨A, cap, ys, rfl, hc, hm, hys, hrd, hx⟩ := open_rd Tryd.underlying22 cellsPoint (by omega) h
  have hpts : ∃ ps : List (Int × Int), ys.map (·.1) = ps.map (fun p => [Value.int .i64 p.1, Value.int .u64 p.2]) ∧ ∀ p ∈ ps, Word p.2 := by
    clear hx hrd hc h hw
    induction ys with
    | nil => exact ⟨[], rfl, by simp⟩
    | cons y ys ih =>
      obtain ⟨ps, e, hps⟩ := ih (fun z hz => hys z (by simp [hz]))
      obtain ⟨_, m, q, hq⟩ := hys y (by simp)
      obtain ⟨p, hp, hpw⟩ := open_point hq
      exact ⟨p :: ps, by simp [hp, e], by intro z hz; rcases List.mem_cons.1 hz with rfl | hz; exact hpw; exact hps z hz⟩
  obtain ⟨ps, e, hps⟩ := hpts
  refine ⟨A, ys.length, cap, ps, rfl, ?_, hc, hm, ?_, hps⟩
  · rcases hx with ⟨_, rfl⟩ | ⟨sp, hx⟩
    · simp
    · rw [hx] at hw
      have := (weights_slice Tryd.underlying22 hw).1
      rw [bytesPoint] at this
      simp only [List.length_map, reachBytes] at this
      omega
  · have : ys.flatMap (·.1) = ps.flatMap (fun p => [Value.int .i64 p.1, Value.int .u64 p.2]) := by
      rw [List.flatMap_def, List.flatMap_def, e]
    rw [← this]; exact hrd
end
end Go.Proofs.YtfnjgminbjopeaaDoor
