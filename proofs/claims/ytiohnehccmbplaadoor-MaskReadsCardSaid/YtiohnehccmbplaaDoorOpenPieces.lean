/- An argument of pieces, opened. -/
import Derived.Test.YtiohnehccmbplaaDoorChecked
import Derived.Test.YtiohnehccmbplaaDoorOpen
namespace Go.Proofs.YtiohnehccmbplaaDoor
open Go.RowKit Go.ChangeShapes Go.WideShapes Go.ChangeAt
set_option linter.unusedVariables false

theorem op_cells : Tryd.prog.cellsOf 59 = 2 := by kernel_rfl
theorem op_cellsInt : Tryd.prog.cellsOf 3 = 1 := by kernel_rfl
theorem op_cellsU64 : Tryd.prog.cellsOf 42 = 1 := by kernel_rfl
theorem op_bytes : Tryd.prog.bytesOf 59 = 16 := by kernel_rfl
section
variable {H : Type} {enc : TypeId × Value → H} {w : World} {base : Nat} {spare : Nat → Bool} {held : Bool}
set_option maxRecDepth 100000 in
theorem open_piece {fuel : Nat} {cs : List Value} {x : DataW H × List MemPlace} (h : DataW.trod enc Tryd.prog w base spare held fuel 59 cs = some x) :
    ∃ p : Int × Int, cs = [.int .u64 p.1, .int .i64 p.2] ∧ 0 ≤ p.1 ∧ p.1 < 18446744073709551616 := by
  obtain ⟨y0, y1, n, rfl, hl, h0, h1⟩ := trod_struct2 Tryd.underlying59 h
  rw [op_cells] at hl
  match cs, hl with
  | [c0, c1], _ =>
    simp only [op_cellsInt, op_cellsU64, List.drop_zero, List.take_succ_cons, List.take_zero, List.drop_succ_cons] at h0 h1
    obtain ⟨a, e0, _, wa⟩ := DataW.trod_int Tryd.underlying42 h0
    obtain ⟨b, e1, _, _⟩ := DataW.trod_int Tryd.underlying3 h1
    simp only [List.cons.injEq, and_true] at e0 e1
    subst e0; subst e1
    refine ⟨(a, b), rfl, ?_⟩
    have : 0 ≤ a ∧ a ≤ 18446744073709551615 := by simpa [Lit.wf, IntKind.min, IntKind.max, IntKind.signed, IntKind.bits] using wa
    exact ⟨this.1, by dsimp only; omega⟩
set_option maxRecDepth 100000 in
theorem open_pieces {fuel : Nat} {cs : List Value} {x : DataW H × List MemPlace} (h : DataW.trod enc Tryd.prog w base spare held fuel 56 cs = some x)
    (hw : (x.1.weights Tryd.prog 56).all (· ≤ reachBytes) = true) :
    ∃ (A : Option Addr) (n c : Nat) (ps : List (Int × Int)), cs = [.slice A n c] ∧ n ≤ 140737488351232 ∧ n ≤ c ∧ c ≤ maxLen ∧ Rd w w.heap.size 2 A n (ps.flatMap fun p => [.int .u64 p.1, .int .i64 p.2]) ∧ ∀ p ∈ ps, 0 ≤ p.1 ∧ p.1 < 18446744073709551616 := by
  obtain ⟨A, cap, ys, rfl, hc, hm, hys, hrd, hx⟩ := open_rd Tryd.underlying56 op_cells (by omega) h
  have hpts : ∃ ps : List (Int × Int), ys.map (·.1) = ps.map (fun p => [Value.int .u64 p.1, Value.int .i64 p.2]) ∧ ∀ p ∈ ps, 0 ≤ p.1 ∧ p.1 < 18446744073709551616 := by
    clear hx hrd hc h hw
    induction ys with
    | nil => exact ⟨[], rfl, by simp⟩
    | cons y ys ih =>
      obtain ⟨ps, e, hps⟩ := ih (fun z hz => hys z (by simp [hz]))
      obtain ⟨_, m, q, hq⟩ := hys y (by simp)
      obtain ⟨p, hp, hpw⟩ := open_piece hq
      exact ⟨p :: ps, by simp [hp, e], by intro z hz; rcases List.mem_cons.1 hz with rfl | hz; exact hpw; exact hps z hz⟩
  obtain ⟨ps, e, hps⟩ := hpts
  refine ⟨A, ys.length, cap, ps, rfl, ?_, hc, hm, ?_, hps⟩
  · rcases hx with ⟨_, rfl⟩ | ⟨sp, hx⟩
    · simp
    · rw [hx] at hw
      have := (weights_slice Tryd.underlying56 hw).1
      rw [op_bytes] at this
      simp only [List.length_map, reachBytes] at this
      omega
  · have : ys.flatMap (·.1) = ps.flatMap (fun p => [Value.int .u64 p.1, Value.int .i64 p.2]) := by
      rw [List.flatMap_def, List.flatMap_def, e]
    rw [← this]; exact hrd
end
end Go.Proofs.YtiohnehccmbplaaDoor
