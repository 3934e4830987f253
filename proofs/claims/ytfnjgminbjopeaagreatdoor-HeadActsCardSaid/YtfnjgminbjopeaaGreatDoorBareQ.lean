/- The reference's Bare and Fine. -/
import Derived.Test.YtfnjgminbjopeaaGreatDoorLabFQ
namespace Go.Proofs.YtfnjgminbjopeaaGreatDoor
open Go.RowKit
set_option linter.unusedVariables false

theorem res_bare (tmps : Array Value) (W : World) (b : Nat) (v0 v1 : Value) (ha : tmps.getD 2 undef = .pointer (some ⟨b, 0, none⟩)) (hB : Blk W b 40 #[v0, v1]) :
    (results Tryz.f34 tmps).run Tryz.prog W = .ok (.agg #[v0, v1]) W := by
  obtain ⟨z0, z1⟩ := hB.duo2
  simp only [Array.getD_eq_getD_getElem?] at ha
  simp [results, Tryz.results34, go_sem, ha, z0, z1]
theorem bare_any (k : Int) (w : World) : Calls Tryz.prog 34 #[.int .i64 k] w fun e w' => e = .returned (.agg #[.int .i64 k, .int .i64 (-1)]) ∧ Below w.heap.size w w' := by
  go_enter Tryz.func34, Tryz.ntmps34
  go_wp2
  (try simp only [Exit.inBlock, Exit.then])
  have HB := Blk.new w 40 #[.int .i64 k, .int .i64 (-1)]
  refine bodyPost_ret (res_bare _ _ w.heap.size _ _ rfl HB) rfl ?_
  exact ⟨rfl, by go_grown⟩
theorem res_fine (tmps : Array Value) (W : World) (b : Nat) (v0 v1 : Value) (ha : tmps.getD 0 undef = .pointer (some ⟨b, 0, none⟩)) (hB : Blk W b 40 #[v0, v1]) :
    (results Tryz.f35 tmps).run Tryz.prog W = .ok (.agg #[v0, v1]) W := by
  obtain ⟨z0, z1⟩ := hB.duo2
  simp only [Array.getD_eq_getD_getElem?] at ha
  simp [results, Tryz.results35, go_sem, ha, z0, z1]
theorem fine_any (w : World) : Calls Tryz.prog 35 #[] w fun e w' => e = .returned (.agg #[.int .i64 0, .int .i64 (-1)]) ∧ Below w.heap.size w w' := by
  go_enter Tryz.func35, Tryz.ntmps35
  go_wp2
  (try simp only [Exit.inBlock, Exit.then])
  have HB := Blk.new w 40 #[.int .i64 0, .int .i64 (-1)]
  refine bodyPost_ret (res_fine _ _ w.heap.size _ _ rfl HB) rfl ?_
  exact ⟨rfl, by go_grown⟩
end Go.Proofs.YtfnjgminbjopeaaGreatDoor
