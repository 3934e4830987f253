/- The reference's Bare and Fine. -/
import Derived.Test.YtfkklcmepcocoaaGreatDoorLabF
namespace Go.Proofs.YtfkklcmepcocoaaGreatDoor
open Go.RowKit
set_option linter.unusedVariables false

theorem res_bare (tmps : Array Value) (W : World) (b : Nat) (v0 v1 : Value) (ha : tmps.getD 2 undef = .pointer (some ⟨b, 0, none⟩)) (hB : Blk W b 57 #[v0, v1]) :
    (results Tryz.f62 tmps).run Tryz.prog W = .ok (.agg #[v0, v1]) W := by
  obtain ⟨z0, z1⟩ := hB.duo2
  simp only [Array.getD_eq_getD_getElem?] at ha
  simp [results, Tryz.results62, go_sem, ha, z0, z1]
theorem bare_any (k : Int) (w : World) : Calls Tryz.prog 62 #[.int .i64 k] w fun e w' => e = .returned (.agg #[.int .i64 k, .int .i64 (-1)]) ∧ Below w.heap.size w w' := by
  go_enter Tryz.func62, Tryz.ntmps62
  go_wp2
  (try simp only [Exit.inBlock, Exit.then])
  have HB := Blk.new w 57 #[.int .i64 k, .int .i64 (-1)]
  refine bodyPost_ret (res_bare _ _ w.heap.size _ _ rfl HB) rfl ?_
  exact ⟨rfl, by go_grown⟩
theorem res_fine (tmps : Array Value) (W : World) (b : Nat) (v0 v1 : Value) (ha : tmps.getD 0 undef = .pointer (some ⟨b, 0, none⟩)) (hB : Blk W b 57 #[v0, v1]) :
    (results Tryz.f63 tmps).run Tryz.prog W = .ok (.agg #[v0, v1]) W := by
  obtain ⟨z0, z1⟩ := hB.duo2
  simp only [Array.getD_eq_getD_getElem?] at ha
  simp [results, Tryz.results63, go_sem, ha, z0, z1]
theorem fine_any (w : World) : Calls Tryz.prog 63 #[] w fun e w' => e = .returned (.agg #[.int .i64 0, .int .i64 (-1)]) ∧ Below w.heap.size w w' := by
  go_enter Tryz.func63, Tryz.ntmps63
  go_wp2
  (try simp only [Exit.inBlock, Exit.then])
  have HB := Blk.new w 57 #[.int .i64 0, .int .i64 (-1)]
  refine bodyPost_ret (res_fine _ _ w.heap.size _ _ rfl HB) rfl ?_
  exact ⟨rfl, by go_grown⟩
end Go.Proofs.YtfkklcmepcocoaaGreatDoor
