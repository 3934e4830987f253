/- sameSum of two equal sums; the closed fact summed; points' cells. -/
import Derived.Test.YtiohnehccmbplaaDoorSumsRef
namespace Go.Proofs.YtiohnehccmbplaaDoor
open Go.RowKit
set_option linter.unusedVariables false

theorem bitsOf_append (a b : List (Int × Int)) : bitsOf (a ++ b) = bitsOf a ++ bitsOf b := by simp [bitsOf]
theorem bitsOf_length (a : List (Int × Int)) : (bitsOf a).length = a.length := by simp [bitsOf]
theorem infoPoint : (Tryd.prog.info? 102).map (fun i => (i.zero, i.size, i.bytes)) = some (some (.agg #[.int .i64 0, .int .u64 0]), 2, 16) := by kernel_rfl
theorem pcells_one (ps : List (Int × Int)) : ∀ u ∈ ps.flatMap (fun p => [Value.int .i64 p.1, Value.int .u64 p.2]), u.oneCell' = true := by
  intro u hu
  obtain ⟨p, _, hp⟩ := List.mem_flatMap.1 hu
  simp at hp
  rcases hp with rfl | rfl <;> rfl
theorem keep5 {B : Nat} {w w' : World} {a1 a2 a3 a4 a5 : Addr} {v1 v2 v3 v4 v5 : Value} (hb : Below B w w') (h1 : a1.block < B) (h2 : a2.block < B) (h3 : a3.block < B) (h4 : a4.block < B) (h5 : a5.block < B)
    (h : w.cell? a1 = some v1 ∧ w.cell? a2 = some v2 ∧ w.cell? a3 = some v3 ∧ w.cell? a4 = some v4 ∧ w.cell? a5 = some v5) :
    w'.cell? a1 = some v1 ∧ w'.cell? a2 = some v2 ∧ w'.cell? a3 = some v3 ∧ w'.cell? a4 = some v4 ∧ w'.cell? a5 = some v5 := by
  rw [hb.cell h1, hb.cell h2, hb.cell h3, hb.cell h4, hb.cell h5]; exact h
theorem ofS_53 : ofS [5, 3] = ⟨2, 3, 5, 3, 8⟩ := rfl
/-- Of two equal sums. -/
theorem same_any (s : Sm) (w : World) :
    Calls Tryd.prog 26 #[.agg #[.int .i64 s.c, .int .u64 s.lo, .int .u64 s.hi, .int .u64 s.la, .int .u64 s.to], .agg #[.int .i64 s.c, .int .u64 s.lo, .int .u64 s.hi, .int .u64 s.la, .int .u64 s.to]] w fun e w' => e = .returned (.bool true) ∧ Below w.heap.size w w' := by
  go_enter Tryd.func26, Tryd.ntmps26
  go_wp2
  go_ret
  refine ⟨rfl, ?_⟩
  go_grown
set_option maxHeartbeats 400000 in
theorem summed_any (w : World) : Calls Tryd.prog 23 #[] w fun e w' => e = .returned (.bool true) ∧ Below w.heap.size w w' := by
  go_enter Tryd.func23, Tryd.ntmps23
  go_wp2_with fail
  have hA : Rd (w.alloc (.cells #[.int .i64 1, .int .u64 5, .int .i64 2, .int .u64 3] 102)) (w.alloc (.cells #[.int .i64 1, .int .u64 5, .int .i64 2, .int .u64 3] 102)).heap.size 2 (some ⟨w.heap.size, 0, none⟩) 2 ([((1 : Int), (5 : Int)), (2, 3)].flatMap fun p => [.int .i64 p.1, .int .u64 p.2]) :=
    ⟨rfl, fun _ => ⟨_, _, rfl, by simp, fun j u hj => by
      have := (Blk.new w 102 #[.int .i64 1, .int .u64 5, .int .i64 2, .int .u64 3]).cell j
      rw [Nat.zero_add, this]
      simpa using hj⟩⟩
  refine (of_any _ 2 2 [(1, 5), (2, 3)] _ hA (by omega)).mono ?_
  have e0 : bitsOf [((1 : Int), (5 : Int)), (2, 3)] = [5, 3] := rfl
  rw [e0, ofS_53]
  rintro e w1 ⟨rfl, hb⟩
  have hb := Lib.hid hb
  clear hA e0
  go_wp2
  go_ret
  exact ⟨rfl, Below.alloc (Below.call (Below.alloc (Below.refl _ _) (Nat.le_refl _) _) hb.out (by simp)) (by have := hb.out.size; simp at this; omega) _⟩
end Go.Proofs.YtiohnehccmbplaaDoor
