/- The closed fact masked: it returns true. -/
import Derived.Test.YtiohnehccmbplaaDoorMaskPut
namespace Go.Proofs.YtiohnehccmbplaaDoor
open Go.RowKit
set_option linter.unusedVariables false

theorem mask55 : (maskB [5, 5]).length = 65 := by decide +kernel
theorem mask55' : (((([] : List Bool) ++ maskB [5, 5]).length : Nat) : Int) = 65 := by rw [List.nil_append, mask55]; rfl
theorem mask13 : ((sumN (mP [1, 3] 2) : Nat) : Int) = 109 := by decide +kernel
theorem Rd.two (w : World) (t : TypeId) (u v : Value) : Rd (w.alloc (.cells #[u, v] t)) (w.alloc (.cells #[u, v] t)).heap.size 1 (some ⟨w.heap.size, 0, none⟩) 2 [u, v] :=
  ⟨rfl, fun _ => ⟨_, _, rfl, by simp, fun j x hx => by rw [Nat.zero_add, (Blk.new w _ _).cell]; simpa using hx⟩⟩
set_option maxHeartbeats 1000000 in
theorem masked_any (w : World) (hT : TabAt w) : Calls Tryd.prog 52 #[] w fun e w' => e = .returned (.bool true) ∧ Below w.heap.size w w' := by
  have HT := Lib.hid hT
  clear hT
  go_enter Tryd.func52, Tryd.ntmps52
  go_wp2_with fail
  refine (new_any _).mono ?_
  rintro e w1 ⟨rfl, hw1⟩
  have hr1 : RowAt w1 w.heap.size (.slice none 0 0) [] := by rw [hw1]; exact new_row w
  have hb1 : Below w.heap.size w w1 := by rw [hw1]; go_grown
  have Hr1 := Lib.hid (hr1.alloc (.cells #[.int .u64 5, .int .u64 5] 42)); have Hb1 := Lib.hid hb1
  have Hb2 := Lib.hid (Below.alloc hb1 hb1.size (.cells #[.int .u64 5, .int .u64 5] 42))
  clear hw1 hr1 hb1
  go_wp2_with fail
  refine (mput_ok _ _ [] _ 2 2 [5, 5] _ Hr1.out (HT.out.call Hb2.out (Nat.le_refl _)) (Rd.two w1 42 (.int .u64 5) (.int .u64 5)) (by omega) (by decide) (by rw [mask55]; decide)).mono ?_
  rintro e w2 ⟨rfl, hst⟩
  have hb2 := Below.trans Hb2.out (hst.below (B := w.heap.size) Hr1.out (Nat.le_refl _))
  obtain ⟨bv2, hr2, _, _⟩ := hst
  have Hr2 := Lib.hid hr2; have Hb3 := Lib.hid hb2
  clear hr2 hb2
  go_wp2_with fail
  refine (len_any _ _ _ _ Hr2.out).mono ?_
  rintro e w' ⟨rfl, rfl⟩
  rw [mask55']
  have Hb4 := Lib.hid (Below.alloc Hb3.out Hb3.out.size (.cells #[.int .u64 1, .int .u64 3] 42))
  go_wp2_with fail
  refine (msize_any _ 2 2 [1, 3] _ (HT.out.call Hb4.out (Nat.le_refl _)) (Rd.two w2 42 (.int .u64 1) (.int .u64 3)) (by omega) (by decide)).mono ?_
  rintro e w4 ⟨rfl, hb⟩
  rw [mask13]
  have Hb5 := Lib.hid (Below.call Hb4.out hb Hb4.out.size); clear hb
  go_wp2
  go_ret
  exact ⟨rfl, Hb5.out⟩
end Go.Proofs.YtiohnehccmbplaaDoor
