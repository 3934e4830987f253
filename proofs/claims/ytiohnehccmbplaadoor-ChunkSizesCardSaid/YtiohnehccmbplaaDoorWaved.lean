/- The closed fact waved: it returns true. -/
import Derived.Test.YtiohnehccmbplaaDoorTicksOk
namespace Go.Proofs.YtiohnehccmbplaaDoor
open Go.RowKit
set_option linter.unusedVariables false

theorem size64 : sizeN 64 = 9 := by decide
theorem len10 : (((([] : List Bool) ++ waveBits 0) ++ waveBits 1).length : Int) = 10 := by
  have h0 := waveBits_len 0
  have h1 := waveBits_len 1
  have e0 : sizeN 0 = 1 := by decide
  have e1 : sizeN 1 = 9 := by decide
  simp only [List.length_append, List.length_nil]
  omega
set_option maxHeartbeats 1000000 in
theorem waved_any (w : World) : Calls Tryd.prog 14 #[] w fun e w' => e = .returned (.bool true) ∧ Below w.heap.size w w' := by
  go_enter Tryd.func14, Tryd.ntmps14
  go_wp2_with fail
  refine (new_any _).mono ?_
  rintro e w1 ⟨rfl, hw1⟩
  have hr1 : RowAt w1 w.heap.size (.slice none 0 0) [] := by rw [hw1]; exact new_row w
  have hb1 : Below w.heap.size w w1 := by rw [hw1]; go_grown
  have Hr1 := Lib.hid hr1; have Hb1 := Lib.hid hb1
  clear hw1 hr1 hb1
  go_wp2_with fail
  refine (wput_ok _ _ [] 0 w1 Hr1.out (by decide)).mono ?_
  rintro e w2 ⟨rfl, hst⟩
  have hb2 := Below.trans Hb1.out (hst.below Hr1.out (Nat.le_refl _))
  obtain ⟨bv2, hr2, _, _⟩ := hst
  have Hr2 := Lib.hid hr2; have Hb2 := Lib.hid hb2
  clear hr2 hb2
  go_wp2_with fail
  refine (wput_ok _ _ _ 1 w2 Hr2.out (by
    have h0 := waveBits_len 0
    have e0 : sizeN 0 = 1 := by decide
    have e1 : sizeN 1 = 9 := by decide
    simp only [List.length_append, List.length_nil]; omega)).mono ?_
  rintro e w3 ⟨rfl, hst⟩
  have hb3 := Below.trans Hb2.out (hst.below Hr2.out (Nat.le_refl _))
  obtain ⟨bv3, hr3, _, _⟩ := hst
  have Hr3 := Lib.hid hr3; have Hb3 := Lib.hid hb3
  clear hr3 hb3
  go_wp2_with fail
  refine (len_any _ _ _ w3 Hr3.out).mono ?_
  rintro e w' ⟨rfl, rfl⟩
  rw [len10]
  go_wp2_with fail
  refine (size_any 64 _).mono ?_
  rintro e w4 ⟨rfl, hb4⟩
  rw [size64]
  have Hb4 := Lib.hid hb4; clear hb4
  go_wp2
  go_ret
  exact ⟨rfl, Below.call Hb3.out Hb4.out Hb3.out.size⟩
end Go.Proofs.YtiohnehccmbplaaDoor
