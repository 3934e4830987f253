/- The closed fact rowed: it returns true. -/
import Derived.Test.YtiohnehccmbplaaDoorReader
namespace Go.Proofs.YtiohnehccmbplaaDoor
open Go.RowKit
set_option linter.unusedVariables false

theorem rowed_bytes : bytesOf (packN (([] : List Bool) ++ bitsN (5 : Int).toNat (3 : Int).toNat)) = ⟨#[160]⟩ := by
  have : packN (([] : List Bool) ++ bitsN (5 : Int).toNat (3 : Int).toNat) = [160] := by decide
  rw [this]; rfl
theorem rowed_len : ((([] : List Bool) ++ bitsN (5 : Int).toNat (3 : Int).toNat).length : Int) = 3 := by decide
set_option maxHeartbeats 1000000 in
theorem rowed_any (w : World) : Calls Tryd.prog 32 #[] w fun e w' => e = .returned (.bool true) ∧ Below w.heap.size w w' := by
  go_enter Tryd.func32, Tryd.ntmps32
  go_wp2_with fail
  refine (new_any _).mono ?_
  rintro e w1 ⟨rfl, hw1⟩
  have hr1 : RowAt w1 w.heap.size (.slice none 0 0) [] := by rw [hw1]; exact new_row w
  have hb1 : Below w.heap.size w w1 := by rw [hw1]; go_grown
  have Hr1 := Lib.hid hr1; have Hb1 := Lib.hid hb1
  clear hw1 hr1 hb1
  go_wp2_with fail
  refine (put_any _ _ [] 5 3 w1 Hr1.out (by omega) (by omega) (by decide) (by omega) (by omega)).mono ?_
  rintro e w2 ⟨rfl, hst⟩
  have hb2 : Below w.heap.size w w2 := Below.trans Hb1.out (hst.below Hr1.out (Nat.le_refl _))
  obtain ⟨bv2, hr2, _, _⟩ := hst
  have Hr2 := Lib.hid hr2; have Hb2 := Lib.hid hb2
  clear hr2 hb2
  go_wp2_with fail
  refine (len_any _ _ _ w2 Hr2.out).mono ?_
  rintro e w' ⟨rfl, rfl⟩
  rw [rowed_len]
  go_wp2_with fail
  refine (bytes_any _ _ _ w2 Hr2.out).mono ?_
  rintro e w' ⟨rfl, rfl⟩
  rw [rowed_bytes]
  go_wp2
  go_ret
  exact ⟨rfl, Hb2.out⟩
end Go.Proofs.YtiohnehccmbplaaDoor
