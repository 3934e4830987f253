/- math/bits by contracts: Len64, LeadingZeros64, TrailingZeros64 (by its table); package mask's windows: of, has. -/
import Derived.Test.YtpbgonpmpjpljaaGreatDoorProg
import Derived.Test.YtpbgonpmpjpljaaGreatDoorBaseX
import Derived.Test.YtpbgonpmpjpljaaGreatDoorLen64X
import Derived.Lib.TrailingZeros
import Derived.Laws.Bits64b
namespace Go.Proofs.YtpbgonpmpjpljaaGreatDoor
open Go.RowKit
set_option linter.unusedVariables false

/-- The number of zeros at the head of 64 bits. -/
def lzN (x : Nat) : Nat := 64 - Lib.bitLen x
theorem bitLen_64 (x : Nat) (h : x < 18446744073709551616) : Lib.bitLen x ≤ 64 := Lib.bitLen_le x 64 (Nat.le_refl _) h
theorem lz_any (x : Nat) (w : World) (h : x < 18446744073709551616) :
    Calls Tryz.prog 183 #[.int .u64 (x : Int)] w fun e w' => e = .returned (.int .i64 (lzN x)) ∧ w' = w := by
  have l := bitLen_64 x h
  have e8 : 64 - (Lib.bitLen x : Int) = (lzN x : Int) := by unfold lzN; omega
  have E8 := Lib.hid e8
  clear e8
  have hc := len64_int (x : Int) w (by omega) (by omega)
  rw [show ((x : Int)).toNat = x from rfl] at hc
  have Hc := Lib.hid hc
  clear hc
  go_enter Tryz.func183, Tryz.ntmps183
  go_wp2_with fail
  refine Hc.out.mono ?_
  rintro e w' ⟨rfl, rfl⟩
  go_wp2
  go_ret
  exact ⟨congrArg (fun z => Ending.returned (Value.int IntKind.i64 z)) E8.out, rfl⟩

def TabAt (w : World) : Prop := ∀ j, j < 64 → w.cell? ⟨15, j, none⟩ = some (.int .u8 (Lib.deBruijn64tab.getD j 0 : Nat))
theorem TabAt.below {w w' : World} {B : Nat} (h : TabAt w) (hb : Below B w w') (hB : 15 < B) : TabAt w' := fun j hj => (hb.cell (p := ⟨15, j, none⟩) hB).trans (h j hj)

theorem tz_core (x k idx : Nat) (w : World) (hx0 : ((x : Int) == 0) = false)
    (key : IntKind.u64.wrap (bits BinOp.and IntKind.u64 (x : Int) (IntKind.u64.wrap (-(x : Int))) * 285870213051353865) / 288230376151711744 = (idx : Int))
    (hi : idx < 64) (hk : k < 64) (hcell : w.cell? ⟨15, idx, none⟩ = some (.int .u8 k)) :
    Calls Tryz.prog 168 #[.int .u64 x] w fun e w' => e = .returned (.int .i64 k) ∧ w' = w := by
  go_enter Tryz.func168, Tryz.ntmps168
  go_wp2_with (simp only [key])
  go_ret
  exact ⟨rfl, rfl⟩
theorem tz_zero (w : World) : Calls Tryz.prog 168 #[.int .u64 0] w fun e w' => e = .returned (.int .i64 64) ∧ w' = w := by
  go_enter Tryz.func168, Tryz.ntmps168
  go_wp2
  go_ret
  exact ⟨rfl, rfl⟩
theorem tz_key (x a : Nat) (hx : x < 18446744073709551616) (hx0 : x ≠ 0) (hlow : x &&& (18446744073709551616 - x) = a) :
    IntKind.u64.wrap (bits BinOp.and IntKind.u64 (x : Int) (IntKind.u64.wrap (-(x : Int))) * 285870213051353865) / 288230376151711744 = ((a * 285870213051353865 % 18446744073709551616 / 288230376151711744 : Nat) : Int) := by
  have e1 : IntKind.u64.wrap (-(x : Int)) = ((18446744073709551616 - x : Nat) : Int) := by rw [IntKind.wrap_u64]; omega
  rw [e1, bits_and_u64_nat x _ hx (by omega), hlow, IntKind.wrap_u64]
  omega
/-- The number of zeros behind. -/
def tzN (x : Nat) : Nat := Lib.ctz 64 x
theorem tz_any (x : Nat) (w : World) (hx : x < 18446744073709551616) (hT : TabAt w) :
    Calls Tryz.prog 168 #[.int .u64 (x : Int)] w fun e w' => e = .returned (.int .i64 (tzN x)) ∧ w' = w := by
  by_cases hx0 : x = 0
  · subst hx0
    exact tz_zero w
  · obtain ⟨hlow, hk⟩ := Lib.lowest_bit 64 x hx0 hx
    obtain ⟨hi, htab⟩ := Lib.deBruijn64_at _ hk
    have hcell := hT _ hi
    rw [htab] at hcell
    exact tz_core x _ _ w (by simp; omega) (tz_key x _ hx hx0 hlow) hi hk hcell
end Go.Proofs.YtpbgonpmpjpljaaGreatDoor
