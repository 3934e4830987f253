/- The reference's BoundsError and its pieces of a text. -/
import Derived.Test.YtpbgonpmpjpljaaGreatDoorMkgX
import Derived.Test.YtpbgonpmpjpljaaGreatDoorMkuX
import Derived.Test.YtpbgonpmpjpljaaGreatDoorBlkMakeQX
namespace Go.Proofs.YtpbgonpmpjpljaaGreatDoor
open Go.RowKit
set_option linter.unusedVariables false

theorem rbnd_any (f s : Int) (w : World) : Calls Tryz.prog 21 #[.int .i64 f, .int .i64 s] w fun e w' => (bndB f s = true → e = .returned (.int .i64 0)) ∧ (bndB f s = false → e = .returned (.int .i64 2)) ∧ w = w' := by
  have Hno : ∀ (h : ¬ (1 ≤ s ∧ s ≤ 100000 ∧ -1099511627776 ≤ f ∧ f ≤ 1099511627776)), bndB f s = false := fun h => decide_eq_false h
  by_cases h1 : s < 1
  · have Hf := Lib.hid (Hno (by omega))
    clear Hno
    go_enter Tryz.func21, Tryz.ntmps21
    go_wp2
    go_ret
    exact ⟨fun h => (by rw [Hf.out] at h; cases h), fun _ => rfl, rfl⟩
  by_cases h2 : 100000 < s
  · have Hf := Lib.hid (Hno (by omega))
    clear Hno
    go_enter Tryz.func21, Tryz.ntmps21
    go_wp2
    go_ret
    exact ⟨fun h => (by rw [Hf.out] at h; cases h), fun _ => rfl, rfl⟩
  by_cases h3 : f < -1099511627776
  · have Hf := Lib.hid (Hno (by omega))
    clear Hno
    go_enter Tryz.func21, Tryz.ntmps21
    go_wp2
    go_ret
    exact ⟨fun h => (by rw [Hf.out] at h; cases h), fun _ => rfl, rfl⟩
  by_cases h4 : 1099511627776 < f
  · have Hf := Lib.hid (Hno (by omega))
    clear Hno
    go_enter Tryz.func21, Tryz.ntmps21
    go_wp2
    go_ret
    exact ⟨fun h => (by rw [Hf.out] at h; cases h), fun _ => rfl, rfl⟩
  have Hf := Lib.hid (show bndB f s = true from decide_eq_true (by omega))
  clear Hno
  go_enter Tryz.func21, Tryz.ntmps21
  go_wp2
  go_ret
  exact ⟨fun _ => rfl, fun h => (by rw [Hf.out] at h; cases h), rfl⟩
end Go.Proofs.YtpbgonpmpjpljaaGreatDoor

namespace Go.Proofs.YtpbgonpmpjpljaaGreatDoor
open Go.RowKit
set_option linter.unusedVariables false

end Go.Proofs.YtpbgonpmpjpljaaGreatDoor
