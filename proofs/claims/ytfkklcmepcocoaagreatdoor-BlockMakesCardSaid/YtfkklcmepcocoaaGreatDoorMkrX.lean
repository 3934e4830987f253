/- The reference's numberOf: it answers as block.number does. -/
import Derived.Test.YtfkklcmepcocoaaGreatDoorMkjX
import Derived.Test.YtfkklcmepcocoaaGreatDoorMklX
import Derived.Deep.DeepCutAuto
import Derived.Deep.Light
import Derived.Test.YtfkklcmepcocoaaGreatDoorMkoX
namespace Go.Proofs.YtfkklcmepcocoaaGreatDoor
open Go.RowKit
set_option linter.unusedVariables false

theorem atoiO_it {n : Int} (h : n.natAbs < 10 ^ 17) : atoiO (Lib.itoa n) = some n := by unfold atoiO; rw [atoiAll_itoa h]
theorem numB_itoa {s : Bs} {n : Int} (hl : s.length ≤ 15) (h : Lib.itoa n = s) (hn : n.natAbs < 10 ^ 17) : numB s = some n := by
  subst h
  unfold numB
  rw [atoiO_it hn]
  exact if_pos ⟨hl, rfl⟩
end Go.Proofs.YtfkklcmepcocoaaGreatDoor

namespace Go.Proofs.YtfkklcmepcocoaaGreatDoor
open Go.RowKit
set_option linter.unusedVariables false

theorem hexS_cons (c : UInt8) (s : Bs) : hexS (c :: s) = hexD (c.toNat / 16) :: hexD (c.toNat % 16) :: hexS s := rfl
end Go.Proofs.YtfkklcmepcocoaaGreatDoor
