/- The reference's SameValues at two slices that read alike. -/
import Derived.Test.YtiohnehccmbplaaDoorChecked
import Derived.Test.YtiohnehccmbplaaDoorBase
import Derived.BigQuiet
namespace Go.Proofs.YtiohnehccmbplaaDoor
open Go.RowKit
set_option linter.unusedVariables false

theorem sameValues_eq (A : Option Addr) (n c : Nat) (A' : Option Addr) (c' : Nat) (xs : List Nat) (w : World) (hA : Rd w w.heap.size 1 A n (xs.map fun x : Nat => Value.int .u64 (x : Int))) (hA' : Rd w w.heap.size 1 A' n (xs.map fun x : Nat => Value.int .u64 (x : Int))) (hn : n ≤ 140737488351232) :
    Calls Tryd.prog 55 #[.slice A n c, .slice A' n c'] w fun e w' => e = .returned (.bool true) ∧ Below w.heap.size w w' := by
  have HA := Lib.hid hA; have HA' := Lib.hid hA'
  clear hA hA'
  go_enter Tryd.func55, Tryd.ntmps55
  go_wp2
  go_loopw [5] (fun i wr => ∃ k : Nat, k ≤ n ∧ i = .int .i64 k ∧ Below w.heap.size w wr) (fun i _ => n - (intOf i).toNat)
  case atStart => exact ⟨0, Nat.zero_le _, rfl, Below.refl _ _⟩
  case round =>
    obtain ⟨k, hk, rfl, hbel⟩ := hrel
    by_cases hkn : k < n
    · obtain ⟨b0, o0, y, hA0, had0, hy0, e0⟩ := HA.out.at1 hkn
      obtain ⟨b1, o1, z, hA1, had1, hz1, e1⟩ := HA'.out.at1 hkn
      obtain rfl : y = z := Option.some.inj (hy0.symm.trans hz1)
      subst hA0; subst hA1
      have e0' := (hbel.cell (p := ⟨b0, o0 + k, none⟩) had0).trans e0
      have e1' := (hbel.cell (p := ⟨b1, o1 + k, none⟩) had1).trans e1
      have Hbel := Lib.hid hbel
      clear hy0 hz1 e0 e1 hbel
      go_wp2
      go_quiet (fail)
      go_wp2
      go_roundw
      case rel => exact ⟨k + 1, by omega, by go_num, Below.drewN Hbel.out _⟩
      case measure => simp [intOf]; omega
    · obtain rfl : k = n := by omega
      have Hbel := Lib.hid hbel
      clear hbel
      go_wp2
      go_ret
      exact ⟨rfl, Hbel.out⟩
end Go.Proofs.YtiohnehccmbplaaDoor
