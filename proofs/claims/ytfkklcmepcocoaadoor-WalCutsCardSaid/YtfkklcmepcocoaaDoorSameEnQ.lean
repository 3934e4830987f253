/- tidegaugelaw2.sameEntries at two slices that read alike. -/
import Derived.Test.YtfkklcmepcocoaaDoorMhah
import Derived.BigQuiet
namespace Go.Proofs.YtfkklcmepcocoaaDoor
open Go.RowKit
set_option linter.unusedVariables false
set_option maxRecDepth 100000 in
theorem sameEntries_eq (A : Option Addr) (n c : Nat) (A' : Option Addr) (c' : Nat) (l : List En) (w : World) (hA : Rd w w.heap.size 3 A n (enC l)) (hA' : Rd w w.heap.size 3 A' n (enC l)) (hn : n ≤ 100000) :
    Calls Tryd.prog 12 #[.slice A n c, .slice A' n c'] w fun e w' => e = .returned (.bool true) ∧ Below w.heap.size w w' := by
  have HA := Lib.hid hA; have HA' := Lib.hid hA'
  clear hA hA'
  go_enter Tryd.func12, Tryd.ntmps12
  go_wp2
  go_loopw [5] (fun i wr => ∃ k : Nat, k ≤ n ∧ i = .int .i64 k ∧ Below w.heap.size w wr) (fun i _ => n - (intOf i).toNat)
  case atStart => exact ⟨0, Nat.zero_le _, rfl, Below.refl _ _⟩
  case round =>
    obtain ⟨k, hk, rfl, hbel⟩ := hrel
    by_cases hkn : k < n
    · have hkn' : (k : Int) < n := by omega
      obtain ⟨b0, o0, y, hA0, had0, hy0, x0, x1, x2⟩ := en_at (HA.out.below hbel) hkn
      obtain ⟨b1, o1, z, hA1, had1, hz1, y0, y1, y2⟩ := en_at (HA'.out.below hbel) hkn
      obtain rfl : y = z := Option.some.inj (hy0.symm.trans hz1)
      subst hA0; subst hA1
      have Hbel := Lib.hid hbel
      generalize B8 y.nm = sy at x0 y0
      generalize y.tick = ty at x1 y1
      generalize y.bit = by_ at x2 y2
      clear hy0 hz1 hbel
      go_wp2
      go_quiet (fail)
      go_wp2
      go_roundw
      case rel => exact ⟨k + 1, by omega, by go_num, Below.drewN Hbel.out _⟩
      case measure => simp [intOf]; omega
    · obtain rfl : k = n := by omega
      have Hbel := Lib.hid hbel
      clear hbel
      go_wp2
      go_ret
      exact ⟨rfl, Hbel.out⟩
end Go.Proofs.YtfkklcmepcocoaaDoor
