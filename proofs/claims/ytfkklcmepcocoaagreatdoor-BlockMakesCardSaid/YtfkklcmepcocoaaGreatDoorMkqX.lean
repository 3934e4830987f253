/- The reference's BoundsError and its pieces of a text. -/
import Derived.Test.YtfkklcmepcocoaaGreatDoorMkfX
import Derived.Test.YtfkklcmepcocoaaGreatDoorMklX
import Derived.Test.YtfkklcmepcocoaaGreatDoorBlkMakeQX
namespace Go.Proofs.YtfkklcmepcocoaaGreatDoor
open Go.RowKit
set_option linter.unusedVariables false

theorem rbnd_any (f s : Int) (w : World) : Calls Tryz.prog 80 #[.int .i64 f, .int .i64 s] w fun e w' => (bndB f s = true → e = .returned (.int .i64 0)) ∧ (bndB f s = false → e = .returned (.int .i64 2)) ∧ w = w' := by
  have Hno : ∀ (h : ¬ (1 ≤ s ∧ s ≤ 100000 ∧ -1099511627776 ≤ f ∧ f ≤ 1099511627776)), bndB f s = false := fun h => decide_eq_false h
  by_cases h1 : s < 1
  · have Hf := Lib.hid (Hno (by omega))
    clear Hno
    go_enter Tryz.func80, Tryz.ntmps80
    go_wp2
    go_ret
    exact ⟨fun h => (by rw [Hf.out] at h; cases h), fun _ => rfl, rfl⟩
  by_cases h2 : 100000 < s
  · have Hf := Lib.hid (Hno (by omega))
    clear Hno
    go_enter Tryz.func80, Tryz.ntmps80
    go_wp2
    go_ret
    exact ⟨fun h => (by rw [Hf.out] at h; cases h), fun _ => rfl, rfl⟩
  by_cases h3 : f < -1099511627776
  · have Hf := Lib.hid (Hno (by omega))
    clear Hno
    go_enter Tryz.func80, Tryz.ntmps80
    go_wp2
    go_ret
    exact ⟨fun h => (by rw [Hf.out] at h; cases h), fun _ => rfl, rfl⟩
  by_cases h4 : 1099511627776 < f
  · have Hf := Lib.hid (Hno (by omega))
    clear Hno
    go_enter Tryz.func80, Tryz.ntmps80
    go_wp2
    go_ret
    exact ⟨fun h => (by rw [Hf.out] at h; cases h), fun _ => rfl, rfl⟩
  have Hf := Lib.hid (show bndB f s = true from decide_eq_true (by omega))
  clear Hno
  go_enter Tryz.func80, Tryz.ntmps80
  go_wp2
  go_ret
  exact ⟨fun _ => rfl, fun h => (by rw [Hf.out] at h; cases h), rfl⟩
end Go.Proofs.YtfkklcmepcocoaaGreatDoor

namespace Go.Proofs.YtfkklcmepcocoaaGreatDoor
open Go.RowKit
set_option linter.unusedVariables false

theorem pcs_none {c : UInt8} : ∀ {a : Bs}, c ∉ a → pcs c a = [a]
  | [], _ => by rw [pcs]
  | x :: a, h => by
    have hx : x ≠ c := fun e => h (by rw [e]; exact List.mem_cons_self)
    rw [pcs, if_neg hx, pcs_none (fun m => h (List.mem_cons_of_mem _ m))]
theorem pcs_hit {c : UInt8} : ∀ {a : Bs} (b : Bs), c ∉ a → pcs c (a ++ c :: b) = a :: pcs c b
  | [], b, _ => by rw [List.nil_append, pcs, if_pos rfl]
  | x :: a, b, h => by
    have hx : x ≠ c := fun e => h (by rw [e]; exact List.mem_cons_self)
    rw [List.cons_append, pcs, if_neg hx, pcs_hit b (fun m => h (List.mem_cons_of_mem _ m))]
end Go.Proofs.YtfkklcmepcocoaaGreatDoor
