/- tidegaugelaw2.faulted; the reference's SameTexts at two slices that read alike. -/
import Derived.Test.YtfnjgminbjopeaaGreatDoorCode
import Derived.Test.YtfnjgminbjopeaaGreatDoorHeadIterQ
import Derived.Test.YtfnjgminbjopeaaGreatDoorMgah
namespace Go.Proofs.YtfnjgminbjopeaaGreatDoor
open Go.RowKit
set_option linter.unusedVariables false

theorem faulted2_any {es : Nat → Addr} {B : Nat} (v : Value) (n t : Int) (c at_ : Int) (w : World) (hS : Sents es B w) (hB : B ≤ w.heap.size) (hv : ErrIs es w v n t) (hc : n = c) (ht : c = 0 ∨ t = at_) :
    Calls Tryz.prog 6 #[v, .agg #[.int .i64 c, .int .i64 at_]] w fun e w' => e = .returned (.bool true) ∧ Below w.heap.size w w' := by
  subst hc
  have hb1 : Below w.heap.size w (w.alloc (.cells #[.int .i64 n, .int .i64 at_] 40)) := by go_grown
  have hcd := code_any v n t _ (hS.below hb1 hB) (by simp; omega) (hv.below hb1 (Nat.le_refl _))
  have Hcd := Lib.hid hcd; have Hb1 := Lib.hid hb1
  have HK := Lib.hid (Blk.new w 40 #[.int .i64 n, .int .i64 at_])
  clear hcd hb1 hv hS
  by_cases h0 : n = 0
  · subst h0
    go_enter Tryz.func6, Tryz.ntmps6
    go_wp2_with fail
    refine Hcd.out.mono ?_
    rintro e w1 ⟨rfl, hb⟩
    have hk := HK.out.below hb (by simp)
    have z0 := hk.cell 0; have z1 := hk.cell 1
    simp only [List.getElem?_toArray, List.getElem?_cons_zero, List.getElem?_cons_succ] at z0 z1
    have Hb := Lib.hid (Below.call Hb1.out hb (by simp))
    clear hb hk
    go_wp2
    go_ret
    exact ⟨rfl, Hb.out⟩
  · obtain rfl : t = at_ := by omega
    have b0 : (n == 0) = false := by rw [beq_eq_false_iff_ne]; exact h0
    clear h0 ht
    go_enter Tryz.func6, Tryz.ntmps6
    go_wp2_with fail
    refine Hcd.out.mono ?_
    rintro e w1 ⟨rfl, hb⟩
    have hk := HK.out.below hb (by simp)
    have z0 := hk.cell 0; have z1 := hk.cell 1
    simp only [List.getElem?_toArray, List.getElem?_cons_zero, List.getElem?_cons_succ] at z0 z1
    have Hb := Lib.hid (Below.call Hb1.out hb (by simp))
    clear hb hk
    go_wp2
    go_ret
    exact ⟨rfl, Hb.out⟩
theorem sameTexts_eq (A : Option Addr) (n c : Nat) (A' : Option Addr) (c' : Nat) (l : List Bs) (w : World) (hA : Rd w w.heap.size 1 A n (txC l)) (hA' : Rd w w.heap.size 1 A' n (txC l)) (hn : n ≤ 100000) :
    Calls Tryz.prog 17 #[.slice A n c, .slice A' n c'] w fun e w' => e = .returned (.bool true) ∧ Below w.heap.size w w' := by
  have HA := Lib.hid hA; have HA' := Lib.hid hA'
  clear hA hA'
  go_enter Tryz.func17, Tryz.ntmps17
  go_wp2
  go_loopw [5] (fun i wr => ∃ k : Nat, k ≤ n ∧ i = .int .i64 k ∧ Below w.heap.size w wr) (fun i _ => n - (intOf i).toNat)
  case atStart => exact ⟨0, Nat.zero_le _, rfl, Below.refl _ _⟩
  case round =>
    obtain ⟨k, hk, rfl, hbel⟩ := hrel
    by_cases hkn : k < n
    · obtain ⟨b0, o0, y, hA0, had0, hy0, e0⟩ := HA.out.at1 hkn
      obtain ⟨b1, o1, z, hA1, had1, hz1, e1⟩ := HA'.out.at1 hkn
      obtain rfl : y = z := Option.some.inj (hy0.symm.trans hz1)
      subst hA0; subst hA1
      have e0' := (hbel.cell (p := ⟨b0, o0 + k, none⟩) had0).trans e0
      have e1' := (hbel.cell (p := ⟨b1, o1 + k, none⟩) had1).trans e1
      have Hbel := Lib.hid hbel
      generalize B8 y = sy at e0' e1'
      clear hy0 hz1 e0 e1 hbel
      go_wp2
      go_quiet (fail)
      go_wp2
      go_roundw
      case rel => exact ⟨k + 1, by omega, by go_num, Below.drewN Hbel.out _⟩
      case measure => simp [intOf]; omega
    · obtain rfl : k = n := by omega
      have Hbel := Lib.hid hbel
      clear hbel
      go_wp2
      go_ret
      exact ⟨rfl, Hbel.out⟩
end Go.Proofs.YtfnjgminbjopeaaGreatDoor
