/- A list of uint64, opened. -/
import Derived.Test.YtiohnehccmbplaaDoorChecked
import Derived.Test.YtiohnehccmbplaaDoorOpenInts
namespace Go.Proofs.YtiohnehccmbplaaDoor
open Go.RowKit Go.ChangeShapes Go.WideShapes Go.ChangeAt
set_option linter.unusedVariables false

theorem oi_cellsU64 : Tryd.prog.cellsOf 42 = 1 := by kernel_rfl
theorem oi_bytesU64 : Tryd.prog.bytesOf 42 = 8 := by kernel_rfl
theorem u64_of_wf {n : Int} (h : (Lit.int IntKind.u64 n).wf) : 0 ≤ n ∧ n < 18446744073709551616 := by
  have h' : 0 ≤ n ∧ n ≤ 18446744073709551615 := by simpa [Lit.wf, IntKind.min, IntKind.max, IntKind.signed, IntKind.bits] using h
  omega
section
variable {H : Type} {enc : TypeId × Value → H} {w : World} {base : Nat} {spare : Nat → Bool} {held : Bool}
set_option maxRecDepth 100000 in
theorem open_u64s {fuel : Nat} {cs : List Value} {x : DataW H × List MemPlace} (h : DataW.trod enc Tryd.prog w base spare held fuel 90 cs = some x)
    (hw : (x.1.weights Tryd.prog 90).all (· ≤ reachBytes) = true) :
    ∃ (A : Option Addr) (n c : Nat) (xs : List Nat), cs = [.slice A n c] ∧ n ≤ 140737488351232 ∧ n ≤ c ∧ c ≤ maxLen ∧ Rd w w.heap.size 1 A n (xs.map fun x : Nat => Value.int .u64 (x : Int)) ∧ ∀ x ∈ xs, x < 18446744073709551616 := by
  obtain ⟨A, cap, ys, rfl, hc, hm, hys, hrd, hx⟩ := open_rd Tryd.underlying90 oi_cellsU64 (by omega) h
  have hxs : ∃ xs : List Nat, ys.map (·.1) = xs.map (fun p : Nat => [Value.int .u64 (p : Int)]) ∧ ∀ x ∈ xs, x < 18446744073709551616 := by
    clear hx hrd hc h hw
    induction ys with
    | nil => exact ⟨[], rfl, by simp⟩
    | cons y ys ih =>
      obtain ⟨xs, e, hxs⟩ := ih (fun z hz => hys z (by simp [hz]))
      obtain ⟨hl, m, q, hq⟩ := hys y (by simp)
      obtain ⟨a, e0, _, wa⟩ := DataW.trod_int Tryd.underlying42 hq
      obtain ⟨wa0, wa1⟩ := u64_of_wf wa
      obtain ⟨b, rfl⟩ := Int.eq_ofNat_of_zero_le wa0
      have e1 : y.1 = [Value.int .u64 (b : Int)] := by
        match hy : y.1, hl with
        | [c0], _ => rw [hy] at e0; simpa using e0
      exact ⟨b :: xs, by simp [e1, e], by intro z hz; rcases List.mem_cons.1 hz with rfl | hz; omega; exact hxs z hz⟩
  obtain ⟨xs, e, hxs⟩ := hxs
  refine ⟨A, ys.length, cap, xs, rfl, ?_, hc, hm, ?_, hxs⟩
  · rcases hx with ⟨_, rfl⟩ | ⟨sp, hx⟩
    · simp
    · rw [hx] at hw
      have := (weights_slice Tryd.underlying90 hw).1
      rw [oi_bytesU64] at this
      simp only [List.length_map, reachBytes] at this
      omega
  · have : ys.flatMap (·.1) = xs.map (fun x : Nat => Value.int .u64 (x : Int)) := by
      rw [List.flatMap_def, e, ← List.flatMap_def]
      clear e hxs
      induction xs with
      | nil => rfl
      | cons a xs ih => simp [ih]
    rw [← this]; exact hrd
end
end Go.Proofs.YtiohnehccmbplaaDoor
