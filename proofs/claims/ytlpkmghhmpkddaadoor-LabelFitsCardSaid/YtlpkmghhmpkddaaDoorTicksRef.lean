/- Ticks: the reference's TicksFault and TicksOf, wave.Ticks at a bad tick, faulted: by contracts. -/
import Derived.Test.YtlpkmghhmpkddaaDoorTicksOk
import Derived.Test.YtlpkmghhmpkddaaDoorWaveRef
import Derived.Test.YtlpkmghhmpkddaaDoorCode
import Derived.BigQuiet
namespace Go.Proofs.YtlpkmghhmpkddaaDoor
open Go.RowKit
set_option linter.unusedVariables false

abbrev zero2 : Array Value := #[.int .i64 0, .int .i64 0]
theorem stepsL_take (l : List Int) {k : Nat} (hk : k < l.length) : wavesL ((stepsL l).take (k + 1)) = wavesL ((stepsL l).take k) ++ waveBits (stepAt l k) := wavesL_next (stepsL_get l k hk)
theorem stepAt_range (l : List Int) (hl : ∀ t ∈ l, Tick t) (k : Nat) : -4398046511104 ≤ stepAt l k ∧ stepAt l k ≤ 4398046511104 := by
  have h : ∀ i, -1099511627776 ≤ l.getD i 0 ∧ l.getD i 0 ≤ 1099511627776 := by
    intro i
    rw [List.getD_eq_getElem?_getD]
    cases he : l[i]? with
    | none => simp
    | some t => obtain ⟨a, b⟩ := hl t (List.mem_of_getElem? he); simpa using ⟨a, b⟩
  have h0 := h k
  have h1 := h (k - 1)
  have h2 := h (k - 2)
  have h3 := h 0
  have h4 := h 1
  unfold stepAt
  split
  · omega
  · split <;> omega

/-- faulted: an error's number and place, and the reference's. -/
theorem faulted_any {es : Nat → Addr} {B : Nat} (v : Value) (n t : Int) (c at_ : Int) (w : World) (hS : Sents es B w) (hB : B ≤ w.heap.size) (hv : ErrIs es w v n t) (hc : n = c) (ht : c = 0 ∨ t = at_) :
    Calls Tryd.prog 9 #[v, .agg #[.int .i64 c, .int .i64 at_]] w fun e w' => e = .returned (.bool true) ∧ Below w.heap.size w w' := by
  subst hc
  have hb1 : Below w.heap.size w (w.alloc (.cells #[.int .i64 n, .int .i64 at_] 36)) := by go_grown
  have hcd := code_any v n t _ (hS.below hb1 hB) (by simp; omega) (hv.below hb1 (Nat.le_refl _))
  have Hcd := Lib.hid hcd; have Hb1 := Lib.hid hb1
  have HK := Lib.hid (Blk.new w 36 #[.int .i64 n, .int .i64 at_])
  clear hcd hb1 hv hS
  by_cases h0 : n = 0
  · subst h0
    go_enter Tryd.func9, Tryd.ntmps9
    go_wp2_with fail
    refine Hcd.out.mono ?_
    rintro e w1 ⟨rfl, hb⟩
    have hk := HK.out.below hb (by simp)
    have z0 := hk.cell 0; have z1 := hk.cell 1
    simp only [List.getElem?_toArray, List.getElem?_cons_zero, List.getElem?_cons_succ] at z0 z1
    have Hb := Lib.hid (Below.call Hb1.out hb (by simp))
    clear hb hk
    go_wp2
    go_ret
    exact ⟨rfl, Hb.out⟩
  · obtain rfl : t = at_ := by omega
    have b0 : (n == 0) = false := by rw [beq_eq_false_iff_ne]; exact h0
    clear h0 ht
    go_enter Tryd.func9, Tryd.ntmps9
    go_wp2_with fail
    refine Hcd.out.mono ?_
    rintro e w1 ⟨rfl, hb⟩
    have hk := HK.out.below hb (by simp)
    have z0 := hk.cell 0; have z1 := hk.cell 1
    simp only [List.getElem?_toArray, List.getElem?_cons_zero, List.getElem?_cons_succ] at z0 z1
    have Hb := Lib.hid (Below.call Hb1.out hb (by simp))
    clear hb hk
    go_wp2
    go_ret
    exact ⟨rfl, Hb.out⟩
end Go.Proofs.YtlpkmghhmpkddaaDoor
