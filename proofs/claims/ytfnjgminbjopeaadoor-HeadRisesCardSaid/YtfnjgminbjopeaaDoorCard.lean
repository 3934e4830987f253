/- What all card rows of this seat share: the arguments read again behind the call; the door's own heap for the witness. -/
import Derived.Test.YtfnjgminbjopeaaDoorCards
import Derived.Test.YtfnjgminbjopeaaDoorTie
import Derived.Test.YtfnjgminbjopeaaDoorBase
import Derived.ProofKit
import Derived.OpenShut
import Derived.LaidMore
import Derived.LaidHandle
import Derived.LaidLaws
import Derived.ChangeSame
import Derived.SevenTiedAt
namespace Go.Proofs.YtfnjgminbjopeaaDoor
open Go.RowKit Go.ChangeShapes Go.WideShapes Go.ChangeAt
set_option linter.unusedVariables false

theorem own_knob : ownKnob Tryd.prog.godebug = none := by kernel_rfl
theorem laid_out : laidOutB Tryd.prog = true := by kernel_rfl

/-- All the arguments read behind the call as before it. -/
theorem trodAll_belowP {H : Type} {enc : TypeId × Value → H} {P : Program} (hl : laidOutB P = true) {W W' : World} (hb : Below W.heap.size W W') :
    ∀ (ts : List TypeId) (vs : List Value) (ds : List (DataW H)) (p : List MemPlace), ts.all (fun t => P.readableRec t && decide (t < P.types.size)) = true →
      DataW.TrodAll enc P W 0 (fun _ => true) true ts vs ds p → (∀ x ∈ p, x.block < W.heap.size) → DataW.TrodAll enc P W' 0 (fun b => decide (b < W.heap.size)) true ts vs ds p := by
  intro ts
  induction ts with
  | nil =>
    intro vs ds p _ h _
    cases vs with
    | nil => cases ds with
      | nil => exact h
      | cons => exact h.elim
    | cons => cases ds <;> exact h.elim
  | cons t ts ih =>
    intro vs ds p ht h hp
    obtain ⟨v, vs', d, ds', p0, q0, rfl, rfl, rfl, h0, h1⟩ := trodAll_cons h
    rw [List.all_cons, Bool.and_eq_true] at ht
    obtain ⟨ht0, ht1⟩ := ht
    rw [Bool.and_eq_true, decide_eq_true_eq] at ht0
    exact ⟨p0, q0, Below.trod hl ht0.1 ht0.2 h0 hb (fun x hx => hp x (List.mem_append_left _ hx)), ih _ _ _ ht1 h1 (fun x hx => hp x (List.mem_append_right _ hx)), rfl⟩
theorem trodAll_below {H : Type} {enc : TypeId × Value → H} {W W' : World} (hb : Below W.heap.size W W') {ts : List TypeId} {vs : List Value} {ds : List (DataW H)} {p : List MemPlace}
    (ht : ts.all (fun t => Tryd.prog.readableRec t && decide (t < Tryd.prog.types.size)) = true) (h : DataW.TrodAll enc Tryd.prog W 0 (fun _ => true) true ts vs ds p) (hp : ∀ x ∈ p, x.block < W.heap.size) :
    DataW.TrodAll enc Tryd.prog W' 0 (fun b => decide (b < W.heap.size)) true ts vs ds p := trodAll_belowP laid_out hb ts vs ds p ht h hp
end Go.Proofs.YtfnjgminbjopeaaDoor
