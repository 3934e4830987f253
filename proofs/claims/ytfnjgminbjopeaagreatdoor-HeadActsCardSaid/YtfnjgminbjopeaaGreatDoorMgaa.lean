/- What all card rows of this seat share: the arguments read again behind the call; the door's own heap for the witness. -/
import Derived.Test.YtfnjgminbjopeaaGreatDoorCards
import Derived.Test.YtfnjgminbjopeaaGreatDoorTie
import Derived.Test.YtfnjgminbjopeaaGreatDoorBase
import Derived.ProofKit
import Derived.OpenShut
import Derived.LaidMore
import Derived.LaidHandle
import Derived.LaidLaws
import Derived.ChangeSame
import Derived.SevenTiedAt
import Derived.Stop.LaidErr
namespace Go.Proofs.YtfnjgminbjopeaaGreatDoor
open Go.RowKit Go.ChangeShapes Go.WideShapes Go.ChangeAt
set_option linter.unusedVariables false

theorem own_knob : ownKnob Tryz.prog.godebug = none := by kernel_rfl
theorem laid_out : laidOutB Tryz.prog = true := by kernel_rfl

/-- All the arguments read behind the call as before it. -/
theorem trodAll_belowP {H : Type} {enc : TypeId × Value → H} {P : Program} (hl : laidOutB P = true) {W W' : World} (hb : Below W.heap.size W W') :
    ∀ (ts : List TypeId) (vs : List Value) (ds : List (DataW H)) (p : List MemPlace), ts.all (fun t => P.readableRec t && decide (t < P.types.size)) = true →
      DataW.TrodAll enc P W 0 (fun _ => true) true ts vs ds p → (∀ x ∈ p, x.block < W.heap.size) → DataW.TrodAll enc P W' 0 (fun b => decide (b < W.heap.size)) true ts vs ds p := by
  intro ts
  induction ts with
  | nil =>
    intro vs ds p _ h _
    cases vs with
    | nil => cases ds with
      | nil => exact h
      | cons => exact h.elim
    | cons => cases ds <;> exact h.elim
  | cons t ts ih =>
    intro vs ds p ht h hp
    obtain ⟨v, vs', d, ds', p0, q0, rfl, rfl, rfl, h0, h1⟩ := trodAll_cons h
    rw [List.all_cons, Bool.and_eq_true] at ht
    obtain ⟨ht0, ht1⟩ := ht
    rw [Bool.and_eq_true, decide_eq_true_eq] at ht0
    exact ⟨p0, q0, Below.trod hl ht0.1 ht0.2 h0 hb (fun x hx => hp x (List.mem_append_left _ hx)), ih _ _ _ ht1 h1 (fun x hx => hp x (List.mem_append_right _ hx)), rfl⟩
theorem trodAll_below {H : Type} {enc : TypeId × Value → H} {W W' : World} (hb : Below W.heap.size W W') {ts : List TypeId} {vs : List Value} {ds : List (DataW H)} {p : List MemPlace}
    (ht : ts.all (fun t => Tryz.prog.readableRec t && decide (t < Tryz.prog.types.size)) = true) (h : DataW.TrodAll enc Tryz.prog W 0 (fun _ => true) true ts vs ds p) (hp : ∀ x ∈ p, x.block < W.heap.size) :
    DataW.TrodAll enc Tryz.prog W' 0 (fun b => decide (b < W.heap.size)) true ts vs ds p := trodAll_belowP laid_out hb ts vs ds p ht h hp
end Go.Proofs.YtfnjgminbjopeaaGreatDoor

namespace Go.Proofs.YtfnjgminbjopeaaGreatDoor
open Go.RowKit
set_option linter.unusedVariables false

def sentD (nm : String) (x : String × List UInt8) : String × DataW Unit := (x.1, .iface nm (.ptr (.agg [.lit (.string x.2)])))

theorem laid_sents {P : Program} {W : World} {nm : String} {ti tp te ts : TypeId} {ms : Array (String × TypeId)} {f : Field}
    (hi : P.underlying ti = some (.interface ms)) (hrow : ∀ u, P.typeName? 3 u = some nm → u = tp)
    (hp : P.underlying tp = some (.pointer te)) (he : P.underlying te = some (.struct #[f])) (hft : f.type = ts) (hfo : f.offset = 0) (hs : P.underlying ts = some .string) (hc : P.cellsOf te = 1) (hcs : P.cellsOf ts = 1) :
    ∀ (l : List (String × List UInt8)) (ps : List MemPlace), DataW.LaidVars P W (l.map (sentD nm)) ps → ps.Nodup →
      (∀ b off, MemPlace.cell b off ∈ ps → (∃ c t, W.heap[b]? = some (.cells c t (0, 0))) ∧ ∀ u v, W.cell? ⟨b, off, none⟩ = some (.iface u v) → Value.okWide P W .any 0 u v) →
      (∀ n ∈ l.map (·.1), ∃ g, P.globalNamed n = some g ∧ (P.globals[g]?).map (·.type) = some ti) →
      ∃ es : List Addr, es.Nodup ∧ (∀ a ∈ es, MemPlace.cell a.block a.off ∈ ps) ∧ es.length = l.length ∧
        ∀ (i : Nat) x a, l[i]? = some x → es[i]? = some a → W.var? P x.1 = some #[.iface tp (.pointer (some a))] ∧ ∃ c t, W.heap[a.block]? = some (.cells c t (0, 0))
  | [], ps, hl, hn, hrows, hg => ⟨[], List.nodup_nil, by simp, rfl, by simp⟩
  | x :: r, ps, hl, hn, hrows, hg => by
    obtain ⟨g0, t0, cs0, f0, p0, q0, hg0, ht0, hv0, hd0, hq, rfl⟩ := hl
    obtain ⟨g, hga, hgb⟩ := hg x.1 (by simp)
    obtain rfl := Option.some.inj (hga.symm.trans hg0)
    obtain rfl := Option.some.inj (hgb.symm.trans ht0)
    obtain ⟨l0⟩ := cs0
    have ok0 : ∀ u v, l0 = [.iface u v] → Value.okWide P W .any 0 u v := fun u v e => by
      subst e
      exact (hrows g 0 (by simp [MemPlace.row])).2 u v (by simpa using World.var?_cell hg0 hv0 0)
    obtain ⟨a0, s0, rfl, hc0, hs0, hz0, rfl⟩ := errorString_of_trod hi hrow hp he hft hfo hs hc hcs hd0 ok0
    have hb0 := (hrows a0.block a0.off (by simp [MemPlace.row])).1
    obtain ⟨es, h1, h2, h3, h4⟩ := laid_sents hi hrow hp he hft hfo hs hc hcs r q0 hq (List.Nodup.sublist (List.sublist_append_right _ _) hn) (fun b off hm => hrows b off (List.mem_append_right _ hm)) (fun n hm => hg n (by simp only [List.map_cons, List.mem_cons]; exact .inr hm))
    refine ⟨a0 :: es, List.nodup_cons.2 ⟨fun hm => ?_, h1⟩, ?_, by simp [h3], ?_⟩
    · have hd := (List.nodup_append.1 hn).2.2
      exact hd (.cell a0.block a0.off) (by simp [MemPlace.row]) _ (h2 a0 hm) rfl
    · intro a ha
      rcases List.mem_cons.1 ha with rfl | ha
      · simp [MemPlace.row]
      · exact List.mem_append_right _ (h2 a ha)
    · intro i y a hy ha
      cases i with
      | zero =>
        obtain rfl : x = y := by simpa using hy
        obtain rfl : a0 = a := by simpa using ha
        exact ⟨hv0, hb0⟩
      | succ i => exact h4 i y a (by simpa using hy) (by simpa using ha)
end Go.Proofs.YtfnjgminbjopeaaGreatDoor
