/- The reference's Bare and Fine. -/
import Derived.Test.YthgefobcohlegaaGreatDoorMkgX
import Derived.Test.YthgefobcohlegaaGreatDoorMkbX
namespace Go.Proofs.YthgefobcohlegaaGreatDoor
open Go.RowKit
set_option linter.unusedVariables false

end Go.Proofs.YthgefobcohlegaaGreatDoor

namespace Go.Proofs.YthgefobcohlegaaGreatDoor
open Go.RowKit
set_option linter.unusedVariables false

/-- What blocks' own code asks of the sentinels: their values, and errors' own type. -/
structure SBk (es : Nat → Addr) (B : Nat) (w : World) : Prop where
  v : SV es B w
  vl : SVL es B w
  ety : w.cell? ⟨11, 0, none⟩ = some (.iface 211 (.agg #[.pointer (some ⟨20, 26, none⟩)]))
  elt : 11 < B
theorem Sents.bk {es : Nat → Addr} {B : Nat} {w : World} (h : Sents es B w) : SBk es B w := ⟨h.v, h.vl, h.ety, h.elt⟩
theorem SBk.below {es : Nat → Addr} {B C : Nat} {w w' : World} (h : SBk es B w) (hb : Below C w w') (hC : B ≤ C) : SBk es B w' :=
  ⟨h.v.below hb hC, h.vl.below hb hC, (hb.cell (p := ⟨11, 0, none⟩) (Nat.lt_of_lt_of_le h.elt hC)).trans h.ety, h.elt⟩
theorem SBk.alloc {es : Nat → Addr} {B : Nat} {w : World} (h : SBk es B w) (hB : B ≤ w.heap.size) (o : Obj) : SBk es B (w.alloc o) := h.below (Below.alloc (Below.refl w.heap.size w) (Nat.le_refl _) o) hB
theorem SBk.var {es : Nat → Addr} {B : Nat} {w : World} (h : SBk es B w) (k : Nat) (hk : k ∈ [0, 1, 2, 4, 6, 7, 8]) : w.cell? ⟨gErr k, 0, none⟩ = some (sentV (es k)) := h.v.var k hk
set_option maxHeartbeats 4000000 in
theorem cbare_sent {es : Nat → Addr} {B : Nat} (k : Nat) (w : World) (hS : SBk es B w) (hB : B ≤ w.heap.size) :
    Calls Tryz.prog 119 #[sentV (es k)] w fun e w' => e = .returned (sentV (es k)) ∧ Below w.heap.size w w' := by
  have HS := Lib.hid hS
  clear hS
  go_enter Tryz.func119, Tryz.ntmps119
  go_wp2_with fail
  refine (as_sent (es k) ⟨w.heap.size, 0, none⟩ (.pointer none) _ (HS.out.alloc hB _).ety (by simp)).mono ?_
  rintro e w1 ⟨rfl, hb1⟩
  have HB1 := Lib.hid (Below.call (Below.alloc (Below.refl w.heap.size w) (Nat.le_refl _) _) hb1 (by simp))
  clear hb1
  go_wp2
  go_ret
  exact ⟨rfl, HB1.out⟩
set_option maxHeartbeats 4000000 in
theorem cbare_fault {es : Nat → Addr} {B : Nat} (k pb : Nat) (w : World) (hS : SBk es B w) (hB : B ≤ w.heap.size) (hp : pb < w.heap.size) (h1 : w.cell? ⟨pb, 1, none⟩ = some (sentV (es k))) :
    Calls Tryz.prog 119 #[faultV ⟨pb, 0, none⟩] w fun e w' => e = .returned (sentV (es k)) ∧ Below w.heap.size w w' := by
  have Hc := Lib.hid (as_fault' ⟨pb, 0, none⟩ w hS.ety (Nat.lt_of_lt_of_le hS.elt hB))
  clear hS
  go_enter Tryz.func119, Tryz.ntmps119
  go_wp2_with fail
  refine Hc.out.mono ?_
  rintro e w1 ⟨rfl, hcell, hb1⟩
  have HB1 := Lib.hid hb1
  have g1 : w1.cell? ⟨pb, 1, none⟩ = some (sentV (es k)) := (hb1.cell (p := ⟨pb, 1, none⟩) hp).trans h1
  clear hb1
  go_wp2
  go_ret
  exact ⟨rfl, HB1.out⟩
theorem cbare_any {es : Nat → Addr} {B C : Nat} (v : Value) (c : Nat × Int) (w : World) (hv : EV es C w v c) (hc : c.1 ≠ 0) (hS : SBk es B w) (hB : B ≤ w.heap.size) :
    Calls Tryz.prog 119 #[v] w fun e w' => e = .returned (sentV (es (c.1 - 1))) ∧ Below w.heap.size w w' := by
  rcases hv with ⟨rfl, _⟩ | ⟨k, hk, rfl, rfl⟩ | ⟨k, pb, t, hk, rfl, rfl, _, h2, h3, h4⟩
  · exact absurd rfl hc
  · exact cbare_sent k w hS hB
  · exact cbare_fault k pb w hS hB h2 h4
end Go.Proofs.YthgefobcohlegaaGreatDoor
