/- block.head by its contract. -/
import Derived.Test.YtpbgonpmpjpljaaGreatDoorMkuX
import Derived.Test.YtpbgonpmpjpljaaGreatDoorBlkMakeQX
import Derived.Test.YtpbgonpmpjpljaaGreatDoorMkrX
import Derived.Test.YtpbgonpmpjpljaaGreatDoorMkmX
namespace Go.Proofs.YtpbgonpmpjpljaaGreatDoor
open Go.RowKit
set_option linter.unusedVariables false

/-- The word block. -/
def wBlk : Bs := [98, 108, 111, 99, 107]
/-- The three numbers of a block's first line, if it is one. -/
def hedB (s : Bs) : Option (Int × Int × Int) := match pcs 32 s with
  | [a, b, c, d] => if a = wBlk then match numB b, numB c, numB d with
    | some x, some y, some z => some (x, y, z)
    | _, _, _ => none
    else none
  | _ => none
def HdPost (s : Bs) (w : World) (e : Ending) (w' : World) : Prop := ∃ (f sp m : Int) (ok : Bool),
  e = .returned (.tuple #[.agg #[.int .i64 f, .int .i64 sp, .slice none 0 0, .slice none 0 0], .int .i64 m, .bool ok]) ∧ (ok = true → hedB s = some (f, sp, m)) ∧ (ok = false → hedB s = none) ∧ (i64B f ∧ i64B sp ∧ i64B m) ∧ Below w.heap.size w w'
theorem HdPost.no {s : Bs} {w w' : World} (h : hedB s = none) (hb : Below w.heap.size w w') : HdPost s w (.returned (.tuple #[.agg #[.int .i64 0, .int .i64 0, .slice none 0 0, .slice none 0 0], .int .i64 0, .bool false])) w' :=
  ⟨0, 0, 0, false, rfl, fun h => (by cases h), fun _ => h, ⟨by unfold i64B; omega, by unfold i64B; omega, by unfold i64B; omega⟩, hb⟩
end Go.Proofs.YtpbgonpmpjpljaaGreatDoor

namespace Go.Proofs.YtpbgonpmpjpljaaGreatDoor
open Go.RowKit
set_option linter.unusedVariables false

abbrev RdB := (Nat × Int) × (Int × Int) × List (Bs × List Nat)
/-- What stands between two appends: the block, the result, the two slices, the pieces. -/
structure MR (w W : World) (q H b : Nat) (cs4 : Array Value) (pc : Array Value) (v1 : Value) (n1 : Nat) (xs1 : List Value) (v2 : Value) (n2 : Nat) (xs2 : List Value) : Prop where
  hd : Blk W H 37 cs4
  zb : Blk W q 37 #[.int .i64 0, .int .i64 0, .slice none 0 0, .slice none 0 0]
  pr : Pair W w.heap.size 9 v1 n1 xs1 v2 n2 xs2
  pb : Blk W b 9 pc
  p1 : ∀ k, v1.ownBlock = some k → k ≠ b
  p2 : ∀ k, v2.ownBlock = some k → k ≠ b
  bl : Below w.heap.size w W
section
variable {w W wa : World} {q H b n1 n2 m : Nat} {cs4 pc : Array Value} {v1 v2 v' : Value} {xs1 xs2 ys : List Value}
theorem MR.alloc (h : MR w W q H b cs4 pc v1 n1 xs1 v2 n2 xs2) (o : Obj) : MR w (W.alloc o) q H b cs4 pc v1 n1 xs1 v2 n2 xs2 :=
  ⟨h.hd.alloc o, h.zb.alloc o, h.pr.fr ((Fr.refl _ W).alloc o), h.pb.alloc o, h.p1, h.p2, Below.alloc h.bl h.bl.size o⟩
theorem MR.drew (h : MR w W q H b cs4 pc v1 n1 xs1 v2 n2 xs2) : MR w W.drew q H b cs4 pc v1 n1 xs1 v2 n2 xs2 :=
  ⟨h.hd, h.zb, h.pr.fr (Fr.refl _ W).drew, h.pb, h.p1, h.p2, h.bl.drew⟩
theorem MR.below (h : MR w W q H b cs4 pc v1 n1 xs1 v2 n2 xs2) {W' : World} (hb : Below W.heap.size W W') : MR w W' q H b cs4 pc v1 n1 xs1 v2 n2 xs2 :=
  ⟨h.hd.below hb h.hd.lt, h.zb.below hb h.zb.lt, h.pr.fr (Fr.ofBel hb), h.pb.below hb h.pb.lt, h.p1, h.p2, Below.call h.bl hb h.bl.size⟩
theorem MR.left (h : MR w W q H b cs4 pc v1 n1 xs1 v2 n2 xs2) (ho : wa.ownsRow w.heap.size 9 1 v' m ys) (hg : W.grownBy wa v1.ownBlock) (hat : v'.ownBlock = v1.ownBlock ∨ v'.ownBlock = some W.heap.size) : MR w wa q H b cs4 pc v' m ys v2 n2 xs2 :=
  ⟨h.hd.grown hg (own_ne_blk h.pr.l h.hd (by decide)), h.zb.grown hg (own_ne_blk h.pr.l h.zb (by decide)), h.pr.left (Fr.refl _ _) hg ho hat, h.pb.grown hg (fun e => h.p1 b e.symm rfl),
    fun k hk e => by
      rcases hat with h1 | h1
      · rw [h1] at hk; exact h.p1 k hk e
      · rw [h1] at hk; injection hk with hk; have := h.pb.lt; omega,
    h.p2, Below.grown h.bl hg h.bl.size (fun g e => (own_lt h.pr.l g e).1)⟩
theorem MR.right (h : MR w W q H b cs4 pc v1 n1 xs1 v2 n2 xs2) (ho : wa.ownsRow w.heap.size 9 1 v' m ys) (hg : W.grownBy wa v2.ownBlock) (hat : v'.ownBlock = v2.ownBlock ∨ v'.ownBlock = some W.heap.size) : MR w wa q H b cs4 pc v1 n1 xs1 v' m ys :=
  ⟨h.hd.grown hg (own_ne_blk h.pr.r h.hd (by decide)), h.zb.grown hg (own_ne_blk h.pr.r h.zb (by decide)), h.pr.right (Fr.refl _ _) hg ho hat, h.pb.grown hg (fun e => h.p2 b e.symm rfl), h.p1,
    fun k hk e => by
      rcases hat with h1 | h1
      · rw [h1] at hk; exact h.p2 k hk e
      · rw [h1] at hk; injection hk with hk; have := h.pb.lt; omega,
    Below.grown h.bl hg h.bl.size (fun g e => (own_lt h.pr.r g e).1)⟩
/-- A block made behind stays behind an append onto the left slice. -/
theorem MR.far (h : MR w W q H b cs4 pc v1 n1 xs1 v2 n2 xs2) {W' : World} {g : Nat} {t : TypeId} {cs : Array Value} (hg : W.heap.size ≤ g) (hb : Blk W' g t cs) (hgr : W'.grownBy wa v1.ownBlock) : Blk wa g t cs :=
  hb.grown hgr (fun e => by have := (own_lt h.pr.l g e.symm).2; omega)
end
theorem MR.held {w W : World} {q H b n1 n2 : Nat} {u0 u1 v1 v2 y1 y2 : Value} {pc : Array Value} {xs1 xs2 : List Value} (h : MR w W q H b #[u0, u1, y1, y2] pc v1 n1 xs1 v2 n2 xs2) : W.cell? ⟨H, 2, none⟩ = some y1 ∧ W.cell? ⟨H, 3, none⟩ = some y2 :=
  ⟨h.hd.cell 2, h.hd.cell 3⟩
theorem MR.stored {w W : World} {q H b n1 n2 : Nat} {u0 u1 y1 y2 v1 v2 : Value} {pc : Array Value} {xs1 xs2 : List Value} (h : MR w W q H b #[u0, u1, y1, y2] pc v1 n1 xs1 v2 n2 xs2) (hq : q ≠ H) (hbH : b ≠ H) (hH : w.heap.size ≤ H) :
    MR w ((W.setCell ⟨H, 2, none⟩ v1).setCell ⟨H, 3, none⟩ v2) q H b #[u0, u1, v1, v2] pc v1 n1 xs1 v2 n2 xs2 :=
  ⟨(h.hd.set_ 2 v1).set_ 3 v2, (h.zb.far (p := ⟨H, 2, none⟩) hq v1).far (p := ⟨H, 3, none⟩) hq v2,
    (h.pr.set (p := ⟨H, 2, none⟩) (own_ne_blk h.pr.l h.hd (by decide)) (own_ne_blk h.pr.r h.hd (by decide)) v1).set (p := ⟨H, 3, none⟩) (own_ne_blk h.pr.l h.hd (by decide)) (own_ne_blk h.pr.r h.hd (by decide)) v2,
    (h.pb.far (p := ⟨H, 2, none⟩) hbH v1).far (p := ⟨H, 3, none⟩) hbH v2, h.p1, h.p2,
    Below.setCell (Below.setCell h.bl (p := ⟨H, 2, none⟩) hH v1) (p := ⟨H, 3, none⟩) hH v2⟩
def RdPost (es : Nat → Addr) (R : RdB) (w : World) (e : Ending) (w' : World) : Prop :=
  ∃ v u1 u2, e = .returned (.tuple #[.agg #[.int .i64 R.2.1.1, .int .i64 R.2.1.2, u1, u2], v]) ∧ EV es w.heap.size w' v R.1 ∧
    Pair w' w.heap.size 9 u1 R.2.2.length (txS R.2.2) u2 R.2.2.length (chS R.2.2) ∧ Below w.heap.size w w'
theorem RdPost.sent {es : Nat → Addr} {w w' : World} {e : Ending} {k : Nat} (hk : k < 11) (he : e = .returned (.tuple #[.agg #[.int .i64 0, .int .i64 0, .slice none 0 0, .slice none 0 0], sentV (es k)])) (hb : Below w.heap.size w w') : RdPost es ((k + 1, -1), (0, 0), []) w e w' :=
  ⟨_, _, _, he, .inr (.inl ⟨k, hk, rfl, rfl⟩), Pair.nil _ _ _, hb⟩
end Go.Proofs.YtpbgonpmpjpljaaGreatDoor
