/- label.Read by its contract. -/
import Derived.Test.YtlpkmghhmpkddaaDoorSplit
namespace Go.Proofs.YtlpkmghhmpkddaaDoor
open Go.RowKit Go.Shelf
attribute [local go_sem] Oper.semAt_some
set_option linter.unusedVariables false

theorem infoLb : (Tryd.prog.info? 28).map (fun i => (i.zero, i.size, i.bytes)) = some (some (.agg #[.string ⟨#[]⟩, .string ⟨#[]⟩]), 2, 32) := by kernel_rfl
/-- What Read answers. -/
def RPost (es : Nat → Addr) (s : Bs) (w : World) (e : Ending) (w' : World) : Prop :=
  (parseL s = none → e = .returned (.tuple #[.slice none 0 0, sentV (es 0)])) ∧
  (∀ l, parseL s = some l → 6 < l.length → e = .returned (.tuple #[.slice none 0 0, sentV (es 1)])) ∧
  (∀ l i, parseL s = some l → l.length ≤ 6 → i < l.length → (∀ j, j < i → lbOk l j) → ¬ lbOk l i → ∃ pb, e = .returned (.tuple #[.slice none 0 0, faultV ⟨pb, 0, none⟩]) ∧ w.heap.size ≤ pb ∧ pb < w'.heap.size ∧ w'.cell? ⟨pb, 0, none⟩ = some (.int .i64 i) ∧ w'.cell? ⟨pb, 1, none⟩ = some (sentV (es (lbCode l i)))) ∧
  (∀ l, parseL s = some l → l.length ≤ 6 → (∀ j, j < l.length → lbOk l j) → ∃ v, e = .returned (.tuple #[v, .nilIface]) ∧ w'.ownsRow w.heap.size 28 2 v l.length (lbC l)) ∧ Below w.heap.size w w'
theorem Below.putObj_ {B : Nat} {a w : World} (h : Below B a w) {l : Nat} (hl : B ≤ l) (o : Obj) : Below B a (w.putObj l o) :=
  ⟨h.os, h.tape, h.output, by rw [World.putObj_size]; exact h.size, fun i hi => (World.putObj_heap_other (by omega)).trans (h.block i hi)⟩
theorem Blk.putObj_ {w : World} {g : Nat} {t : TypeId} {cs : Array Value} (h : Blk w g t cs) {l : Nat} (hl : g ≠ l) (o : Obj) : Blk (w.putObj l o) g t cs := (World.putObj_heap_other hl).trans h
/-- Between two rounds. -/
def RInv (b : Nat) (w : World) (pre : List Bs) (X : World) : Prop :=
  ∃ v l, pre.mapM cutE = some l ∧ Blk X b 22 #[.slice none 0 0] ∧ Blk X (b + 1) 32 #[.nilIface] ∧ Blk X (b + 2) 22 #[v] ∧ X.ownsRow (b + 8) 28 2 v l.length (lbC l) ∧ Below b w X
/-- A round has left. -/
def RBad (es : Nat → Addr) (b : Nat) (w : World) (pre : List Bs) (X : World) : Prop :=
  pre.mapM cutE = none ∧ Blk X b 22 #[.slice none 0 0] ∧ Blk X (b + 1) 32 #[sentV (es 0)] ∧ Below b w X
theorem Fr.toBelow {S : Nat → Prop} {B : Nat} {w X Y : World} (h : Below B w X) (hB : B ≤ w.heap.size) (hf : Fr S X Y) (hS : ∀ k, k < B → ¬ S k) : Below B w Y :=
  h.trans (hf.below (Nat.le_trans hB h.size) hS)
theorem RInv.fr {b : Nat} {w : World} {p : List Bs} {X Y : World} (h : RInv b w p X) (hb : b ≤ w.heap.size) (hf : Fr (fun k => k = b + 3 ∨ k = b + 6 ∨ k = b + 6 + 1) X Y) : RInv b w p Y := by
  obtain ⟨v, l, h1, h2, h3, h4, h5, h6⟩ := h
  refine ⟨v, l, h1, hf.blk h2 (by omega), hf.blk h3 (by omega), hf.blk h4 (by omega), hf.own h5 (fun k hk => ?_), Fr.toBelow h6 hb hf (fun k hk => by omega)⟩
  have := (own_lt h5 k hk).1
  omega
theorem RBad.fr {es : Nat → Addr} {b : Nat} {w : World} {p : List Bs} {X Y : World} (h : RBad es b w p X) (hb : b ≤ w.heap.size) (hf : Fr (fun k => k = b + 3 ∨ k = b + 6 ∨ k = b + 6 + 1) X Y) : RBad es b w p Y := by
  obtain ⟨h1, h2, h3, h4⟩ := h
  exact ⟨h1, hf.blk h2 (by omega), hf.blk h3 (by omega), Fr.toBelow h4 hb hf (fun k hk => by omega)⟩
theorem rbad_done {es : Nat → Addr} {b : Nat} {w X X1 : World} {p : List Bs} (hp : p.mapM cutE = none) (hb : Below X.heap.size X X1) (h0 : Blk X1 b 22 #[.slice none 0 0]) (h1 : Blk X1 (b + 1) 32 #[.nilIface]) (hB : Below b w X1) (hs : b + 6 + 2 ≤ X.heap.size) :
    let Y := ((X1.setCell ⟨b, 0, none⟩ (.slice none 0 0)).setCell ⟨b + 1, 0, none⟩ (sentV (es 0))).drew
    RBad es b w p Y ∧ b + 6 + 2 ≤ X1.heap.size ∧ Y.heap[b + 3]? = X.heap[b + 3]? ∧ Y.heap[b + 3 + 1]? = X.heap[b + 3 + 1]? ∧ Y.heap[b + 3 + 2]? = X.heap[b + 3 + 2]? ∧ Y.heap[b + 6]? = X.heap[b + 6]? ∧ Y.heap[b + 6 + 1]? = X.heap[b + 6 + 1]? := by
  intro Y
  have hx := hb.size
  have hf : Fr (fun k => k = b ∨ k = b + 1) X1 Y := ((Fr.setCell (S := fun k => k = b ∨ k = b + 1) (Fr.refl _ X1) (p := ⟨b, 0, none⟩) (.inr (.inl rfl)) _).setCell (p := ⟨b + 1, 0, none⟩) (.inr (.inr rfl)) _).drew
  have key : ∀ k, b + 2 ≤ k → k < X.heap.size → Y.heap[k]? = X.heap[k]? := fun k h1 h2 => (hf.block k (by omega) (by omega)).trans (hb.block k h2)
  refine ⟨⟨hp, ((h0.set_ 0 (.slice none 0 0)).far (p := ⟨b + 1, 0, none⟩) (by simp) _).drew, ((h1.far (p := ⟨b, 0, none⟩) (by simp) _).set_ 0 (sentV (es 0))).drew, hB.trans (hf.below ?_ (fun k hk => by omega))⟩, by omega, key _ (by omega) (by omega), key _ (by omega) (by omega), key _ (by omega) (by omega), key _ (by omega) (by omega), key _ (by omega) (by omega)⟩
  omega
theorem lbC_snoc (l : List Lb) (q : Lb) : lbC (l ++ [q]) = lbC l ++ [.string (B8 q.1), .string (B8 q.2)] := by simp [lbC]
theorem rinv_done {b : Nat} {w X X1 Z : World} {p' : List Bs} {l : List Lb} {q : Lb} {v v' : Value} (hp : p'.mapM cutE = some (l ++ [q])) (hb : Below X.heap.size X X1) (h0 : Blk X1 b 22 #[.slice none 0 0]) (h1 : Blk X1 (b + 1) 32 #[.nilIface]) (h2 : Blk X1 (b + 2) 22 #[v])
    (ho : X1.ownsRow (b + 8) 28 2 v l.length (lbC l)) (hB : Below b w X1) (hs : b + 6 + 2 ≤ X.heap.size)
    (hown' : Z.ownsRow (b + 8) 28 2 v' (l.length + 1) (lbC l ++ [.string (B8 q.1), .string (B8 q.2)])) (hgr : (X1.alloc (.cells #[.string (B8 q.1), .string (B8 q.2)] 28)).grownBy Z v.ownBlock) :
    Blk Z (b + 2) 22 #[v] ∧ RInv b w p' (Z.setCell ⟨b + 2, 0, none⟩ v') ∧ b + 6 + 2 ≤ Z.heap.size ∧ (Z.setCell ⟨b + 2, 0, none⟩ v').heap[b + 3]? = X.heap[b + 3]? ∧ (Z.setCell ⟨b + 2, 0, none⟩ v').heap[b + 3 + 1]? = X.heap[b + 3 + 1]? ∧ (Z.setCell ⟨b + 2, 0, none⟩ v').heap[b + 3 + 2]? = X.heap[b + 3 + 2]? ∧ (Z.setCell ⟨b + 2, 0, none⟩ v').heap[b + 6]? = X.heap[b + 6]? ∧ (Z.setCell ⟨b + 2, 0, none⟩ v').heap[b + 6 + 1]? = X.heap[b + 6 + 1]? := by
  have hx := hb.size
  have hfz : Fr (fun k => b + 8 ≤ k) X1 Z := ((Fr.refl _ X1).alloc _).grown hgr (fun k hk => .inr (own_lt ho k hk).1)
  have hf : Fr (fun k => b + 8 ≤ k ∨ k = b + 2) X1 (Z.setCell ⟨b + 2, 0, none⟩ v') := Fr.setCell (hfz.mono fun _ _ h => .inl h) (p := ⟨b + 2, 0, none⟩) (.inr (.inr rfl)) _
  have hz2 : Blk Z (b + 2) 22 #[v] := hfz.blk h2 (by omega)
  have key : ∀ k, b + 3 ≤ k → k < b + 8 → (Z.setCell ⟨b + 2, 0, none⟩ v').heap[k]? = X.heap[k]? := fun k k1 k2 => (hf.block k (by omega) (by omega)).trans (hb.block k (by omega))
  refine ⟨hz2, ⟨v', l ++ [q], hp, hf.blk h0 (by omega), hf.blk h1 (by omega), hz2.set_ 0 v', ?_, hB.trans (hf.below (by omega) (fun k hk => by omega))⟩, by have := hfz.size; omega, key _ (by omega) (by omega), key _ (by omega) (by omega), key _ (by omega) (by omega), key _ (by omega) (by omega), key _ (by omega) (by omega)⟩
  rw [lbC_snoc, List.length_append, List.length_singleton]
  refine own_set hown' (p := ⟨b + 2, 0, none⟩) (fun e => ?_) _
  have h : b + 8 ≤ b + 2 := (own_lt hown' _ e.symm).1
  omega
theorem lb_one2 (q : Lb) : ∀ u ∈ [Value.string (B8 q.1), Value.string (B8 q.2)], u.oneCell' = true := by
  intro u hu; simp at hu; rcases hu with rfl | rfl <;> rfl
theorem new2 (W : World) (t : TypeId) (u0 u1 : Value) : ∀ (j : Nat) u, [u0, u1][j]? = some u → (W.alloc (.cells #[u0, u1] t)).cell? ((⟨W.heap.size, 0, none⟩ : Addr).add j) = some u := by
  intro j u hu
  rw [add_at, Nat.zero_add, (Blk.new W t #[u0, u1]).cell j]
  simpa using hu
theorem cell_of_block {X Y : World} {a : Addr} (h : Y.heap[a.block]? = X.heap[a.block]?) : Y.cell? a = X.cell? a := by unfold World.cell?; rw [h]
theorem fin_set {b : Nat} {X : World} {u0 u1 : Value} (h0 : Blk X b 22 #[u0]) (h1 : Blk X (b + 1) 32 #[u1]) (hD : X.heap[b + 6]? = some (.deferred (some []))) (v0 v1 : Value) :
    ((X.setCell ⟨b, 0, none⟩ v0).setCell ⟨b + 1, 0, none⟩ v1).heap[b + 6]? = some (.deferred (some [])) ∧ Blk (((X.setCell ⟨b, 0, none⟩ v0).setCell ⟨b + 1, 0, none⟩ v1).putObj (b + 6) (.deferred none)) b 22 #[v0] ∧ Blk (((X.setCell ⟨b, 0, none⟩ v0).setCell ⟨b + 1, 0, none⟩ v1).putObj (b + 6) (.deferred none)) (b + 1) 32 #[v1] ∧
      Fr (fun k => k = b ∨ k = b + 1 ∨ k = b + 6) X (((X.setCell ⟨b, 0, none⟩ v0).setCell ⟨b + 1, 0, none⟩ v1).putObj (b + 6) (.deferred none)) := by
  have hl := (Array.getElem?_eq_some_iff.1 hD).1
  have hf : Fr (fun k => k = b ∨ k = b + 1 ∨ k = b + 6) X ((X.setCell ⟨b, 0, none⟩ v0).setCell ⟨b + 1, 0, none⟩ v1) := (Fr.setCell (S := fun k => k = b ∨ k = b + 1 ∨ k = b + 6) (Fr.refl _ X) (p := ⟨b, 0, none⟩) (.inr (.inl rfl)) _).setCell (p := ⟨b + 1, 0, none⟩) (.inr (.inr (.inl rfl))) _
  refine ⟨?_, ((h0.set_ 0 v0).far (p := ⟨b + 1, 0, none⟩) (by simp) _).putObj_ (by omega) _, ((h1.far (p := ⟨b, 0, none⟩) (by simp) _).set_ 0 v1).putObj_ (by omega) _, hf.putObj (.inr (.inr rfl)) _⟩
  rw [Below.heap_setCell _ _ _ _ (by simp), Below.heap_setCell _ _ _ _ (by simp)]
  exact hD
end Go.Proofs.YtlpkmghhmpkddaaDoor
