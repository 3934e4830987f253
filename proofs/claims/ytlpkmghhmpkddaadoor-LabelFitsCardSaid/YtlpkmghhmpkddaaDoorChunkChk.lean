/- chunk.Check and the reference's PointsFault by contracts. -/
import Derived.Test.YtlpkmghhmpkddaaDoorBetween
import Derived.Test.YtlpkmghhmpkddaaDoorTicksOk
import Derived.Test.YtlpkmghhmpkddaaDoorCode
import Derived.BigQuiet
namespace Go.Proofs.YtlpkmghhmpkddaaDoor
open Go.RowKit
set_option linter.unusedVariables false

/-- Point i is right: a tick, and behind the one ahead. -/
def okAt (l : List (Int × Int)) (i : Nat) : Prop := Tick (l.getD i (0, 0)).1 ∧ (0 < i → (l.getD (i - 1) (0, 0)).1 < (l.getD i (0, 0)).1)
/-- What is wrong with it: bound, or old. -/
def codeAt (l : List (Int × Int)) (i : Nat) : Nat := if -1099511627776 ≤ (l.getD i (0, 0)).1 ∧ (l.getD i (0, 0)).1 ≤ 1099511627776 then 7 else 1
instance (l : List (Int × Int)) (i : Nat) : Decidable (okAt l i) := by unfold okAt Tick; infer_instance
theorem getD_pt {l : List (Int × Int)} {i : Nat} {y : Int × Int} (h : l[i]? = some y) : l.getD i (0, 0) = y := by rw [List.getD_eq_getElem?_getD, h]; rfl
theorem first_pt (l : List (Int × Int)) : ∀ n, ∃ i, i ≤ n ∧ (∀ j, j < i → okAt l j) ∧ (i < n → ¬ okAt l i)
  | 0 => ⟨0, Nat.le_refl _, fun j h => absurd h (Nat.not_lt_zero _), fun h => absurd h (Nat.not_lt_zero _)⟩
  | n + 1 => by
    obtain ⟨i, h1, h2, h3⟩ := first_pt l n
    by_cases hi : i < n
    · exact ⟨i, by omega, h2, fun _ => h3 hi⟩
    · obtain rfl : i = n := by omega
      by_cases ho : okAt l i
      · exact ⟨i + 1, Nat.le_refl _, fun j hj => by
          rcases Nat.lt_or_ge j i with h | h
          · exact h2 j h
          · obtain rfl : j = i := by omega
            exact ho, fun h => absurd h (Nat.lt_irrefl _)⟩
      · exact ⟨i, by omega, h2, fun _ => ho⟩

/-- What Check answers. -/
def KPost (es : Nat → Addr) (l : List (Int × Int)) (n i : Nat) (w : World) (e : Ending) (w' : World) : Prop :=
  (i = n → e = .returned .nilIface) ∧
  (i < n → ∃ pb, e = .returned (faultV ⟨pb, 0, none⟩) ∧ w.heap.size ≤ pb ∧ pb < w'.heap.size ∧ w'.cell? ⟨pb, 0, none⟩ = some (.int .i64 i) ∧ w'.cell? ⟨pb, 1, none⟩ = some (sentV (es (codeAt l i)))) ∧ Below w.heap.size w w'
theorem KPost.bad {es : Nat → Addr} {l : List (Int × Int)} {n i cc : Nat} {w wr : World} {o : Obj} {e : Ending} {W : World} (hW : W = (wr.alloc o).alloc (.cells #[.int .i64 i, sentV (es cc)] 63)) (hin : i < n) (hcode : codeAt l i = cc) (hb : Below w.heap.size w wr) (he : e = .returned (faultV ⟨wr.heap.size + 1, 0, none⟩)) : KPost es l n i w e W := by
  have hs := hb.size
  have HB := Blk.new (wr.alloc o) 63 #[.int .i64 i, sentV (es cc)]
  rw [← hW, show (wr.alloc o).heap.size = wr.heap.size + 1 by simp] at HB
  have hb2 : Below w.heap.size w W := by
    rw [hW]
    exact Below.alloc (Below.alloc hb hs _) (by simp; omega) _
  exact ⟨fun h => absurd h (by omega), fun _ => ⟨wr.heap.size + 1, he, by omega, HB.lt, HB.cell 0, by rw [hcode]; exact HB.cell 1⟩, hb2⟩
theorem KPost.drewN {es : Nat → Addr} {l : List (Int × Int)} {n i : Nat} {w W : World} {e : Ending} (h : KPost es l n i w e W) (k : Nat) : KPost es l n i w e (W.drewN k) := ⟨h.1, fun hi => by
  obtain ⟨pb, h1, h2, h3, h4, h5⟩ := h.2.1 hi
  exact ⟨pb, h1, h2, h3, h4, h5⟩, Below.drewN h.2.2 k⟩

end Go.Proofs.YtlpkmghhmpkddaaDoor
