/- package bits' Row by contracts: New, Put, Len, Room, Bytes: a row of bits as it lies in memory. -/
import Derived.Test.YtlpkmghhmpkddaaDoorProg
import Derived.Test.YtlpkmghhmpkddaaDoorBits
import Derived.BigRegion
namespace Go.Proofs.YtlpkmghhmpkddaaDoor
open Go.RowKit
set_option linter.unusedVariables false

theorem infoU8 : (Tryd.prog.info? 5).map (fun i => (i.zero, i.size, i.bytes)) = some (some (.int .u8 0), 1, 1) := by kernel_rfl

/-- The blocks of a row. -/
def RowS (g : Nat) (bv : Value) (k : Nat) : Prop := k = g ∨ bv.ownBlock = some k
/-- Where a row's bytes may have gone: they stand where they stood, or in a new block. -/
def Mv (w : World) (bv bv' : Value) : Prop := bv'.ownBlock = bv.ownBlock ∨ ∃ k, bv'.ownBlock = some k ∧ w.heap.size ≤ k
theorem Mv.refl (w : World) (bv : Value) : Mv w bv bv := .inl rfl
theorem Mv.trans {w w1 : World} {a b c : Value} (h : Mv w a b) (k : Mv w1 b c) (hs : w.heap.size ≤ w1.heap.size) : Mv w a c := by
  rcases k with k | ⟨q, k1, k2⟩
  · rcases h with h | ⟨q, h1, h2⟩
    · exact .inl (k.trans h)
    · exact .inr ⟨q, k.trans h1, h2⟩
  · exact .inr ⟨q, k1, Nat.le_trans hs k2⟩
theorem RowS.of_mv {w : World} {g : Nat} {bv bv' : Value} (h : Mv w bv bv') : ∀ i, i < w.heap.size → RowS g bv' i → RowS g bv i := by
  intro i hi hs
  rcases hs with rfl | hs
  · exact .inl rfl
  · rcases h with h | ⟨k, h1, h2⟩
    · exact .inr (by rw [← h]; exact hs)
    · rw [hs] at h1; injection h1 with h1; omega
/-! ### One bit more -/
section
variable {w : World} {g : Nat} {bv : Value} {l : List Bool}
theorem u8_one (xs : List Nat) : ∀ u ∈ xs.map (fun x : Nat => Value.int .u8 (x : Int)), u.oneCell' = true := by
  intro u hu
  obtain ⟨x, _, rfl⟩ := List.mem_map.1 hu
  rfl
theorem Mv.at_ {w : World} {g b n c : Nat} {bv : Value} (h : Mv w bv (.slice (some ⟨b, 0, none⟩) n c)) : w.heap.size ≤ b ∨ RowS g bv b := by
  rcases h with h | ⟨k, h1, h2⟩
  · exact .inr (.inr (by rw [← h]; rfl))
  · have : b = k := by simpa [Value.ownBlock] using h1
    subst this; exact .inl h2
end

end Go.Proofs.YtlpkmghhmpkddaaDoor
