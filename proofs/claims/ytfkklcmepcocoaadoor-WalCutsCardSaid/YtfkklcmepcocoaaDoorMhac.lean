/- The reference's Byte, Bits, Pack, Unpack, ValueOf by contracts. -/
import Derived.Test.YtfkklcmepcocoaaDoorChecked
import Derived.Test.YtfkklcmepcocoaaDoorTxt
import Derived.Laws.IdiomStrings
import Derived.Laws.DeepStrings4
import Derived.Test.YtfkklcmepcocoaaDoorProg
import Derived.Test.YtfkklcmepcocoaaDoorBits
import Derived.BigRegion
namespace Go.Proofs.YtfkklcmepcocoaaDoor
open Go.RowKit
set_option linter.unusedVariables false

theorem byte_any (x : Nat) (hx : x < 256) (w : World) : Calls Tryd.prog 16 #[.int .i64 x] w fun e w' => e = .returned (.string (B8 [UInt8.ofNat x])) ∧ Below w.heap.size w w' := by
  have hc : ∀ W : World, W.cell? ⟨w.heap.size, 0, none⟩ = some (.int .u8 x) → (convert 47 9 (.slice (some ⟨w.heap.size, 0, none⟩) 1 1)).run Tryd.prog W = .ok (.string (B8 [UInt8.ofNat x])) W := by
    intro W hW
    have := run_convert_bytes_back (P := Tryd.prog) W 47 9 5 ⟨w.heap.size, 0, none⟩ 1 [UInt8.ofNat x] Tryd.underlying47 Tryd.underlying5 Tryd.underlying9 (by
      intro j hj
      have h0 : j = 0 := by simpa using hj
      subst h0
      rw [add_at, Nat.add_zero, hW]
      have : ((UInt8.ofNat x).toNat : Int) = x := by simp; omega
      simp only [List.getElem_cons_zero]
      rw [this])
    exact this
  have hc1 := hc (w.alloc (.cells #[.int .u8 x] 5)) (by simp)
  have h0 : (0 : Int) ≤ (x : Int) := by omega
  have h1 : (x : Int) < 256 := by omega
  clear hc
  go_enter Tryd.func16, Tryd.ntmps16
  go_wp2
  go_ret
  exact ⟨rfl, by go_grown⟩

/-- The bits of byte j of a row. -/
def bitF (l : List Bool) (j q : Nat) : Bool := l.getD (8 * j + q) false
end Go.Proofs.YtfkklcmepcocoaaDoor

namespace Go.Proofs.YtfkklcmepcocoaaDoor
open Go.RowKit
set_option linter.unusedVariables false

theorem infoU8 : (Tryd.prog.info? 5).map (fun i => (i.zero, i.size, i.bytes)) = some (some (.int .u8 0), 1, 1) := by kernel_rfl

/-- The blocks of a row. -/
def RowS (g : Nat) (bv : Value) (k : Nat) : Prop := k = g ∨ bv.ownBlock = some k
/-- Where a row's bytes may have gone: they stand where they stood, or in a new block. -/
def Mv (w : World) (bv bv' : Value) : Prop := bv'.ownBlock = bv.ownBlock ∨ ∃ k, bv'.ownBlock = some k ∧ w.heap.size ≤ k
theorem Mv.refl (w : World) (bv : Value) : Mv w bv bv := .inl rfl
theorem Mv.trans {w w1 : World} {a b c : Value} (h : Mv w a b) (k : Mv w1 b c) (hs : w.heap.size ≤ w1.heap.size) : Mv w a c := by
  rcases k with k | ⟨q, k1, k2⟩
  · rcases h with h | ⟨q, h1, h2⟩
    · exact .inl (k.trans h)
    · exact .inr ⟨q, k.trans h1, h2⟩
  · exact .inr ⟨q, k1, Nat.le_trans hs k2⟩
theorem RowS.of_mv {w : World} {g : Nat} {bv bv' : Value} (h : Mv w bv bv') : ∀ i, i < w.heap.size → RowS g bv' i → RowS g bv i := by
  intro i hi hs
  rcases hs with rfl | hs
  · exact .inl rfl
  · rcases h with h | ⟨k, h1, h2⟩
    · exact .inr (by rw [← h]; exact hs)
    · rw [hs] at h1; injection h1 with h1; omega
/-! ### One bit more -/
section
variable {w : World} {g : Nat} {bv : Value} {l : List Bool}
theorem u8_one (xs : List Nat) : ∀ u ∈ xs.map (fun x : Nat => Value.int .u8 (x : Int)), u.oneCell' = true := by
  intro u hu
  obtain ⟨x, _, rfl⟩ := List.mem_map.1 hu
  rfl
theorem Mv.at_ {w : World} {g b n c : Nat} {bv : Value} (h : Mv w bv (.slice (some ⟨b, 0, none⟩) n c)) : w.heap.size ≤ b ∨ RowS g bv b := by
  rcases h with h | ⟨k, h1, h2⟩
  · exact .inr (.inr (by rw [← h]; rfl))
  · have : b = k := by simpa [Value.ownBlock] using h1
    subst this; exact .inl h2
end

end Go.Proofs.YtfkklcmepcocoaaDoor
