/- bits.Put for any number of bits from 0 to 64, and wave.Put, by contracts, where there is room. -/
import Derived.Test.YtlpkmghhmpkddaaDoorRow
import Derived.Test.YtlpkmghhmpkddaaDoorWave1
namespace Go.Proofs.YtlpkmghhmpkddaaDoor
open Go.RowKit
set_option linter.unusedVariables false

/-- What a number's own bits say: the number, moved. -/
def waveV (n : Int) : Int := if ofK n = 0 ∨ ofK n = 4 then n % 18446744073709551616 else n + (mostW (wideK (ofK n)) - 1)
def waveBits (n : Int) : List Bool := bitsN (headV (ofK n)).toNat (headN (ofK n)).toNat ++ bitsN (waveV n).toNat (wideK (ofK n)).toNat
theorem waveBits_len (n : Int) : ((waveBits n).length : Int) = sizeN n := by
  have h1 := headN_bd (ofK n)
  have h2 := wideK_bd (ofK n)
  simp only [waveBits, List.length_append, bitsN_len, sizeN]
  omega
theorem headV_bd (k : Nat) : 0 ≤ headV k ∧ headV k < 18446744073709551616 := by unfold headV; split <;> omega
theorem sizeN_bd (n : Int) : 1 ≤ sizeN n ∧ sizeN n ≤ 68 := by
  have h1 := headN_bd (ofK n)
  have h2 := wideK_bd (ofK n)
  unfold sizeN; omega
theorem waveV_bd (n : Int) : 0 ≤ waveV n ∧ waveV n < 18446744073709551616 := by
  unfold waveV
  split
  · omega
  · rename_i h
    unfold ofK at h ⊢
    split at h
    · omega
    · split at h
      · rename_i h0 h1; rw [if_neg h0, if_pos h1]; simp [mostW, wideK]; omega
      · split at h
        · rename_i h0 h1 h2; rw [if_neg h0, if_neg h1, if_pos h2]; simp [mostW, wideK]; omega
        · split at h
          · rename_i h0 h1 h2 h3; rw [if_neg h0, if_neg h1, if_neg h2, if_pos h3]; simp [mostW, wideK]; omega
          · omega

theorem mid_facts (n : Int) (h : 0 < ofK n ∧ ofK n < 4) : (wideK (ofK n) = 7 ∨ wideK (ofK n) = 9 ∨ wideK (ofK n) = 12) ∧ 64 ≤ mostW (wideK (ofK n)) ∧ mostW (wideK (ofK n)) ≤ 2048 ∧ -(mostW (wideK (ofK n))) < n ∧ n ≤ mostW (wideK (ofK n)) := by
  have h1 := hasB_of n
  have h2 : ofK n = 1 ∨ ofK n = 2 ∨ ofK n = 3 := by omega
  rcases h2 with h2 | h2 | h2 <;> rw [h2] at h1 ⊢ <;> simp [wideK, hasB, mostW] at h1 ⊢ <;> omega

end Go.Proofs.YtlpkmghhmpkddaaDoor
