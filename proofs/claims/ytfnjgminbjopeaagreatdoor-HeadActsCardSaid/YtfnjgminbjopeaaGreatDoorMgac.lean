/- The reference's Byte, Bits, Pack, Unpack, ValueOf by contracts. -/
import Derived.Test.YtfnjgminbjopeaaGreatDoorChecked
import Derived.Test.YtfnjgminbjopeaaGreatDoorTxt
import Derived.Laws.IdiomStrings
import Derived.Laws.DeepStrings4
import Derived.Test.YtfnjgminbjopeaaGreatDoorProg
import Derived.Test.YtfnjgminbjopeaaGreatDoorBits
import Derived.BigRegion
import Derived.Test.YtfnjgminbjopeaaGreatDoorBase
namespace Go.Proofs.YtfnjgminbjopeaaGreatDoor
open Go.RowKit
set_option linter.unusedVariables false

/-- The bits of byte j of a row. -/
def bitF (l : List Bool) (j q : Nat) : Bool := l.getD (8 * j + q) false
end Go.Proofs.YtfnjgminbjopeaaGreatDoor

namespace Go.Proofs.YtfnjgminbjopeaaGreatDoor
open Go.RowKit
set_option linter.unusedVariables false

theorem infoU8 : (Tryz.prog.info? 5).map (fun i => (i.zero, i.size, i.bytes)) = some (some (.int .u8 0), 1, 1) := by kernel_rfl

/-- The blocks of a row. -/
def RowS (g : Nat) (bv : Value) (k : Nat) : Prop := k = g ∨ bv.ownBlock = some k
/-- Where a row's bytes may have gone: they stand where they stood, or in a new block. -/
def Mv (w : World) (bv bv' : Value) : Prop := bv'.ownBlock = bv.ownBlock ∨ ∃ k, bv'.ownBlock = some k ∧ w.heap.size ≤ k
theorem Mv.refl (w : World) (bv : Value) : Mv w bv bv := .inl rfl
theorem Mv.trans {w w1 : World} {a b c : Value} (h : Mv w a b) (k : Mv w1 b c) (hs : w.heap.size ≤ w1.heap.size) : Mv w a c := by
  rcases k with k | ⟨q, k1, k2⟩
  · rcases h with h | ⟨q, h1, h2⟩
    · exact .inl (k.trans h)
    · exact .inr ⟨q, k.trans h1, h2⟩
  · exact .inr ⟨q, k1, Nat.le_trans hs k2⟩
theorem RowS.of_mv {w : World} {g : Nat} {bv bv' : Value} (h : Mv w bv bv') : ∀ i, i < w.heap.size → RowS g bv' i → RowS g bv i := by
  intro i hi hs
  rcases hs with rfl | hs
  · exact .inl rfl
  · rcases h with h | ⟨k, h1, h2⟩
    · exact .inr (by rw [← h]; exact hs)
    · rw [hs] at h1; injection h1 with h1; omega
/-! ### One bit more -/
section
variable {w : World} {g : Nat} {bv : Value} {l : List Bool}
theorem u8_one (xs : List Nat) : ∀ u ∈ xs.map (fun x : Nat => Value.int .u8 (x : Int)), u.oneCell' = true := by
  intro u hu
  obtain ⟨x, _, rfl⟩ := List.mem_map.1 hu
  rfl
theorem Mv.at_ {w : World} {g b n c : Nat} {bv : Value} (h : Mv w bv (.slice (some ⟨b, 0, none⟩) n c)) : w.heap.size ≤ b ∨ RowS g bv b := by
  rcases h with h | ⟨k, h1, h2⟩
  · exact .inr (.inr (by rw [← h]; rfl))
  · have : b = k := by simpa [Value.ownBlock] using h1
    subst this; exact .inl h2
end

end Go.Proofs.YtfnjgminbjopeaaGreatDoor

namespace Go.Proofs.YtfnjgminbjopeaaGreatDoor
open Go.RowKit
set_option linter.unusedVariables false

/-- The form of a number: how many bits are 1 at its head; how many follow. -/
def ofK (n : Int) : Nat := if n = 0 then 0 else if -64 < n ∧ n ≤ 64 then 1 else if -256 < n ∧ n ≤ 256 then 2 else if -2048 < n ∧ n ≤ 2048 then 3 else 4
def wideK (k : Nat) : Int := match k with | 0 => 0 | 1 => 7 | 2 => 9 | 3 => 12 | _ => 64
def mostW (wd : Int) : Int := if wd = 7 then 64 else if wd = 9 then 256 else 2048
def hasB (wd n : Int) : Bool := if wd = 0 then decide (n = 0) else if wd = 64 then true else decide (-(mostW wd) < n ∧ n ≤ mostW wd)
def headV (k : Nat) : Int := match k with | 0 => 0 | 1 => 2 | 2 => 6 | 3 => 14 | _ => 15
def headN (k : Nat) : Int := match k with | 0 => 1 | 1 => 2 | 2 => 3 | _ => 4
def sizeN (n : Int) : Int := headN (ofK n) + wideK (ofK n)
def formsL : List (Int × Int) := [(0, 0), (1, 7), (2, 9), (3, 12), (4, 64)]

theorem ofK_le (n : Int) : ofK n ≤ 4 := by unfold ofK; repeat' split
                                           all_goals omega
theorem forms_get (k : Nat) (hk : k ≤ 4) : formsL[k]? = some ((k : Int), wideK k) := by
  rcases k with _ | _ | _ | _ | _ | k
  · rfl
  · rfl
  · rfl
  · rfl
  · rfl
  · omega
theorem hasB_of (n : Int) : hasB (wideK (ofK n)) n = true := by
  unfold ofK
  split
  · rename_i h; simp [wideK, hasB, h]
  · split
    · rename_i h; simp [wideK, hasB, mostW]; omega
    · split
      · rename_i h; simp [wideK, hasB, mostW]; omega
      · split
        · rename_i h; simp [wideK, hasB, mostW]; omega
        · simp [wideK, hasB]
theorem hasB_before (n : Int) (k : Nat) (h : k < ofK n) : hasB (wideK k) n = false := by
  have h4 := ofK_le n
  have hc : (k = 0 ∨ k = 1 ∨ k = 2 ∨ k = 3) := by omega
  unfold ofK at h
  split at h
  · omega
  · rename_i h0
    split at h
    · obtain rfl : k = 0 := by omega
      simp [wideK, hasB, h0]
    · rename_i h1
      split at h
      · rcases hc with rfl | rfl | rfl | rfl
        · simp [wideK, hasB, h0]
        · simp [wideK, hasB, mostW]; omega
        · omega
        · omega
      · rename_i h2
        split at h
        · rcases hc with rfl | rfl | rfl | rfl
          · simp [wideK, hasB, h0]
          · simp [wideK, hasB, mostW]; omega
          · simp [wideK, hasB, mostW]; omega
          · omega
        · rename_i h3
          rcases hc with rfl | rfl | rfl | rfl
          · simp [wideK, hasB, h0]
          · simp [wideK, hasB, mostW]; omega
          · simp [wideK, hasB, mostW]; omega
          · simp [wideK, hasB, mostW]; omega

def formCells : Array Value := #[.int .i64 0, .int .i64 0, .int .i64 1, .int .i64 7, .int .i64 2, .int .i64 9, .int .i64 3, .int .i64 12, .int .i64 4, .int .i64 64]
theorem headN_bd (k : Nat) : 1 ≤ headN k ∧ headN k ≤ 4 := by unfold headN; split <;> omega
theorem wideK_bd (k : Nat) : 0 ≤ wideK k ∧ wideK k ≤ 64 := by unfold wideK; split <;> omega
end Go.Proofs.YtfnjgminbjopeaaGreatDoor

namespace Go.Proofs.YtfnjgminbjopeaaGreatDoor
open Go.RowKit
set_option linter.unusedVariables false

/-- What a number's own bits say: the number, moved. -/
def waveV (n : Int) : Int := if ofK n = 0 ∨ ofK n = 4 then n % 18446744073709551616 else n + (mostW (wideK (ofK n)) - 1)
def waveBits (n : Int) : List Bool := bitsN (headV (ofK n)).toNat (headN (ofK n)).toNat ++ bitsN (waveV n).toNat (wideK (ofK n)).toNat
theorem waveBits_len (n : Int) : ((waveBits n).length : Int) = sizeN n := by
  have h1 := headN_bd (ofK n)
  have h2 := wideK_bd (ofK n)
  simp only [waveBits, List.length_append, bitsN_len, sizeN]
  omega
theorem headV_bd (k : Nat) : 0 ≤ headV k ∧ headV k < 18446744073709551616 := by unfold headV; split <;> omega
theorem sizeN_bd (n : Int) : 1 ≤ sizeN n ∧ sizeN n ≤ 68 := by
  have h1 := headN_bd (ofK n)
  have h2 := wideK_bd (ofK n)
  unfold sizeN; omega
theorem waveV_bd (n : Int) : 0 ≤ waveV n ∧ waveV n < 18446744073709551616 := by
  unfold waveV
  split
  · omega
  · rename_i h
    unfold ofK at h ⊢
    split at h
    · omega
    · split at h
      · rename_i h0 h1; rw [if_neg h0, if_pos h1]; simp [mostW, wideK]; omega
      · split at h
        · rename_i h0 h1 h2; rw [if_neg h0, if_neg h1, if_pos h2]; simp [mostW, wideK]; omega
        · split at h
          · rename_i h0 h1 h2 h3; rw [if_neg h0, if_neg h1, if_neg h2, if_pos h3]; simp [mostW, wideK]; omega
          · omega

theorem mid_facts (n : Int) (h : 0 < ofK n ∧ ofK n < 4) : (wideK (ofK n) = 7 ∨ wideK (ofK n) = 9 ∨ wideK (ofK n) = 12) ∧ 64 ≤ mostW (wideK (ofK n)) ∧ mostW (wideK (ofK n)) ≤ 2048 ∧ -(mostW (wideK (ofK n))) < n ∧ n ≤ mostW (wideK (ofK n)) := by
  have h1 := hasB_of n
  have h2 : ofK n = 1 ∨ ofK n = 2 ∨ ofK n = 3 := by omega
  rcases h2 with h2 | h2 | h2 <;> rw [h2] at h1 ⊢ <;> simp [wideK, hasB, mostW] at h1 ⊢ <;> omega

end Go.Proofs.YtfnjgminbjopeaaGreatDoor
