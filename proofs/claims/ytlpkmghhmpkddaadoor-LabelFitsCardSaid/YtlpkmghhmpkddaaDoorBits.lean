/- Plain facts on rows of bits: the bits of a number, the highest first; bits packed into bytes; one bit more. No program. -/
import Derived.Test.YtlpkmghhmpkddaaDoorBase
import Derived.Laws.BitsAllLaws
import Derived.Laws.BitsLemmas
namespace Go.Proofs.YtlpkmghhmpkddaaDoor
open Go.RowKit
set_option linter.unusedVariables false

/-- The last n bits of v, the highest first. -/
def bitsN (v n : Nat) : List Bool := (List.range n).map fun j => v.testBit (n - 1 - j)
theorem bitsN_len (v n : Nat) : (bitsN v n).length = n := by simp [bitsN]
theorem bitsN_get (v n j : Nat) (h : j < n) : (bitsN v n)[j]? = some (v.testBit (n - 1 - j)) := by simp [bitsN, h]
theorem bitsN_take (v n k : Nat) (h : k < n) : (bitsN v n).take (k + 1) = (bitsN v n).take k ++ [v.testBit (n - 1 - k)] := take_snoc (bitsN_get v n k h)

def b8 (f : Nat → Bool) : Nat := (f 0).toNat * 128 + (f 1).toNat * 64 + (f 2).toNat * 32 + (f 3).toNat * 16 + (f 4).toNat * 8 + (f 5).toNat * 4 + (f 6).toNat * 2 + (f 7).toNat
theorem toNat_le (b : Bool) : b.toNat ≤ 1 := by cases b <;> decide
theorem b8_lt (f : Nat → Bool) : b8 f < 256 := by
  have h0 := toNat_le (f 0); have h1 := toNat_le (f 1); have h2 := toNat_le (f 2); have h3 := toNat_le (f 3)
  have h4 := toNat_le (f 4); have h5 := toNat_le (f 5); have h6 := toNat_le (f 6); have h7 := toNat_le (f 7)
  unfold b8; omega
/-- Byte number i of a row of bits; what is missing is 0. -/
def byteAt (l : List Bool) (i : Nat) : Nat := b8 fun j => l.getD (8 * i + j) false
def packN (l : List Bool) : List Nat := (List.range ((l.length + 7) / 8)).map (byteAt l)
/-- The same with room for one bit more. -/
def packP (l : List Bool) : List Nat := (List.range (l.length / 8 + 1)).map (byteAt l)
theorem packN_len (l : List Bool) : (packN l).length = (l.length + 7) / 8 := by simp [packN]
theorem packP_len (l : List Bool) : (packP l).length = l.length / 8 + 1 := by simp [packP]
theorem byteAt_lt (l : List Bool) (i : Nat) : byteAt l i < 256 := b8_lt _
theorem byteAt_past (l : List Bool) (i : Nat) (h : l.length ≤ 8 * i) : byteAt l i = 0 := by
  have : ∀ j, l.getD (8 * i + j) false = false := fun j => by
    rw [List.getD_eq_getElem?_getD, List.getElem?_eq_none (by omega)]; rfl
  have e : (fun j => l.getD (8 * i + j) false) = fun _ => false := funext this
  unfold byteAt
  rw [e]; rfl
theorem b8_congr {f g : Nat → Bool} (h : ∀ j, j < 8 → f j = g j) : b8 f = b8 g := by
  unfold b8
  rw [h 0 (by omega), h 1 (by omega), h 2 (by omega), h 3 (by omega), h 4 (by omega), h 5 (by omega), h 6 (by omega), h 7 (by omega)]
theorem byteAt_snoc_lt (l : List Bool) (b : Bool) (i : Nat) (h : 8 * i + 8 ≤ l.length) : byteAt (l ++ [b]) i = byteAt l i := by
  refine b8_congr fun j hj => ?_
  rw [List.getD_eq_getElem?_getD, List.getD_eq_getElem?_getD, List.getElem?_append_left (by omega)]
theorem byteAt_snoc_false (l : List Bool) (i : Nat) : byteAt (l ++ [false]) i = byteAt l i := by
  unfold byteAt
  congr 1
  funext j
  rw [List.getD_eq_getElem?_getD, List.getD_eq_getElem?_getD, List.getElem?_append]
  split
  · rfl
  · rename_i h
    rw [List.getElem?_eq_none (show l.length ≤ 8 * i + j by omega)]
    cases hq : 8 * i + j - l.length with
    | zero => rfl
    | succ q => rfl
theorem or_table : ∀ (r : Fin 8) (a b c d e f g : Bool),
    (((if r.1 > 0 then a else false).toNat * 128 + (if r.1 > 1 then b else false).toNat * 64 + (if r.1 > 2 then c else false).toNat * 32 + (if r.1 > 3 then d else false).toNat * 16 + (if r.1 > 4 then e else false).toNat * 8 + (if r.1 > 5 then f else false).toNat * 4 + (if r.1 > 6 then g else false).toNat * 2 + false.toNat) ||| (128 / 2 ^ r.1)) =
      ((if r.1 > 0 then a else decide (r.1 = 0)).toNat * 128 + (if r.1 > 1 then b else decide (r.1 = 1)).toNat * 64 + (if r.1 > 2 then c else decide (r.1 = 2)).toNat * 32 + (if r.1 > 3 then d else decide (r.1 = 3)).toNat * 16 + (if r.1 > 4 then e else decide (r.1 = 4)).toNat * 8 + (if r.1 > 5 then f else decide (r.1 = 5)).toNat * 4 + (if r.1 > 6 then g else decide (r.1 = 6)).toNat * 2 + (decide (r.1 = 7)).toNat) := by decide +kernel
theorem getD_before (l : List Bool) (b : Bool) (q : Nat) : (l ++ [b]).getD q false = if q < l.length then l.getD q false else (decide (q = l.length) && b) := by
  rw [List.getD_eq_getElem?_getD, List.getD_eq_getElem?_getD, List.getElem?_append]
  by_cases h : q < l.length
  · rw [if_pos h, if_pos h]
  · rw [if_neg h, if_neg h]
    by_cases h2 : q = l.length
    · subst h2; simp
    · have : 0 < q - l.length := by omega
      obtain ⟨m, hm⟩ : ∃ m, q - l.length = m + 1 := ⟨q - l.length - 1, by omega⟩
      rw [hm]; simp [h2]
theorem byteAt_snoc_true (l : List Bool) : byteAt (l ++ [true]) (l.length / 8) = byteAt l (l.length / 8) ||| (128 / 2 ^ (l.length % 8)) := by
  have hr : l.length % 8 < 8 := Nat.mod_lt _ (by omega)
  have hd := Nat.div_add_mod l.length 8
  have old : ∀ j, l.getD (8 * (l.length / 8) + j) false = if l.length % 8 > j then l.getD (8 * (l.length / 8) + j) false else false := fun j => by
    split
    · rfl
    · rw [List.getD_eq_getElem?_getD, List.getElem?_eq_none (by omega)]; rfl
  have new : ∀ j, (l ++ [true]).getD (8 * (l.length / 8) + j) false = if l.length % 8 > j then l.getD (8 * (l.length / 8) + j) false else decide (l.length % 8 = j) := fun j => by
    rw [getD_before]
    by_cases h : l.length % 8 > j
    · rw [if_pos h, if_pos (by omega)]
    · rw [if_neg h, if_neg (by omega), Bool.and_true]
      congr 1
      apply propext
      constructor <;> intro _ <;> omega
  have key := or_table ⟨l.length % 8, hr⟩ (l.getD (8 * (l.length / 8) + 0) false) (l.getD (8 * (l.length / 8) + 1) false) (l.getD (8 * (l.length / 8) + 2) false) (l.getD (8 * (l.length / 8) + 3) false) (l.getD (8 * (l.length / 8) + 4) false) (l.getD (8 * (l.length / 8) + 5) false) (l.getD (8 * (l.length / 8) + 6) false)
  dsimp only at key
  have h7 : l.getD (8 * (l.length / 8) + 7) false = false := by rw [old 7, if_neg (by omega)]
  have n7 : (l ++ [true]).getD (8 * (l.length / 8) + 7) false = decide (l.length % 8 = 7) := by rw [new 7, if_neg (by omega)]
  unfold byteAt b8
  dsimp only
  rw [new 0, new 1, new 2, new 3, new 4, new 5, new 6, n7]
  rw [← key]
  rw [← old 0, ← old 1, ← old 2, ← old 3, ← old 4, ← old 5, ← old 6, h7]
theorem packP_eq (l : List Bool) : packP l = if l.length % 8 = 0 then packN l ++ [0] else packN l := by
  by_cases h : l.length % 8 = 0
  · rw [if_pos h]
    unfold packP packN
    have e : (l.length + 7) / 8 = l.length / 8 := by omega
    rw [e, List.range_succ, List.map_append]
    simp [byteAt_past l (l.length / 8) (by omega)]
  · rw [if_neg h]
    unfold packP packN
    have e : (l.length + 7) / 8 = l.length / 8 + 1 := by omega
    rw [e]
theorem packN_snoc (l : List Bool) (b : Bool) : packN (l ++ [b]) = (packP l).set (l.length / 8) (byteAt (l ++ [b]) (l.length / 8)) := by
  apply List.ext_getElem?
  intro i
  have e : ((l ++ [b]).length + 7) / 8 = l.length / 8 + 1 := by simp; omega
  rw [List.getElem?_set]
  unfold packN packP
  rw [e]
  by_cases h : l.length / 8 = i
  · subst h; simp
  · rw [if_neg h]
    by_cases h2 : i < l.length / 8 + 1
    · simp only [List.getElem?_map, List.getElem?_range h2, Option.map_some]
      rw [byteAt_snoc_lt l b i (by omega)]
    · simp only [List.getElem?_map]
      rw [List.getElem?_eq_none (by simp; omega)]
      rfl
theorem packN_snoc_false (l : List Bool) : packN (l ++ [false]) = packP l := by
  rw [packN_snoc, byteAt_snoc_false]
  apply List.ext_getElem?
  intro i
  rw [List.getElem?_set]
  by_cases h : l.length / 8 = i
  · subst h; simp [packP]
  · rw [if_neg h]
theorem packP_get (l : List Bool) : (packP l)[l.length / 8]? = some (byteAt l (l.length / 8)) := by simp [packP]

/-! ### The walk's own spelling -/
theorem or_u8 (x y : Nat) (hx : x < 256) (hy : y < 256) : bits BinOp.or IntKind.u8 (x : Int) (y : Int) = ((x ||| y : Nat) : Int) := by
  have e : ∀ z : Nat, z < 256 → (BitVec.ofInt 8 (z : Int)).toNat = z := fun z hz => by
    rw [BitVec.ofInt_natCast, BitVec.toNat_ofNat]; exact Nat.mod_eq_of_lt (by omega)
  have hlt : x ||| y < 2 ^ 8 := Nat.or_lt_two_pow (by omega) (by omega)
  show IntKind.u8.wrap ((BitVec.ofInt 8 (x : Int) ||| BitVec.ofInt 8 (y : Int)).toNat : Int) = _
  rw [BitVec.toNat_or, e x hx, e y hy, IntKind.wrap_u8]
  omega
theorem and_one (x : Nat) (hx : x < 18446744073709551616) : bits BinOp.and IntKind.u64 (x : Int) 1 = ((x % 2 : Nat) : Int) := by
  have e : ∀ z : Nat, z < 18446744073709551616 → (BitVec.ofInt 64 (z : Int)).toNat = z := fun z hz => by
    rw [BitVec.ofInt_natCast, BitVec.toNat_ofNat]; exact Nat.mod_eq_of_lt (by omega)
  show IntKind.u64.wrap ((BitVec.ofInt 64 (x : Int) &&& BitVec.ofInt 64 ((1 : Nat) : Int)).toNat : Int) = _
  rw [BitVec.toNat_and, e x hx, e 1 (by omega), IntKind.wrap_u64, Nat.and_one_is_mod]
  omega
theorem bit_test (v i : Nat) (hv : v < 18446744073709551616) : (bits BinOp.and IntKind.u64 ((v : Int) / 2 ^ i) 1 == 1) = v.testBit i := by
  have e : ((v : Int) / 2 ^ i) = ((v / 2 ^ i : Nat) : Int) := by simp
  rw [e, and_one _ (Nat.lt_of_le_of_lt (Nat.div_le_self _ _) hv)]
  rw [Nat.testBit_eq_decide_div_mod_eq]
  rw [Bool.eq_iff_iff, beq_iff_eq, decide_eq_true_iff]
  omega
theorem or_bit (l : List Bool) : bits BinOp.or IntKind.u8 (byteAt l (l.length / 8) : Int) (128 / 2 ^ (l.length % 8)) = (byteAt (l ++ [true]) (l.length / 8) : Int) := by
  have e : ((128 : Int) / 2 ^ (l.length % 8)) = ((128 / 2 ^ (l.length % 8) : Nat) : Int) := by simp
  rw [e, or_u8 _ _ (byteAt_lt _ _) (Nat.lt_of_le_of_lt (Nat.div_le_self _ _) (by omega)), byteAt_snoc_true]
end Go.Proofs.YtlpkmghhmpkddaaDoor
