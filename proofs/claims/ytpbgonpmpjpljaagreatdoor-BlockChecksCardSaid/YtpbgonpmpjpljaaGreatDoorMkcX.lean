/- Plain facts on rows of bits: the bits of a number, the highest first; bits packed into bytes; one bit more. No program. -/
import Derived.Test.YtpbgonpmpjpljaaGreatDoorBaseX
import Derived.Laws.BitsAllLaws
import Derived.Laws.BitsLemmas
import Derived.Laws.Strings
import Derived.Laws.Concat
import Derived.Lib.Join
import Derived.Lib.Bytealg
import Derived.Test.YtpbgonpmpjpljaaGreatDoorChecked
import Derived.Laws.IdiomStrings
import Derived.Laws.DeepStrings4
import Derived.Test.YtpbgonpmpjpljaaGreatDoorProg
import Derived.BigRegion
namespace Go.Proofs.YtpbgonpmpjpljaaGreatDoor
open Go.RowKit
set_option linter.unusedVariables false

/-- The last n bits of v, the highest first. -/
def bitsN (v n : Nat) : List Bool := (List.range n).map fun j => v.testBit (n - 1 - j)
theorem bitsN_len (v n : Nat) : (bitsN v n).length = n := by simp [bitsN]
theorem bitsN_get (v n j : Nat) (h : j < n) : (bitsN v n)[j]? = some (v.testBit (n - 1 - j)) := by simp [bitsN, h]
theorem bitsN_take (v n k : Nat) (h : k < n) : (bitsN v n).take (k + 1) = (bitsN v n).take k ++ [v.testBit (n - 1 - k)] := take_snoc (bitsN_get v n k h)

def b8 (f : Nat → Bool) : Nat := (f 0).toNat * 128 + (f 1).toNat * 64 + (f 2).toNat * 32 + (f 3).toNat * 16 + (f 4).toNat * 8 + (f 5).toNat * 4 + (f 6).toNat * 2 + (f 7).toNat
theorem toNat_le (b : Bool) : b.toNat ≤ 1 := by cases b <;> decide
theorem b8_lt (f : Nat → Bool) : b8 f < 256 := by
  have h0 := toNat_le (f 0); have h1 := toNat_le (f 1); have h2 := toNat_le (f 2); have h3 := toNat_le (f 3)
  have h4 := toNat_le (f 4); have h5 := toNat_le (f 5); have h6 := toNat_le (f 6); have h7 := toNat_le (f 7)
  unfold b8; omega
/-- Byte number i of a row of bits; what is missing is 0. -/
def byteAt (l : List Bool) (i : Nat) : Nat := b8 fun j => l.getD (8 * i + j) false
def packN (l : List Bool) : List Nat := (List.range ((l.length + 7) / 8)).map (byteAt l)
/-- The same with room for one bit more. -/
def packP (l : List Bool) : List Nat := (List.range (l.length / 8 + 1)).map (byteAt l)
theorem packN_len (l : List Bool) : (packN l).length = (l.length + 7) / 8 := by simp [packN]
theorem packP_len (l : List Bool) : (packP l).length = l.length / 8 + 1 := by simp [packP]
theorem byteAt_lt (l : List Bool) (i : Nat) : byteAt l i < 256 := b8_lt _
theorem byteAt_past (l : List Bool) (i : Nat) (h : l.length ≤ 8 * i) : byteAt l i = 0 := by
  have : ∀ j, l.getD (8 * i + j) false = false := fun j => by
    rw [List.getD_eq_getElem?_getD, List.getElem?_eq_none (by omega)]; rfl
  have e : (fun j => l.getD (8 * i + j) false) = fun _ => false := funext this
  unfold byteAt
  rw [e]; rfl
theorem b8_congr {f g : Nat → Bool} (h : ∀ j, j < 8 → f j = g j) : b8 f = b8 g := by
  unfold b8
  rw [h 0 (by omega), h 1 (by omega), h 2 (by omega), h 3 (by omega), h 4 (by omega), h 5 (by omega), h 6 (by omega), h 7 (by omega)]
theorem byteAt_snoc_lt (l : List Bool) (b : Bool) (i : Nat) (h : 8 * i + 8 ≤ l.length) : byteAt (l ++ [b]) i = byteAt l i := by
  refine b8_congr fun j hj => ?_
  rw [List.getD_eq_getElem?_getD, List.getD_eq_getElem?_getD, List.getElem?_append_left (by omega)]
theorem byteAt_snoc_false (l : List Bool) (i : Nat) : byteAt (l ++ [false]) i = byteAt l i := by
  unfold byteAt
  congr 1
  funext j
  rw [List.getD_eq_getElem?_getD, List.getD_eq_getElem?_getD, List.getElem?_append]
  split
  · rfl
  · rename_i h
    rw [List.getElem?_eq_none (show l.length ≤ 8 * i + j by omega)]
    cases hq : 8 * i + j - l.length with
    | zero => rfl
    | succ q => rfl
theorem or_table : ∀ (r : Fin 8) (a b c d e f g : Bool),
    (((if r.1 > 0 then a else false).toNat * 128 + (if r.1 > 1 then b else false).toNat * 64 + (if r.1 > 2 then c else false).toNat * 32 + (if r.1 > 3 then d else false).toNat * 16 + (if r.1 > 4 then e else false).toNat * 8 + (if r.1 > 5 then f else false).toNat * 4 + (if r.1 > 6 then g else false).toNat * 2 + false.toNat) ||| (128 / 2 ^ r.1)) =
      ((if r.1 > 0 then a else decide (r.1 = 0)).toNat * 128 + (if r.1 > 1 then b else decide (r.1 = 1)).toNat * 64 + (if r.1 > 2 then c else decide (r.1 = 2)).toNat * 32 + (if r.1 > 3 then d else decide (r.1 = 3)).toNat * 16 + (if r.1 > 4 then e else decide (r.1 = 4)).toNat * 8 + (if r.1 > 5 then f else decide (r.1 = 5)).toNat * 4 + (if r.1 > 6 then g else decide (r.1 = 6)).toNat * 2 + (decide (r.1 = 7)).toNat) := by decide +kernel
theorem getD_before (l : List Bool) (b : Bool) (q : Nat) : (l ++ [b]).getD q false = if q < l.length then l.getD q false else (decide (q = l.length) && b) := by
  rw [List.getD_eq_getElem?_getD, List.getD_eq_getElem?_getD, List.getElem?_append]
  by_cases h : q < l.length
  · rw [if_pos h, if_pos h]
  · rw [if_neg h, if_neg h]
    by_cases h2 : q = l.length
    · subst h2; simp
    · have : 0 < q - l.length := by omega
      obtain ⟨m, hm⟩ : ∃ m, q - l.length = m + 1 := ⟨q - l.length - 1, by omega⟩
      rw [hm]; simp [h2]
theorem byteAt_snoc_true (l : List Bool) : byteAt (l ++ [true]) (l.length / 8) = byteAt l (l.length / 8) ||| (128 / 2 ^ (l.length % 8)) := by
  have hr : l.length % 8 < 8 := Nat.mod_lt _ (by omega)
  have hd := Nat.div_add_mod l.length 8
  have old : ∀ j, l.getD (8 * (l.length / 8) + j) false = if l.length % 8 > j then l.getD (8 * (l.length / 8) + j) false else false := fun j => by
    split
    · rfl
    · rw [List.getD_eq_getElem?_getD, List.getElem?_eq_none (by omega)]; rfl
  have new : ∀ j, (l ++ [true]).getD (8 * (l.length / 8) + j) false = if l.length % 8 > j then l.getD (8 * (l.length / 8) + j) false else decide (l.length % 8 = j) := fun j => by
    rw [getD_before]
    by_cases h : l.length % 8 > j
    · rw [if_pos h, if_pos (by omega)]
    · rw [if_neg h, if_neg (by omega), Bool.and_true]
      congr 1
      apply propext
      constructor <;> intro _ <;> omega
  have key := or_table ⟨l.length % 8, hr⟩ (l.getD (8 * (l.length / 8) + 0) false) (l.getD (8 * (l.length / 8) + 1) false) (l.getD (8 * (l.length / 8) + 2) false) (l.getD (8 * (l.length / 8) + 3) false) (l.getD (8 * (l.length / 8) + 4) false) (l.getD (8 * (l.length / 8) + 5) false) (l.getD (8 * (l.length / 8) + 6) false)
  dsimp only at key
  have h7 : l.getD (8 * (l.length / 8) + 7) false = false := by rw [old 7, if_neg (by omega)]
  have n7 : (l ++ [true]).getD (8 * (l.length / 8) + 7) false = decide (l.length % 8 = 7) := by rw [new 7, if_neg (by omega)]
  unfold byteAt b8
  dsimp only
  rw [new 0, new 1, new 2, new 3, new 4, new 5, new 6, n7]
  rw [← key]
  rw [← old 0, ← old 1, ← old 2, ← old 3, ← old 4, ← old 5, ← old 6, h7]
theorem packP_eq (l : List Bool) : packP l = if l.length % 8 = 0 then packN l ++ [0] else packN l := by
  by_cases h : l.length % 8 = 0
  · rw [if_pos h]
    unfold packP packN
    have e : (l.length + 7) / 8 = l.length / 8 := by omega
    rw [e, List.range_succ, List.map_append]
    simp [byteAt_past l (l.length / 8) (by omega)]
  · rw [if_neg h]
    unfold packP packN
    have e : (l.length + 7) / 8 = l.length / 8 + 1 := by omega
    rw [e]
theorem packN_snoc (l : List Bool) (b : Bool) : packN (l ++ [b]) = (packP l).set (l.length / 8) (byteAt (l ++ [b]) (l.length / 8)) := by
  apply List.ext_getElem?
  intro i
  have e : ((l ++ [b]).length + 7) / 8 = l.length / 8 + 1 := by simp; omega
  rw [List.getElem?_set]
  unfold packN packP
  rw [e]
  by_cases h : l.length / 8 = i
  · subst h; simp
  · rw [if_neg h]
    by_cases h2 : i < l.length / 8 + 1
    · simp only [List.getElem?_map, List.getElem?_range h2, Option.map_some]
      rw [byteAt_snoc_lt l b i (by omega)]
    · simp only [List.getElem?_map]
      rw [List.getElem?_eq_none (by simp; omega)]
      rfl
theorem packN_snoc_false (l : List Bool) : packN (l ++ [false]) = packP l := by
  rw [packN_snoc, byteAt_snoc_false]
  apply List.ext_getElem?
  intro i
  rw [List.getElem?_set]
  by_cases h : l.length / 8 = i
  · subst h; simp [packP]
  · rw [if_neg h]
theorem packP_get (l : List Bool) : (packP l)[l.length / 8]? = some (byteAt l (l.length / 8)) := by simp [packP]

/-! ### The walk's own spelling -/
theorem or_u8 (x y : Nat) (hx : x < 256) (hy : y < 256) : bits BinOp.or IntKind.u8 (x : Int) (y : Int) = ((x ||| y : Nat) : Int) := by
  have e : ∀ z : Nat, z < 256 → (BitVec.ofInt 8 (z : Int)).toNat = z := fun z hz => by
    rw [BitVec.ofInt_natCast, BitVec.toNat_ofNat]; exact Nat.mod_eq_of_lt (by omega)
  have hlt : x ||| y < 2 ^ 8 := Nat.or_lt_two_pow (by omega) (by omega)
  show IntKind.u8.wrap ((BitVec.ofInt 8 (x : Int) ||| BitVec.ofInt 8 (y : Int)).toNat : Int) = _
  rw [BitVec.toNat_or, e x hx, e y hy, IntKind.wrap_u8]
  omega
theorem and_one (x : Nat) (hx : x < 18446744073709551616) : bits BinOp.and IntKind.u64 (x : Int) 1 = ((x % 2 : Nat) : Int) := by
  have e : ∀ z : Nat, z < 18446744073709551616 → (BitVec.ofInt 64 (z : Int)).toNat = z := fun z hz => by
    rw [BitVec.ofInt_natCast, BitVec.toNat_ofNat]; exact Nat.mod_eq_of_lt (by omega)
  show IntKind.u64.wrap ((BitVec.ofInt 64 (x : Int) &&& BitVec.ofInt 64 ((1 : Nat) : Int)).toNat : Int) = _
  rw [BitVec.toNat_and, e x hx, e 1 (by omega), IntKind.wrap_u64, Nat.and_one_is_mod]
  omega
theorem bit_test (v i : Nat) (hv : v < 18446744073709551616) : (bits BinOp.and IntKind.u64 ((v : Int) / 2 ^ i) 1 == 1) = v.testBit i := by
  have e : ((v : Int) / 2 ^ i) = ((v / 2 ^ i : Nat) : Int) := by simp
  rw [e, and_one _ (Nat.lt_of_le_of_lt (Nat.div_le_self _ _) hv)]
  rw [Nat.testBit_eq_decide_div_mod_eq]
  rw [Bool.eq_iff_iff, beq_iff_eq, decide_eq_true_iff]
  omega
theorem or_bit (l : List Bool) : bits BinOp.or IntKind.u8 (byteAt l (l.length / 8) : Int) (128 / 2 ^ (l.length % 8)) = (byteAt (l ++ [true]) (l.length / 8) : Int) := by
  have e : ((128 : Int) / 2 ^ (l.length % 8)) = ((128 / 2 ^ (l.length % 8) : Nat) : Int) := by simp
  rw [e, or_u8 _ _ (byteAt_lt _ _) (Nat.lt_of_le_of_lt (Nat.div_le_self _ _) (by omega)), byteAt_snoc_true]
end Go.Proofs.YtpbgonpmpjpljaaGreatDoor

namespace Go.Proofs.YtpbgonpmpjpljaaGreatDoor
open Go.RowKit
set_option linter.unusedVariables false

def B8 (l : List UInt8) : ByteArray := ⟨l.toArray⟩
theorem B8_append (a b : List UInt8) : B8 a ++ B8 b = B8 (a ++ b) := ByteArray.mk_append_mk a b
theorem B8_size (l : List UInt8) : (B8 l).size = l.length := rfl
theorem B8_toList (l : List UInt8) : (B8 l).toList = l := ByteArray.toList_mk l
theorem B8_nil : B8 [] = ByteArray.empty := rfl
theorem B8_get (l : List UInt8) (i : Nat) (h : i < (B8 l).size) (u : UInt8) (hu : l[i]? = some u) : (B8 l)[i] = u := by
  have hl : i < l.length := h
  rw [List.getElem?_eq_getElem hl] at hu
  have : (B8 l)[i] = l[i] := by
    show (B8 l).data[i] = l[i]
    simp [B8]
  exact this.trans (Option.some.inj hu)
theorem B8_extract (l : List UInt8) (i j : Nat) : (B8 l).extract i j = B8 ((l.take j).drop i) := by
  apply ByteArray.ext
  simp [B8, ByteArray.data_extract, List.take_drop]
  rcases Nat.le_total i j with h | h
  · rw [Nat.add_sub_cancel' h]
  · rw [Nat.sub_eq_zero_of_le h, Nat.add_zero, List.drop_eq_nil_of_le (by simp; omega), List.drop_eq_nil_of_le (by simp; omega)]
def chB (b : Bool) : UInt8 := if b then 49 else 48
def txt (l : List Bool) : ByteArray := B8 (l.map chB)
theorem txt_append (a b : List Bool) : txt a ++ txt b = txt (a ++ b) := by simp [txt, B8_append]
theorem txt_size (l : List Bool) : (txt l).size = l.length := by simp [txt, B8_size]
theorem txt_get (l : List Bool) (i : Nat) (h : i < (txt l).size) (b : Bool) (hb : l[i]? = some b) : (txt l)[i] = chB b :=
  B8_get _ i h _ (by rw [List.getElem?_map, hb]; rfl)
theorem txt_extract (l : List Bool) (i j : Nat) : (txt l).extract i j = txt ((l.take j).drop i) := by
  simp [txt, B8_extract, List.map_take, List.map_drop]
theorem chB_toNat (b : Bool) : (chB b).toNat = 48 + b.toNat := by cases b <;> rfl

theorem bitsN_succ (v k : Nat) : bitsN v (k + 1) = v.testBit k :: bitsN v k := by
  unfold bitsN
  rw [List.range_succ_eq_map, List.map_cons, List.map_map]
  congr 1
  apply List.map_congr_left
  intro j _
  simp only [Function.comp]
  congr 1
  omega
theorem testBit_q (v k : Nat) : (v.testBit k).toNat = v / 2 ^ k % 2 := Nat.toNat_testBit v k
theorem char_q (v k : Nat) : B8 [UInt8.ofNat (48 + v / 2 ^ k % 2)] = txt [v.testBit k] := by
  unfold txt
  rw [List.map_cons, List.map_nil, ← testBit_q]
  cases v.testBit k <;> rfl

/-- The bytes of a row of bits. -/
def bytesOf (xs : List Nat) : ByteArray := B8 (xs.map UInt8.ofNat)
theorem bytesOf_size (xs : List Nat) : (bytesOf xs).size = xs.length := by simp [bytesOf, B8_size]
theorem bytesOf_append (a b : List Nat) : bytesOf a ++ bytesOf b = bytesOf (a ++ b) := by simp [bytesOf, B8_append]
theorem bytesOf_get (xs : List Nat) (i : Nat) (h : i < (bytesOf xs).size) (x : Nat) (hx : xs[i]? = some x) (h8 : x < 256) : ((bytesOf xs)[i]).toNat = x := by
  have : (bytesOf xs)[i] = UInt8.ofNat x := B8_get _ i h _ (by rw [List.getElem?_map, hx]; rfl)
  have e : (UInt8.ofNat x).toNat = x := by simp; omega
  exact (congrArg UInt8.toNat this).trans e

/-- The number of the first k bits. -/
def pb (f : Nat → Bool) : Nat → Nat
  | 0 => 0
  | k + 1 => 2 * pb f k + (f k).toNat
theorem pb_lt (f : Nat → Bool) (k : Nat) : pb f k < 2 ^ k := by
  induction k with
  | zero => simp [pb]
  | succ k ih => have := toNat_le (f k); simp only [pb, Nat.pow_succ]; omega
theorem pb_8 (f : Nat → Bool) : pb f 8 = b8 f := by simp only [pb, b8]; omega
theorem pb_le (f : Nat → Bool) (k : Nat) (hk : k ≤ 8) : pb f k < 256 := Nat.lt_of_lt_of_le (pb_lt f k) (by
  calc 2 ^ k ≤ 2 ^ 8 := Nat.pow_le_pow_right (by omega) hk
    _ = 256 := rfl)
def packB (l : List Bool) (j : Nat) : List Nat := (List.range j).map (byteAt l)
theorem packB_succ (l : List Bool) (j : Nat) : packB l (j + 1) = packB l j ++ [byteAt l j] := by simp [packB, List.range_succ]
theorem packB_len (l : List Bool) (j : Nat) : (packB l j).length = j := by simp [packB]

/-- The number that bits tell, the highest first. -/
def valN (l : List Bool) : Nat := l.foldl (fun a b => 2 * a + b.toNat) 0
theorem valN_snoc (l : List Bool) (b : Bool) : valN (l ++ [b]) = 2 * valN l + b.toNat := by simp [valN, List.foldl_append]
theorem valN_lt (l : List Bool) : valN l < 2 ^ l.length := by
  induction l using snoc_ind with
  | h0 => simp [valN]
  | h1 l b ih => have := toNat_le b; rw [valN_snoc, List.length_append, List.length_singleton, Nat.pow_succ]; omega
/-- The bits of bytes. -/
def rbits (xs : List Nat) : List Bool := xs.flatMap fun x => bitsN x 8
theorem rbits_len (xs : List Nat) : (rbits xs).length = 8 * xs.length := by
  induction xs with
  | nil => rfl
  | cons x xs ih => simp only [rbits, List.flatMap_cons, List.length_append, bitsN_len, List.length_cons] at *; omega
theorem rbits_take {xs : List Nat} {k x : Nat} (h : xs[k]? = some x) : rbits (xs.take (k + 1)) = rbits (xs.take k) ++ bitsN x 8 := by
  rw [take_snoc h]; simp [rbits]
theorem rbits_get (xs : List Nat) : ∀ (p x : Nat), xs[p / 8]? = some x → (rbits xs)[p]? = some (x.testBit (7 - p % 8)) := by
  induction xs with
  | nil => intro p x h; simp at h
  | cons y xs ih =>
    intro p x h
    have e : rbits (y :: xs) = bitsN y 8 ++ rbits xs := by simp [rbits]
    rw [e]
    rcases Nat.lt_or_ge p 8 with hp | hp
    · have h0 : p / 8 = 0 := by omega
      rw [h0] at h
      obtain rfl : y = x := by simpa using h
      rw [List.getElem?_append_left (by rw [bitsN_len]; exact hp), bitsN_get _ _ _ hp]
      congr 2; omega
    · have h0 : p / 8 = (p - 8) / 8 + 1 := by omega
      rw [h0, List.getElem?_cons_succ] at h
      rw [List.getElem?_append_right (by rw [bitsN_len]; exact hp), bitsN_len, ih _ _ h]
      congr 2; omega
end Go.Proofs.YtpbgonpmpjpljaaGreatDoor

namespace Go.Proofs.YtpbgonpmpjpljaaGreatDoor
open Go.RowKit
set_option linter.unusedVariables false

abbrev Bs := List UInt8
/-- A byte of a label's word. -/
def okB (b : UInt8) : Bool := (97 ≤ b && b ≤ 122) || (48 ≤ b && b ≤ 57) || b == 45
def wordB (s : Bs) : Bool := decide (1 ≤ s.length ∧ s.length ≤ 12) && s.all okB
def nameB (s : Bs) : Bool := wordB s && decide (97 ≤ s.getD 0 0)
abbrev Lb := Bs × Bs
def lbAt (l : List Lb) (i : Nat) : Lb := l.getD i ([], [])
/-- String order, as the model has it: at most. -/
def leS (a b : Bs) : Bool := Op.bytesLess a b || a == b
def lbOk (l : List Lb) (i : Nat) : Prop := nameB (lbAt l i).1 = true ∧ wordB (lbAt l i).2 = true ∧ (0 < i → leS (lbAt l i).1 (lbAt l (i - 1)).1 = false)
instance (l : List Lb) (i : Nat) : Decidable (lbOk l i) := by unfold lbOk; infer_instance
def lbCode (l : List Lb) (i : Nat) : Nat := if nameB (lbAt l i).1 = true ∧ wordB (lbAt l i).2 = true then 2 else 3
theorem first_lb (l : List Lb) : ∀ n, ∃ i, i ≤ n ∧ (∀ j, j < i → lbOk l j) ∧ (i < n → ¬ lbOk l i)
  | 0 => ⟨0, Nat.le_refl _, fun j h => absurd h (Nat.not_lt_zero _), fun h => absurd h (Nat.not_lt_zero _)⟩
  | n + 1 => by
    obtain ⟨i, h1, h2, h3⟩ := first_lb l n
    by_cases hi : i < n
    · exact ⟨i, by omega, h2, fun _ => h3 hi⟩
    · obtain rfl : i = n := by omega
      by_cases ho : lbOk l i
      · exact ⟨i + 1, Nat.le_refl _, fun j hj => by
          rcases Nat.lt_or_ge j i with h | h
          · exact h2 j h
          · obtain rfl : j = i := by omega
            exact ho, fun h => absurd h (Nat.lt_irrefl _)⟩
      · exact ⟨i, by omega, h2, fun _ => ho⟩

/-- The pieces of a text between the bytes c. -/
def splitC (c : UInt8) : Bs → List Bs
  | [] => [[]]
  | x :: xs => if x = c then [] :: splitC c xs else match splitC c xs with
    | [] => [[x]]
    | p :: ps => (x :: p) :: ps
theorem splitC_cons (c x : UInt8) (xs : Bs) : splitC c (x :: xs) = if x = c then [] :: splitC c xs else match splitC c xs with
    | [] => [[x]]
    | p :: ps => (x :: p) :: ps := rfl
theorem splitC_ne (c : UInt8) : ∀ l : Bs, splitC c l ≠ []
  | [] => by simp [splitC]
  | x :: xs => by
    rw [splitC_cons]
    split
    · simp
    · split <;> simp
theorem splitC_append (c : UInt8) : ∀ l r : Bs, splitC c (l ++ c :: r) = splitC c l ++ splitC c r
  | [], r => by simp [splitC]
  | x :: xs, r => by
    rw [List.cons_append, splitC_cons, splitC_cons, splitC_append c xs r]
    split
    · rfl
    · cases hs : splitC c xs with
      | nil => exact absurd hs (splitC_ne c xs)
      | cons p ps => rfl
/-- One byte more, which is no c: it goes to the last piece. -/
theorem splitC_snoc (c a : UInt8) (h : a ≠ c) : ∀ (l : Bs) (d : List Bs) (p : Bs), splitC c l = d ++ [p] → splitC c (l ++ [a]) = d ++ [p ++ [a]]
  | [], d, p, e => by
    have e' : ([[]] : List Bs) = d ++ [p] := e
    have : d = [] := by
      cases d with
      | nil => rfl
      | cons x d => have := congrArg List.length e'; simp at this
    subst this
    injection e' with e1 e2
    subst e1
    show splitC c [a] = _
    rw [splitC_cons, if_neg h]; rfl
  | x :: xs, d, p, e => by
    rw [List.cons_append]
    rw [splitC_cons] at e ⊢
    by_cases hx : x = c
    · rw [if_pos hx] at e ⊢
      cases d with
      | nil => injection e with e1 e2; exact absurd e2 (splitC_ne c xs)
      | cons q d =>
        injection e with e1 e2
        subst e1
        rw [splitC_snoc c a h xs d p e2]; rfl
    · rw [if_neg hx] at e ⊢
      cases hs : splitC c xs with
      | nil => exact absurd hs (splitC_ne c xs)
      | cons q ps =>
        rw [hs] at e
        cases d with
        | nil =>
          injection e with e1 e2
          subst e2
          rw [splitC_snoc c a h xs [] q (by rw [hs]; rfl)]
          subst e1; rfl
        | cons q' d =>
          injection e with e1 e2
          subst e1
          rw [splitC_snoc c a h xs (q :: d) p (by rw [hs, e2]; rfl)]
          rfl
theorem splitC_c (c : UInt8) (l : Bs) : splitC c (l ++ [c]) = splitC c l ++ [[]] := splitC_append c l []

/-- A piece at its first '='. -/
def cutE : Bs → Option Lb
  | [] => none
  | x :: xs => if x = 61 then some ([], xs) else (cutE xs).map fun q => (x :: q.1, q.2)
theorem cutE_snoc (a : UInt8) : ∀ p : Bs, cutE (p ++ [a]) = match cutE p with
    | some q => some (q.1, q.2 ++ [a])
    | none => if a = 61 then some (p, []) else none
  | [] => by
    show cutE [a] = _
    unfold cutE
    by_cases h : a = 61
    · simp [h]
    · simp [h, cutE]
  | x :: xs => by
    rw [List.cons_append]
    unfold cutE
    by_cases hx : x = 61
    · simp [hx]
    · rw [if_neg hx, if_neg hx, cutE_snoc a xs]
      cases hq : cutE xs with
      | some q => simp
      | none => by_cases h : a = 61 <;> simp [h]
theorem cutE_some : ∀ {p : Bs} {q : Lb}, cutE p = some q → p = q.1 ++ 61 :: q.2
  | [], _, h => by cases h
  | x :: xs, q, h => by
    unfold cutE at h
    split at h
    · rename_i hx
      injection h with h
      subst h; subst hx; rfl
    · cases hc : cutE xs with
      | none => rw [hc] at h; cases h
      | some r =>
        rw [hc] at h
        injection h with h
        subst h
        rw [List.cons_append, ← cutE_some hc]
theorem indexE_none : ∀ {p : Bs}, cutE p = none → Lib.indexByte p 61 = -1
  | [], _ => rfl
  | x :: xs, h => by
    unfold cutE at h
    split at h
    · cases h
    · rename_i hx
      have h2 : cutE xs = none := by
        cases hc : cutE xs with
        | none => rfl
        | some r => rw [hc] at h; cases h
      unfold Lib.indexByte
      rw [indexE_none h2]
      have : (x == 61) = false := by rw [beq_eq_false_iff_ne]; exact hx
      rw [this]; rfl
theorem indexE_some : ∀ {p : Bs} {q : Lb}, cutE p = some q → Lib.indexByte p 61 = q.1.length
  | [], _, h => by cases h
  | x :: xs, q, h => by
    unfold cutE at h
    split at h
    · rename_i hx
      injection h with h
      subst h; subst hx; rfl
    · rename_i hx
      cases hc : cutE xs with
      | none => rw [hc] at h; cases h
      | some r =>
        rw [hc] at h
        injection h with h
        subst h
        unfold Lib.indexByte
        rw [indexE_some hc]
        have h1 : (x == 61) = false := by rw [beq_eq_false_iff_ne]; exact hx
        have h2 : (((r.1.length : Nat) : Int) == -1) = false := by rw [beq_eq_false_iff_ne]; omega
        rw [h1, h2]; simp
/-- The rest of a text at its first c. -/
theorem index_split (c : UInt8) : ∀ (r : Bs), (Lib.indexByte r c = -1 ∧ splitC c r = [r]) ∨ (∃ i : Nat, Lib.indexByte r c = i ∧ i < r.length ∧ splitC c r = r.take i :: splitC c (r.drop (i + 1)))
  | [] => .inl ⟨rfl, rfl⟩
  | x :: xs => by
    by_cases hx : x = c
    · refine .inr ⟨0, ?_, by simp, ?_⟩
      · unfold Lib.indexByte; simp [hx]
      · show splitC c (x :: xs) = _
        rw [splitC_cons, if_pos hx]; rfl
    · have h1 : (x == c) = false := by rw [beq_eq_false_iff_ne]; exact hx
      rcases index_split c xs with ⟨h2, h3⟩ | ⟨i, h2, h3, h4⟩
      · refine .inl ⟨?_, ?_⟩
        · unfold Lib.indexByte; rw [h1, h2]; rfl
        · rw [splitC_cons, if_neg hx, h3]
      · refine .inr ⟨i + 1, ?_, by simp; omega, ?_⟩
        · unfold Lib.indexByte
          have h5 : (((i : Nat) : Int) == -1) = false := by rw [beq_eq_false_iff_ne]; omega
          rw [h1, h2, h5]; simp
        · rw [splitC_cons, if_neg hx, h4]; rfl
/-- Labels of a text. -/
def parseL (s : Bs) : Option (List Lb) := (splitC 44 s).mapM cutE
/-- A label as a text; labels as a text. -/
def lbT (p : Lb) : Bs := p.1 ++ 61 :: p.2
theorem mapM_cut {ps : List Bs} {l : List Lb} (h : ps.mapM cutE = some l) : ps = l.map lbT := by
  induction ps generalizing l with
  | nil => simp at h; subst h; rfl
  | cons p ps ih =>
    rw [List.mapM_cons] at h
    cases hp : cutE p with
    | none => rw [hp] at h; cases h
    | some q =>
      rw [hp] at h
      cases hr : ps.mapM cutE with
      | none => rw [hr] at h; cases h
      | some r =>
        rw [hr] at h
        have h' : some (q :: r) = some l := h
        injection h' with h'
        subst h'
        rw [List.map_cons, ← ih hr]
        show p :: ps = (q.1 ++ 61 :: q.2) :: ps
        rw [← cutE_some hp]
theorem mapM_app : ∀ (a b : List Bs), (a ++ b).mapM cutE = (a.mapM cutE).bind fun x => (b.mapM cutE).map fun y => x ++ y
  | [], b => by simp
  | p :: a, b => by
    rw [List.cons_append, List.mapM_cons, List.mapM_cons, mapM_app a b]
    cases cutE p with
    | none => rfl
    | some q =>
      cases a.mapM cutE with
      | none => rfl
      | some x => cases b.mapM cutE <;> rfl
theorem mapM_one (p : Bs) : [p].mapM cutE = (cutE p).map fun q => [q] := by
  rw [List.mapM_cons]
  cases cutE p <;> rfl
/-- What the reference's LabelsOf holds behind the bytes t: labels, one in the making, and has it a value yet? -/
def RefSt (t : Bs) (out : List Lb) (x : Lb) (v : Bool) : Prop :=
  ∃ d p, splitC 44 t = d ++ [p] ∧ d.mapM cutE = some out ∧ ((cutE p = some x ∧ v = true) ∨ (cutE p = none ∧ x = (p, []) ∧ v = false))
theorem RefSt.start : RefSt [] [] ([], []) false := ⟨[], [], rfl, rfl, .inr ⟨rfl, rfl, rfl⟩⟩
theorem RefSt.comma {t : Bs} {out : List Lb} {x : Lb} (h : RefSt t out x true) : RefSt (t ++ [44]) (out ++ [x]) ([], []) false := by
  obtain ⟨d, p, h1, h2, h3⟩ := h
  rcases h3 with ⟨h3, _⟩ | ⟨_, _, h3⟩
  · refine ⟨d ++ [p], [], by rw [splitC_c, h1], ?_, .inr ⟨rfl, rfl, rfl⟩⟩
    rw [mapM_app, h2, mapM_one, h3]; rfl
  · cases h3
theorem RefSt.fail {t : Bs} {out : List Lb} {x : Lb} (h : RefSt t out x false) (r : Bs) : parseL (t ++ 44 :: r) = none ∧ parseL t = none := by
  obtain ⟨d, p, h1, h2, h3⟩ := h
  rcases h3 with ⟨_, h3⟩ | ⟨h3, _, _⟩
  · cases h3
  · have e : (d ++ [p]).mapM cutE = none := by rw [mapM_app, h2, mapM_one, h3]; rfl
    refine ⟨?_, ?_⟩
    · unfold parseL; rw [splitC_append, h1, mapM_app, e]; rfl
    · unfold parseL; rw [h1, e]
theorem RefSt.done {t : Bs} {out : List Lb} {x : Lb} (h : RefSt t out x true) : parseL t = some (out ++ [x]) := by
  obtain ⟨d, p, h1, h2, h3⟩ := h
  rcases h3 with ⟨h3, _⟩ | ⟨_, _, h3⟩
  · unfold parseL; rw [h1, mapM_app, h2, mapM_one, h3]; rfl
  · cases h3
theorem RefSt.value {t : Bs} {out : List Lb} {x : Lb} (h : RefSt t out x true) {a : UInt8} (ha : a ≠ 44) : RefSt (t ++ [a]) out (x.1, x.2 ++ [a]) true := by
  obtain ⟨d, p, h1, h2, h3⟩ := h
  rcases h3 with ⟨h3, _⟩ | ⟨_, _, h3⟩
  · exact ⟨d, p ++ [a], splitC_snoc 44 a ha t d p h1, h2, .inl ⟨by rw [cutE_snoc, h3], rfl⟩⟩
  · cases h3
theorem RefSt.eq {t : Bs} {out : List Lb} {x : Lb} (h : RefSt t out x false) : RefSt (t ++ [61]) out x true := by
  obtain ⟨d, p, h1, h2, h3⟩ := h
  rcases h3 with ⟨_, h3⟩ | ⟨h3, hx, _⟩
  · cases h3
  · exact ⟨d, p ++ [61], splitC_snoc 44 61 (by decide) t d p h1, h2, .inl ⟨by rw [cutE_snoc, h3, hx]; rfl, rfl⟩⟩
theorem RefSt.name {t : Bs} {out : List Lb} {x : Lb} (h : RefSt t out x false) {a : UInt8} (ha : a ≠ 44) (ha2 : a ≠ 61) : RefSt (t ++ [a]) out (x.1 ++ [a], []) false := by
  obtain ⟨d, p, h1, h2, h3⟩ := h
  rcases h3 with ⟨_, h3⟩ | ⟨h3, hx, _⟩
  · cases h3
  · exact ⟨d, p ++ [a], splitC_snoc 44 a ha t d p h1, h2, .inr ⟨by rw [cutE_snoc, h3]; simp [ha2], by rw [hx], rfl⟩⟩
theorem RefSt.name_nil {t : Bs} {out : List Lb} {x : Lb} (h : RefSt t out x false) : x.2 = [] := by
  obtain ⟨d, p, h1, h2, h3⟩ := h
  rcases h3 with ⟨_, h3⟩ | ⟨h3, hx, _⟩
  · cases h3
  · rw [hx]
theorem cutE_len {p : Bs} {q : Lb} (h : cutE p = some q) : q.1.length ≤ p.length ∧ q.2.length ≤ p.length := by
  have := cutE_some h
  rw [this, List.length_append, List.length_cons]; omega
/-- Sizes: what is held is no longer than what was read. -/
theorem split_len (s : Bs) : (splitC 44 s).length ≤ s.length + 1 ∧ ∀ q ∈ splitC 44 s, q.length ≤ s.length := by
    induction s with
    | nil => exact ⟨Nat.le_refl _, fun q hq => by simp [splitC] at hq; subst hq; simp⟩
    | cons x xs ih =>
      obtain ⟨i1, i2⟩ := ih
      rw [splitC_cons]
      split
      · refine ⟨by simp; omega, fun q hq => ?_⟩
        rcases List.mem_cons.1 hq with rfl | hq
        · simp
        · have := i2 q hq; simp; omega
      · cases hs : splitC 44 xs with
        | nil => exact absurd hs (splitC_ne 44 xs)
        | cons p ps =>
          rw [hs] at i1 i2
          refine ⟨by simp at i1 ⊢; omega, fun q hq => ?_⟩
          rcases List.mem_cons.1 hq with rfl | hq
          · have := i2 p List.mem_cons_self; simp; omega
          · have := i2 q (List.mem_cons_of_mem _ hq); simp; omega
theorem RefSt.len {t : Bs} {out : List Lb} {x : Lb} {v : Bool} (h : RefSt t out x v) : x.1.length ≤ t.length ∧ x.2.length ≤ t.length ∧ out.length ≤ t.length + 1 ∧ ∀ p ∈ out, p.1.length ≤ t.length ∧ p.2.length ≤ t.length := by
  obtain ⟨d, p, h1, h2, h3⟩ := h
  obtain ⟨k1, k2⟩ := split_len t
  rw [h1] at k1 k2
  have hp := k2 p (by simp)
  have e := mapM_cut h2
  have hl : d.length = out.length := by rw [e, List.length_map]
  rw [List.length_append] at k1
  refine ⟨?_, ?_, by omega, fun q hq => ?_⟩
  · rcases h3 with ⟨h3, _⟩ | ⟨_, h3, _⟩
    · have := (cutE_len h3).1; omega
    · rw [h3]; exact hp
  · rcases h3 with ⟨h3, _⟩ | ⟨_, h3, _⟩
    · have := (cutE_len h3).2; omega
    · rw [h3]; simp
  · have := k2 (lbT q) (by rw [e]; simp; exact .inl ⟨q.1, q.2, hq, rfl⟩)
    unfold lbT at this
    rw [List.length_append, List.length_cons] at this
    omega
theorem parse_len {s : Bs} {l : List Lb} (h : parseL s = some l) : l.length ≤ s.length + 1 ∧ ∀ p ∈ l, p.1.length ≤ s.length ∧ p.2.length ≤ s.length := by
  have e := mapM_cut h
  obtain ⟨k1, k2⟩ := split_len s
  rw [e] at k1 k2
  refine ⟨by simpa using k1, fun p hp => ?_⟩
  have := k2 (lbT p) (List.mem_map_of_mem hp)
  unfold lbT at this
  rw [List.length_append, List.length_cons] at this
  omega
end Go.Proofs.YtpbgonpmpjpljaaGreatDoor

namespace Go.Proofs.YtpbgonpmpjpljaaGreatDoor
open Go.RowKit
set_option linter.unusedVariables false

theorem byte_any (x : Nat) (hx : x < 256) (w : World) : Calls Tryz.prog 76 #[.int .i64 x] w fun e w' => e = .returned (.string (B8 [UInt8.ofNat x])) ∧ Below w.heap.size w w' := by
  have hc : ∀ W : World, W.cell? ⟨w.heap.size, 0, none⟩ = some (.int .u8 x) → (convert 107 9 (.slice (some ⟨w.heap.size, 0, none⟩) 1 1)).run Tryz.prog W = .ok (.string (B8 [UInt8.ofNat x])) W := by
    intro W hW
    have := run_convert_bytes_back (P := Tryz.prog) W 107 9 5 ⟨w.heap.size, 0, none⟩ 1 [UInt8.ofNat x] Tryz.underlying107 Tryz.underlying5 Tryz.underlying9 (by
      intro j hj
      have h0 : j = 0 := by simpa using hj
      subst h0
      rw [add_at, Nat.add_zero, hW]
      have : ((UInt8.ofNat x).toNat : Int) = x := by simp; omega
      simp only [List.getElem_cons_zero]
      rw [this])
    exact this
  have hc1 := hc (w.alloc (.cells #[.int .u8 x] 5)) (by simp)
  have h0 : (0 : Int) ≤ (x : Int) := by omega
  have h1 : (x : Int) < 256 := by omega
  clear hc
  go_enter Tryz.func76, Tryz.ntmps76
  go_wp2
  go_ret
  exact ⟨rfl, by go_grown⟩

set_option maxHeartbeats 1000000 in
theorem bits_any (v n : Nat) (hv : v < 18446744073709551616) (hn : n ≤ 64) (w : World) : Calls Tryz.prog 72 #[.int .u64 v, .int .i64 n] w fun e w' => e = .returned (.string (txt (bitsN v n))) ∧ Below w.heap.size w w' := by
  go_enter Tryz.func72, Tryz.ntmps72
  go_wp2
  go_loopw [0, 5, 6] (fun x s i wr => ∃ (k q : Nat) (st : ByteArray), k ≤ n ∧ q < 18446744073709551616 ∧ q = v / 2 ^ k ∧ x = .int .u64 q ∧ s = .string st ∧ st = txt (bitsN v k) ∧ i = .int .i64 k ∧ Below w.heap.size w wr) (fun _ _ i _ => n - (intOf i).toNat)
  case atStart => exact ⟨0, v, ByteArray.empty, Nat.zero_le _, hv, by simp, rfl, rfl, rfl, rfl, Below.refl _ _⟩
  case round =>
    obtain ⟨k, q, st, hk, hq, hqv, rfl, rfl, hst, rfl, hbel⟩ := hrel
    have Hst := Lib.hid hst; have Hbel := Lib.hid hbel; have Hqv := Lib.hid hqv
    clear hst hbel hqv
    by_cases hkn : k < n
    · have hchar : B8 [UInt8.ofNat (48 + q % 2)] = txt [v.testBit k] := by rw [Hqv.out]; exact char_q v k
      have hnext : txt [v.testBit k] ++ st = txt (bitsN v (k + 1)) := by rw [Hst.out, txt_append, bitsN_succ]; rfl
      have hq2 : q / 2 = v / 2 ^ (k + 1) := by rw [Hqv.out, Nat.div_div_eq_div_mul, Nat.pow_succ]
      have hsz : (txt [v.testBit k]).size + st.size ≤ 1000000 := by rw [Hst.out, txt_size, txt_size, bitsN_len]; simp; omega
      have Hchar := Lib.hid hchar; have Hnext := Lib.hid hnext; have Hq2 := Lib.hid hq2
      clear hchar hnext hq2
      go_wp2_with fail
      have harg : (48 + (q : Int) % 2) = ((48 + q % 2 : Nat) : Int) := by omega
      rw [harg]
      refine (byte_any (48 + q % 2) (by omega) _).mono ?_
      rintro e w1 ⟨rfl, hb⟩
      rw [Hchar.out]
      have hb1 := Lib.hid (Below.call Hbel.out hb Hbel.out.size)
      clear hb harg
      go_wp2
      go_roundw
      case rel => exact ⟨k + 1, q / 2, _, by omega, by omega, Hq2.out, by go_num, rfl, Hnext.out, by go_num, hb1.out⟩
      case measure => simp [intOf]; omega
    · obtain rfl : k = n := by omega
      go_wp2
      go_ret
      exact ⟨by rw [Hst.out]; rfl, Hbel.out⟩

/-- The bits of byte j of a row. -/
def bitF (l : List Bool) (j q : Nat) : Bool := l.getD (8 * j + q) false
set_option maxRecDepth 100000 in
set_option maxHeartbeats 4000000 in
theorem pack_any (l : List Bool) (hl : l.length ≤ 1048576) (w : World) : Calls Tryz.prog 49 #[.string (txt l)] w fun e w' => e = .returned (.string (bytesOf (packN l))) ∧ Below w.heap.size w w' := by
  obtain ⟨N, hN⟩ : ∃ N, N = l.length := ⟨_, rfl⟩
  obtain ⟨st, hst⟩ : ∃ st, st = txt l := ⟨_, rfl⟩
  have hsz : st.size = N := by rw [hst, txt_size, hN]
  have hN1 : N ≤ 1048576 := by omega
  have hN2 : (N : Int) ≤ 1048576 := by omega
  have hidx : ∀ (i : Nat) (h : i < st.size), st[i].toNat = 48 + (l.getD i false).toNat := by
    intro i h
    subst hst
    have hi : i < l.length := by rw [txt_size] at h; exact h
    have e := txt_get l i h (l.getD i false) (by rw [List.getD_eq_getElem?_getD, List.getElem?_eq_getElem hi]; rfl)
    exact (congrArg UInt8.toNat e).trans (chB_toNat _)
  have Hidx := Lib.hid hidx; have HN := Lib.hid hN
  rw [← hst]
  clear hst hN hl hidx
  go_enter Tryz.func49, Tryz.ntmps49
  go_wp2
  go_loopw [3, 4] (fun o i wr => ∃ (j i0 : Nat) (so : ByteArray), i0 ≤ N + 7 ∧ i0 = 8 * j ∧ i = .int .i64 i0 ∧ o = .string so ∧ so = bytesOf (packB l j) ∧ Below w.heap.size w wr) (fun _ i _ => N + 8 - (intOf i).toNat)
  case atStart => exact ⟨0, 0, ByteArray.empty, by omega, rfl, rfl, rfl, rfl, Below.refl _ _⟩
  case round =>
    obtain ⟨j, i0, so, hj, hi0, rfl, rfl, hso, hbel⟩ := hrel
    have hsos : so.size = j := by rw [hso, bytesOf_size, packB_len]
    have Hi0 := Lib.hid hi0; have Hso := Lib.hid hso; have Hbel := Lib.hid hbel; have Hsos := Lib.hid hsos
    clear hi0 hso hbel hsos
    by_cases hjn : i0 < N
    · go_wp2
      go_loop [5, 6] (fun n i => ∃ k : Nat, k ≤ 8 ∧ n = .int .i64 ((pb (bitF l j) k : Nat) : Int) ∧ i = .int .i64 k) (fun _ i => 8 - (intOf i).toNat)
      case atStart => exact ⟨0, by omega, rfl, rfl⟩
      case round =>
        obtain ⟨k, hk, rfl, rfl⟩ := hrel
        by_cases hk8 : k < 8
        · have hlt := pb_le (bitF l j) k hk
          have hnx : pb (bitF l j) (k + 1) = 2 * pb (bitF l j) k + (bitF l j k).toNat := rfl
          generalize hp : pb (bitF l j) k = p at hlt hnx
          have Hp := Lib.hid hp; have Hnx := Lib.hid hnx
          clear hp hnx
          by_cases hin : i0 + k < N
          · have hix0 : st[i0 + k].toNat = 48 + (bitF l j k).toNat := by rw [Hidx.out (i0 + k) (by rw [hsz]; exact hin)]; unfold bitF; rw [Hi0.out]
            have hix : ∀ b, bitF l j k = b → st[i0 + k].toNat = 48 + b.toNat := fun b hb => hb ▸ hix0
            clear hix0
            cases hbit : bitF l j k with
            | false =>
              have hix' : st[i0 + k].toNat = 48 := hix _ hbit
              have Hbit := Lib.hid hbit
              clear hbit hix
              go_wp2
              go_round
              case rel => exact ⟨k + 1, by omega, by rw [Hnx.out, Hbit.out]; go_num, by go_num⟩
              case measure => simp [intOf]; omega
            | true =>
              have hix' : st[i0 + k].toNat = 49 := hix _ hbit
              have Hbit := Lib.hid hbit
              clear hbit hix
              go_wp2
              go_round
              case rel => exact ⟨k + 1, by omega, by rw [Hnx.out, Hbit.out]; go_num, by go_num⟩
              case measure => simp [intOf]; omega
          · have hbit : bitF l j k = false := by
              unfold bitF
              rw [List.getD_eq_getElem?_getD, List.getElem?_eq_none (by rw [← HN.out, ← Hi0.out]; omega)]; rfl
            have Hbit := Lib.hid hbit
            clear hbit
            go_wp2
            go_round
            case rel => exact ⟨k + 1, by omega, by rw [Hnx.out, Hbit.out]; go_num, by go_num⟩
            case measure => simp [intOf]; omega
        · obtain rfl : k = 8 := by omega
          have hb8 : pb (bitF l j) 8 = byteAt l j := pb_8 _
          have hby := byteAt_lt l j
          rw [hb8]
          have hnext : so ++ B8 [UInt8.ofNat (byteAt l j)] = bytesOf (packB l (j + 1)) := by
            rw [packB_succ, ← bytesOf_append, Hso.out]; rfl
          have hsz2 : so.size + (B8 [UInt8.ofNat (byteAt l j)]).size ≤ 10000000 := by have := Hi0.out; rw [Hsos.out, B8_size]; simp; omega
          have Hnext := Lib.hid hnext
          clear hb8 hnext
          go_wp2_with fail
          refine (byte_any (byteAt l j) hby _).mono ?_
          rintro e w1 ⟨rfl, hb⟩
          have hb1 := Lib.hid (Below.call Hbel.out hb Hbel.out.size)
          clear hb
          go_wp2
          go_roundw
          case rel => exact ⟨j + 1, i0 + 8, _, by omega, by have := Hi0.out; omega, by go_num, rfl, Hnext.out, hb1.out⟩
          case measure => simp [intOf]; omega
    · have hjj : j = (N + 7) / 8 := by have := Hi0.out; omega
      have hfin : bytesOf (packN l) = so := by
        rw [Hso.out, hjj, HN.out]; rfl
      have Hfin := Lib.hid hfin
      clear hfin hjj
      go_wp2
      go_ret
      exact ⟨by rw [Hfin.out]; rfl, Hbel.out⟩

set_option maxHeartbeats 1000000 in
theorem valueOf_any (l : List Bool) (hl : l.length ≤ 64) (w : World) : Calls Tryz.prog 45 #[.string (txt l)] w fun e w' => e = .returned (.int .u64 (valN l)) ∧ w' = w := by
  obtain ⟨N, hN⟩ : ∃ N, N = l.length := ⟨_, rfl⟩
  obtain ⟨st, hst⟩ : ∃ st, st = txt l := ⟨_, rfl⟩
  have hsz : st.size = N := by rw [hst, txt_size, hN]
  have hN1 : N ≤ 64 := by omega
  have hidx : ∀ (i : Nat) (h : i < st.size), st[i].toNat = 48 + (l.getD i false).toNat := by
    intro i h
    subst hst
    have hi : i < l.length := by rw [txt_size] at h; exact h
    have e := txt_get l i h (l.getD i false) (by rw [List.getD_eq_getElem?_getD, List.getElem?_eq_getElem hi]; rfl)
    exact (congrArg UInt8.toNat e).trans (chB_toNat _)
  have Hidx := Lib.hid hidx; have HN := Lib.hid hN
  rw [← hst]
  clear hst hN hl hidx
  go_enter Tryz.func45, Tryz.ntmps45
  go_wp2
  go_loop [3, 4] (fun v i => ∃ (k q : Nat), k ≤ N ∧ q = valN (l.take k) ∧ v = .int .u64 q ∧ i = .int .i64 k) (fun _ i => N - (intOf i).toNat)
  case atStart => exact ⟨0, 0, by omega, rfl, rfl, rfl⟩
  case round =>
    obtain ⟨k, q, hk, hq, rfl, rfl⟩ := hrel
    by_cases hkn : k < N
    · have hlk : k < l.length := by rw [← HN.out]; exact hkn
      have hq63 : q < 9223372036854775808 := by
        have := valN_lt (l.take k)
        rw [← hq, List.length_take, Nat.min_eq_left (by omega)] at this
        exact Nat.lt_of_lt_of_le this (by
          calc 2 ^ k ≤ 2 ^ 63 := Nat.pow_le_pow_right (by omega) (by omega)
            _ = 9223372036854775808 := rfl)
      have hget : l[k]? = some (l.getD k false) := by rw [List.getD_eq_getElem?_getD, List.getElem?_eq_getElem hlk]; rfl
      have hnx : valN (l.take (k + 1)) = 2 * q + (l.getD k false).toNat := by rw [take_snoc hget, valN_snoc, ← hq]
      have hix := Hidx.out k (by rw [hsz]; exact hkn)
      have Hnx := Lib.hid hnx
      clear hq hget hnx hlk
      cases hbit : l.getD k false with
      | false =>
        rw [hbit] at hix
        have Hbit := Lib.hid hbit
        clear hbit
        have hix' : st[k].toNat = 48 := hix
        clear hix
        go_wp2
        go_round
        case rel => exact ⟨k + 1, 2 * q, by omega, by rw [Hnx.out, Hbit.out]; rfl, by go_num, by go_num⟩
        case measure => simp [intOf]; omega
      | true =>
        rw [hbit] at hix
        have Hbit := Lib.hid hbit
        clear hbit
        have hix' : st[k].toNat = 49 := hix
        clear hix
        go_wp2
        go_round
        case rel => exact ⟨k + 1, 2 * q + 1, by omega, by rw [Hnx.out, Hbit.out]; rfl, by go_num, by go_num⟩
        case measure => simp [intOf]; omega
    · obtain rfl : k = N := by omega
      have hfin : q = valN l := by rw [hq, HN.out, List.take_length]
      have Hfin := Lib.hid hfin
      clear hq hfin
      go_wp2
      go_ret
      exact ⟨by rw [← Hfin.out]; rfl, rfl⟩

set_option maxHeartbeats 1000000 in
theorem unpack_any (xs : List Nat) (hx : ∀ x ∈ xs, x < 256) (hl : xs.length ≤ 1048576) (w : World) : Calls Tryz.prog 44 #[.string (bytesOf xs)] w fun e w' => e = .returned (.string (txt (rbits xs))) ∧ Below w.heap.size w w' := by
  obtain ⟨N, hN⟩ : ∃ N, N = xs.length := ⟨_, rfl⟩
  obtain ⟨st, hst⟩ : ∃ st, st = bytesOf xs := ⟨_, rfl⟩
  have hsz : st.size = N := by rw [hst, bytesOf_size, hN]
  have hN1 : N ≤ 1048576 := by omega
  have hidx : ∀ (i : Nat) (h : i < st.size), ∃ x, xs[i]? = some x ∧ x < 256 ∧ st[i].toNat = x := by
    intro i h
    subst hst
    have hi : i < xs.length := by rw [bytesOf_size] at h; exact h
    have hm := hx _ (List.getElem_mem hi)
    exact ⟨xs[i], List.getElem?_eq_getElem hi, hm, bytesOf_get xs i h _ (List.getElem?_eq_getElem hi) hm⟩
  have Hidx := Lib.hid hidx; have HN := Lib.hid hN
  rw [← hst]
  clear hst hN hl hx hidx
  go_enter Tryz.func44, Tryz.ntmps44
  go_wp2
  go_loopw [3, 4] (fun o i wr => ∃ (k : Nat) (so : ByteArray), k ≤ N ∧ o = .string so ∧ so = txt (rbits (xs.take k)) ∧ so.size = 8 * k ∧ i = .int .i64 k ∧ Below w.heap.size w wr) (fun _ i _ => N - (intOf i).toNat)
  case atStart => exact ⟨0, ByteArray.empty, by omega, rfl, rfl, rfl, rfl, Below.refl _ _⟩
  case round =>
    obtain ⟨k, so, hk, rfl, hso, hsos, rfl, hbel⟩ := hrel
    have Hso := Lib.hid hso; have Hbel := Lib.hid hbel; have Hsos := Lib.hid hsos
    clear hso hbel hsos
    by_cases hkn : k < N
    · obtain ⟨x, hxk, hx8, hix⟩ := Hidx.out k (by rw [hsz]; exact hkn)
      have hnext : so ++ txt (bitsN x 8) = txt (rbits (xs.take (k + 1))) := by rw [rbits_take hxk, Hso.out, txt_append]
      have hsz2 : so.size + (txt (bitsN x 8)).size ≤ 100000000 := by rw [Hsos.out, txt_size, bitsN_len]; omega
      have hsz3 : (so ++ txt (bitsN x 8)).size = 8 * (k + 1) := by rw [ByteArray.size_append, Hsos.out, txt_size, bitsN_len]; omega
      have Hnext := Lib.hid hnext; have Hsz3 := Lib.hid hsz3
      clear hnext hxk hsz3
      go_wp2_with fail
      refine (bits_any x 8 (by omega) (by omega) _).mono ?_
      rintro e w1 ⟨rfl, hb⟩
      have hb1 := Lib.hid (Below.call Hbel.out hb Hbel.out.size)
      clear hb
      go_wp2
      go_roundw
      case rel => exact ⟨k + 1, _, by omega, rfl, Hnext.out, Hsz3.out, by go_num, hb1.out⟩
      case measure => simp [intOf]; omega
    · obtain rfl : k = N := by omega
      have hfin : so = txt (rbits xs) := by rw [Hso.out, HN.out, List.take_length]
      have Hfin := Lib.hid hfin
      clear hfin
      go_wp2
      go_ret
      exact ⟨by rw [← Hfin.out]; rfl, Hbel.out⟩
end Go.Proofs.YtpbgonpmpjpljaaGreatDoor

namespace Go.Proofs.YtpbgonpmpjpljaaGreatDoor
open Go.RowKit
set_option linter.unusedVariables false

theorem infoU8 : (Tryz.prog.info? 5).map (fun i => (i.zero, i.size, i.bytes)) = some (some (.int .u8 0), 1, 1) := by kernel_rfl

/-- Block g is a row of the bits l; its bytes are the slice bv. -/
def RowAt (w : World) (g : Nat) (bv : Value) (l : List Bool) : Prop :=
  Blk w g 201 #[bv, .int .i64 l.length] ∧ w.ownsRow g 5 1 bv (packN l).length ((packN l).map fun x : Nat => Value.int .u8 (x : Int))
/-- The blocks of a row. -/
def RowS (g : Nat) (bv : Value) (k : Nat) : Prop := k = g ∨ bv.ownBlock = some k
/-- Where a row's bytes may have gone: they stand where they stood, or in a new block. -/
def Mv (w : World) (bv bv' : Value) : Prop := bv'.ownBlock = bv.ownBlock ∨ ∃ k, bv'.ownBlock = some k ∧ w.heap.size ≤ k
theorem Mv.refl (w : World) (bv : Value) : Mv w bv bv := .inl rfl
theorem Mv.trans {w w1 : World} {a b c : Value} (h : Mv w a b) (k : Mv w1 b c) (hs : w.heap.size ≤ w1.heap.size) : Mv w a c := by
  rcases k with k | ⟨q, k1, k2⟩
  · rcases h with h | ⟨q, h1, h2⟩
    · exact .inl (k.trans h)
    · exact .inr ⟨q, k.trans h1, h2⟩
  · exact .inr ⟨q, k1, Nat.le_trans hs k2⟩
theorem RowS.of_mv {w : World} {g : Nat} {bv bv' : Value} (h : Mv w bv bv') : ∀ i, i < w.heap.size → RowS g bv' i → RowS g bv i := by
  intro i hi hs
  rcases hs with rfl | hs
  · exact .inl rfl
  · rcases h with h | ⟨k, h1, h2⟩
    · exact .inr (by rw [← h]; exact hs)
    · rw [hs] at h1; injection h1 with h1; omega
theorem RowAt.lt {w : World} {g : Nat} {bv : Value} {l : List Bool} (h : RowAt w g bv l) : g < w.heap.size := h.1.lt
theorem RowAt.below {w w' : World} {g B : Nat} {bv : Value} {l : List Bool} (h : RowAt w g bv l) (hb : Below B w w') (hB : w.heap.size ≤ B) : RowAt w' g bv l :=
  ⟨h.1.below hb (Nat.lt_of_lt_of_le h.lt hB), own_below h.2 hb hB⟩
theorem RowAt.alloc {w : World} {g : Nat} {bv : Value} {l : List Bool} (h : RowAt w g bv l) (o : Obj) : RowAt (w.alloc o) g bv l := ⟨h.1.alloc o, h.2.alloc o⟩
theorem RowAt.drew {w : World} {g : Nat} {bv : Value} {l : List Bool} (h : RowAt w g bv l) : RowAt w.drew g bv l := ⟨h.1, h.2⟩
theorem RowAt.drewN {w : World} {g : Nat} {bv : Value} {l : List Bool} (h : RowAt w g bv l) (n : Nat) : RowAt (w.drewN n) g bv l := ⟨h.1, h.2⟩
theorem RowAt.form {w : World} {g : Nat} {bv : Value} {l : List Bool} (h : RowAt w g bv l) : ∃ A c, bv = .slice A (packN l).length c := by
  obtain ⟨A, c, e, _⟩ := own_form h.2
  exact ⟨A, c, e⟩
theorem RowAt.facts {w : World} {g : Nat} {bv : Value} {l : List Bool} (h : RowAt w g bv l) :
    w.cell? ⟨g, 0, none⟩ = some bv ∧ w.cell? ⟨g, 1, none⟩ = some (.int .i64 l.length) ∧ w.frozen? ⟨g, 0, none⟩ = false ∧ w.frozen? ⟨g, 1, none⟩ = false :=
  ⟨h.1.cell 0, h.1.cell 1, h.1.frozen 0, h.1.frozen 1⟩

theorem new_any (w : World) : Calls Tryz.prog 97 #[] w fun e w' => e = .returned (.pointer (some ⟨w.heap.size, 0, none⟩)) ∧ w' = w.alloc (.cells #[.slice none 0 0, .int .i64 0] 201) := by
  go_enter Tryz.func97, Tryz.ntmps97
  go_wp2
  go_ret
  exact ⟨rfl, rfl⟩
theorem new_row (w : World) : RowAt (w.alloc (.cells #[.slice none 0 0, .int .i64 0] 201)) w.heap.size (.slice none 0 0) [] :=
  ⟨Blk.new _ _ _, World.ownsRow_nil _ _ _ _⟩
theorem room_any (g : Nat) (bv : Value) (l : List Bool) (n : Int) (w : World) (h : RowAt w g bv l) (hl : l.length ≤ 1048576) :
    Calls Tryz.prog 129 #[.pointer (some ⟨g, 0, none⟩), .int .i64 n] w fun e w' => e = .returned (.bool (decide (n ≤ 1048576 - (l.length : Int)))) ∧ w = w' := by
  obtain ⟨h0, h1, _, _⟩ := h.facts
  clear h
  go_enter Tryz.func129, Tryz.ntmps129
  go_wp2
  go_ret
  exact ⟨rfl, rfl⟩

/-! ### One bit more -/
section
variable {w : World} {g : Nat} {bv : Value} {l : List Bool}
theorem rowP_of (h : RowAt w g bv l) (hm : l.length % 8 ≠ 0) : w.ownsRow g 5 1 bv (packP l).length ((packP l).map fun x : Nat => Value.int .u8 (x : Int)) := by
  have e : packP l = packN l := by rw [packP_eq, if_neg hm]
  rw [e]; exact h.2
/-- A bit 0 behind: only the count has turned. -/
theorem bit_zero {n : Nat} (hn : n = (packP l).length) (hb : Blk w g 201 #[bv, .int .i64 l.length]) (ho : w.ownsRow g 5 1 bv n ((packP l).map fun x : Nat => Value.int .u8 (x : Int))) :
    RowAt (w.setCell ⟨g, 1, none⟩ (.int .i64 ((l.length : Int) + 1))) g bv (l ++ [false]) := by
  subst hn
  refine ⟨?_, ?_⟩
  · have := hb.set_ 1 (.int .i64 ((l.length : Int) + 1))
    have e : ((l ++ [false]).length : Int) = (l.length : Int) + 1 := by simp
    rw [e]; exact this
  · rw [packN_snoc_false]
    exact own_set ho (own_ne_blk ho hb (by decide)) _
/-- A bit 1 behind: its byte, and the count. -/
theorem bit_one {n b c : Nat} (hn : n = (packP l).length) (hb : Blk w g 201 #[.slice (some ⟨b, 0, none⟩) n c, .int .i64 l.length]) (ho : w.ownsRow g 5 1 (.slice (some ⟨b, 0, none⟩) n c) n ((packP l).map fun x : Nat => Value.int .u8 (x : Int))) :
    RowAt (((w.setCell ⟨b, l.length / 8, none⟩ (.int .u8 (byteAt (l ++ [true]) (l.length / 8) : Int))).drew).setCell ⟨g, 1, none⟩ (.int .i64 ((l.length : Int) + 1))) g (.slice (some ⟨b, 0, none⟩) n c) (l ++ [true]) := by
  subst hn
  have hne := own_ne_blk ho hb (by decide)
  have hne' : g ≠ b := by intro e; exact hne (by simp [Value.ownBlock, e])
  obtain ⟨ho2, _⟩ := ho.stored (l.length / 8) (.int .u8 (byteAt (l ++ [true]) (l.length / 8) : Int))
  have hb2 : Blk (w.setCell ⟨b, l.length / 8, none⟩ (.int .u8 (byteAt (l ++ [true]) (l.length / 8) : Int))).drew g 201 #[.slice (some ⟨b, 0, none⟩) (packP l).length c, .int .i64 l.length] := (hb.far hne' _).drew
  refine ⟨?_, ?_⟩
  · have := hb2.set_ 1 (.int .i64 ((l.length : Int) + 1))
    have e : ((l ++ [true]).length : Int) = (l.length : Int) + 1 := by simp
    rw [e]; exact this
  · have e : packN (l ++ [true]) = (packP l).set (l.length / 8) (byteAt (l ++ [true]) (l.length / 8)) := packN_snoc l true
    have e2 : (packN (l ++ [true])).length = (packP l).length := by rw [e, List.length_set]
    rw [e2, e, List.map_set]
    exact own_set (own_drew ho2) hne _
theorem Mv.at_ {w : World} {g b n c : Nat} {bv : Value} (h : Mv w bv (.slice (some ⟨b, 0, none⟩) n c)) : w.heap.size ≤ b ∨ RowS g bv b := by
  rcases h with h | ⟨k, h1, h2⟩
  · exact .inr (.inr (by rw [← h]; rfl))
  · have : b = k := by simpa [Value.ownBlock] using h1
    subst this; exact .inl h2
/-- Behind the append of one byte more. -/
theorem appended {wa : World} {v' : Value} (h : RowAt w g bv l) (h8 : l.length % 8 = 0) (hown : wa.ownsRow g 5 1 v' ((packN l).length + 1) ((packN l).map (fun x : Nat => Value.int .u8 (x : Int)) ++ [.int .u8 0]))
    (hgr : (w.alloc (.cells #[.int .u8 0] 5)).grownBy wa bv.ownBlock) (hat : v'.ownBlock = bv.ownBlock ∨ v'.ownBlock = some (w.alloc (.cells #[.int .u8 0] 5)).heap.size) :
    ∃ b c, v' = .slice (some ⟨b, 0, none⟩) ((packN l).length + 1) c ∧ ¬ g = b ∧ ¬ b = g ∧ Mv w bv v' ∧ Blk wa g 201 #[bv, .int .i64 l.length] ∧
      wa.ownsRow g 5 1 v' ((packN l).length + 1) ((packP l).map fun x : Nat => Value.int .u8 (x : Int)) ∧ (packN l).length + 1 = (packP l).length ∧ g < wa.heap.size := by
  obtain ⟨b, c, rfl, h1, h2⟩ := own_some hown (by omega)
  have hB : Blk wa g 201 #[bv, .int .i64 l.length] := (h.1.alloc (.cells #[.int .u8 0] 5)).grown hgr (own_ne_blk (h.2.alloc (.cells #[.int .u8 0] 5)) (h.1.alloc (.cells #[.int .u8 0] 5)) (by decide))
  have hne := own_ne_blk hown hB (by decide)
  have e : packP l = packN l ++ [0] := by rw [packP_eq, if_pos h8]
  refine ⟨b, c, rfl, fun e => hne (by simp [Value.ownBlock, e]), fun e => hne (by simp [Value.ownBlock, e]), ?_, hB, ?_, by rw [e]; simp, hB.lt⟩
  · rcases hat with hat | hat
    · exact .inl hat
    · exact .inr ⟨_, hat, by simp⟩
  · rw [e]; simpa using hown
end

set_option maxRecDepth 100000 in
set_option maxHeartbeats 4000000 in
theorem put_nat (g : Nat) (bv : Value) (l : List Bool) (v n : Nat) (w : World) (h : RowAt w g bv l) (hn : n ≤ 64) (hm : l.length + n ≤ 1048576) (hv : v < 18446744073709551616) :
    Calls Tryz.prog 99 #[.pointer (some ⟨g, 0, none⟩), .int .u64 (v : Int), .int .i64 (n : Int)] w fun e w' => e = .returned .nilIface ∧
      ∃ bv', RowAt w' g bv' (l ++ bitsN v n) ∧ Fr (RowS g bv) w w' ∧ Mv w bv bv' := by
  obtain ⟨i0, hi, hz0, hz1, hz2⟩ := info_parts infoU8
  have Hi := Lib.hid hi; have Hz0 := Lib.hid hz0; have Hz1 := Lib.hid hz1; have Hz2 := Lib.hid hz2
  clear hi hz0 hz1 hz2
  obtain ⟨h0, h1, f0, f1⟩ := h.facts
  obtain ⟨A0, c0, rfl⟩ := h.form
  have H := Lib.hid h
  have hn' : (n : Int) ≤ 64 := by omega
  have hm' : (l.length : Int) + n ≤ 1048576 := by omega
  clear h
  go_enter Tryz.func99, Tryz.ntmps99
  go_wp2
  go_loopw [7] (fun i wr => ∃ (j : Nat) (x : Int) (bv1 : Value), i = .int .i64 x ∧ x + 1 = (j : Int) ∧ j ≤ n ∧ RowAt wr g bv1 (l ++ (bitsN v n).take (n - j)) ∧ Fr (RowS g (.slice A0 (packN l).length c0)) w wr ∧ Mv w (.slice A0 (packN l).length c0) bv1) (fun i _ => (intOf i + 1).toNat)
  case atStart =>
    refine ⟨n, (n : Int) - 1, _, rfl, by omega, Nat.le_refl _, ?_, Fr.refl _ _, Mv.refl _ _⟩
    rw [Nat.sub_self, List.take_zero, List.append_nil]; exact H.out
  case round =>
    obtain ⟨j, x, bv1, rfl, hx, hj, hrow, hfr, hmv⟩ := hrel
    clear h0 h1 f0 f1
    by_cases hj0 : j = 0
    · subst hj0
      have hx' : x < 0 := by omega
      have e : (bitsN v n).take (n - 0) = bitsN v n := List.take_of_length_le (by rw [bitsN_len]; omega)
      rw [e] at hrow
      have Hrow := Lib.hid hrow; have Hfr := Lib.hid hfr; have Hmv := Lib.hid hmv; have He := Lib.hid e
      clear hrow hfr hmv e hx
      go_wp2
      go_ret
      exact ⟨rfl, bv1, Hrow.out, Hfr.out, Hmv.out⟩
    · obtain ⟨i, rfl⟩ : ∃ i : Nat, x = (i : Int) := ⟨x.toNat, by omega⟩
      obtain rfl : j = i + 1 := by omega
      have hl : (l ++ (bitsN v n).take (n - (i + 1))).length = l.length + n - (i + 1) := by rw [List.length_append, List.length_take, bitsN_len]; omega
      have hnext : l ++ (bitsN v n).take (n - i) = (l ++ (bitsN v n).take (n - (i + 1))) ++ [v.testBit i] := by
        have e1 : n - i = (n - (i + 1)) + 1 := by omega
        rw [e1, bitsN_take v n _ (by omega), List.append_assoc]
        have e2 : n - 1 - (n - (i + 1)) = i := by omega
        rw [e2]
      obtain ⟨g0, g1, q0, q1⟩ := hrow.facts
      generalize hl' : l ++ (bitsN v n).take (n - (i + 1)) = l' at hl hnext hrow g1
      have Hnext := Lib.hid hnext; have Hl := Lib.hid hl; have Hl' := Lib.hid hl'; have Hfr := Lib.hid hfr; have Hmv := Lib.hid hmv
      have hlm : (l'.length : Int) < 1048576 := by omega
      have hi64 : i < 64 := by omega
      clear hnext hl hl' hfr hmv hx hj0
      have hbt := bit_test v i hv
      by_cases h8 : l'.length % 8 = 0
      · have h8' : (((l'.length : Int) % 8) == 0) = true := by rw [beq_iff_eq]; omega
        have hrd : Rd (wr.alloc (.cells #[.int .u8 0] 5)) (wr.alloc (.cells #[.int .u8 0] 5)).heap.size 1 (some ⟨wr.heap.size, 0, none⟩) 1 [.int .u8 0] :=
          ⟨rfl, fun _ => ⟨_, _, rfl, by simp, fun j u hu => by rw [Nat.zero_add, (Blk.new wr _ _).cell]; simpa using hu⟩⟩
        have hpl := packN_len l'
        have hb0 : (packN l').length + 1 ≤ maxLen := by unfold maxLen; omega
        have hb1 : ((packN l').length + 1) * 1 ≤ 140737488355328 := by omega
        have hb2 : g ≤ (wr.alloc (.cells #[.int .u8 0] 5)).heap.size := by have := hrow.lt; simp; omega
        have hlen2 : (l'.length : Int) / 8 < ((packN l').length : Int) + 1 := by omega
        have hor := or_bit l'
        have Hrow := Lib.hid hrow; have H8 := Lib.hid h8; have Hpl := Lib.hid hpl; have Hor := Lib.hid hor; have Hrd := Lib.hid hrd
        have rest : ∀ (wa : World) (v' : Value), wa.ownsRow g 5 1 v' ((packN l').length + 1) ((packN l').map (fun x : Nat => Value.int .u8 (x : Int)) ++ [.int .u8 0]) → (wr.alloc (.cells #[.int .u8 0] 5)).grownBy wa bv1.ownBlock →
            (v'.ownBlock = bv1.ownBlock ∨ v'.ownBlock = some (wr.alloc (.cells #[.int .u8 0] 5)).heap.size) →
            ∃ b c, v' = .slice (some ⟨b, 0, none⟩) ((packN l').length + 1) c ∧ ¬ g = b ∧ ¬ b = g ∧ Hid (Mv w (.slice A0 (packN l).length c0) v') ∧ Hid (Blk wa g 201 #[bv1, .int .i64 l'.length]) ∧
              Hid (wa.ownsRow g 5 1 v' ((packN l').length + 1) ((packP l').map fun x : Nat => Value.int .u8 (x : Int))) ∧ Hid ((packN l').length + 1 = (packP l').length) ∧ g < wa.heap.size ∧ Hid (Fr (RowS g (.slice A0 (packN l).length c0)) w wa) ∧
              wa.cell? ⟨g, 0, none⟩ = some bv1 ∧ wa.cell? ⟨g, 1, none⟩ = some (.int .i64 l'.length) ∧ wa.frozen? ⟨g, 0, none⟩ = false ∧ wa.frozen? ⟨g, 1, none⟩ = false ∧
              wa.cell? ⟨b, l'.length / 8, none⟩ = some (.int .u8 (byteAt l' (l'.length / 8) : Int)) ∧ wa.frozen? ⟨b, l'.length / 8, none⟩ = false := by
          intro wa v' h1 h2 h3
          obtain ⟨b, c, rfl, q1, q2, q3, q4, q5, q6, q7⟩ := appended Hrow.out H8.out h1 h2 h3
          have q5' := q5
          have hx := q5.cellAt (l'.length / 8) (by have := packP_len l'; omega)
          rw [List.getElem?_map, packP_get] at hx
          refine ⟨b, c, rfl, q1, q2, Mv.trans Hmv.out q3 Hfr.out.size, q4, q5', q6, q7, ?_, q4.cell 0, q4.cell 1, q4.frozen 0, q4.frozen 1, hx, q5.frozenAt _⟩
          refine Fr.grown (Hfr.out.alloc _) h2 (fun k hk => ?_)
          rcases Hmv.out with hm | ⟨k', m1, m2⟩
          · exact .inr (.inr (by rw [← hm]; exact hk))
          · rw [hk] at m1; injection m1 with m1; exact .inl (by omega)
        have Hrest := Lib.hid rest
        clear hrow h8 hpl hor hrd rest
        cases hbv : v.testBit i
        · rw [hbv] at hbt
          have Hbv := Lib.hid hbv
          clear hbv
          go_wp2_with (at_builtin; refine wpList_append_rd _ rfl (.tmp 39) (.tmp 40) _ rfl g 5 i0 (.int .u8 0) 1 1 Tryz.underlying107 Hi.out Hz0.out Hz1.out Hz2.out rfl (by decide) bv1 _ _ rfl (Hrow.out.2.alloc _) _ _ 1 1 [.int .u8 0] rfl Hrd.out (by intro u hu; simp at hu; subst hu; rfl) hb0 hb1 hb2 ?_; intro v' wa hown' hgr hat; obtain ⟨b, c, rfl, hne1, hne2, Hmv2, HB, HP, HPL, hgz, Hfr2, k0, k1, k2, k3, k4, k5⟩ := Hrest.out wa v' hown' hgr hat; clear hown' hgr hat)
          refine ⟨⟨i, (i : Int) - 1, _, rfl, by omega, by omega, ?_, ?_, Hmv2.out⟩, by simp [intOf]⟩
          · rw [Hnext.out, Hbv.out]
            have hB2 := HB.out.set_ 0 (.slice (some ⟨b, 0, none⟩) ((packN l').length + 1) c)
            exact bit_zero HPL.out hB2 (own_set HP.out (own_ne_blk HP.out HB.out (by decide)) _)
          · exact (Hfr2.out.setCell (.inr (.inl rfl)) _).setCell (.inr (.inl rfl)) _
        · rw [hbv] at hbt
          have Hbv := Lib.hid hbv
          clear hbv
          go_wp2_with (at_builtin; refine wpList_append_rd _ rfl (.tmp 39) (.tmp 40) _ rfl g 5 i0 (.int .u8 0) 1 1 Tryz.underlying107 Hi.out Hz0.out Hz1.out Hz2.out rfl (by decide) bv1 _ _ rfl (Hrow.out.2.alloc _) _ _ 1 1 [.int .u8 0] rfl Hrd.out (by intro u hu; simp at hu; subst hu; rfl) hb0 hb1 hb2 ?_; intro v' wa hown' hgr hat; obtain ⟨b, c, rfl, hne1, hne2, Hmv2, HB, HP, HPL, hgz, Hfr2, k0, k1, k2, k3, k4, k5⟩ := Hrest.out wa v' hown' hgr hat; clear hown' hgr hat)
          go_region
          go_wp2
          refine ⟨⟨i, (i : Int) - 1, _, rfl, by omega, by omega, ?_, ?_, Hmv2.out⟩, by simp [intOf]⟩
          · rw [Hnext.out, Hbv.out, Hor.out]
            have hB2 := HB.out.set_ 0 (.slice (some ⟨b, 0, none⟩) ((packN l').length + 1) c)
            exact bit_one HPL.out hB2 (own_set HP.out (own_ne_blk HP.out HB.out (by decide)) _)
          · exact (Fr.drew ((Hfr2.out.setCell (.inr (.inl rfl)) _).setCell Hmv2.out.at_ _)).setCell (.inr (.inl rfl)) _
      · have h8' : (((l'.length : Int) % 8) == 0) = false := by rw [beq_eq_false_iff_ne]; omega
        have hP := rowP_of hrow h8
        have hpl := packP_len l'
        obtain ⟨b, c, rfl, hgb, hbz⟩ := own_some hP (by omega)
        have hB := hrow.1
        have hne := own_ne_blk hP hB (by decide)
        have hne1 : ¬ g = b := by intro e; exact hne (by simp [Value.ownBlock, e])
        have hne2 : ¬ b = g := fun e => hne1 e.symm
        have hx := hP.cellAt (l'.length / 8) (by omega)
        rw [List.getElem?_map, packP_get] at hx
        have fx := hP.frozenAt (l'.length / 8)
        simp only [Option.map_some] at hx
        have hor := or_bit l'
        have hlen2 : (l'.length : Int) / 8 < ((packP l').length : Int) := by omega
        have HP := Lib.hid hP; have HB := Lib.hid hB; have Hrow := Lib.hid hrow; have H8 := Lib.hid h8; have Hpl := Lib.hid hpl; have Hor := Lib.hid hor; have Hne := Lib.hid hne
        clear hP hB hrow h8 hpl hor hne
        cases hbv : v.testBit i
        · rw [hbv] at hbt
          have Hbv := Lib.hid hbv
          clear hbv
          go_wp2
          refine ⟨⟨i, (i : Int) - 1, _, rfl, by omega, by omega, ?_, Hfr.out.setCell (.inr (.inl rfl)) _, Hmv.out⟩, by simp [intOf]⟩
          rw [Hnext.out, Hbv.out]
          exact bit_zero rfl HB.out HP.out
        · rw [hbv] at hbt
          have Hbv := Lib.hid hbv
          clear hbv
          go_wp2
          go_region
          go_wp2
          refine ⟨⟨i, (i : Int) - 1, _, rfl, by omega, by omega, ?_, (Fr.drew (Hfr.out.setCell Hmv.out.at_ _)).setCell (.inr (.inl rfl)) _, Hmv.out⟩, by simp [intOf]⟩
          rw [Hnext.out, Hbv.out, Hor.out]
          exact bit_one rfl HB.out HP.out
end Go.Proofs.YtpbgonpmpjpljaaGreatDoor

namespace Go.Proofs.YtpbgonpmpjpljaaGreatDoor
open Go.RowKit
set_option linter.unusedVariables false

/-- The form of a number: how many bits are 1 at its head; how many follow. -/
def ofK (n : Int) : Nat := if n = 0 then 0 else if -64 < n ∧ n ≤ 64 then 1 else if -256 < n ∧ n ≤ 256 then 2 else if -2048 < n ∧ n ≤ 2048 then 3 else 4
def wideK (k : Nat) : Int := match k with | 0 => 0 | 1 => 7 | 2 => 9 | 3 => 12 | _ => 64
def mostW (wd : Int) : Int := if wd = 7 then 64 else if wd = 9 then 256 else 2048
def hasB (wd n : Int) : Bool := if wd = 0 then decide (n = 0) else if wd = 64 then true else decide (-(mostW wd) < n ∧ n ≤ mostW wd)
def headV (k : Nat) : Int := match k with | 0 => 0 | 1 => 2 | 2 => 6 | 3 => 14 | _ => 15
def headN (k : Nat) : Int := match k with | 0 => 1 | 1 => 2 | 2 => 3 | _ => 4
def sizeN (n : Int) : Int := headN (ofK n) + wideK (ofK n)
def formsL : List (Int × Int) := [(0, 0), (1, 7), (2, 9), (3, 12), (4, 64)]

theorem ofK_le (n : Int) : ofK n ≤ 4 := by unfold ofK; repeat' split
                                           all_goals omega
theorem forms_get (k : Nat) (hk : k ≤ 4) : formsL[k]? = some ((k : Int), wideK k) := by
  rcases k with _ | _ | _ | _ | _ | k
  · rfl
  · rfl
  · rfl
  · rfl
  · rfl
  · omega
theorem hasB_of (n : Int) : hasB (wideK (ofK n)) n = true := by
  unfold ofK
  split
  · rename_i h; simp [wideK, hasB, h]
  · split
    · rename_i h; simp [wideK, hasB, mostW]; omega
    · split
      · rename_i h; simp [wideK, hasB, mostW]; omega
      · split
        · rename_i h; simp [wideK, hasB, mostW]; omega
        · simp [wideK, hasB]
theorem hasB_before (n : Int) (k : Nat) (h : k < ofK n) : hasB (wideK k) n = false := by
  have h4 := ofK_le n
  have hc : (k = 0 ∨ k = 1 ∨ k = 2 ∨ k = 3) := by omega
  unfold ofK at h
  split at h
  · omega
  · rename_i h0
    split at h
    · obtain rfl : k = 0 := by omega
      simp [wideK, hasB, h0]
    · rename_i h1
      split at h
      · rcases hc with rfl | rfl | rfl | rfl
        · simp [wideK, hasB, h0]
        · simp [wideK, hasB, mostW]; omega
        · omega
        · omega
      · rename_i h2
        split at h
        · rcases hc with rfl | rfl | rfl | rfl
          · simp [wideK, hasB, h0]
          · simp [wideK, hasB, mostW]; omega
          · simp [wideK, hasB, mostW]; omega
          · omega
        · rename_i h3
          rcases hc with rfl | rfl | rfl | rfl
          · simp [wideK, hasB, h0]
          · simp [wideK, hasB, mostW]; omega
          · simp [wideK, hasB, mostW]; omega
          · simp [wideK, hasB, mostW]; omega

theorem has_zero (o n : Int) (w : World) : Calls Tryz.prog 182 #[.agg #[.int .i64 o, .int .i64 0], .int .i64 n] w fun e w' => e = .returned (.bool (hasB 0 n)) ∧ Below w.heap.size w w' := by
  by_cases h : n = 0
  · subst h
    have e : hasB 0 0 = true := rfl
    rw [e]
    go_enter Tryz.func182, Tryz.ntmps182
    go_wp2
    go_ret
    exact ⟨rfl, by go_grown⟩
  · have e : hasB 0 n = false := by simp [hasB, h]
    have h' : (n == 0) = false := by simpa using h
    rw [e]
    clear h
    go_enter Tryz.func182, Tryz.ntmps182
    go_wp2
    go_ret
    exact ⟨rfl, by go_grown⟩
theorem has_all (o n : Int) (w : World) : Calls Tryz.prog 182 #[.agg #[.int .i64 o, .int .i64 64], .int .i64 n] w fun e w' => e = .returned (.bool (hasB 64 n)) ∧ Below w.heap.size w w' := by
  have e : hasB 64 n = true := rfl
  rw [e]
  go_enter Tryz.func182, Tryz.ntmps182
  go_wp2
  go_ret
  exact ⟨rfl, by go_grown⟩
theorem has_mid (o wd n : Int) (w : World) (hw : wd = 7 ∨ wd = 9 ∨ wd = 12) : Calls Tryz.prog 182 #[.agg #[.int .i64 o, .int .i64 wd], .int .i64 n] w fun e w' => e = .returned (.bool (hasB wd n)) ∧ Below w.heap.size w w' := by
  have h1 : -(mostW wd) < n ∨ n ≤ -(mostW wd) := by omega
  have h2 : n ≤ mostW wd ∨ mostW wd < n := by omega
  have e : hasB wd n = decide (-(mostW wd) < n ∧ n ≤ mostW wd) := by rcases hw with rfl | rfl | rfl <;> rfl
  rcases hw with rfl | rfl | rfl <;> simp only [show mostW 7 = 64 from rfl, show mostW 9 = 256 from rfl, show mostW 12 = 2048 from rfl] at h1 h2 e <;> rcases h1 with h1 | h1 <;> rcases h2 with h2 | h2 <;> (try omega)
  all_goals
    simp only [e]
    clear e
    first
      | rw [decide_eq_true (⟨h1, h2⟩ : _ ∧ _)]
      | rw [decide_eq_false (by omega)]
    go_enter Tryz.func182, Tryz.ntmps182
    go_wp2
    go_ret
    refine ⟨?_, by go_grown⟩
    first | rfl | (simp; omega)
theorem has_any (y : Int × Int) (hy : y ∈ formsL) (n : Int) (w : World) : Calls Tryz.prog 182 #[.agg #[.int .i64 y.1, .int .i64 y.2], .int .i64 n] w fun e w' => e = .returned (.bool (hasB y.2 n)) ∧ Below w.heap.size w w' := by
  simp only [formsL, List.mem_cons, List.not_mem_nil, or_false] at hy
  rcases hy with rfl | rfl | rfl | rfl | rfl
  · exact has_zero _ _ _
  · exact has_mid _ _ _ _ (by simp)
  · exact has_mid _ _ _ _ (by simp)
  · exact has_mid _ _ _ _ (by simp)
  · exact has_all _ _ _

def formCells : Array Value := #[.int .i64 0, .int .i64 0, .int .i64 1, .int .i64 7, .int .i64 2, .int .i64 9, .int .i64 3, .int .i64 12, .int .i64 4, .int .i64 64]
theorem forms_any (w : World) : Calls Tryz.prog 181 #[] w fun e w' => e = .returned (.slice (some ⟨w.heap.size, 0, none⟩) 5 5) ∧ w' = w.alloc (.cells formCells 239) := by
  go_enter Tryz.func181, Tryz.ntmps181
  go_wp2
  go_ret
  exact ⟨rfl, rfl⟩
theorem forms_rd (w : World) {w' : World} (hw : w' = w.alloc (.cells formCells 239)) : Rd w' (w.heap.size + 1) 2 (some ⟨w.heap.size, 0, none⟩) 5 (formsL.flatMap fun y => [.int .i64 y.1, .int .i64 y.2]) := by
  subst hw
  refine ⟨rfl, fun _ => ⟨w.heap.size, 0, rfl, Nat.lt_succ_self _, fun j u hu => ?_⟩⟩
  rw [Nat.zero_add, (Blk.new w _ _).cell]
  have e : formCells = (formsL.flatMap fun y => [Value.int .i64 y.1, Value.int .i64 y.2]).toArray := rfl
  rw [e]
  simpa using hu

set_option maxHeartbeats 400000 in
theorem of_any (n : Int) (w : World) : Calls Tryz.prog 159 #[.int .i64 n] w fun e w' => e = .returned (.agg #[.int .i64 (ofK n), .int .i64 (wideK (ofK n))]) ∧ Below w.heap.size w w' := by
  have hK := ofK_le n
  go_enter Tryz.func159, Tryz.ntmps159
  go_wp2_with fail
  refine (forms_any _).mono ?_
  rintro e w1 ⟨rfl, hw1⟩
  have hrd := forms_rd _ hw1
  have hz1 : w1.heap.size = w.heap.size + 1 + 1 := by rw [hw1]; simp
  have hb1 : Below w.heap.size w w1 := by rw [hw1]; go_grown
  have hB1 : Blk w1 w.heap.size 239 #[.int .i64 0, .int .i64 0] := by
    rw [hw1]; exact (Blk.new w _ _).alloc _
  clear hw1
  simp only [World.size_alloc] at hrd
  have Hrd := Lib.hid hrd; have Hz1 := Lib.hid hz1; have Hb1 := Lib.hid hb1; have HB1 := Lib.hid hB1
  clear hrd hz1 hb1 hB1
  go_wp2
  go_loopw [7] (fun i wr => ∃ k : Nat, k ≤ ofK n ∧ i = .int .i64 k ∧ Below w1.heap.size w1 wr) (fun i _ => 5 - (intOf i).toNat)
  case atStart => exact ⟨0, Nat.zero_le _, rfl, Below.refl _ _⟩
  case round =>
    obtain ⟨k, hk, rfl, hbel⟩ := hrel
    obtain ⟨bb, off, y, hA, had, hy, e0, e1⟩ := (Hrd.out.below (hbel.mono (by rw [Hz1.out]; exact Nat.le_refl _))).at2 (k := k) (by omega)
    have hyv : y = ((k : Int), wideK k) := Option.some.inj (hy.symm.trans (forms_get k (by omega)))
    have hmem : y ∈ formsL := List.mem_of_getElem? hy
    injection hA with hA
    injection hA with hA1 hA2
    subst hA1; subst hA2
    simp only [Nat.zero_add] at e0 e1
    have Hy := Lib.hid hy; have Hyv := Lib.hid hyv; have Hbel := Lib.hid hbel; have Hmem := Lib.hid hmem
    clear hy hyv hbel hmem
    have hz : w.heap.size + 1 < wr.heap.size := by have := Hbel.out.size; rw [Hz1.out] at this; omega
    by_cases hlt : k < ofK n
    · have hh : hasB y.2 n = false := by rw [Hyv.out]; exact hasB_before n k hlt
      go_wp2_with (go_at_call 182; refine (has_any y Hmem.out n _).mono ?_; rintro e w2 ⟨rfl, hb2⟩; have hb2 := Lib.hid hb2)
      go_roundw
      case rel => exact ⟨k + 1, by omega, by go_num, Below.call (Below.alloc Hbel.out Hbel.out.size _) hb2.out (by have := Hbel.out.size; simp; omega)⟩
      case measure => simp [intOf]; omega
    · have hkk : k = ofK n := by omega
      have hh : hasB y.2 n = true := by rw [Hyv.out, hkk]; exact hasB_of n
      have Hkk := Lib.hid hkk
      clear hkk
      have hB2 : ∀ w2 : World, Below (wr.alloc (.cells #[.int .i64 y.1, .int .i64 y.2] 239)).heap.size (wr.alloc (.cells #[.int .i64 y.1, .int .i64 y.2] 239)) w2 →
          (Blk w2 w.heap.size 239 #[.int .i64 0, .int .i64 0] ∧ Blk w2 wr.heap.size 239 #[.int .i64 y.1, .int .i64 y.2] ∧ Below w.heap.size w w2) := by
        intro w2 hb2
        have q := HB1.out.below Hbel.out HB1.out.lt
        refine ⟨(q.alloc _).below hb2 (by simp; omega), (Blk.new wr _ _).below hb2 (by simp), ?_⟩
        exact Below.call (Below.alloc (Below.trans Hb1.out (Hbel.out.mono (by rw [Hz1.out]; omega))) (by omega) _) hb2 (by simp; omega)
      have HB2 := Lib.hid hB2
      clear hB2
      go_wp2_with (go_at_call 182; refine (has_any y Hmem.out n _).mono ?_; rintro e w2 ⟨rfl, hb2⟩; obtain ⟨b0, b1, b2⟩ := HB2.out w2 hb2; have z0 := b0.cell 0; have z1 := b0.cell 1; have f0 := b0.frozen 0; have f1 := b0.frozen 1; have y0 := b1.cell 0; have y1 := b1.cell 1; have b2 := Lib.hid b2; clear b0 b1 hb2; simp only [List.getElem?_toArray, List.getElem?_cons_zero, List.getElem?_cons_succ] at z0 z1 y0 y1)
      refine bodyPost_ret (v := .agg #[.int .i64 y.1, .int .i64 y.2]) (by simp [results, Tryz.results159, go_sem, z0, z1]) rfl ?_
      refine ⟨?_, (b2.out.setCell (by simp) _).setCell (by simp) _⟩
      rw [Hyv.out, ← Hkk.out]

theorem head_any (k : Nat) (hk : k ≤ 4) (w : World) : Calls Tryz.prog 160 #[.agg #[.int .i64 (k : Int), .int .i64 (wideK k)]] w fun e w' => e = .returned (.tuple #[.int .u64 (headV k), .int .i64 (headN k)]) ∧ Below w.heap.size w w' := by
  have hc : k = 0 ∨ k = 1 ∨ k = 2 ∨ k = 3 ∨ k = 4 := by omega
  rcases hc with rfl | rfl | rfl | rfl | rfl
  · go_enter Tryz.func160, Tryz.ntmps160
    go_wp2
    go_quiet (fail)
    go_wp2
    go_ret2
    exact ⟨rfl, Below.drewN (by go_grown) _⟩
  · go_enter Tryz.func160, Tryz.ntmps160
    go_wp2
    go_quiet (fail)
    go_wp2
    go_ret2
    exact ⟨rfl, Below.drewN (by go_grown) _⟩
  · go_enter Tryz.func160, Tryz.ntmps160
    go_wp2
    go_quiet (fail)
    go_wp2
    go_ret2
    exact ⟨rfl, Below.drewN (by go_grown) _⟩
  · go_enter Tryz.func160, Tryz.ntmps160
    go_wp2
    go_quiet (fail)
    go_wp2
    go_ret2
    exact ⟨rfl, Below.drewN (by go_grown) _⟩
  · go_enter Tryz.func160, Tryz.ntmps160
    go_wp2
    go_ret2
    exact ⟨rfl, by go_grown⟩

theorem headN_bd (k : Nat) : 1 ≤ headN k ∧ headN k ≤ 4 := by unfold headN; split <;> omega
theorem wideK_bd (k : Nat) : 0 ≤ wideK k ∧ wideK k ≤ 64 := by unfold wideK; split <;> omega
set_option maxHeartbeats 400000 in
theorem size_any (n : Int) (w : World) : Calls Tryz.prog 128 #[.int .i64 n] w fun e w' => e = .returned (.int .i64 (sizeN n)) ∧ Below w.heap.size w w' := by
  have hK := ofK_le n
  obtain ⟨n0, n1⟩ := headN_bd (ofK n)
  obtain ⟨d0, d1⟩ := wideK_bd (ofK n)
  go_enter Tryz.func128, Tryz.ntmps128
  go_wp2_with fail
  refine (of_any n _).mono ?_
  rintro e w1 ⟨rfl, hb1⟩
  have hb1 := Lib.hid hb1
  go_wp2_with fail
  refine (head_any (ofK n) hK _).mono ?_
  rintro e w2 ⟨rfl, hb2⟩
  have c1 := ((Blk.new w1 239 #[.int .i64 (ofK n), .int .i64 (wideK (ofK n))]).below hb2 (by simp)).cell 1
  simp only [List.getElem?_toArray, List.getElem?_cons_zero, List.getElem?_cons_succ] at c1
  have hb2 := Lib.hid hb2
  go_wp2
  go_ret
  exact ⟨rfl, Below.call (Below.alloc hb1.out hb1.out.size _) hb2.out (by have := hb1.out.size; simp; omega)⟩
end Go.Proofs.YtpbgonpmpjpljaaGreatDoor

namespace Go.Proofs.YtpbgonpmpjpljaaGreatDoor
open Go.RowKit
set_option linter.unusedVariables false

/-- The row at g has turned into the row of l; nothing else that was there has turned. -/
def RowStep (w w' : World) (g : Nat) (bv : Value) (l : List Bool) : Prop := ∃ bv', RowAt w' g bv' l ∧ Fr (RowS g bv) w w' ∧ Mv w bv bv'
theorem RowAt.S_ge {w : World} {g : Nat} {bv : Value} {l : List Bool} (h : RowAt w g bv l) : ∀ k, RowS g bv k → g ≤ k := by
  intro k hk
  rcases hk with rfl | hk
  · exact Nat.le_refl _
  · exact (own_lt h.2 k hk).1
theorem RowStep.size {w w' : World} {g : Nat} {bv : Value} {l : List Bool} (h : RowStep w w' g bv l) : w.heap.size ≤ w'.heap.size := by
  obtain ⟨_, _, h, _⟩ := h; exact h.size
/-- Behind a callee that keeps all, then a step. -/
theorem RowStep.behind {w w1 w' : World} {B g : Nat} {bv : Value} {l l' : List Bool} (h0 : RowAt w g bv l') (hb : Below B w w1) (hB : w.heap.size ≤ B) (h : RowStep w1 w' g bv l) : RowStep w w' g bv l := by
  obtain ⟨bv', h1, h2, h3⟩ := h
  refine ⟨bv', h1, Fr.trans (S := RowS g bv) ((Fr.refl _ w).call hb hB) h2 (fun i _ hi => hi), ?_⟩
  rcases h3 with h3 | ⟨k, q1, q2⟩
  · exact .inl h3
  · exact .inr ⟨k, q1, Nat.le_trans hb.size q2⟩
theorem RowStep.before {w w1 w' : World} {B g : Nat} {bv : Value} {l : List Bool} (h : RowStep w w1 g bv l) (hb : Below B w1 w') (hB : w1.heap.size ≤ B) : RowStep w w' g bv l := by
  obtain ⟨bv', h1, h2, h3⟩ := h
  exact ⟨bv', h1.below hb hB, h2.call hb (Nat.le_trans h2.size hB), h3⟩
theorem RowStep.trans {w w1 w' : World} {g : Nat} {bv bv1 : Value} {l l' : List Bool} (h1 : RowAt w1 g bv1 l) (h2 : Fr (RowS g bv) w w1) (h3 : Mv w bv bv1) (h : RowStep w1 w' g bv1 l') : RowStep w w' g bv l' := by
  obtain ⟨bv', q1, q2, q3⟩ := h
  exact ⟨bv', q1, h2.trans q2 (RowS.of_mv h3), h3.trans q3 h2.size⟩
theorem RowStep.below {w w' : World} {g B : Nat} {bv : Value} {l l' : List Bool} (h0 : RowAt w g bv l') (h : RowStep w w' g bv l) (hB : B ≤ g) : Below B w w' := by
  obtain ⟨_, _, h2, _⟩ := h
  exact h2.below (by have := h0.lt; omega) (fun k hk hs => by have := h0.S_ge k hs; omega)
theorem RowStep.blk {w w' : World} {g q : Nat} {bv : Value} {l l' : List Bool} {t : TypeId} {cs : Array Value} (h0 : RowAt w g bv l') (h : RowStep w w' g bv l) (hq : Blk w q t cs) (ht : t ≠ 201) (ht' : t ≠ 5) : Blk w' q t cs := by
  obtain ⟨_, _, h2, _⟩ := h
  refine h2.blk hq ?_
  rintro (rfl | hs)
  · exact hq.ne_ h0.1 ht rfl
  · exact own_ne_blk h0.2 hq (fun e => ht' e.symm) hs.symm
theorem RowStep.own {w w' : World} {g : Nat} {bv : Value} {l l' : List Bool} {base : Nat} {e : TypeId} {size n : Nat} {v : Value} {xs : List Value} (h0 : RowAt w g bv l') (h : RowStep w w' g bv l) (ho : w.ownsRow base e size v n xs) (ht : e ≠ 201) (ht' : e ≠ 5) : w'.ownsRow base e size v n xs := by
  obtain ⟨_, _, h2, _⟩ := h
  refine h2.own ho (fun k hk => ?_)
  rintro (rfl | hs)
  · exact own_ne_blk ho h0.1 ht hk.symm
  · rcases own_ne_own ho h0.2 ht' with h | h
    · rw [h] at hk; cases hk
    · rw [hk, hs] at h; exact h rfl

theorem put_any (g : Nat) (bv : Value) (l : List Bool) (v n : Int) (w : World) (h : RowAt w g bv l) (hn0 : 0 ≤ n) (hn : n ≤ 64) (hm : (l.length : Int) + n ≤ 1048576) (hv0 : 0 ≤ v) (hv : v < 18446744073709551616) :
    Calls Tryz.prog 99 #[.pointer (some ⟨g, 0, none⟩), .int .u64 v, .int .i64 n] w fun e w' => e = .returned .nilIface ∧ RowStep w w' g bv (l ++ bitsN v.toNat n.toNat) := by
  obtain ⟨v, rfl⟩ := Int.eq_ofNat_of_zero_le hv0
  obtain ⟨n, rfl⟩ := Int.eq_ofNat_of_zero_le hn0
  exact put_nat g bv l v n w h (by omega) (by omega) (by omega)

/-- What a number's own bits say: the number, moved. -/
def waveV (n : Int) : Int := if ofK n = 0 ∨ ofK n = 4 then n % 18446744073709551616 else n + (mostW (wideK (ofK n)) - 1)
def waveBits (n : Int) : List Bool := bitsN (headV (ofK n)).toNat (headN (ofK n)).toNat ++ bitsN (waveV n).toNat (wideK (ofK n)).toNat
theorem waveBits_len (n : Int) : ((waveBits n).length : Int) = sizeN n := by
  have h1 := headN_bd (ofK n)
  have h2 := wideK_bd (ofK n)
  simp only [waveBits, List.length_append, bitsN_len, sizeN]
  omega
theorem headV_bd (k : Nat) : 0 ≤ headV k ∧ headV k < 18446744073709551616 := by unfold headV; split <;> omega
theorem sizeN_bd (n : Int) : 1 ≤ sizeN n ∧ sizeN n ≤ 68 := by
  have h1 := headN_bd (ofK n)
  have h2 := wideK_bd (ofK n)
  unfold sizeN; omega
theorem waveV_bd (n : Int) : 0 ≤ waveV n ∧ waveV n < 18446744073709551616 := by
  unfold waveV
  split
  · omega
  · rename_i h
    unfold ofK at h ⊢
    split at h
    · omega
    · split at h
      · rename_i h0 h1; rw [if_neg h0, if_pos h1]; simp [mostW, wideK]; omega
      · split at h
        · rename_i h0 h1 h2; rw [if_neg h0, if_neg h1, if_pos h2]; simp [mostW, wideK]; omega
        · split at h
          · rename_i h0 h1 h2 h3; rw [if_neg h0, if_neg h1, if_neg h2, if_pos h3]; simp [mostW, wideK]; omega
          · omega

theorem most_any (o wd : Int) (hw : wd = 7 ∨ wd = 9 ∨ wd = 12) (w : World) : Calls Tryz.prog 161 #[.agg #[.int .i64 o, .int .i64 wd]] w fun e w' => e = .returned (.int .i64 (mostW wd)) ∧ Below w.heap.size w w' := by
  rcases hw with rfl | rfl | rfl
  · go_enter Tryz.func161, Tryz.ntmps161
    go_wp2
    go_ret
    exact ⟨rfl, by go_grown⟩
  · go_enter Tryz.func161, Tryz.ntmps161
    go_wp2
    go_ret
    exact ⟨rfl, by go_grown⟩
  · go_enter Tryz.func161, Tryz.ntmps161
    go_wp2
    go_ret
    exact ⟨rfl, by go_grown⟩
theorem mid_facts (n : Int) (h : 0 < ofK n ∧ ofK n < 4) : (wideK (ofK n) = 7 ∨ wideK (ofK n) = 9 ∨ wideK (ofK n) = 12) ∧ 64 ≤ mostW (wideK (ofK n)) ∧ mostW (wideK (ofK n)) ≤ 2048 ∧ -(mostW (wideK (ofK n))) < n ∧ n ≤ mostW (wideK (ofK n)) := by
  have h1 := hasB_of n
  have h2 : ofK n = 1 ∨ ofK n = 2 ∨ ofK n = 3 := by omega
  rcases h2 with h2 | h2 | h2 <;> rw [h2] at h1 ⊢ <;> simp [wideK, hasB, mostW] at h1 ⊢ <;> omega

set_option maxHeartbeats 2000000 in
theorem wput_ok (g : Nat) (bv : Value) (l : List Bool) (n : Int) (w : World) (h : RowAt w g bv l) (hm : (l.length : Int) + sizeN n ≤ 1048576) :
    Calls Tryz.prog 130 #[.pointer (some ⟨g, 0, none⟩), .int .i64 n] w fun e w' => e = .returned .nilIface ∧ RowStep w w' g bv (l ++ waveBits n) := by
  have hK := ofK_le n
  have hs := sizeN_bd n
  obtain ⟨n0, n1⟩ := headN_bd (ofK n)
  obtain ⟨d0, d1⟩ := wideK_bd (ofK n)
  have hvb := headV_bd (ofK n)
  have hwv := waveV_bd n
  have hroom : (sizeN n) ≤ 1048576 - (l.length : Int) := by omega
  have hl : l.length ≤ 1048576 := by omega
  have hsz : sizeN n = headN (ofK n) + wideK (ofK n) := rfl
  have hm1 : (l.length : Int) + headN (ofK n) ≤ 1048576 := by omega
  have hm2 : ((l ++ bitsN (headV (ofK n)).toNat (headN (ofK n)).toNat).length : Int) + wideK (ofK n) ≤ 1048576 := by
    simp only [List.length_append, bitsN_len]; omega
  have hww : waveBits n = bitsN (headV (ofK n)).toNat (headN (ofK n)).toNat ++ bitsN (waveV n).toNat (wideK (ofK n)).toNat := rfl
  have Hsz := Lib.hid hsz; have H := Lib.hid h; have Hww := Lib.hid hww; have Hvb := Lib.hid hvb; have Hwv := Lib.hid hwv
  clear hsz h hww hvb hwv hm
  go_enter Tryz.func130, Tryz.ntmps130
  go_wp2_with fail
  refine (size_any n _).mono ?_
  rintro e w1 ⟨rfl, hb1⟩
  have Hb1 := Lib.hid hb1; clear hb1
  go_wp2_with fail
  refine (room_any g bv l (sizeN n) w1 (H.out.below Hb1.out (Nat.le_refl _)) hl).mono ?_
  rintro e w' ⟨rfl, rfl⟩
  go_wp2_with fail
  refine (of_any n _).mono ?_
  rintro e w2 ⟨rfl, hb2⟩
  have Hb2 := Lib.hid hb2; clear hb2
  go_wp2_with fail
  refine (head_any (ofK n) hK _).mono ?_
  rintro e w3 ⟨rfl, hb3⟩
  have hr2 : RowAt w2 g bv l := (H.out.below Hb1.out (Nat.le_refl _)).below Hb2.out (Nat.le_refl _)
  have hr3 : RowAt w3 g bv l := (hr2.alloc (.cells #[.int .i64 (ofK n), .int .i64 (wideK (ofK n))] 239)).below hb3 (Nat.le_refl _)
  have hf3 : Blk w3 w2.heap.size 239 #[.int .i64 (ofK n), .int .i64 (wideK (ofK n))] := (Blk.new w2 _ _).below hb3 (by simp)
  have hbb : Below w.heap.size w w3 := by
    have a1 : Below w.heap.size w w2 := Below.call Hb1.out Hb2.out Hb1.out.size
    exact Below.call (Below.alloc a1 (Nat.le_trans Hb1.out.size Hb2.out.size) _) hb3 (by have := Nat.le_trans Hb1.out.size Hb2.out.size; simp; omega)
  have Hr3 := Lib.hid hr3; have Hf3 := Lib.hid hf3; have Hbb := Lib.hid hbb
  clear hb3 hr2 hr3 hf3 hbb
  go_wp2_with fail
  refine (put_any g bv l _ _ w3 Hr3.out (by omega) (by omega) hm1 Hvb.out.1 Hvb.out.2).mono ?_
  rintro e w4 ⟨rfl, hst⟩
  have hf4 := hst.blk Hr3.out Hf3.out (by decide) (by decide)
  have y0 := hf4.cell 0
  have y1 := hf4.cell 1
  simp only [List.getElem?_toArray, List.getElem?_cons_zero, List.getElem?_cons_succ] at y0 y1
  have hz4 := hf4.lt
  have hst' := RowStep.behind H.out Hbb.out (Nat.le_refl _) hst
  obtain ⟨bv4, hr4, hfr4, hmv4⟩ := hst'
  have Hr4 := Lib.hid hr4; have Hfr4 := Lib.hid hfr4; have Hmv4 := Lib.hid hmv4; have Hf4 := Lib.hid hf4
  clear hst hr4 hfr4 hmv4 hf4
  have fin : ∀ (W w5 : World), Below w4.heap.size w4 W → RowStep W w5 g bv4 ((l ++ bitsN (headV (ofK n)).toNat (headN (ofK n)).toNat) ++ bitsN (waveV n).toNat (wideK (ofK n)).toNat) → RowStep w w5 g bv (l ++ waveBits n) := by
    intro W w5 hW h5
    rw [Hww.out, ← List.append_assoc]
    exact RowStep.trans Hr4.out Hfr4.out Hmv4.out (RowStep.behind Hr4.out hW (Nat.le_refl _) h5)
  have Hfin := Lib.hid fin; clear fin
  have hc : ofK n = 0 ∨ ofK n = 4 ∨ (0 < ofK n ∧ ofK n < 4) := by omega
  rcases hc with hc | hc | hc
  · have hv : waveV n = n % 18446744073709551616 := by unfold waveV; rw [if_pos (.inl hc)]
    have hw0 : wideK (ofK n) = 0 := by rw [hc]; rfl
    have Hv := Lib.hid hv; have Hw0 := Lib.hid hw0
    have hwz : ¬ (0 < wideK (ofK n)) := by omega
    have hwz' : decide (0 < wideK (ofK n)) = false := by simpa using hwz
    clear hv hw0 hc
    go_wp2_with fail
    rw [IntKind.wrap_u64, ← Hv.out]
    refine (put_any g bv4 _ _ _ w4 Hr4.out (by omega) (by omega) hm2 Hwv.out.1 Hwv.out.2).mono ?_
    rintro e w5 ⟨rfl, hst⟩
    have Hst := Lib.hid (Hfin.out w4 w5 (Below.refl _ _) hst); clear hst
    go_wp2
    go_ret
    exact ⟨rfl, Hst.out⟩
  · have hv : waveV n = n % 18446744073709551616 := by unfold waveV; rw [if_pos (.inr hc)]
    have hw0 : wideK (ofK n) = 64 := by rw [hc]; rfl
    have hd64 : 64 ≤ wideK (ofK n) := by omega
    have Hv := Lib.hid hv
    clear hv hw0 hc
    go_wp2_with fail
    rw [IntKind.wrap_u64, ← Hv.out]
    refine (put_any g bv4 _ _ _ w4 Hr4.out (by omega) (by omega) hm2 Hwv.out.1 Hwv.out.2).mono ?_
    rintro e w5 ⟨rfl, hst⟩
    have Hst := Lib.hid (Hfin.out w4 w5 (Below.refl _ _) hst); clear hst
    go_wp2
    go_ret
    exact ⟨rfl, Hst.out⟩
  · have hv : waveV n = n + (mostW (wideK (ofK n)) - 1) := by unfold waveV; rw [if_neg (by omega)]
    obtain ⟨m1, m2, m3, m4, m5⟩ := mid_facts n hc
    have hd1 : 0 < wideK (ofK n) := by omega
    have hd2 : wideK (ofK n) < 64 := by omega
    have Hv := Lib.hid hv; have Hm1 := Lib.hid m1
    clear hv hc m1
    go_wp2_with fail
    refine (most_any _ _ Hm1.out _).mono ?_
    rintro e w5 ⟨rfl, hb5⟩
    have hr5 := Hr4.out.below hb5 (Nat.le_refl _)
    have hf5 := Hf4.out.below hb5 Hf4.out.lt
    have u1 := hf5.cell 1
    simp only [List.getElem?_toArray, List.getElem?_cons_zero, List.getElem?_cons_succ] at u1
    have Hr5 := Lib.hid hr5; have Hb5 := Lib.hid hb5
    clear hr5 hb5 hf5
    go_wp2_with fail
    rw [← Hv.out]
    refine (put_any g bv4 _ _ _ w5 Hr5.out (by omega) (by omega) hm2 Hwv.out.1 Hwv.out.2).mono ?_
    rintro e w6 ⟨rfl, hst⟩
    have Hst := Lib.hid (Hfin.out w5 w6 Hb5.out hst); clear hst
    go_wp2
    go_ret
    exact ⟨rfl, Hst.out⟩
end Go.Proofs.YtpbgonpmpjpljaaGreatDoor
