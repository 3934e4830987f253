/- Texts of 0 and 1, rows of bytes: plain facts. -/
import Derived.Test.YtlpkmghhmpkddaaDoorBits
import Derived.Laws.Strings
import Derived.Laws.Concat
namespace Go.Proofs.YtlpkmghhmpkddaaDoor
open Go.RowKit
set_option linter.unusedVariables false

def B8 (l : List UInt8) : ByteArray := ⟨l.toArray⟩
theorem B8_append (a b : List UInt8) : B8 a ++ B8 b = B8 (a ++ b) := ByteArray.mk_append_mk a b
theorem B8_size (l : List UInt8) : (B8 l).size = l.length := rfl
theorem B8_toList (l : List UInt8) : (B8 l).toList = l := ByteArray.toList_mk l
theorem B8_nil : B8 [] = ByteArray.empty := rfl
theorem B8_get (l : List UInt8) (i : Nat) (h : i < (B8 l).size) (u : UInt8) (hu : l[i]? = some u) : (B8 l)[i] = u := by
  have hl : i < l.length := h
  rw [List.getElem?_eq_getElem hl] at hu
  have : (B8 l)[i] = l[i] := by
    show (B8 l).data[i] = l[i]
    simp [B8]
  exact this.trans (Option.some.inj hu)
theorem B8_extract (l : List UInt8) (i j : Nat) : (B8 l).extract i j = B8 ((l.take j).drop i) := by
  apply ByteArray.ext
  simp [B8, ByteArray.data_extract, List.take_drop]
  rcases Nat.le_total i j with h | h
  · rw [Nat.add_sub_cancel' h]
  · rw [Nat.sub_eq_zero_of_le h, Nat.add_zero, List.drop_eq_nil_of_le (by simp; omega), List.drop_eq_nil_of_le (by simp; omega)]
def chB (b : Bool) : UInt8 := if b then 49 else 48
def txt (l : List Bool) : ByteArray := B8 (l.map chB)
theorem txt_append (a b : List Bool) : txt a ++ txt b = txt (a ++ b) := by simp [txt, B8_append]
theorem txt_size (l : List Bool) : (txt l).size = l.length := by simp [txt, B8_size]
theorem txt_nil : txt [] = ByteArray.empty := rfl
theorem txt_get (l : List Bool) (i : Nat) (h : i < (txt l).size) (b : Bool) (hb : l[i]? = some b) : (txt l)[i] = chB b :=
  B8_get _ i h _ (by rw [List.getElem?_map, hb]; rfl)
theorem txt_extract (l : List Bool) (i j : Nat) : (txt l).extract i j = txt ((l.take j).drop i) := by
  simp [txt, B8_extract, List.map_take, List.map_drop]
theorem chB_toNat (b : Bool) : (chB b).toNat = 48 + b.toNat := by cases b <;> rfl

theorem bitsN_succ (v k : Nat) : bitsN v (k + 1) = v.testBit k :: bitsN v k := by
  unfold bitsN
  rw [List.range_succ_eq_map, List.map_cons, List.map_map]
  congr 1
  apply List.map_congr_left
  intro j _
  simp only [Function.comp]
  congr 1
  omega
theorem testBit_q (v k : Nat) : (v.testBit k).toNat = v / 2 ^ k % 2 := Nat.toNat_testBit v k
theorem char_q (v k : Nat) : B8 [UInt8.ofNat (48 + v / 2 ^ k % 2)] = txt [v.testBit k] := by
  unfold txt
  rw [List.map_cons, List.map_nil, ← testBit_q]
  cases v.testBit k <;> rfl

/-- The bytes of a row of bits. -/
def bytesOf (xs : List Nat) : ByteArray := B8 (xs.map UInt8.ofNat)
theorem bytesOf_size (xs : List Nat) : (bytesOf xs).size = xs.length := by simp [bytesOf, B8_size]
theorem bytesOf_append (a b : List Nat) : bytesOf a ++ bytesOf b = bytesOf (a ++ b) := by simp [bytesOf, B8_append]
theorem bytesOf_get (xs : List Nat) (i : Nat) (h : i < (bytesOf xs).size) (x : Nat) (hx : xs[i]? = some x) (h8 : x < 256) : ((bytesOf xs)[i]).toNat = x := by
  have : (bytesOf xs)[i] = UInt8.ofNat x := B8_get _ i h _ (by rw [List.getElem?_map, hx]; rfl)
  have e : (UInt8.ofNat x).toNat = x := by simp; omega
  exact (congrArg UInt8.toNat this).trans e

/-- The number of the first k bits. -/
def pb (f : Nat → Bool) : Nat → Nat
  | 0 => 0
  | k + 1 => 2 * pb f k + (f k).toNat
theorem pb_lt (f : Nat → Bool) (k : Nat) : pb f k < 2 ^ k := by
  induction k with
  | zero => simp [pb]
  | succ k ih => have := toNat_le (f k); simp only [pb, Nat.pow_succ]; omega
theorem pb_8 (f : Nat → Bool) : pb f 8 = b8 f := by simp only [pb, b8]; omega
theorem pb_le (f : Nat → Bool) (k : Nat) (hk : k ≤ 8) : pb f k < 256 := Nat.lt_of_lt_of_le (pb_lt f k) (by
  calc 2 ^ k ≤ 2 ^ 8 := Nat.pow_le_pow_right (by omega) hk
    _ = 256 := rfl)
def packB (l : List Bool) (j : Nat) : List Nat := (List.range j).map (byteAt l)
theorem packB_succ (l : List Bool) (j : Nat) : packB l (j + 1) = packB l j ++ [byteAt l j] := by simp [packB, List.range_succ]
theorem packB_len (l : List Bool) (j : Nat) : (packB l j).length = j := by simp [packB]

/-- The number that bits tell, the highest first. -/
def valN (l : List Bool) : Nat := l.foldl (fun a b => 2 * a + b.toNat) 0
theorem valN_snoc (l : List Bool) (b : Bool) : valN (l ++ [b]) = 2 * valN l + b.toNat := by simp [valN, List.foldl_append]
theorem valN_lt (l : List Bool) : valN l < 2 ^ l.length := by
  induction l using snoc_ind with
  | h0 => simp [valN]
  | h1 l b ih => have := toNat_le b; rw [valN_snoc, List.length_append, List.length_singleton, Nat.pow_succ]; omega
/-- The bits of bytes. -/
def rbits (xs : List Nat) : List Bool := xs.flatMap fun x => bitsN x 8
theorem rbits_len (xs : List Nat) : (rbits xs).length = 8 * xs.length := by
  induction xs with
  | nil => rfl
  | cons x xs ih => simp only [rbits, List.flatMap_cons, List.length_append, bitsN_len, List.length_cons] at *; omega
theorem rbits_take {xs : List Nat} {k x : Nat} (h : xs[k]? = some x) : rbits (xs.take (k + 1)) = rbits (xs.take k) ++ bitsN x 8 := by
  rw [take_snoc h]; simp [rbits]
theorem rbits_get (xs : List Nat) : ∀ (p x : Nat), xs[p / 8]? = some x → (rbits xs)[p]? = some (x.testBit (7 - p % 8)) := by
  induction xs with
  | nil => intro p x h; simp at h
  | cons y xs ih =>
    intro p x h
    have e : rbits (y :: xs) = bitsN y 8 ++ rbits xs := by simp [rbits]
    rw [e]
    rcases Nat.lt_or_ge p 8 with hp | hp
    · have h0 : p / 8 = 0 := by omega
      rw [h0] at h
      obtain rfl : y = x := by simpa using h
      rw [List.getElem?_append_left (by rw [bitsN_len]; exact hp), bitsN_get _ _ _ hp]
      congr 2; omega
    · have h0 : p / 8 = (p - 8) / 8 + 1 := by omega
      rw [h0, List.getElem?_cons_succ] at h
      rw [List.getElem?_append_right (by rw [bitsN_len]; exact hp), bitsN_len, ih _ _ h]
      congr 2; omega
end Go.Proofs.YtlpkmghhmpkddaaDoor
