/- The sum of a text: two ways to make it; plain facts. -/
import Derived.Laws.Bits64
import Derived.Laws.Bits64b
namespace Go.Proofs.YtlpkmghhmpkddaaDoor
open Go
set_option linter.unusedVariables false

def polyN : Nat := 3988292384
def crcStep (c : Nat) : Nat := c / 2 ^^^ polyN * (c % 2)
def crcIter : Nat → Nat → Nat
  | 0, c => c
  | k + 1, c => crcStep (crcIter k c)
def crcByte (c x : Nat) : Nat := crcIter 8 (c ^^^ x)
def crcL (xs : List Nat) : Nat := xs.foldl crcByte 4294967295
def refStep (x k c : Nat) : Nat := if (c ^^^ x / 2 ^ k) % 2 = 1 then c / 2 ^^^ polyN else c / 2
def refIter (x : Nat) : Nat → Nat → Nat
  | 0, c => c
  | k + 1, c => refStep x k (refIter x k c)
theorem xor_half (a b : Nat) : (a ^^^ b) / 2 = a / 2 ^^^ b / 2 := by
  have := Nat.xor_div_two_pow (a := a) (b := b) (n := 1)
  simpa using this
theorem ref_iter (x c : Nat) : ∀ k, crcIter k (c ^^^ x) = refIter x k c ^^^ x / 2 ^ k
  | 0 => by simp [crcIter, refIter]
  | k + 1 => by
    rw [crcIter, ref_iter x c k, refIter]
    generalize refIter x k c = q
    unfold crcStep refStep
    rw [xor_half, Nat.div_div_eq_div_mul, ← Nat.pow_succ]
    rcases Nat.mod_two_eq_zero_or_one (q ^^^ x / 2 ^ k) with h | h
    · rw [h, if_neg (by decide), Nat.mul_zero, Nat.xor_zero]
    · rw [h, if_pos rfl, Nat.mul_one, Nat.xor_assoc, Nat.xor_assoc, Nat.xor_comm polyN]
theorem ref_byte (x c : Nat) (h : x < 256) : refIter x 8 c = crcByte c x := by
  unfold crcByte
  rw [ref_iter, Nat.div_eq_of_lt (by simpa using h), Nat.xor_zero]
theorem polyN_lt : polyN < 2 ^ 32 := by decide
theorem crcStep_lt (c : Nat) (h : c < 4294967296) : crcStep c < 4294967296 := by
  have h1 : c / 2 < 2 ^ 32 := by omega
  have h2 : polyN * (c % 2) < 2 ^ 32 := by
    rcases Nat.mod_two_eq_zero_or_one c with e | e <;> rw [e] <;> decide
  exact Nat.xor_lt_two_pow h1 h2
theorem crcIter_lt (c : Nat) (h : c < 4294967296) : ∀ k, crcIter k c < 4294967296
  | 0 => h
  | k + 1 => crcStep_lt _ (crcIter_lt c h k)
theorem crcByte_lt (c x : Nat) (h : c < 4294967296) (hx : x < 256) : crcByte c x < 4294967296 :=
  crcIter_lt _ (Nat.xor_lt_two_pow (n := 32) h (by omega)) 8
theorem crcL_lt (xs : List Nat) (h : ∀ x ∈ xs, x < 256) : crcL xs < 4294967296 := by
  have : ∀ (c : Nat), c < 4294967296 → xs.foldl crcByte c < 4294967296 := by
    induction xs with
    | nil => intro c hc; exact hc
    | cons x xs ih =>
      intro c hc
      exact ih (fun y hy => h y (List.mem_cons_of_mem _ hy)) _ (crcByte_lt c x hc (h x List.mem_cons_self))
  exact this _ (by decide)
theorem refIter_lt (x c : Nat) (h : c < 4294967296) : ∀ k, refIter x k c < 4294967296
  | 0 => h
  | k + 1 => by
    have := refIter_lt x c h k
    rw [refIter]; unfold refStep
    split
    · exact Nat.xor_lt_two_pow (n := 32) (by omega) polyN_lt
    · omega
theorem crcL_snoc (xs : List Nat) (x : Nat) : crcL (xs ++ [x]) = crcByte (crcL xs) x := by simp [crcL, List.foldl_append]

theorem bits_xor_u32_nat (a b : Nat) (ha : a < 4294967296) (hb : b < 4294967296) : bits .xor .u32 (a : Int) (b : Int) = ((a ^^^ b : Nat) : Int) := by
  have e : ∀ z : Nat, z < 4294967296 → (BitVec.ofInt 32 (z : Int)).toNat = z := fun z hz => by
    rw [BitVec.ofInt_natCast, BitVec.toNat_ofNat]; exact Nat.mod_eq_of_lt (by omega)
  have hlt : a ^^^ b < 4294967296 := Nat.xor_lt_two_pow (n := 32) ha hb
  show IntKind.u32.wrap ((BitVec.ofInt 32 (a : Int) ^^^ BitVec.ofInt 32 (b : Int)).toNat : Int) = _
  rw [BitVec.toNat_xor, e a ha, e b hb]
  simp [IntKind.wrap, IntKind.bits, IntKind.signed]; omega
theorem bits_and_u32_one (a : Nat) (ha : a < 4294967296) : bits .and .u32 (a : Int) 1 = ((a % 2 : Nat) : Int) := by
  have e : ∀ z : Nat, z < 4294967296 → (BitVec.ofInt 32 (z : Int)).toNat = z := fun z hz => by
    rw [BitVec.ofInt_natCast, BitVec.toNat_ofNat]; exact Nat.mod_eq_of_lt (by omega)
  show IntKind.u32.wrap ((BitVec.ofInt 32 (a : Int) &&& BitVec.ofInt 32 ((1 : Nat) : Int)).toNat : Int) = _
  rw [BitVec.toNat_and, e a ha, e 1 (by omega), Nat.and_one_is_mod]
  simp [IntKind.wrap, IntKind.bits, IntKind.signed]; omega
theorem bits_xor_i64_nat (a b : Nat) (ha : a < 9223372036854775808) (hb : b < 9223372036854775808) : bits .xor .i64 (a : Int) (b : Int) = ((a ^^^ b : Nat) : Int) := by
  have e : ∀ z : Nat, z < 18446744073709551616 → (BitVec.ofInt 64 (z : Int)).toNat = z := fun z hz => by
    rw [BitVec.ofInt_natCast, BitVec.toNat_ofNat]; exact Nat.mod_eq_of_lt (by omega)
  have hlt : a ^^^ b < 9223372036854775808 := Nat.xor_lt_two_pow (n := 63) ha hb
  show IntKind.i64.wrap ((BitVec.ofInt 64 (a : Int) ^^^ BitVec.ofInt 64 (b : Int)).toNat : Int) = _
  rw [BitVec.toNat_xor, e a (by omega), e b (by omega)]
  simp [IntKind.wrap, IntKind.bits, IntKind.signed]; omega
end Go.Proofs.YtlpkmghhmpkddaaDoor
