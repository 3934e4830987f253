/- Numerals in plain Lean: decimal and hexadecimal digits, and what they spell. -/
import Derived.Lib.ItoaMem
import Derived.Lib.AtoiTie
import Derived.Lib.AtoiAllCases
namespace Go.Proofs.YtpbgonpmpjpljaaGreatDoor
set_option linter.unusedVariables false

theorem nDigits_le {u k : Nat} (hk : 1 ≤ k) (h : u < 10 ^ k) : Lib.nDigits u ≤ k := by
  induction k generalizing u with
  | zero => omega
  | succ k ih =>
    by_cases h10 : u < 10
    · rw [Lib.nDigits_small h10]; omega
    · rw [Lib.nDigits_big h10]
      have hk1 : 1 ≤ k := by
        rcases Nat.eq_zero_or_pos k with rfl | h1
        · simp at h; omega
        · exact h1
      have := ih (u := u / 10) hk1 (by rw [Nat.pow_succ] at h; omega)
      omega
theorem itoa_len {n : Int} {k : Nat} (hk : 1 ≤ k) (h : n.natAbs < 10 ^ k) : (Lib.itoa n).length ≤ k + 1 := by
  unfold Lib.itoa
  have hd := nDigits_le hk h
  split
  · rw [List.length_cons, Lib.decDigits_length]; omega
  · have e : n.toNat = n.natAbs := by omega
    rw [e, Lib.decDigits_length]; omega
/-- A hexadecimal digit. -/
def hexD (d : Nat) : UInt8 := UInt8.ofNat (if d < 10 then 48 + d else 87 + d)
/-- So many hexadecimal digits, the first ahead. -/
def hexK : Nat → Nat → List UInt8
  | 0, _ => []
  | k + 1, v => hexK k (v / 16) ++ [hexD (v % 16)]
/-- What a digit counts; none: it is none. -/
def hexV (c : UInt8) : Option Nat := if 48 ≤ c.toNat ∧ c.toNat ≤ 57 then some (c.toNat - 48) else if 97 ≤ c.toNat ∧ c.toNat ≤ 102 then some (c.toNat - 87) else none
end Go.Proofs.YtpbgonpmpjpljaaGreatDoor
