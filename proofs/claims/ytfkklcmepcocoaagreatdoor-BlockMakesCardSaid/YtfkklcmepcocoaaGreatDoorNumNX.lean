/- Numerals in plain Lean: decimal and hexadecimal digits, and what they spell. -/
import Derived.Lib.ItoaMem
import Derived.Lib.AtoiTie
import Derived.Lib.AtoiAllCases
namespace Go.Proofs.YtfkklcmepcocoaaGreatDoor
set_option linter.unusedVariables false

theorem decFrom_cons (acc : Nat) (c : UInt8) (r : List UInt8) : Lib.decFrom acc (c :: r) = match Lib.digitVal c with
    | some d => Lib.decFrom (acc * 10 + d) r
    | none => none := rfl
theorem decFrom_app (a b : List UInt8) (acc : Nat) : Lib.decFrom acc (a ++ b) = (Lib.decFrom acc a).bind fun m => Lib.decFrom m b := by
  induction a generalizing acc with
  | nil => rfl
  | cons c a ih =>
    rw [List.cons_append, decFrom_cons, decFrom_cons]
    cases Lib.digitVal c with
    | none => rfl
    | some d => exact ih _
theorem digitVal_ofNat {d : Nat} (h : d < 10) : Lib.digitVal (UInt8.ofNat (48 + d)) = some d := by
  unfold Lib.digitVal
  have e : (UInt8.ofNat (48 + d)).toNat = 48 + d := by rw [UInt8.toNat_ofNat']; omega
  rw [e, if_pos (by omega)]
  congr 1; omega
theorem decFrom_digits (u : Nat) : Lib.decFrom 0 (Lib.decDigits u) = some u := by
  induction u using Nat.strongRecOn with
  | _ u ih =>
    by_cases h : u < 10
    · rw [Lib.decDigits, dif_pos h]
      unfold Lib.decFrom
      rw [digitVal_ofNat h]
      simp [Lib.decFrom]
    · rw [Lib.decDigits, dif_neg h, decFrom_app, ih (u / 10) (by omega)]
      show Lib.decFrom (u / 10) [UInt8.ofNat (48 + u % 10)] = some u
      unfold Lib.decFrom
      rw [digitVal_ofNat (by omega)]
      show some (u / 10 * 10 + u % 10) = some u
      congr 1; omega
theorem decDigits_ne (u : Nat) : Lib.decDigits u ≠ [] := by
  intro e
  have h1 := Lib.decDigits_length u
  have h2 := Lib.nDigits_pos u
  rw [e] at h1
  simp at h1; omega
theorem decDigits_chars (u : Nat) : ∀ c ∈ Lib.decDigits u, 48 ≤ c.toNat ∧ c.toNat ≤ 57 := by
  intro c hc
  obtain ⟨k, hk, rfl⟩ := List.getElem_of_mem hc
  obtain ⟨d, hd⟩ := Lib.digit_of_decFrom _ _ _ (decFrom_digits u) k _ (List.getElem?_eq_getElem hk)
  have := Lib.digitVal_eq hd
  exact ⟨this.1, this.2.1⟩
theorem decDigits_cons (u : Nat) : ∃ c r, Lib.decDigits u = c :: r ∧ 48 ≤ c.toNat ∧ c.toNat ≤ 57 := by
  cases h : Lib.decDigits u with
  | nil => exact absurd h (decDigits_ne u)
  | cons c r => exact ⟨c, r, rfl, decDigits_chars u c (by rw [h]; exact List.mem_cons_self)⟩
theorem nDigits_le {u k : Nat} (hk : 1 ≤ k) (h : u < 10 ^ k) : Lib.nDigits u ≤ k := by
  induction k generalizing u with
  | zero => omega
  | succ k ih =>
    by_cases h10 : u < 10
    · rw [Lib.nDigits_small h10]; omega
    · rw [Lib.nDigits_big h10]
      have hk1 : 1 ≤ k := by
        rcases Nat.eq_zero_or_pos k with rfl | h1
        · simp at h; omega
        · exact h1
      have := ih (u := u / 10) hk1 (by rw [Nat.pow_succ] at h; omega)
      omega
theorem itoa_len {n : Int} {k : Nat} (hk : 1 ≤ k) (h : n.natAbs < 10 ^ k) : (Lib.itoa n).length ≤ k + 1 := by
  unfold Lib.itoa
  have hd := nDigits_le hk h
  split
  · rw [List.length_cons, Lib.decDigits_length]; omega
  · have e : n.toNat = n.natAbs := by omega
    rw [e, Lib.decDigits_length]; omega
theorem itoa_chars (n : Int) : ∀ c ∈ Lib.itoa n, c.toNat = 45 ∨ (48 ≤ c.toNat ∧ c.toNat ≤ 57) := by
  intro c hc
  unfold Lib.itoa at hc
  split at hc
  · rcases List.mem_cons.1 hc with rfl | hc
    · exact .inl rfl
    · exact .inr (decDigits_chars _ c hc)
  · exact .inr (decDigits_chars _ c hc)
theorem atoi_itoa (n : Int) : Lib.atoi (Lib.itoa n) = some n := by
  unfold Lib.itoa
  split
  · show (Lib.decNat (Lib.decDigits n.natAbs)).map (fun (m : Nat) => -(m : Int)) = some n
    unfold Lib.decNat
    rw [if_neg (by simpa using decDigits_ne _), decFrom_digits]
    simp; omega
  · obtain ⟨c, r, e, h1, h2⟩ := decDigits_cons n.toNat
    rw [e]
    have c45 : ¬ (c == 45) = true := by intro hh; have : c = 45 := by simpa using hh
                                        subst this; revert h1; decide
    have c43 : ¬ (c == 43) = true := by intro hh; have : c = 43 := by simpa using hh
                                        subst this; revert h1; decide
    show (if (c == 45) = true then (Lib.decNat r).map fun (m : Nat) => -(m : Int) else if (c == 43) = true then (Lib.decNat r).map fun (m : Nat) => (m : Int) else (Lib.decNat (c :: r)).map fun (m : Nat) => (m : Int)) = some n
    rw [if_neg c45, if_neg c43, ← e]
    unfold Lib.decNat
    rw [if_neg (by simpa using decDigits_ne _), decFrom_digits]
    simp; omega
theorem atoiAll_itoa {n : Int} (h : n.natAbs < 10 ^ 17) : Lib.atoiAll (Lib.itoa n) = .ok n := by
  rw [Lib.atoiAll_short _ (itoa_len (by decide) h), atoi_itoa]; rfl

/-- A hexadecimal digit. -/
def hexD (d : Nat) : UInt8 := UInt8.ofNat (if d < 10 then 48 + d else 87 + d)
/-- So many hexadecimal digits, the first ahead. -/
def hexK : Nat → Nat → List UInt8
  | 0, _ => []
  | k + 1, v => hexK k (v / 16) ++ [hexD (v % 16)]
theorem hexD_toNat {d : Nat} (h : d < 16) : (hexD d).toNat = if d < 10 then 48 + d else 87 + d := by
  unfold hexD
  rw [UInt8.toNat_ofNat']
  split <;> omega
/-- What a digit counts; none: it is none. -/
def hexV (c : UInt8) : Option Nat := if 48 ≤ c.toNat ∧ c.toNat ≤ 57 then some (c.toNat - 48) else if 97 ≤ c.toNat ∧ c.toNat ≤ 102 then some (c.toNat - 87) else none
theorem hexV_D {d : Nat} (h : d < 16) : hexV (hexD d) = some d := by
  unfold hexV
  rw [hexD_toNat h]
  by_cases h10 : d < 10
  · rw [if_pos h10, if_pos (by omega)]; congr 1; omega
  · rw [if_neg h10, if_neg (by omega), if_pos (by omega)]; congr 1; omega
theorem hexV_lt {c : UInt8} {d : Nat} (h : hexV c = some d) : d < 16 := by
  unfold hexV at h
  split at h
  · injection h with h; omega
  · split at h
    · injection h with h; omega
    · cases h
end Go.Proofs.YtfkklcmepcocoaaGreatDoor
