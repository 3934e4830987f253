/- What a record's body is made of, in plain Lean: for the reference's bodyOf. -/
import Derived.Test.YtfkklcmepcocoaaGreatDoorWalRdN
namespace Go.Proofs.YtfkklcmepcocoaaGreatDoor
open Go.RowKit
set_option linter.unusedVariables false

/-- k is the place of the first byte 64, or the length. -/
structure At64 (b : Bs) (k : Nat) : Prop where
  le : k ≤ b.length
  no : (64 : UInt8) ∉ b.take k
theorem At64.start (b : Bs) : At64 b 0 := ⟨Nat.zero_le _, by simp⟩
theorem At64.step {b : Bs} {k : Nat} (h : At64 b k) (hk : k < b.length) (hc : b.getD k 0 ≠ 64) : At64 b (k + 1) := by
  refine ⟨hk, ?_⟩
  have e : b[k]? = some (b.getD k 0) := by rw [List.getD_eq_getElem?_getD, List.getElem?_eq_getElem hk]; rfl
  rw [take_snoc e, List.mem_append]
  rintro (h1 | h1)
  · exact h.no h1
  · exact hc (List.mem_singleton.1 h1).symm
/-- An entry whose body this is, by its parts. -/
structure BodyAt (b : Bs) (k : Nat) (e : En) : Prop where
  lt : k < b.length
  nm : b.take k = e.nm
  len : b.length = k + (Lib.itoa e.tick).length + 18
  eq : b.getD (b.length - 17) 0 = 61
  num : (b.take (b.length - 17)).drop (k + 1) = Lib.itoa e.tick
  hex : b.drop (b.length - 16) = hexK 16 e.bit
theorem bodyAt {b : Bs} {k : Nat} (hk : At64 b k) (hs : k = b.length ∨ b.getD k 0 = 64) {e : En} (he : EnOk e) (hb : bodyL e = b) : BodyAt b k e := by
  have hn := fun m => nm_chars he.1 64 m rfl
  have hb2 : b = e.nm ++ 64 :: (Lib.itoa e.tick ++ 61 :: hexK 16 e.bit) := hb.symm
  have hlen : b.length = e.nm.length + (Lib.itoa e.tick).length + 18 := by
    rw [hb2]; simp only [List.length_append, List.length_cons, hexK_len]; omega
  have hkn : k = e.nm.length := by
    rcases Nat.lt_trichotomy k e.nm.length with h | h | h
    · rcases hs with hs | hs
      · omega
      · exfalso
        refine hn ?_
        have e1 : b.getD k 0 = e.nm[k] := by
          rw [hb2, List.getD_eq_getElem?_getD, List.getElem?_append_left h, List.getElem?_eq_getElem h]; rfl
        rw [← hs, e1]
        exact List.getElem_mem h
    · exact h
    · exfalso
      refine hk.no ?_
      rw [List.mem_iff_getElem?]
      refine ⟨e.nm.length, ?_⟩
      rw [List.getElem?_take_of_lt h, hb2, List.getElem?_append_right (Nat.le_refl _), Nat.sub_self]
      rfl
  subst hkn
  refine ⟨by omega, ?_, hlen, ?_, ?_, ?_⟩
  · rw [hb2, List.take_left' rfl]
  · have e1 : b.length - 17 = e.nm.length + ((Lib.itoa e.tick).length + 1) := by omega
    rw [e1, hb2, List.getD_eq_getElem?_getD, List.getElem?_append_right (by omega)]
    have e2 : e.nm.length + ((Lib.itoa e.tick).length + 1) - e.nm.length = (Lib.itoa e.tick).length + 1 := by omega
    rw [e2, List.getElem?_cons_succ, List.getElem?_append_right (Nat.le_refl _), Nat.sub_self]
    rfl
  · have e1 : b.length - 17 = e.nm.length + 1 + (Lib.itoa e.tick).length := by omega
    have e3 : b = (e.nm ++ [64] ++ Lib.itoa e.tick) ++ 61 :: hexK 16 e.bit := by rw [hb2]; simp
    rw [e1, List.drop_take]
    have e4 : b.drop (e.nm.length + 1) = Lib.itoa e.tick ++ 61 :: hexK 16 e.bit := by
      rw [hb2, ← List.drop_drop, List.drop_left' rfl]; rfl
    rw [e4]
    have e5 : e.nm.length + 1 + (Lib.itoa e.tick).length - (e.nm.length + 1) = (Lib.itoa e.tick).length := by omega
    rw [e5, List.take_left' rfl]
  · have e1 : b.length - 16 = (e.nm ++ 64 :: (Lib.itoa e.tick ++ [61])).length := by
      simp only [List.length_append, List.length_cons, List.length_nil]; omega
    have e3 : b = (e.nm ++ 64 :: (Lib.itoa e.tick ++ [61])) ++ hexK 16 e.bit := by rw [hb2]; simp
    rw [e1]
    conv => lhs; rw [e3]
    rw [List.drop_left' rfl]
theorem itoa_ne (n : Int) : 1 ≤ (Lib.itoa n).length := by
  unfold Lib.itoa
  split
  · simp
  · exact List.length_pos_iff.2 (decDigits_ne _)
/-- The digits behind a sign. -/
def digB (d : Bs) : Bs := if d.getD 0 0 = 45 then d.drop 1 else d
theorem itoa_neg {t : Int} (h : t < 0) : Lib.itoa t = 45 :: Lib.decDigits t.natAbs := by unfold Lib.itoa; rw [if_pos h]
theorem itoa_nn {t : Int} (h : ¬ t < 0) : Lib.itoa t = Lib.decDigits t.natAbs := by
  unfold Lib.itoa
  have e : t.toNat = t.natAbs := by omega
  rw [if_neg h, e]
theorem digB_itoa (t : Int) : digB (Lib.itoa t) = Lib.decDigits t.natAbs ∧ ((Lib.itoa t).getD 0 0 = 45 ↔ t < 0) := by
  by_cases h : t < 0
  · rw [itoa_neg h]
    exact ⟨rfl, ⟨fun _ => h, fun _ => rfl⟩⟩
  · rw [itoa_nn h]
    obtain ⟨c, r, e, h1, h2⟩ := decDigits_cons t.natAbs
    have hc : c ≠ 45 := by rintro rfl; revert h1; decide
    rw [e]
    refine ⟨?_, ⟨fun h3 => absurd h3 hc, fun h3 => absurd h3 h⟩⟩
    unfold digB
    rw [if_neg]
    exact hc
theorem dig_len {t : Int} (h : tickB t = true) : 1 ≤ (Lib.decDigits t.natAbs).length ∧ (Lib.decDigits t.natAbs).length ≤ 14 := by
  refine ⟨List.length_pos_iff.2 (decDigits_ne _), ?_⟩
  rw [Lib.decDigits_length]
  refine nDigits_le (by decide) ?_
  unfold tickB at h
  have := of_decide_eq_true h
  omega
theorem hexK_chars (k v : Nat) : ∀ c ∈ hexK k v, ∃ d, hexV c = some d := by
  induction k generalizing v with
  | zero => intro c hc; cases hc
  | succ k ih =>
    intro c hc
    rw [hexK_succ] at hc
    rcases List.mem_append.1 hc with hc | hc
    · exact ih _ c hc
    · rw [List.mem_singleton.1 hc]
      exact ⟨_, hexV_D (Nat.mod_lt _ (by decide))⟩
theorem decFrom_lt : ∀ (l : Bs) (acc n : Nat), Lib.decFrom acc l = some n → n < (acc + 1) * 10 ^ l.length
  | [], acc, n, h => by injection h with h; simp; omega
  | c :: l, acc, n, h => by
    rw [decFrom_cons] at h
    cases hc : Lib.digitVal c with
    | none => rw [hc] at h; cases h
    | some d =>
      rw [hc] at h
      have h1 := decFrom_lt l _ n h
      have h2 := Lib.digitVal_eq hc
      rw [List.length_cons, Nat.pow_succ]
      calc n < (acc * 10 + d + 1) * 10 ^ l.length := h1
        _ ≤ ((acc + 1) * 10) * 10 ^ l.length := Nat.mul_le_mul_right _ (by omega)
        _ = (acc + 1) * (10 ^ l.length * 10) := by rw [Nat.mul_assoc, Nat.mul_comm 10]
theorem digitVal_some {c : UInt8} (h1 : 48 ≤ c.toNat) (h2 : c.toNat ≤ 57) : Lib.digitVal c = some (c.toNat - 48) := by
  unfold Lib.digitVal
  rw [if_pos ⟨h1, h2⟩]
theorem decFrom_snoc {l : Bs} {k m : Nat} {c : UInt8} (hc : l[k]? = some c) (h : Lib.decFrom 0 (l.take k) = some m) (h1 : 48 ≤ c.toNat) (h2 : c.toNat ≤ 57) : Lib.decFrom 0 (l.take (k + 1)) = some (10 * m + (c.toNat - 48)) := by
  rw [take_snoc hc, decFrom_app, h]
  show Lib.decFrom m [c] = _
  rw [decFrom_cons, digitVal_some h1 h2]
  show some (m * 10 + (c.toNat - 48)) = _
  congr 1; omega
theorem hexFrom_snoc {l : Bs} {k m d : Nat} {c : UInt8} (hc : l[k]? = some c) (h : hexFrom 0 (l.take k) = some m) (hd : hexV c = some d) : hexFrom 0 (l.take (k + 1)) = some (16 * m + d) := by
  rw [take_snoc hc, hexFrom_app, h]
  show hexFrom m [c] = _
  rw [hexFrom_cons, hd]
  show some (m * 16 + d) = _
  congr 1; omega
/-- The number that a sign and digits spell. -/
def sgn (mi : Bool) (n : Nat) : Int := if mi then -(n : Int) else n
theorem body_num {t : Int} {n : Nat} {mi : Bool} (hm : mi = decide ((Lib.itoa t).getD 0 0 = 45)) (h : Lib.decFrom 0 (digB (Lib.itoa t)) = some n) : sgn mi n = t := by
  obtain ⟨h1, h2⟩ := digB_itoa t
  rw [h1, decFrom_digits] at h
  have := Option.some.inj h
  unfold sgn
  rw [hm]
  by_cases ht : t < 0
  · rw [if_pos (by simpa using h2.2 ht)]; omega
  · rw [if_neg (by simpa using fun h3 => ht (h2.1 h3))]; omega
theorem body_bit {l : Bs} {bit v : Nat} (hl : l = hexK 16 bit) (hb : bit < 18446744073709551616) (h : hexFrom 0 l = some v) : v = bit := by
  rw [hl, hexFrom_K] at h
  have := Option.some.inj h
  have e16 : (16 : Nat) ^ 16 = 18446744073709551616 := by decide
  rw [e16, Nat.mod_eq_of_lt hb] at this
  exact this.symm
end Go.Proofs.YtfkklcmepcocoaaGreatDoor
