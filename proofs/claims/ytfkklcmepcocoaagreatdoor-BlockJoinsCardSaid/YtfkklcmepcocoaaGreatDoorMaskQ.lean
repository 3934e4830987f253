/- Values by what changes: plain facts: windows, parts, bits; what is read. -/
import Derived.Test.YtfkklcmepcocoaaGreatDoorMbits
import Derived.Test.YtfkklcmepcocoaaGreatDoorWaveRdQ
namespace Go.Proofs.YtfkklcmepcocoaaGreatDoor
open Go.RowKit
set_option linter.unusedVariables false

theorem lt_bitLen : ∀ (k x : Nat), x < 2 ^ k → k ≤ 64 → x < 2 ^ Lib.bitLen x := by
  intro k
  induction k with
  | zero => intro x h _; have : x = 0 := by simpa using h
            subst this; exact Nat.two_pow_pos _
  | succ k ih =>
    intro x h hk
    by_cases h0 : x = 0
    · subst h0; exact Nat.two_pow_pos _
    · have h64 : x < 2 ^ 64 := Nat.lt_of_lt_of_le h (Nat.pow_le_pow_right (by decide) hk)
      rw [Lib.bitLen_half x h0 h64]
      have h1 : x / 2 < 2 ^ k := by rw [Nat.pow_succ] at h; omega
      have := ih (x / 2) h1 (by omega)
      rw [Nat.add_comm, Nat.pow_succ]; omega
theorem tz_spec (x : Nat) (h0 : x ≠ 0) (h : x < 18446744073709551616) : ∃ m, x = 2 ^ tzN x * (2 * m + 1) ∧ tzN x < 64 := by
  obtain ⟨m, h1, h2⟩ := Lib.ctzFrom_spec 64 x (by omega) h
  have e : tzN x = Lib.ctzFrom 64 x := by unfold tzN Lib.ctz; rw [if_neg h0]
  exact ⟨m, by rw [e]; exact h1, by rw [e]; exact h2⟩
theorem tz_lt_bl (x : Nat) (h0 : x ≠ 0) (h : x < 18446744073709551616) : tzN x < Lib.bitLen x := by
  obtain ⟨m, h1, h2⟩ := tz_spec x h0 h
  apply Nat.lt_of_not_le
  intro hle
  have h3 := lt_bitLen 64 x h (Nat.le_refl _)
  have h4 : 2 ^ Lib.bitLen x ≤ 2 ^ tzN x := Nat.pow_le_pow_right (by decide) hle
  have h5 : 2 ^ tzN x ≤ x := by
    conv => rhs; rw [h1]
    exact Nat.le_mul_of_pos_right _ (by omega)
  omega

structure Win where
  a : Nat
  t : Nat
  d : Nat
deriving DecidableEq
def Win.Ok (w : Win) : Prop := w.a ≤ 31 ∧ 1 ≤ w.d ∧ w.a + w.t + w.d = 64
def w0 : Win := ⟨0, 0, 0⟩
def leadN (x : Nat) : Nat := min 31 (lzN x)
def winOf (x : Nat) : Win := ⟨leadN x, tzN x, 64 - leadN x - tzN x⟩
theorem lead_le (x : Nat) : leadN x ≤ 31 := by unfold leadN; omega
theorem lead_bl (x : Nat) (h : x < 18446744073709551616) : leadN x + Lib.bitLen x ≤ 64 := by
  have := bitLen_64 x h
  unfold leadN lzN; omega
theorem winOf_ok (x : Nat) (h0 : x ≠ 0) (h : x < 18446744073709551616) : (winOf x).Ok := by
  have h1 := tz_lt_bl x h0 h
  have h2 := lead_bl x h
  have h3 := lead_le x
  refine ⟨h3, ?_, ?_⟩
  · show 1 ≤ 64 - leadN x - tzN x; omega
  · show leadN x + tzN x + (64 - leadN x - tzN x) = 64; omega
def hasW (w k : Win) : Prop := 0 < w.d ∧ w.a ≤ k.a ∧ w.t ≤ k.t
instance (w k : Win) : Decidable (hasW w k) := by unfold hasW; infer_instance
theorem x_lt_lead (x : Nat) (h : x < 18446744073709551616) (a : Nat) (ha : a ≤ leadN x) : x < 2 ^ (64 - a) := by
  have h1 := lead_bl x h
  exact Nat.lt_of_lt_of_le (lt_bitLen 64 x h (Nat.le_refl _)) (Nat.pow_le_pow_right (by decide) (by omega))
/-- What a window that has x's own tells: x. -/
theorem hasW_x {w : Win} (hw : w.Ok) (x : Nat) (h0 : x ≠ 0) (h : x < 18446744073709551616) (hh : hasW w (winOf x)) : x / 2 ^ w.t < 2 ^ w.d ∧ x / 2 ^ w.t * 2 ^ w.t = x := by
  obtain ⟨_, h1, h2⟩ := hh
  obtain ⟨w1, w2, w3⟩ := hw
  constructor
  · rw [Nat.div_lt_iff_lt_mul (Nat.two_pow_pos _), ← Nat.pow_add]
    have := x_lt_lead x h w.a h1
    rwa [show w.d + w.t = 64 - w.a by omega]
  · obtain ⟨m, h3, _⟩ := tz_spec x h0 h
    have h4 : 2 ^ w.t ∣ x := by
      rw [h3]
      exact Nat.dvd_trans (Nat.pow_dvd_pow 2 h2) (Nat.dvd_mul_right _ _)
    exact Nat.div_mul_cancel h4
theorem has_self (x : Nat) (h0 : x ≠ 0) (h : x < 18446744073709551616) : hasW (winOf x) (winOf x) := ⟨(winOf_ok x h0 h).2.1, Nat.le_refl _, Nat.le_refl _⟩
theorem x_hasW {w : Win} (hw : w.Ok) (v : Nat) (hv : v < 2 ^ w.d) (h0 : v * 2 ^ w.t ≠ 0) : v * 2 ^ w.t < 18446744073709551616 ∧ hasW w (winOf (v * 2 ^ w.t)) := by
  obtain ⟨w1, w2, w3⟩ := hw
  have hlt : v * 2 ^ w.t < 2 ^ (64 - w.a) := by
    rw [show 64 - w.a = w.d + w.t by omega, Nat.pow_add]
    exact Nat.mul_lt_mul_of_lt_of_le hv (Nat.le_refl _) (Nat.two_pow_pos _)
  have h64 : v * 2 ^ w.t < 18446744073709551616 := Nat.lt_of_lt_of_le hlt (Nat.pow_le_pow_right (n := 2) (by decide) (show 64 - w.a ≤ 64 by omega))
  refine ⟨h64, by omega, ?_, ?_⟩
  · show w.a ≤ leadN (v * 2 ^ w.t)
    have := Lib.bitLen_le _ (64 - w.a) (by omega) hlt
    unfold leadN lzN; omega
  · show w.t ≤ tzN (v * 2 ^ w.t)
    apply Nat.le_of_not_lt
    intro hlt2
    obtain ⟨m, h3, h4⟩ := tz_spec _ h0 h64
    obtain ⟨s, hs⟩ : ∃ s, w.t = tzN (v * 2 ^ w.t) + (s + 1) := ⟨w.t - tzN (v * 2 ^ w.t) - 1, by omega⟩
    generalize tzN (v * 2 ^ w.t) = z at hs h3 h4
    rw [hs, Nat.pow_add, Nat.pow_succ] at h3
    have h5 : 2 ^ z * (v * 2 ^ s * 2) = 2 ^ z * (2 * m + 1) := by
      rw [← h3]
      simp only [Nat.mul_assoc, Nat.mul_left_comm]
    have h6 := Nat.eq_of_mul_eq_mul_left (Nat.two_pow_pos z) h5
    omega

/-- Bits within. -/
theorem bitsN_slice (x a t : Nat) (h : a + t ≤ 64) : ((bitsN x 64).take (64 - t)).drop a = bitsN (x / 2 ^ t) (64 - t - a) := by
  apply List.ext_getElem?
  intro j
  rw [List.getElem?_drop, List.getElem?_take]
  by_cases hj : j < 64 - t - a
  · rw [if_pos (by omega), bitsN_get _ _ _ (by omega), bitsN_get _ _ _ hj, Nat.testBit_div_two_pow]
    congr 2; omega
  · rw [if_neg (by omega), List.getElem?_eq_none (by rw [bitsN_len]; omega)]
def zerosN : List Bool → Nat
  | false :: l => zerosN l + 1
  | _ => 0
theorem zeros_le : ∀ l : List Bool, zerosN l ≤ l.length
  | [] => Nat.le_refl _
  | false :: l => by have := zeros_le l; simp only [zerosN, List.length_cons]; omega
  | true :: l => by simp [zerosN]
theorem zeros_false : ∀ (l : List Bool) (i : Nat), i < zerosN l → l[i]? = some false
  | [], i, h => by simp [zerosN] at h
  | true :: l, i, h => by simp [zerosN] at h
  | false :: l, 0, h => rfl
  | false :: l, i + 1, h => by simp only [zerosN] at h; simpa using zeros_false l i (by omega)
theorem zeros_stop : ∀ (l : List Bool), l[zerosN l]? = none ∨ l[zerosN l]? = some true
  | [] => .inl rfl
  | true :: l => .inr rfl
  | false :: l => by simpa [zerosN] using zeros_stop l
theorem zeros_eq (l : List Bool) (z : Nat) (h1 : ∀ i, i < z → l[i]? = some false) (h2 : l[z]? = some true) : zerosN l = z := by
  rcases Nat.lt_trichotomy (zerosN l) z with h | h | h
  · have := h1 _ h
    rcases zeros_stop l with h3 | h3 <;> rw [h3] at this <;> cases this
  · exact h
  · have := zeros_false l _ h
    rw [h2] at this; cases this
theorem zeros_lead (x : Nat) (h0 : x ≠ 0) (h : x < 18446744073709551616) : zerosN (bitsN x 64) = lzN x := by
  have h1 := tz_lt_bl x h0 h
  have h2 := bitLen_64 x h
  have h3 := lt_bitLen 64 x h (Nat.le_refl _)
  have h4 : 2 ^ (Lib.bitLen x - 1) ≤ x := by
    apply Nat.le_of_not_lt
    intro hlt
    have := Lib.bitLen_le x _ (by omega) hlt
    omega
  apply zeros_eq
  · intro i hi
    unfold lzN at hi
    rw [bitsN_get _ _ _ (by omega)]
    have := Nat.testBit_lt_two_pow (Nat.lt_of_lt_of_le h3 (Nat.pow_le_pow_right (n := 2) (by decide) (show Lib.bitLen x ≤ 64 - 1 - i by omega)))
    rw [this]
  · unfold lzN
    rw [bitsN_get _ _ _ (by omega), show 64 - 1 - (64 - Lib.bitLen x) = Lib.bitLen x - 1 by omega, Nat.testBit_eq_decide_div_mod_eq]
    have h5 : x / 2 ^ (Lib.bitLen x - 1) = 1 := by
      apply Nat.div_eq_of_lt_le
      · omega
      · rw [show (1 + 1) * 2 ^ (Lib.bitLen x - 1) = 2 ^ (Lib.bitLen x - 1 + 1) by rw [Nat.pow_succ]; omega, show Lib.bitLen x - 1 + 1 = Lib.bitLen x by omega]
        exact h3
    rw [h5]; rfl
theorem zeros_tail (x : Nat) (h0 : x ≠ 0) (h : x < 18446744073709551616) : zerosN (bitsN x 64).reverse = tzN x := by
  obtain ⟨m, h1, h2⟩ := tz_spec x h0 h
  have hget : ∀ i, i < 64 → (bitsN x 64).reverse[i]? = some (x.testBit i) := by
    intro i hi
    rw [List.getElem?_reverse (by rw [bitsN_len]; exact hi), bitsN_len, bitsN_get _ _ _ (by omega)]
    congr 2; omega
  apply zeros_eq
  · intro i hi
    rw [hget i (by omega), h1, Nat.mul_comm, Nat.testBit_mul_two_pow]
    simp; omega
  · rw [hget _ h2]
    clear hget
    generalize tzN x = z at h1
    rw [h1, Nat.mul_comm, Nat.testBit_mul_two_pow, Nat.sub_self, Nat.testBit_zero]
    simp

/-- A value that changes by x, behind a window: its parts, and the window then. -/
def mParts (w : Win) (x : Nat) : List (Nat × Nat) :=
  if x = 0 then [(0, 1)] else if hasW w (winOf x) then [(2, 2), (x / 2 ^ w.t, w.d)] else [(3, 2), ((winOf x).a, 5), ((winOf x).d, 6), (x / 2 ^ (winOf x).t, (winOf x).d)]
def mWin (w : Win) (x : Nat) : Win := if x = 0 then w else if hasW w (winOf x) then w else winOf x
def xAt (l : List Nat) (k : Nat) : Nat := l.getD k 0 ^^^ l.getD (k - 1) 0
def mW (l : List Nat) : Nat → Win
  | 0 => w0
  | k + 1 => if k = 0 then w0 else mWin (mW l k) (xAt l k)
def mP (l : List Nat) : Nat → List (Nat × Nat)
  | 0 => []
  | k + 1 => if k = 0 then [(l.getD 0 0, 64)] else mP l k ++ mParts (mW l k) (xAt l k)
def pBits (ps : List (Nat × Nat)) : List Bool := ps.flatMap fun p => bitsN p.1 p.2
def maskB (l : List Nat) : List Bool := pBits (mP l l.length)
theorem mP_succ (l : List Nat) {k : Nat} (h : k ≠ 0) : mP l (k + 1) = mP l k ++ mParts (mW l k) (xAt l k) := by rw [mP, if_neg h]
theorem mW_succ (l : List Nat) {k : Nat} (h : k ≠ 0) : mW l (k + 1) = mWin (mW l k) (xAt l k) := by rw [mW, if_neg h]
theorem pBits_append (a b : List (Nat × Nat)) : pBits (a ++ b) = pBits a ++ pBits b := by simp [pBits]
theorem pBits_cons (p : Nat × Nat) (b : List (Nat × Nat)) : pBits (p :: b) = bitsN p.1 p.2 ++ pBits b := by simp [pBits]
theorem mWin_ok {w : Win} (hw : w = w0 ∨ w.Ok) (x : Nat) (h : x < 18446744073709551616) : mWin w x = w0 ∨ (mWin w x).Ok := by
  unfold mWin
  split
  · exact hw
  · rename_i h0
    split
    · exact hw
    · exact .inr (winOf_ok x h0 h)
theorem has_ok {w k : Win} (hw : w = w0 ∨ w.Ok) (h : hasW w k) : w.Ok := by
  rcases hw with rfl | hw
  · exact absurd h.1 (by decide)
  · exact hw
theorem xAt_lt {l : List Nat} (hl : ∀ x ∈ l, x < 18446744073709551616) (k : Nat) : xAt l k < 18446744073709551616 := by
  have h : ∀ i, l.getD i 0 < 2 ^ 64 := by
    intro i
    rw [List.getD_eq_getElem?_getD]
    cases e : l[i]? with
    | none => simp
    | some y => exact hl y (List.mem_of_getElem? e)
  exact Nat.xor_lt_two_pow (h _) (h _)
theorem mW_ok {l : List Nat} (hl : ∀ x ∈ l, x < 18446744073709551616) : ∀ k, mW l k = w0 ∨ (mW l k).Ok
  | 0 => .inl rfl
  | k + 1 => by
    unfold mW
    split
    · exact .inl rfl
    · exact mWin_ok (mW_ok hl k) _ (xAt_lt hl k)
theorem mParts_ok {w : Win} (hw : w = w0 ∨ w.Ok) (x : Nat) (h : x < 18446744073709551616) : ∀ p ∈ mParts w x, p.1 < 18446744073709551616 ∧ p.2 ≤ 64 := by
  intro p hp
  have hd : ∀ t : Nat, x / 2 ^ t < 18446744073709551616 := fun t => Nat.lt_of_le_of_lt (Nat.div_le_self _ _) h
  unfold mParts at hp
  split at hp
  · simp at hp; subst hp; exact ⟨by decide, by decide⟩
  · rename_i h0
    split at hp
    · rename_i hh
      have hk := has_ok hw hh
      simp at hp
      rcases hp with rfl | rfl
      · exact ⟨by decide, by decide⟩
      · exact ⟨hd _, by have := hk.2.2; show w.d ≤ 64; omega⟩
    · have hk := winOf_ok x h0 h
      have h3 := hk.1; have h4 := hk.2.2
      simp at hp
      rcases hp with rfl | rfl | rfl | rfl
      · exact ⟨by decide, by decide⟩
      · exact ⟨by show (winOf x).a < _; omega, by show 5 ≤ 64; omega⟩
      · exact ⟨by show (winOf x).d < _; omega, by show 6 ≤ 64; omega⟩
      · exact ⟨hd _, by show (winOf x).d ≤ 64; omega⟩
theorem mP_ok {l : List Nat} (hl : ∀ x ∈ l, x < 18446744073709551616) : ∀ k, k ≤ l.length → ∀ p ∈ mP l k, p.1 < 18446744073709551616 ∧ p.2 ≤ 64
  | 0, _, p, hp => by simp [mP] at hp
  | k + 1, hk, p, hp => by
    unfold mP at hp
    split at hp
    · rename_i h0
      simp at hp; subst hp
      refine ⟨?_, Nat.le_refl _⟩
      show l[0]?.getD 0 < _
      rw [List.getElem?_eq_getElem (by omega)]
      exact hl _ (List.getElem_mem _)
    · rcases List.mem_append.1 hp with hp | hp
      · exact mP_ok hl k (by omega) p hp
      · exact mParts_ok (mW_ok hl k) _ (xAt_lt hl k) p hp
theorem mParts_len (w : Win) (x : Nat) : (mParts w x).length ≤ 4 := by
  unfold mParts
  split
  · simp
  · split <;> simp
theorem mP_len (l : List Nat) : ∀ k, (mP l k).length ≤ 4 * k
  | 0 => Nat.le_refl _
  | k + 1 => by
    unfold mP
    split
    · simp; omega
    · have := mP_len l k
      have h2 := mParts_len (mW l k) (xAt l k)
      rw [List.length_append]; omega
/-- How many bits. -/
def sumN (ps : List (Nat × Nat)) : Nat := (pBits ps).length
theorem sumN_snoc (ps : List (Nat × Nat)) (p : Nat × Nat) : sumN (ps ++ [p]) = sumN ps + p.2 := by
  unfold sumN; rw [pBits_append, List.length_append]; simp [pBits, bitsN_len]
theorem sumN_le (ps : List (Nat × Nat)) (h : ∀ p ∈ ps, p.2 ≤ 64) : sumN ps ≤ 64 * ps.length := by
  induction ps with
  | nil => simp [sumN, pBits]
  | cons p ps ih =>
    have h1 := ih (fun q hq => h q (List.mem_cons_of_mem _ hq))
    have h2 := h p List.mem_cons_self
    unfold sumN at h1 ⊢
    rw [pBits_cons, List.length_append, bitsN_len, List.length_cons]; omega
/-- Of the values ahead alone. -/
theorem xAt_take {l : List Nat} {m k : Nat} (h : k < m) : xAt (l.take m) k = xAt l k := by
  have e : ∀ i, i < m → (l.take m).getD i 0 = l.getD i 0 := by
    intro i hi
    rw [List.getD_eq_getElem?_getD, List.getD_eq_getElem?_getD, List.getElem?_take, if_pos hi]
  unfold xAt
  rw [e k h, e (k - 1) (by omega)]
theorem mW_take {l : List Nat} {m : Nat} : ∀ k, k ≤ m → mW (l.take m) k = mW l k
  | 0, _ => rfl
  | k + 1, h => by
    unfold mW
    rw [mW_take k (by omega), xAt_take (by omega)]
theorem mP_take {l : List Nat} {m : Nat} : ∀ k, k ≤ m → mP (l.take m) k = mP l k
  | 0, _ => rfl
  | k + 1, h => by
    unfold mP
    rw [mP_take k (by omega), mW_take k (by omega), xAt_take (by omega)]
    have e : (l.take m).getD 0 0 = l.getD 0 0 := by
      rw [List.getD_eq_getElem?_getD, List.getD_eq_getElem?_getD, List.getElem?_take, if_pos (by omega)]
    rw [e]
end Go.Proofs.YtfkklcmepcocoaaGreatDoor
