/- Reading a wave: plain facts. -/
import Derived.Test.YtpbgonpmpjpljaaGreatDoorMkcX
import Derived.Test.YtpbgonpmpjpljaaGreatDoorMbitsX
import Derived.BigQuiet
namespace Go.Proofs.YtpbgonpmpjpljaaGreatDoor
open Go.RowKit
set_option linter.unusedVariables false

def headB (k : Nat) : List Bool := match k with | 0 => [false] | 1 => [true, false] | 2 => [true, true, false] | 3 => [true, true, true, false] | _ => [true, true, true, true]
def headL (k : Nat) : Nat := match k with | 0 => 1 | 1 => 2 | 2 => 3 | _ => 4
def wN (k : Nat) : Nat := match k with | 0 => 0 | 1 => 7 | 2 => 9 | 3 => 12 | _ => 64
theorem wN_wide (k : Nat) : ((wN k : Nat) : Int) = wideK k := by
  match k with
  | 0 => rfl
  | 1 => rfl
  | 2 => rfl
  | 3 => rfl
  | k + 4 => rfl
theorem wN_le (k : Nat) : wN k ≤ 64 := by unfold wN; split <;> omega
theorem headB_len (k : Nat) : (headB k).length = headL k := by
  unfold headB headL
  match k with
  | 0 => rfl
  | 1 => rfl
  | 2 => rfl
  | 3 => rfl
  | k + 4 => rfl
theorem headB_bits (k : Nat) (hk : k ≤ 4) : bitsN (headV k).toNat (headN k).toNat = headB k := by
  match k, hk with
  | 0, _ => decide
  | 1, _ => decide
  | 2, _ => decide
  | 3, _ => decide
  | 4, _ => decide
theorem waveBits_eq (n : Int) : waveBits n = headB (ofK n) ++ bitsN (waveV n).toNat (wN (ofK n)) := by
  unfold waveBits
  rw [headB_bits _ (ofK_le n), ← wN_wide, Int.toNat_natCast]

theorem valN_cons (b : Bool) (l : List Bool) : valN (b :: l) = b.toNat * 2 ^ l.length + valN l := by
  induction l using snoc_ind with
  | h0 => simp [valN]
  | h1 l c ih =>
    have e : b :: (l ++ [c]) = (b :: l) ++ [c] := rfl
    rw [e, valN_snoc, valN_snoc, ih, List.length_append, List.length_singleton, Nat.pow_succ]
    have : b.toNat * (2 ^ l.length * 2) = 2 * (b.toNat * 2 ^ l.length) := by rw [← Nat.mul_assoc, Nat.mul_comm]
    omega
theorem valN_bitsN (v : Nat) : ∀ n : Nat, valN (bitsN v n) = v % 2 ^ n := by
  intro n
  induction n with
  | zero => simp [bitsN, valN, Nat.mod_one]
  | succ n ih =>
    rw [bitsN_succ, valN_cons, ih, bitsN_len, testBit_q, Nat.pow_succ, Nat.mod_mul]
    rw [Nat.mul_comm, Nat.add_comm]
theorem bitsN_mod (v n : Nat) : bitsN (v % 2 ^ n) n = bitsN v n := by
  unfold bitsN
  apply List.map_congr_left
  intro j hj
  have := List.mem_range.1 hj
  rw [Nat.testBit_mod_two_pow]
  have h : n - 1 - j < n := by omega
  simp [h]
theorem bitsN_valN (l : List Bool) : bitsN (valN l) l.length = l := by
  induction l with
  | nil => rfl
  | cons b l ih =>
    rw [List.length_cons, bitsN_succ, valN_cons]
    have hlt := valN_lt l
    have h1 : (b.toNat * 2 ^ l.length + valN l).testBit l.length = b := by
      rw [Nat.testBit_eq_decide_div_mod_eq, Nat.mul_comm, Nat.mul_add_div (Nat.two_pow_pos _), Nat.div_eq_of_lt hlt]
      cases b <;> simp
    have h2 : bitsN (b.toNat * 2 ^ l.length + valN l) l.length = l := by
      rw [← bitsN_mod, Nat.mul_comm, Nat.mul_add_mod, Nat.mod_eq_of_lt hlt, ih]
    rw [h1, h2]

/-- The number of form k whose own bits tell v. -/
def numW (k v : Nat) : Int := match k with | 0 => (v : Int) | 1 => (v : Int) - 63 | 2 => (v : Int) - 255 | 3 => (v : Int) - 2047 | _ => if v < 9223372036854775808 then (v : Int) else (v : Int) - 18446744073709551616
theorem head_ne {j k : Nat} (hj : j ≤ 4) (hk : k ≤ 4) (a b : List Bool) (h : headB j ++ a = headB k ++ b) : j = k := by
  match j, k, hj, hk with
  | 0, 0, _, _ => rfl
  | 1, 1, _, _ => rfl
  | 2, 2, _, _ => rfl
  | 3, 3, _, _ => rfl
  | 4, 4, _, _ => rfl
  | 0, 1, _, _ | 0, 2, _, _ | 0, 3, _, _ | 0, 4, _, _ => simp [headB] at h
  | 1, 0, _, _ | 1, 2, _, _ | 1, 3, _, _ | 1, 4, _, _ => simp [headB] at h
  | 2, 0, _, _ | 2, 1, _, _ | 2, 3, _, _ | 2, 4, _, _ => simp [headB] at h
  | 3, 0, _, _ | 3, 1, _, _ | 3, 2, _, _ | 3, 4, _, _ => simp [headB] at h
  | 4, 0, _, _ | 4, 1, _, _ | 4, 2, _, _ | 4, 3, _, _ => simp [headB] at h
theorem waveV_num (k v : Nat) (hk : k ≤ 4) (hv : v < 2 ^ wN k) (h : ofK (numW k v) = k) : (waveV (numW k v)).toNat = v := by
  unfold waveV
  rw [h]
  match k, hk with
  | 0, _ => simp [wN] at hv; subst hv; rfl
  | 1, _ => simp [numW, mostW, wideK]
  | 2, _ => simp [numW, mostW, wideK]
  | 3, _ => simp [numW, mostW, wideK]
  | 4, _ =>
    have hv' : v < 18446744073709551616 := by simpa [wN] using hv
    rw [if_pos (Or.inr rfl)]
    simp only [numW]
    split <;> omega
/-- Of form k with its own bits B: it is the wave of its number just if the number's form is k. -/
theorem wave_iff (k : Nat) (B : List Bool) (hk : k ≤ 4) (hB : B.length = wN k) : waveBits (numW k (valN B)) = headB k ++ B ↔ ofK (numW k (valN B)) = k := by
  constructor
  · intro h
    rw [waveBits_eq] at h
    exact head_ne (ofK_le _) hk _ _ h
  · intro h
    rw [waveBits_eq, h, waveV_num k _ hk (by rw [← hB]; exact valN_lt B) h, ← hB, bitsN_valN]
theorem numW_range (k v : Nat) (hv : v < 18446744073709551616) (h3 : k < 4 → v < 4096) : -9223372036854775808 ≤ numW k v ∧ numW k v ≤ 9223372036854775807 := by
  unfold numW
  split
  · have := h3 (by omega); omega
  · have := h3 (by omega); omega
  · have := h3 (by omega); omega
  · have := h3 (by omega); omega
  · split <;> omega

inductive WRes where
  | none : WRes
  | bad : WRes
  | ok (n : Int) (m : Nat) : WRes
/-- How many bits are 1 from place p on, at most f; none: the bits end ahead of a 0. -/
def onesFrom (S : List Bool) : (p f : Nat) → Option Nat
  | p, 0 => some 0
  | p, f + 1 => match S[p]? with | none => none | some false => some 0 | some true => (onesFrom S (p + 1) f).map (· + 1)
def bodyW (S : List Bool) (p k : Nat) : List Bool := (S.drop (p + headL k)).take (wN k)
def getW (S : List Bool) (p : Nat) : WRes := match onesFrom S p 4 with
  | none => .none
  | some k => if S.length < p + headL k + wN k then .none else if ofK (numW k (valN (bodyW S p k))) = k then .ok (numW k (valN (bodyW S p k))) (headL k + wN k) else .bad
theorem ones_stop (S : List Bool) : ∀ (f p j : Nat), j < f → (∀ i, i < j → S[p + i]? = some true) → S[p + j]? = some false → onesFrom S p f = some j := by
  intro f
  induction f with
  | zero => intro p j h; omega
  | succ f ih =>
    intro p j h h1 h2
    cases j with
    | zero => simp only [onesFrom]; rw [Nat.add_zero] at h2; rw [h2]
    | succ j =>
      have h0 := h1 0 (by omega)
      rw [Nat.add_zero] at h0
      have := ih (p + 1) j (by omega) (fun i hi => by have := h1 (i + 1) (by omega); rwa [show p + 1 + i = p + (i + 1) by omega]) (by rwa [show p + 1 + j = p + (j + 1) by omega])
      simp only [onesFrom, h0, this, Option.map_some]
theorem ones_all (S : List Bool) : ∀ (f p : Nat), (∀ i, i < f → S[p + i]? = some true) → onesFrom S p f = some f := by
  intro f
  induction f with
  | zero => intro p _; rfl
  | succ f ih =>
    intro p h1
    have h0 := h1 0 (by omega)
    rw [Nat.add_zero] at h0
    have := ih (p + 1) (fun i hi => by have := h1 (i + 1) (by omega); rwa [show p + 1 + i = p + (i + 1) by omega])
    simp only [onesFrom, h0, this, Option.map_some]
theorem ones_out (S : List Bool) : ∀ (f p j : Nat), j < f → (∀ i, i < j → S[p + i]? = some true) → S[p + j]? = none → onesFrom S p f = none := by
  intro f
  induction f with
  | zero => intro p j h; omega
  | succ f ih =>
    intro p j h h1 h2
    cases j with
    | zero => simp only [onesFrom]; rw [Nat.add_zero] at h2; rw [h2]
    | succ j =>
      have h0 := h1 0 (by omega)
      rw [Nat.add_zero] at h0
      have := ih (p + 1) j (by omega) (fun i hi => by have := h1 (i + 1) (by omega); rwa [show p + 1 + i = p + (i + 1) by omega]) (by rwa [show p + 1 + j = p + (j + 1) by omega])
      simp only [onesFrom, h0, this, Option.map_none]
/-- What getW is where k bits are 1 and then comes a 0, or four are. -/
theorem getW_of {S : List Bool} {p k : Nat} (h : onesFrom S p 4 = some k) :
    getW S p = if S.length < p + headL k + wN k then .none else if ofK (numW k (valN (bodyW S p k))) = k then .ok (numW k (valN (bodyW S p k))) (headL k + wN k) else .bad := by
  unfold getW; rw [h]
theorem getW_none {S : List Bool} {p : Nat} (h : onesFrom S p 4 = none) : getW S p = .none := by unfold getW; rw [h]
theorem bodyW_len {S : List Bool} {p k : Nat} (h : ¬ S.length < p + headL k + wN k) : (bodyW S p k).length = wN k := by
  unfold bodyW; rw [List.length_take, List.length_drop]; omega
/-- The head and the body, as they lie in the bits. -/
theorem piece_eq {S : List Bool} {p k : Nat} (hk : k ≤ 4) (h1 : ∀ i, i < k → S[p + i]? = some true) (h2 : k = 4 ∨ S[p + k]? = some false) (h3 : ¬ S.length < p + headL k + wN k) : (S.drop p).take (headL k + wN k) = headB k ++ bodyW S p k := by
  have hh : (S.drop p).take (headL k) = headB k := by
    apply List.ext_getElem?
    intro i
    rw [List.getElem?_take]
    split
    · rename_i hi
      rw [List.getElem?_drop]
      match k, hk with
      | 0, _ => 
        have e : i = 0 := by simp [headL] at hi; omega
        subst e; rcases h2 with h2 | h2; omega; simpa [headB] using h2
      | 1, _ =>
        rcases h2 with h2 | h2
        · omega
        · have e : i = 0 ∨ i = 1 := by simp [headL] at hi; omega
          rcases e with rfl | rfl
          · simpa [headB] using h1 0 (by omega)
          · simpa [headB] using h2
      | 2, _ =>
        rcases h2 with h2 | h2
        · omega
        · have e : i = 0 ∨ i = 1 ∨ i = 2 := by simp [headL] at hi; omega
          rcases e with rfl | rfl | rfl
          · simpa [headB] using h1 0 (by omega)
          · simpa [headB] using h1 1 (by omega)
          · simpa [headB] using h2
      | 3, _ =>
        rcases h2 with h2 | h2
        · omega
        · have e : i = 0 ∨ i = 1 ∨ i = 2 ∨ i = 3 := by simp [headL] at hi; omega
          rcases e with rfl | rfl | rfl | rfl
          · simpa [headB] using h1 0 (by omega)
          · simpa [headB] using h1 1 (by omega)
          · simpa [headB] using h1 2 (by omega)
          · simpa [headB] using h2
      | 4, _ =>
        have e : i = 0 ∨ i = 1 ∨ i = 2 ∨ i = 3 := by simp [headL] at hi; omega
        rcases e with rfl | rfl | rfl | rfl
        · simpa [headB] using h1 0 (by omega)
        · simpa [headB] using h1 1 (by omega)
        · simpa [headB] using h1 2 (by omega)
        · simpa [headB] using h1 3 (by omega)
    · rename_i hi
      rw [List.getElem?_eq_none (by rw [headB_len]; omega)]
  rw [List.take_add, hh, List.drop_drop]; rfl
end Go.Proofs.YtpbgonpmpjpljaaGreatDoor

namespace Go.Proofs.YtpbgonpmpjpljaaGreatDoor
open Go.RowKit
set_option linter.unusedVariables false

theorem lt_bitLen : ∀ (k x : Nat), x < 2 ^ k → k ≤ 64 → x < 2 ^ Lib.bitLen x := by
  intro k
  induction k with
  | zero => intro x h _; have : x = 0 := by simpa using h
            subst this; exact Nat.two_pow_pos _
  | succ k ih =>
    intro x h hk
    by_cases h0 : x = 0
    · subst h0; exact Nat.two_pow_pos _
    · have h64 : x < 2 ^ 64 := Nat.lt_of_lt_of_le h (Nat.pow_le_pow_right (by decide) hk)
      rw [Lib.bitLen_half x h0 h64]
      have h1 : x / 2 < 2 ^ k := by rw [Nat.pow_succ] at h; omega
      have := ih (x / 2) h1 (by omega)
      rw [Nat.add_comm, Nat.pow_succ]; omega
theorem tz_spec (x : Nat) (h0 : x ≠ 0) (h : x < 18446744073709551616) : ∃ m, x = 2 ^ tzN x * (2 * m + 1) ∧ tzN x < 64 := by
  obtain ⟨m, h1, h2⟩ := Lib.ctzFrom_spec 64 x (by omega) h
  have e : tzN x = Lib.ctzFrom 64 x := by unfold tzN Lib.ctz; rw [if_neg h0]
  exact ⟨m, by rw [e]; exact h1, by rw [e]; exact h2⟩
theorem tz_lt_bl (x : Nat) (h0 : x ≠ 0) (h : x < 18446744073709551616) : tzN x < Lib.bitLen x := by
  obtain ⟨m, h1, h2⟩ := tz_spec x h0 h
  apply Nat.lt_of_not_le
  intro hle
  have h3 := lt_bitLen 64 x h (Nat.le_refl _)
  have h4 : 2 ^ Lib.bitLen x ≤ 2 ^ tzN x := Nat.pow_le_pow_right (by decide) hle
  have h5 : 2 ^ tzN x ≤ x := by
    conv => rhs; rw [h1]
    exact Nat.le_mul_of_pos_right _ (by omega)
  omega

structure Win where
  a : Nat
  t : Nat
  d : Nat
deriving DecidableEq
def Win.Ok (w : Win) : Prop := w.a ≤ 31 ∧ 1 ≤ w.d ∧ w.a + w.t + w.d = 64
def w0 : Win := ⟨0, 0, 0⟩
def leadN (x : Nat) : Nat := min 31 (lzN x)
def winOf (x : Nat) : Win := ⟨leadN x, tzN x, 64 - leadN x - tzN x⟩
theorem lead_le (x : Nat) : leadN x ≤ 31 := by unfold leadN; omega
theorem lead_bl (x : Nat) (h : x < 18446744073709551616) : leadN x + Lib.bitLen x ≤ 64 := by
  have := bitLen_64 x h
  unfold leadN lzN; omega
theorem winOf_ok (x : Nat) (h0 : x ≠ 0) (h : x < 18446744073709551616) : (winOf x).Ok := by
  have h1 := tz_lt_bl x h0 h
  have h2 := lead_bl x h
  have h3 := lead_le x
  refine ⟨h3, ?_, ?_⟩
  · show 1 ≤ 64 - leadN x - tzN x; omega
  · show leadN x + tzN x + (64 - leadN x - tzN x) = 64; omega
def hasW (w k : Win) : Prop := 0 < w.d ∧ w.a ≤ k.a ∧ w.t ≤ k.t
instance (w k : Win) : Decidable (hasW w k) := by unfold hasW; infer_instance
theorem x_lt_lead (x : Nat) (h : x < 18446744073709551616) (a : Nat) (ha : a ≤ leadN x) : x < 2 ^ (64 - a) := by
  have h1 := lead_bl x h
  exact Nat.lt_of_lt_of_le (lt_bitLen 64 x h (Nat.le_refl _)) (Nat.pow_le_pow_right (by decide) (by omega))
/-- What a window that has x's own tells: x. -/
theorem hasW_x {w : Win} (hw : w.Ok) (x : Nat) (h0 : x ≠ 0) (h : x < 18446744073709551616) (hh : hasW w (winOf x)) : x / 2 ^ w.t < 2 ^ w.d ∧ x / 2 ^ w.t * 2 ^ w.t = x := by
  obtain ⟨_, h1, h2⟩ := hh
  obtain ⟨w1, w2, w3⟩ := hw
  constructor
  · rw [Nat.div_lt_iff_lt_mul (Nat.two_pow_pos _), ← Nat.pow_add]
    have := x_lt_lead x h w.a h1
    rwa [show w.d + w.t = 64 - w.a by omega]
  · obtain ⟨m, h3, _⟩ := tz_spec x h0 h
    have h4 : 2 ^ w.t ∣ x := by
      rw [h3]
      exact Nat.dvd_trans (Nat.pow_dvd_pow 2 h2) (Nat.dvd_mul_right _ _)
    exact Nat.div_mul_cancel h4
theorem has_self (x : Nat) (h0 : x ≠ 0) (h : x < 18446744073709551616) : hasW (winOf x) (winOf x) := ⟨(winOf_ok x h0 h).2.1, Nat.le_refl _, Nat.le_refl _⟩
theorem x_hasW {w : Win} (hw : w.Ok) (v : Nat) (hv : v < 2 ^ w.d) (h0 : v * 2 ^ w.t ≠ 0) : v * 2 ^ w.t < 18446744073709551616 ∧ hasW w (winOf (v * 2 ^ w.t)) := by
  obtain ⟨w1, w2, w3⟩ := hw
  have hlt : v * 2 ^ w.t < 2 ^ (64 - w.a) := by
    rw [show 64 - w.a = w.d + w.t by omega, Nat.pow_add]
    exact Nat.mul_lt_mul_of_lt_of_le hv (Nat.le_refl _) (Nat.two_pow_pos _)
  have h64 : v * 2 ^ w.t < 18446744073709551616 := Nat.lt_of_lt_of_le hlt (Nat.pow_le_pow_right (n := 2) (by decide) (show 64 - w.a ≤ 64 by omega))
  refine ⟨h64, by omega, ?_, ?_⟩
  · show w.a ≤ leadN (v * 2 ^ w.t)
    have := Lib.bitLen_le _ (64 - w.a) (by omega) hlt
    unfold leadN lzN; omega
  · show w.t ≤ tzN (v * 2 ^ w.t)
    apply Nat.le_of_not_lt
    intro hlt2
    obtain ⟨m, h3, h4⟩ := tz_spec _ h0 h64
    obtain ⟨s, hs⟩ : ∃ s, w.t = tzN (v * 2 ^ w.t) + (s + 1) := ⟨w.t - tzN (v * 2 ^ w.t) - 1, by omega⟩
    generalize tzN (v * 2 ^ w.t) = z at hs h3 h4
    rw [hs, Nat.pow_add, Nat.pow_succ] at h3
    have h5 : 2 ^ z * (v * 2 ^ s * 2) = 2 ^ z * (2 * m + 1) := by
      rw [← h3]
      simp only [Nat.mul_assoc, Nat.mul_left_comm]
    have h6 := Nat.eq_of_mul_eq_mul_left (Nat.two_pow_pos z) h5
    omega

/-- Bits within. -/
theorem bitsN_slice (x a t : Nat) (h : a + t ≤ 64) : ((bitsN x 64).take (64 - t)).drop a = bitsN (x / 2 ^ t) (64 - t - a) := by
  apply List.ext_getElem?
  intro j
  rw [List.getElem?_drop, List.getElem?_take]
  by_cases hj : j < 64 - t - a
  · rw [if_pos (by omega), bitsN_get _ _ _ (by omega), bitsN_get _ _ _ hj, Nat.testBit_div_two_pow]
    congr 2; omega
  · rw [if_neg (by omega), List.getElem?_eq_none (by rw [bitsN_len]; omega)]
def zerosN : List Bool → Nat
  | false :: l => zerosN l + 1
  | _ => 0
theorem zeros_le : ∀ l : List Bool, zerosN l ≤ l.length
  | [] => Nat.le_refl _
  | false :: l => by have := zeros_le l; simp only [zerosN, List.length_cons]; omega
  | true :: l => by simp [zerosN]
theorem zeros_false : ∀ (l : List Bool) (i : Nat), i < zerosN l → l[i]? = some false
  | [], i, h => by simp [zerosN] at h
  | true :: l, i, h => by simp [zerosN] at h
  | false :: l, 0, h => rfl
  | false :: l, i + 1, h => by simp only [zerosN] at h; simpa using zeros_false l i (by omega)
theorem zeros_stop : ∀ (l : List Bool), l[zerosN l]? = none ∨ l[zerosN l]? = some true
  | [] => .inl rfl
  | true :: l => .inr rfl
  | false :: l => by simpa [zerosN] using zeros_stop l
theorem zeros_eq (l : List Bool) (z : Nat) (h1 : ∀ i, i < z → l[i]? = some false) (h2 : l[z]? = some true) : zerosN l = z := by
  rcases Nat.lt_trichotomy (zerosN l) z with h | h | h
  · have := h1 _ h
    rcases zeros_stop l with h3 | h3 <;> rw [h3] at this <;> cases this
  · exact h
  · have := zeros_false l _ h
    rw [h2] at this; cases this
theorem zeros_lead (x : Nat) (h0 : x ≠ 0) (h : x < 18446744073709551616) : zerosN (bitsN x 64) = lzN x := by
  have h1 := tz_lt_bl x h0 h
  have h2 := bitLen_64 x h
  have h3 := lt_bitLen 64 x h (Nat.le_refl _)
  have h4 : 2 ^ (Lib.bitLen x - 1) ≤ x := by
    apply Nat.le_of_not_lt
    intro hlt
    have := Lib.bitLen_le x _ (by omega) hlt
    omega
  apply zeros_eq
  · intro i hi
    unfold lzN at hi
    rw [bitsN_get _ _ _ (by omega)]
    have := Nat.testBit_lt_two_pow (Nat.lt_of_lt_of_le h3 (Nat.pow_le_pow_right (n := 2) (by decide) (show Lib.bitLen x ≤ 64 - 1 - i by omega)))
    rw [this]
  · unfold lzN
    rw [bitsN_get _ _ _ (by omega), show 64 - 1 - (64 - Lib.bitLen x) = Lib.bitLen x - 1 by omega, Nat.testBit_eq_decide_div_mod_eq]
    have h5 : x / 2 ^ (Lib.bitLen x - 1) = 1 := by
      apply Nat.div_eq_of_lt_le
      · omega
      · rw [show (1 + 1) * 2 ^ (Lib.bitLen x - 1) = 2 ^ (Lib.bitLen x - 1 + 1) by rw [Nat.pow_succ]; omega, show Lib.bitLen x - 1 + 1 = Lib.bitLen x by omega]
        exact h3
    rw [h5]; rfl
theorem zeros_tail (x : Nat) (h0 : x ≠ 0) (h : x < 18446744073709551616) : zerosN (bitsN x 64).reverse = tzN x := by
  obtain ⟨m, h1, h2⟩ := tz_spec x h0 h
  have hget : ∀ i, i < 64 → (bitsN x 64).reverse[i]? = some (x.testBit i) := by
    intro i hi
    rw [List.getElem?_reverse (by rw [bitsN_len]; exact hi), bitsN_len, bitsN_get _ _ _ (by omega)]
    congr 2; omega
  apply zeros_eq
  · intro i hi
    rw [hget i (by omega), h1, Nat.mul_comm, Nat.testBit_mul_two_pow]
    simp; omega
  · rw [hget _ h2]
    clear hget
    generalize tzN x = z at h1
    rw [h1, Nat.mul_comm, Nat.testBit_mul_two_pow, Nat.sub_self, Nat.testBit_zero]
    simp

/-- A value that changes by x, behind a window: its parts, and the window then. -/
def mParts (w : Win) (x : Nat) : List (Nat × Nat) :=
  if x = 0 then [(0, 1)] else if hasW w (winOf x) then [(2, 2), (x / 2 ^ w.t, w.d)] else [(3, 2), ((winOf x).a, 5), ((winOf x).d, 6), (x / 2 ^ (winOf x).t, (winOf x).d)]
def mWin (w : Win) (x : Nat) : Win := if x = 0 then w else if hasW w (winOf x) then w else winOf x
def xAt (l : List Nat) (k : Nat) : Nat := l.getD k 0 ^^^ l.getD (k - 1) 0
def mW (l : List Nat) : Nat → Win
  | 0 => w0
  | k + 1 => if k = 0 then w0 else mWin (mW l k) (xAt l k)
def mP (l : List Nat) : Nat → List (Nat × Nat)
  | 0 => []
  | k + 1 => if k = 0 then [(l.getD 0 0, 64)] else mP l k ++ mParts (mW l k) (xAt l k)
def pBits (ps : List (Nat × Nat)) : List Bool := ps.flatMap fun p => bitsN p.1 p.2
def maskB (l : List Nat) : List Bool := pBits (mP l l.length)
theorem mP_succ (l : List Nat) {k : Nat} (h : k ≠ 0) : mP l (k + 1) = mP l k ++ mParts (mW l k) (xAt l k) := by rw [mP, if_neg h]
theorem mW_succ (l : List Nat) {k : Nat} (h : k ≠ 0) : mW l (k + 1) = mWin (mW l k) (xAt l k) := by rw [mW, if_neg h]
theorem pBits_append (a b : List (Nat × Nat)) : pBits (a ++ b) = pBits a ++ pBits b := by simp [pBits]
theorem pBits_cons (p : Nat × Nat) (b : List (Nat × Nat)) : pBits (p :: b) = bitsN p.1 p.2 ++ pBits b := by simp [pBits]
theorem mWin_ok {w : Win} (hw : w = w0 ∨ w.Ok) (x : Nat) (h : x < 18446744073709551616) : mWin w x = w0 ∨ (mWin w x).Ok := by
  unfold mWin
  split
  · exact hw
  · rename_i h0
    split
    · exact hw
    · exact .inr (winOf_ok x h0 h)
theorem has_ok {w k : Win} (hw : w = w0 ∨ w.Ok) (h : hasW w k) : w.Ok := by
  rcases hw with rfl | hw
  · exact absurd h.1 (by decide)
  · exact hw
theorem xAt_lt {l : List Nat} (hl : ∀ x ∈ l, x < 18446744073709551616) (k : Nat) : xAt l k < 18446744073709551616 := by
  have h : ∀ i, l.getD i 0 < 2 ^ 64 := by
    intro i
    rw [List.getD_eq_getElem?_getD]
    cases e : l[i]? with
    | none => simp
    | some y => exact hl y (List.mem_of_getElem? e)
  exact Nat.xor_lt_two_pow (h _) (h _)
theorem mW_ok {l : List Nat} (hl : ∀ x ∈ l, x < 18446744073709551616) : ∀ k, mW l k = w0 ∨ (mW l k).Ok
  | 0 => .inl rfl
  | k + 1 => by
    unfold mW
    split
    · exact .inl rfl
    · exact mWin_ok (mW_ok hl k) _ (xAt_lt hl k)
theorem mParts_ok {w : Win} (hw : w = w0 ∨ w.Ok) (x : Nat) (h : x < 18446744073709551616) : ∀ p ∈ mParts w x, p.1 < 18446744073709551616 ∧ p.2 ≤ 64 := by
  intro p hp
  have hd : ∀ t : Nat, x / 2 ^ t < 18446744073709551616 := fun t => Nat.lt_of_le_of_lt (Nat.div_le_self _ _) h
  unfold mParts at hp
  split at hp
  · simp at hp; subst hp; exact ⟨by decide, by decide⟩
  · rename_i h0
    split at hp
    · rename_i hh
      have hk := has_ok hw hh
      simp at hp
      rcases hp with rfl | rfl
      · exact ⟨by decide, by decide⟩
      · exact ⟨hd _, by have := hk.2.2; show w.d ≤ 64; omega⟩
    · have hk := winOf_ok x h0 h
      have h3 := hk.1; have h4 := hk.2.2
      simp at hp
      rcases hp with rfl | rfl | rfl | rfl
      · exact ⟨by decide, by decide⟩
      · exact ⟨by show (winOf x).a < _; omega, by show 5 ≤ 64; omega⟩
      · exact ⟨by show (winOf x).d < _; omega, by show 6 ≤ 64; omega⟩
      · exact ⟨hd _, by show (winOf x).d ≤ 64; omega⟩
theorem mP_ok {l : List Nat} (hl : ∀ x ∈ l, x < 18446744073709551616) : ∀ k, k ≤ l.length → ∀ p ∈ mP l k, p.1 < 18446744073709551616 ∧ p.2 ≤ 64
  | 0, _, p, hp => by simp [mP] at hp
  | k + 1, hk, p, hp => by
    unfold mP at hp
    split at hp
    · rename_i h0
      simp at hp; subst hp
      refine ⟨?_, Nat.le_refl _⟩
      show l[0]?.getD 0 < _
      rw [List.getElem?_eq_getElem (by omega)]
      exact hl _ (List.getElem_mem _)
    · rcases List.mem_append.1 hp with hp | hp
      · exact mP_ok hl k (by omega) p hp
      · exact mParts_ok (mW_ok hl k) _ (xAt_lt hl k) p hp
theorem mParts_len (w : Win) (x : Nat) : (mParts w x).length ≤ 4 := by
  unfold mParts
  split
  · simp
  · split <;> simp
theorem mP_len (l : List Nat) : ∀ k, (mP l k).length ≤ 4 * k
  | 0 => Nat.le_refl _
  | k + 1 => by
    unfold mP
    split
    · simp; omega
    · have := mP_len l k
      have h2 := mParts_len (mW l k) (xAt l k)
      rw [List.length_append]; omega
/-- How many bits. -/
def sumN (ps : List (Nat × Nat)) : Nat := (pBits ps).length
theorem sumN_snoc (ps : List (Nat × Nat)) (p : Nat × Nat) : sumN (ps ++ [p]) = sumN ps + p.2 := by
  unfold sumN; rw [pBits_append, List.length_append]; simp [pBits, bitsN_len]
theorem sumN_le (ps : List (Nat × Nat)) (h : ∀ p ∈ ps, p.2 ≤ 64) : sumN ps ≤ 64 * ps.length := by
  induction ps with
  | nil => simp [sumN, pBits]
  | cons p ps ih =>
    have h1 := ih (fun q hq => h q (List.mem_cons_of_mem _ hq))
    have h2 := h p List.mem_cons_self
    unfold sumN at h1 ⊢
    rw [pBits_cons, List.length_append, bitsN_len, List.length_cons]; omega
/-- Of the values ahead alone. -/
theorem xAt_take {l : List Nat} {m k : Nat} (h : k < m) : xAt (l.take m) k = xAt l k := by
  have e : ∀ i, i < m → (l.take m).getD i 0 = l.getD i 0 := by
    intro i hi
    rw [List.getD_eq_getElem?_getD, List.getD_eq_getElem?_getD, List.getElem?_take, if_pos hi]
  unfold xAt
  rw [e k h, e (k - 1) (by omega)]
theorem mW_take {l : List Nat} {m : Nat} : ∀ k, k ≤ m → mW (l.take m) k = mW l k
  | 0, _ => rfl
  | k + 1, h => by
    unfold mW
    rw [mW_take k (by omega), xAt_take (by omega)]
theorem mP_take {l : List Nat} {m : Nat} : ∀ k, k ≤ m → mP (l.take m) k = mP l k
  | 0, _ => rfl
  | k + 1, h => by
    unfold mP
    rw [mP_take k (by omega), mW_take k (by omega), xAt_take (by omega)]
    have e : (l.take m).getD 0 0 = l.getD 0 0 := by
      rw [List.getD_eq_getElem?_getD, List.getD_eq_getElem?_getD, List.getElem?_take, if_pos (by omega)]
    rw [e]
end Go.Proofs.YtpbgonpmpjpljaaGreatDoor

namespace Go.Proofs.YtpbgonpmpjpljaaGreatDoor
open Go.RowKit
set_option linter.unusedVariables false

theorem TabAt.lt {w : World} (h : TabAt w) : 15 < w.heap.size := by
  have h0 := h 0 (by decide)
  rcases Nat.lt_or_ge 15 w.heap.size with h' | h'
  · exact h'
  · simp [World.cell?, Array.getElem?_eq_none h'] at h0
theorem TabAt.call {w w' : World} {C : Nat} (h : TabAt w) (hb : Below C w w') (hC : w.heap.size ≤ C) : TabAt w' := h.below hb (Nat.lt_of_lt_of_le h.lt hC)
theorem TabAt.alloc {w : World} (h : TabAt w) (o : Obj) : TabAt (w.alloc o) := h.call (Below.alloc (Below.refl w.heap.size w) (Nat.le_refl _) o) (Nat.le_refl _)

def winV (w : Win) : Value := .agg #[.int .i64 w.a, .int .i64 w.t, .int .i64 w.d]
theorem mof_int (x : Nat) (w : World) (h : x < 18446744073709551616) (hT : TabAt w) :
    Calls Tryz.prog 162 #[.int .u64 (x : Int)] w fun e w' => e = .returned (.agg #[.int .i64 (leadN x), .int .i64 (tzN x), .int .i64 (64 - (leadN x : Int) - (tzN x : Int))]) ∧ Below w.heap.size w w' := by
  have h1 := lead_le x
  have h2 : tzN x ≤ 64 := by
    by_cases h0 : x = 0
    · subst h0; decide
    · obtain ⟨m, _, h3⟩ := tz_spec x h0 h; omega
  have hl : min 31 (lzN x : Int) = (leadN x : Int) := by unfold leadN; omega
  have HT := Lib.hid hT; have Hl := Lib.hid hl
  clear hT hl
  go_enter Tryz.func162, Tryz.ntmps162
  go_wp2_with fail
  refine (lz_any x _ h).mono ?_
  rintro e w' ⟨rfl, rfl⟩
  go_wp2_with fail
  refine (tz_any x _ h (HT.out.alloc _)).mono ?_
  rintro e w' ⟨rfl, rfl⟩
  go_wp2
  rw [Hl.out]
  have hb : Below w.heap.size w ((w.alloc (.cells #[.int .i64 (leadN x), .int .i64 (tzN x), .int .i64 (64 - (leadN x : Int) - (tzN x : Int))] 244)).alloc (.cells #[.int .i64 (leadN x), .int .i64 (tzN x), .int .i64 (64 - (leadN x : Int) - (tzN x : Int))] 244)) := by go_grown
  refine bodyPost_ret (v := .agg #[.int .i64 (leadN x), .int .i64 (tzN x), .int .i64 (64 - (leadN x : Int) - (tzN x : Int))]) (by simp [results, Tryz.results162, go_sem]) rfl ?_
  exact ⟨rfl, hb⟩
theorem mof_any (x : Nat) (w : World) (h : x < 18446744073709551616) (h0 : x ≠ 0) (hT : TabAt w) :
    Calls Tryz.prog 162 #[.int .u64 (x : Int)] w fun e w' => e = .returned (winV (winOf x)) ∧ Below w.heap.size w w' := by
  refine (mof_int x w h hT).mono ?_
  rintro e w' ⟨rfl, hb⟩
  refine ⟨?_, hb⟩
  have h1 := (winOf_ok x h0 h).2.2
  have h2 := (winOf_ok x h0 h).2.1
  have e : 64 - (leadN x : Int) - (tzN x : Int) = ((winOf x).d : Int) := by
    show _ = ((64 - leadN x - tzN x : Nat) : Int)
    have h3 : leadN x + tzN x + (64 - leadN x - tzN x) = 64 := h1
    omega
  rw [e]; rfl

theorem mhas_any (a t d a' t' d' : Int) (w : World) :
    Calls Tryz.prog 163 #[.agg #[.int .i64 a, .int .i64 t, .int .i64 d], .agg #[.int .i64 a', .int .i64 t', .int .i64 d']] w fun e w' => e = .returned (.bool (decide (0 < d ∧ a ≤ a' ∧ t ≤ t'))) ∧ Below w.heap.size w w' := by
  by_cases h1 : 0 < d
  · by_cases h2 : a ≤ a'
    · by_cases h3 : t ≤ t'
      · rw [decide_eq_true (show 0 < d ∧ a ≤ a' ∧ t ≤ t' from ⟨h1, h2, h3⟩)]
        go_enter Tryz.func163, Tryz.ntmps163
        go_wp2
        go_ret
        exact ⟨rfl, by go_grown⟩
      · rw [decide_eq_false (show ¬ (0 < d ∧ a ≤ a' ∧ t ≤ t') from fun h => h3 h.2.2)]
        go_enter Tryz.func163, Tryz.ntmps163
        go_wp2
        go_ret
        exact ⟨by simp, by go_grown⟩
    · rw [decide_eq_false (show ¬ (0 < d ∧ a ≤ a' ∧ t ≤ t') from fun h => h2 h.2.1)]
      go_enter Tryz.func163, Tryz.ntmps163
      go_wp2
      go_ret
      exact ⟨rfl, by go_grown⟩
  · rw [decide_eq_false (show ¬ (0 < d ∧ a ≤ a' ∧ t ≤ t') from fun h => h1 h.1)]
    go_enter Tryz.func163, Tryz.ntmps163
    go_wp2
    go_ret
    exact ⟨rfl, by go_grown⟩
theorem mhas_win (w k : Win) (W : World) : Calls Tryz.prog 163 #[winV w, winV k] W fun e w' => e = .returned (.bool (decide (hasW w k))) ∧ Below W.heap.size W w' := by
  refine (mhas_any _ _ _ _ _ _ W).mono ?_
  rintro e w' ⟨rfl, hb⟩
  refine ⟨?_, hb⟩
  congr 2
  apply decide_eq_decide.2
  unfold hasW
  omega

theorem zeros_any (l : List Bool) (hl : l.length ≤ 64) (w : World) : Calls Tryz.prog 108 #[.string (txt l)] w fun e w' => e = .returned (.int .i64 (zerosN l)) ∧ w' = w := by
  have hz := zeros_le l
  have hsz := txt_size l
  have hget : ∀ (i : Nat) (h : i < (txt l).size) (b : Bool), l[i]? = some b → (txt l)[i] = chB b := fun i h b hb => txt_get l i h b hb
  have Hget := Lib.hid hget
  clear hget
  generalize hts : txt l = ts at hsz Hget ⊢
  have hs64 : ts.size ≤ 64 := by omega
  have Hsz := Lib.hid hsz
  clear hts hsz
  go_enter Tryz.func108, Tryz.ntmps108
  go_wp2
  go_loopw [3] (fun n wr => ∃ k : Nat, k ≤ zerosN l ∧ n = .int .i64 k ∧ wr = w) (fun n _ => 65 - (intOf n).toNat)
  case atStart => exact ⟨0, Nat.zero_le _, rfl, rfl⟩
  case round =>
    obtain ⟨k, hk, rfl, rfl⟩ := hrel
    by_cases hlt : k < zerosN l
    · have hks : k < ts.size := by rw [Hsz.out]; omega
      have hc := Hget.out k hks false (zeros_false l k hlt)
      have hcn : ts[k].toNat = 48 := by rw [hc]; rfl
      go_wp2
      go_roundw
      case rel => exact ⟨k + 1, by omega, by go_num, trivial⟩
      case measure => simp [intOf]; omega
    · obtain rfl : k = zerosN l := by omega
      rcases zeros_stop l with h | h
      · have hge : ts.size ≤ zerosN l := by rw [Hsz.out]; exact List.getElem?_eq_none_iff.1 h
        go_wp2
        go_ret
        exact ⟨rfl, rfl⟩
      · have hks : zerosN l < ts.size := by rw [Hsz.out]; exact (List.getElem?_eq_some_iff.1 h).1
        have hc := Hget.out _ hks true h
        have hcn : ts[zerosN l].toNat = 49 := by rw [hc]; rfl
        go_wp2
        go_ret
        exact ⟨rfl, rfl⟩
theorem turned_any (l : List Bool) (hl : l.length ≤ 64) (w : World) : Calls Tryz.prog 109 #[.string (txt l)] w fun e w' => e = .returned (.string (txt l.reverse)) ∧ w' = w := by
  have hsz := txt_size l
  have hs64 : (txt l).size ≤ 64 := by omega
  go_enter Tryz.func109, Tryz.ntmps109
  go_wp2
  go_loopw [3, 4] (fun o i wr => ∃ (k : Nat) (st : ByteArray), k ≤ l.length ∧ i = .int .i64 k ∧ o = .string st ∧ st = txt (l.take k).reverse ∧ st.size = k ∧ wr = w) (fun _ i _ => 65 - (intOf i).toNat)
  case atStart => exact ⟨0, ByteArray.empty, Nat.zero_le _, rfl, rfl, rfl, rfl, rfl⟩
  case round =>
    obtain ⟨k, st, hk, rfl, rfl, hst, hss, rfl⟩ := hrel
    by_cases hlt : k < l.length
    · have hx : (txt l).extract k (k + 1) = txt [l[k]] := by
        rw [txt_extract]
        congr 1
        rw [take_snoc (List.getElem?_eq_getElem hlt), List.drop_append_of_le_length (by rw [List.length_take]; omega)]
        simp
      have hn : txt [l[k]] ++ st = txt (l.take (k + 1)).reverse := by
        rw [hst, txt_append, take_snoc (List.getElem?_eq_getElem hlt), List.reverse_append]; rfl
      have h1 : (txt [l[k]]).size = 1 := txt_size _
      have Hx := Lib.hid hx; have Hn := Lib.hid hn; have Hst := Lib.hid hst
      clear hx hn hst
      go_wp2
      go_roundw
      case rel => exact ⟨k + 1, txt (l.take (k + 1)).reverse, by omega, by go_num, by rw [Hx.out, Hn.out], rfl, by rw [txt_size, List.length_reverse, List.length_take]; omega, trivial⟩
      case measure => simp [intOf]; omega
    · obtain rfl : k = l.length := by omega
      rw [List.take_length] at hst
      subst hst
      go_wp2
      go_ret
      exact ⟨rfl, rfl⟩
end Go.Proofs.YtpbgonpmpjpljaaGreatDoor

namespace Go.Proofs.YtpbgonpmpjpljaaGreatDoor
open Go.RowKit
set_option linter.unusedVariables false

def vAt (S : List Bool) (q n : Nat) : Nat := valN ((S.drop q).take n)
theorem vAt_lt (S : List Bool) (q n : Nat) : vAt S q n < 2 ^ n := Nat.lt_of_lt_of_le (valN_lt _) (Nat.pow_le_pow_right (by decide) (by rw [List.length_take]; omega))
theorem vAt_bits (S : List Bool) (q n : Nat) (h : q + n ≤ S.length) : bitsN (vAt S q n) n = (S.drop q).take n := by
  have e : ((S.drop q).take n).length = n := by rw [List.length_take, List.length_drop]; omega
  have := bitsN_valN ((S.drop q).take n)
  rw [e] at this; exact this
theorem take_two (S : List Bool) (q a b : Nat) : (S.drop q).take (a + b) = (S.drop q).take a ++ (S.drop (q + a)).take b := by rw [List.take_add, List.drop_drop]
theorem bitsN_inj {v u n : Nat} (hv : v < 2 ^ n) (hu : u < 2 ^ n) (h : bitsN v n = bitsN u n) : v = u := by
  have := congrArg valN h
  rw [valN_bitsN, valN_bitsN, Nat.mod_eq_of_lt hv, Nat.mod_eq_of_lt hu] at this
  exact this

inductive CRes where
  | err (c : Nat) : CRes
  | ok (x : Nat) (w : Win) (q : Nat) : CRes
def dAt (S : List Bool) (q : Nat) : Nat := if vAt S q 6 = 0 then 64 else vAt S q 6
def freshW (S : List Bool) (q : Nat) : Win := ⟨vAt S q 5, 64 - vAt S q 5 - dAt S (q + 5), dAt S (q + 5)⟩
def badC (fr : Bool) (w w' : Win) (x : Nat) : Prop := x = 0 ∨ (fr = true ∧ (hasW w (winOf x) ∨ winOf x ≠ w'))
instance (fr : Bool) (w w' : Win) (x : Nat) : Decidable (badC fr w w' x) := by unfold badC; infer_instance
def bodyC (S : List Bool) (fr : Bool) (w w' : Win) (q : Nat) : CRes :=
  if S.length < q + w'.d then .err 4 else if badC fr w w' (vAt S q w'.d * 2 ^ w'.t) then .err 0 else .ok (vAt S q w'.d * 2 ^ w'.t) w' (q + w'.d)
/-- What changes, from place q on, behind a window. -/
def chg (S : List Bool) (w : Win) (q : Nat) : CRes :=
  if S.length < q + 1 then .err 4 else if vAt S q 1 = 0 then .ok 0 w (q + 1) else
  if S.length < q + 2 then .err 4 else if vAt S (q + 1) 1 = 1 then
    if S.length < q + 13 then .err 4 else if 64 < vAt S (q + 2) 5 + dAt S (q + 7) then .err 0 else bodyC S true w (freshW S (q + 2)) (q + 13)
  else if w.d = 0 then .err 0 else bodyC S false w w (q + 2)
inductive MRes where
  | err (c : Nat) : MRes
  | ok (l : List Nat) (q : Nat) : MRes
/-- n values more, behind those of acc, from place q on. -/
def rdM (S : List Bool) : Nat → List Nat → Win → Nat → MRes
  | 0, acc, _, q => .ok acc q
  | n + 1, acc, w, q => if acc.length = 0 then (if S.length < q + 64 then .err 4 else rdM S n [vAt S q 64] w (q + 64)) else
    match chg S w q with
    | .err c => .err c
    | .ok x w' q' => rdM S n (acc ++ [acc.getD (acc.length - 1) 0 ^^^ x]) w' q'
theorem rdM_first_none {S : List Bool} {n q : Nat} {w : Win} {acc : List Nat} (h : acc.length = 0) (hl : S.length < q + 64) : rdM S (n + 1) acc w q = .err 4 := by simp only [rdM]; rw [if_pos h, if_pos hl]
theorem rdM_first {S : List Bool} {n q : Nat} {w : Win} {acc : List Nat} (h : acc.length = 0) (hl : ¬ S.length < q + 64) : rdM S (n + 1) acc w q = rdM S n [vAt S q 64] w (q + 64) := by simp only [rdM]; rw [if_pos h, if_neg hl]
theorem rdM_err {S : List Bool} {n q c : Nat} {w : Win} {acc : List Nat} (h : acc.length ≠ 0) (hc : chg S w q = .err c) : rdM S (n + 1) acc w q = .err c := by simp only [rdM, hc]; rw [if_neg h]
theorem rdM_next {S : List Bool} {n q x q' : Nat} {w w' : Win} {acc : List Nat} (h : acc.length ≠ 0) (hc : chg S w q = .ok x w' q') : rdM S (n + 1) acc w q = rdM S n (acc ++ [acc.getD (acc.length - 1) 0 ^^^ x]) w' q' := by simp only [rdM, hc]; rw [if_neg h]
theorem chg_1 {S : List Bool} {w : Win} {q : Nat} (h : S.length < q + 1) : chg S w q = .err 4 := by unfold chg; rw [if_pos h]
theorem chg_0 {S : List Bool} {w : Win} {q : Nat} (h : ¬ S.length < q + 1) (h0 : vAt S q 1 = 0) : chg S w q = .ok 0 w (q + 1) := by unfold chg; rw [if_neg h, if_pos h0]
theorem chg_2 {S : List Bool} {w : Win} {q : Nat} (h : S.length < q + 2) (h0 : vAt S q 1 ≠ 0) : chg S w q = .err 4 := by
  unfold chg; rw [if_neg h0, if_pos h]; split <;> rfl
theorem chg_old {S : List Bool} {w : Win} {q : Nat} (h : ¬ S.length < q + 2) (h0 : vAt S q 1 ≠ 0) (h1 : vAt S (q + 1) 1 ≠ 1) (hd : w.d ≠ 0) : chg S w q = bodyC S false w w (q + 2) := by
  unfold chg; rw [if_neg (by omega), if_neg h0, if_neg h, if_neg h1, if_neg hd]
theorem chg_nowin {S : List Bool} {w : Win} {q : Nat} (h : ¬ S.length < q + 2) (h0 : vAt S q 1 ≠ 0) (h1 : vAt S (q + 1) 1 ≠ 1) (hd : w.d = 0) : chg S w q = .err 0 := by
  unfold chg; rw [if_neg (by omega), if_neg h0, if_neg h, if_neg h1, if_pos hd]
theorem chg_3 {S : List Bool} {w : Win} {q : Nat} (h : ¬ S.length < q + 2) (h3 : S.length < q + 13) (h0 : vAt S q 1 ≠ 0) (h1 : vAt S (q + 1) 1 = 1) : chg S w q = .err 4 := by
  unfold chg; rw [if_neg (by omega), if_neg h0, if_neg h, if_pos h1, if_pos h3]
theorem chg_far {S : List Bool} {w : Win} {q : Nat} (h3 : ¬ S.length < q + 13) (h0 : vAt S q 1 ≠ 0) (h1 : vAt S (q + 1) 1 = 1) (h64 : 64 < vAt S (q + 2) 5 + dAt S (q + 7)) : chg S w q = .err 0 := by
  unfold chg; rw [if_neg (by omega), if_neg h0, if_neg (by omega), if_pos h1, if_neg h3, if_pos h64]
theorem chg_new {S : List Bool} {w : Win} {q : Nat} (h3 : ¬ S.length < q + 13) (h0 : vAt S q 1 ≠ 0) (h1 : vAt S (q + 1) 1 = 1) (h64 : ¬ 64 < vAt S (q + 2) 5 + dAt S (q + 7)) : chg S w q = bodyC S true w (freshW S (q + 2)) (q + 13) := by
  unfold chg; rw [if_neg (by omega), if_neg h0, if_neg (by omega), if_pos h1, if_neg h3, if_neg h64]
theorem body_none {S : List Bool} {fr : Bool} {w w' : Win} {q : Nat} (h : S.length < q + w'.d) : bodyC S fr w w' q = .err 4 := by unfold bodyC; rw [if_pos h]
theorem body_bad {S : List Bool} {fr : Bool} {w w' : Win} {q : Nat} (h : ¬ S.length < q + w'.d) (hb : badC fr w w' (vAt S q w'.d * 2 ^ w'.t)) : bodyC S fr w w' q = .err 0 := by unfold bodyC; rw [if_neg h, if_pos hb]
theorem body_ok {S : List Bool} {fr : Bool} {w w' : Win} {q : Nat} (h : ¬ S.length < q + w'.d) (hb : ¬ badC fr w w' (vAt S q w'.d * 2 ^ w'.t)) : bodyC S fr w w' q = .ok (vAt S q w'.d * 2 ^ w'.t) w' (q + w'.d) := by unfold bodyC; rw [if_neg h, if_neg hb]

theorem dAt_bd (S : List Bool) (q : Nat) : 1 ≤ dAt S q ∧ dAt S q ≤ 64 := by
  have := vAt_lt S q 6
  unfold dAt; split <;> omega
theorem dAt_bits (S : List Bool) (q : Nat) (h : q + 6 ≤ S.length) : bitsN (dAt S q) 6 = (S.drop q).take 6 := by
  rw [← vAt_bits S q 6 h]
  unfold dAt; split
  · rename_i e; rw [e, ← bitsN_mod 64 6]
  · rfl
theorem fresh_ok {S : List Bool} {q : Nat} (h : ¬ 64 < vAt S q 5 + dAt S (q + 5)) : (freshW S q).Ok := by
  have h1 := vAt_lt S q 5
  have h2 := dAt_bd S (q + 5)
  refine ⟨?_, h2.1, ?_⟩
  · show vAt S q 5 ≤ 31; omega
  · show vAt S q 5 + (64 - vAt S q 5 - dAt S (q + 5)) + dAt S (q + 5) = 64; omega
theorem one_true {S : List Bool} {q : Nat} (hl : q + 1 ≤ S.length) (h : vAt S q 1 ≠ 0) : (S.drop q).take 1 = [true] := by
  have h1 := vAt_lt S q 1
  have : vAt S q 1 = 1 := by omega
  rw [← vAt_bits S q 1 hl, this]; rfl
theorem one_false {S : List Bool} {q : Nat} (hl : q + 1 ≤ S.length) (h : vAt S q 1 ≠ 1) : (S.drop q).take 1 = [false] := by
  have h1 := vAt_lt S q 1
  have : vAt S q 1 = 0 := by omega
  rw [← vAt_bits S q 1 hl, this]; rfl
theorem vBit (S : List Bool) (q : Nat) (b : Bool) (h : S[q]? = some b) : vAt S q 1 = b.toNat := by
  have hl : q < S.length := by
    apply Nat.lt_of_not_le; intro hle
    rw [List.getElem?_eq_none hle] at h; cases h
  have e : (S.drop q).take 1 = [b] := by
    rw [List.drop_eq_getElem_cons hl]
    rw [List.getElem?_eq_getElem hl] at h
    injection h with h
    rw [h]; rfl
  unfold vAt
  rw [e]; simp [valN]

theorem parts_zero (w : Win) : mParts w 0 = [(0, 1)] := by unfold mParts; rw [if_pos rfl]
theorem parts_old {w : Win} {x : Nat} (h0 : x ≠ 0) (h : hasW w (winOf x)) : mParts w x = [(2, 2), (x / 2 ^ w.t, w.d)] := by unfold mParts; rw [if_neg h0, if_pos h]
theorem parts_new {w : Win} {x : Nat} (h0 : x ≠ 0) (h : ¬ hasW w (winOf x)) : mParts w x = [(3, 2), ((winOf x).a, 5), ((winOf x).d, 6), (x / 2 ^ (winOf x).t, (winOf x).d)] := by unfold mParts; rw [if_neg h0, if_neg h]
theorem mul_div_pow (v t : Nat) : v * 2 ^ t / 2 ^ t = v := Nat.mul_div_cancel _ (Nat.two_pow_pos _)

/-- Bits of an old window: what they tell is told so. -/
theorem chk_old {S : List Bool} {w : Win} {q : Nat} (hw : w.Ok) (hl : ¬ S.length < q + 2 + w.d) (h0 : vAt S q 1 ≠ 0) (h1 : vAt S (q + 1) 1 ≠ 1) (hx : vAt S (q + 2) w.d * 2 ^ w.t ≠ 0) :
    pBits (mParts w (vAt S (q + 2) w.d * 2 ^ w.t)) = (S.drop q).take (2 + w.d) := by
  have hh := (x_hasW hw _ (vAt_lt S (q + 2) w.d) hx).2
  rw [parts_old hx hh, pBits_cons, pBits_cons, mul_div_pow, take_two, take_two S q 1 1, one_true (by omega) h0, one_false (by omega) h1, vAt_bits _ _ _ (by omega)]
  show [true, false] ++ (_ ++ []) = _
  rw [List.append_nil]; rfl
theorem winOf_ext {k w : Win} (hk : k.Ok) (hw : w.Ok) (ha : k.a = w.a) (hd : k.d = w.d) : k = w := by
  have h1 := hk.2.2; have h2 := hw.2.2
  have ht : k.t = w.t := by omega
  cases k; cases w; simp_all
theorem chk_new {S : List Bool} {w : Win} {q : Nat} (hl : ¬ S.length < q + 13 + (freshW S (q + 2)).d) (h0 : vAt S q 1 ≠ 0) (h1 : vAt S (q + 1) 1 = 1) (h64 : ¬ 64 < vAt S (q + 2) 5 + dAt S (q + 7))
    (hx : vAt S (q + 13) (freshW S (q + 2)).d * 2 ^ (freshW S (q + 2)).t ≠ 0) :
    pBits (mParts w (vAt S (q + 13) (freshW S (q + 2)).d * 2 ^ (freshW S (q + 2)).t)) = (S.drop q).take (13 + (freshW S (q + 2)).d) ↔ ¬ badC true w (freshW S (q + 2)) (vAt S (q + 13) (freshW S (q + 2)).d * 2 ^ (freshW S (q + 2)).t) := by
  have hok : (freshW S (q + 2)).Ok := fresh_ok h64
  have hx64 := (x_hasW hok _ (vAt_lt S (q + 13) _) hx).1
  have hdiv := mul_div_pow (vAt S (q + 13) (freshW S (q + 2)).d) (freshW S (q + 2)).t
  have hbd := vAt_bits S (q + 13) (freshW S (q + 2)).d (by omega)
  obtain ⟨x, hxe⟩ : ∃ x, x = vAt S (q + 13) (freshW S (q + 2)).d * 2 ^ (freshW S (q + 2)).t := ⟨_, rfl⟩
  rw [← hxe] at hx hx64 hdiv ⊢
  have hb5 : (S.drop (q + 2)).take 5 = bitsN (freshW S (q + 2)).a 5 := (vAt_bits _ _ _ (by omega)).symm
  have hb6 : (S.drop (q + 7)).take 6 = bitsN (freshW S (q + 2)).d 6 := (dAt_bits _ _ (by omega)).symm
  have hrow : (S.drop q).take (13 + (freshW S (q + 2)).d) = [true, true] ++ (bitsN (freshW S (q + 2)).a 5 ++ (bitsN (freshW S (q + 2)).d 6 ++ bitsN (x / 2 ^ (freshW S (q + 2)).t) (freshW S (q + 2)).d)) := by
    rw [take_two, take_two S q 2 11, take_two S q 1 1, take_two S (q + 2) 5 6, one_true (by omega) h0, one_true (by omega) (by rw [h1]; decide), hb5, hb6, hdiv, hbd]
    simp
  rw [hrow]
  have hwk := winOf_ok x hx hx64
  have hk := hasW_x hwk x hx hx64 (has_self x hx hx64)
  generalize freshW S (q + 2) = w' at hok
  unfold badC
  by_cases hh : hasW w (winOf x)
  · rw [parts_old hx hh, pBits_cons]
    constructor
    · intro h
      exact absurd (congrArg (fun l => l[1]?) h) (by show some false ≠ some true; decide)
    · intro h
      exact absurd (.inr ⟨rfl, .inl hh⟩) h
  · rw [parts_new hx hh, pBits_cons, pBits_cons, pBits_cons, pBits_cons]
    show [true, true] ++ (bitsN (winOf x).a 5 ++ (bitsN (winOf x).d 6 ++ (bitsN (x / 2 ^ (winOf x).t) (winOf x).d ++ []))) = _ ↔ _
    rw [List.append_nil]
    constructor
    · intro h hb
      have e1 := List.append_cancel_left h
      obtain ⟨e2, e3⟩ := List.append_inj e1 (by rw [bitsN_len, bitsN_len])
      obtain ⟨e4, e5⟩ := List.append_inj e3 (by rw [bitsN_len, bitsN_len])
      have ha := bitsN_inj (by have := hwk.1; omega) (by have := hok.1; omega) e2
      rw [← bitsN_mod, ← bitsN_mod w'.d] at e4
      have hd := bitsN_inj (Nat.mod_lt _ (by decide)) (Nat.mod_lt _ (by decide)) e4
      have hd' : (winOf x).d = w'.d := by
        have h1 := hwk.2; have h2 := hok.2
        omega
      have he := winOf_ext hwk hok ha hd'
      rcases hb with hb | ⟨_, hb | hb⟩
      · exact hx hb
      · exact hh hb
      · exact hb he
    · intro h
      have he : winOf x = w' := by
        by_cases he : winOf x = w'
        · exact he
        · exact absurd (.inr ⟨rfl, .inr he⟩) h
      rw [he]

theorem xor_back (a x : Nat) : (a ^^^ x) ^^^ a = x := by rw [Nat.xor_comm a x, Nat.xor_assoc, Nat.xor_self, Nat.xor_zero]
theorem mP_snoc (l : List Nat) (v : Nat) : mP (l ++ [v]) l.length = mP l l.length := by
  have := mP_take (l := l ++ [v]) (m := l.length) l.length (Nat.le_refl _)
  rw [List.take_left] at this
  exact this.symm
theorem mW_snoc (l : List Nat) (v : Nat) : mW (l ++ [v]) l.length = mW l l.length := by
  have := mW_take (l := l ++ [v]) (m := l.length) l.length (Nat.le_refl _)
  rw [List.take_left] at this
  exact this.symm
theorem xAt_next (l : List Nat) (x : Nat) (h : l.length ≠ 0) : xAt (l ++ [l.getD (l.length - 1) 0 ^^^ x]) l.length = x := by
  have e1 : (l ++ [l.getD (l.length - 1) 0 ^^^ x]).getD l.length 0 = l.getD (l.length - 1) 0 ^^^ x := by rw [List.getD_eq_getElem?_getD]; simp
  have e2 : (l ++ [l.getD (l.length - 1) 0 ^^^ x]).getD (l.length - 1) 0 = l.getD (l.length - 1) 0 := by
    rw [List.getD_eq_getElem?_getD, List.getElem?_append_left (by omega), ← List.getD_eq_getElem?_getD]
  unfold xAt
  rw [e1, e2, xor_back]
theorem maskB_next (l : List Nat) (x : Nat) (h : l.length ≠ 0) : maskB (l ++ [l.getD (l.length - 1) 0 ^^^ x]) = maskB l ++ pBits (mParts (mW l l.length) x) := by
  unfold maskB
  rw [List.length_append, List.length_singleton, mP_succ _ h, pBits_append, xAt_next l x h, mW_snoc, mP_snoc]
theorem mW_next (l : List Nat) (x : Nat) (h : l.length ≠ 0) : mW (l ++ [l.getD (l.length - 1) 0 ^^^ x]) (l.length + 1) = mWin (mW l l.length) x := by
  rw [mW_succ _ h, xAt_next l x h, mW_snoc]

/-- What holds where some values are read that begin at place b. -/
structure MInv (S : List Bool) (b : Nat) (acc : List Nat) (w : Win) (q : Nat) : Prop where
  bits : maskB acc = (S.drop b).take (q - b)
  ble : b ≤ q
  le : q ≤ S.length
  win : mW acc acc.length = w
  lt : ∀ v ∈ acc, v < 18446744073709551616
theorem MInv.wok {S : List Bool} {b : Nat} {acc : List Nat} {w : Win} {q : Nat} (h : MInv S b acc w q) : w = w0 ∨ w.Ok := by rw [← h.win]; exact mW_ok h.lt _
theorem MInv.first {S : List Bool} {b : Nat} (h : ¬ S.length < b + 64) : MInv S b [vAt S b 64] w0 (b + 64) := by
  refine ⟨?_, by omega, by omega, rfl, fun v hv => ?_⟩
  · have := vAt_bits S b 64 (by omega)
    show bitsN (vAt S b 64) 64 ++ [] = _
    rw [List.append_nil, this, Nat.add_sub_cancel_left]
  · rw [List.mem_singleton] at hv
    rw [hv]; exact vAt_lt S b 64
theorem MInv.last {S : List Bool} {b : Nat} {acc : List Nat} {w : Win} {q : Nat} (h : MInv S b acc w q) : acc.getD (acc.length - 1) 0 < 18446744073709551616 := by
  rw [List.getD_eq_getElem?_getD]
  cases e : acc[acc.length - 1]? with
  | none => simp
  | some y => exact h.lt y (List.mem_of_getElem? e)
/-- The bits of one value more: are they as they would be made? -/
theorem MInv.chk {S : List Bool} {b : Nat} {acc : List Nat} {w : Win} {q : Nat} (h : MInv S b acc w q) (h0 : acc.length ≠ 0) (x m : Nat) : maskB (acc ++ [acc.getD (acc.length - 1) 0 ^^^ x]) = (S.drop b).take (q + m - b) ↔ pBits (mParts w x) = (S.drop q).take m := by
  have hb := h.ble
  rw [maskB_next acc x h0, h.win, h.bits, show q + m - b = (q - b) + m by omega, List.take_add, List.drop_drop, show b + (q - b) = q by omega]
  exact ⟨fun e => List.append_cancel_left e, fun e => by rw [e]⟩
theorem MInv.step {S : List Bool} {b : Nat} {acc : List Nat} {w w' : Win} {q x m : Nat} (h : MInv S b acc w q) (h0 : acc.length ≠ 0) (hp : pBits (mParts w x) = (S.drop q).take m) (hl : q + m ≤ S.length) (hw : mWin w x = w') (hx : x < 18446744073709551616) :
    MInv S b (acc ++ [acc.getD (acc.length - 1) 0 ^^^ x]) w' (q + m) := by
  refine ⟨(h.chk h0 x m).2 hp, by have := h.ble; omega, hl, ?_, fun v hv => ?_⟩
  · rw [List.length_append, List.length_singleton, mW_next acc x h0, h.win, hw]
  · rcases List.mem_append.1 hv with hv | hv
    · exact h.lt v hv
    · rw [List.mem_singleton] at hv
      rw [hv]; exact Nat.xor_lt_two_pow (n := 64) h.last hx
theorem MInv.same {S : List Bool} {b : Nat} {acc : List Nat} {w : Win} {q : Nat} (h : MInv S b acc w q) (h0 : acc.length ≠ 0) (hl : ¬ S.length < q + 1) (hv : vAt S q 1 = 0) : MInv S b (acc ++ [acc.getD (acc.length - 1) 0 ^^^ 0]) w (q + 1) :=
  h.step h0 (by rw [parts_zero, ← vAt_bits S q 1 (by omega), hv]; rfl) (by omega) (by unfold mWin; rw [if_pos rfl]) (by decide)
theorem MInv.old {S : List Bool} {b : Nat} {acc : List Nat} {w : Win} {q : Nat} (h : MInv S b acc w q) (h0 : acc.length ≠ 0) (hd : w.d ≠ 0) (hl : ¬ S.length < q + 2 + w.d) (h1 : vAt S q 1 ≠ 0) (h2 : vAt S (q + 1) 1 ≠ 1) (hx : vAt S (q + 2) w.d * 2 ^ w.t ≠ 0) :
    MInv S b (acc ++ [acc.getD (acc.length - 1) 0 ^^^ vAt S (q + 2) w.d * 2 ^ w.t]) w (q + (2 + w.d)) := by
  have hw : w.Ok := by
    rcases h.wok with e | e
    · rw [e] at hd; exact absurd rfl hd
    · exact e
  have hh := x_hasW hw _ (vAt_lt S (q + 2) w.d) hx
  exact h.step h0 (chk_old hw hl h1 h2 hx) (by omega) (by unfold mWin; rw [if_neg hx, if_pos hh.2]) hh.1
theorem MInv.new {S : List Bool} {b : Nat} {acc : List Nat} {w : Win} {q : Nat} (h : MInv S b acc w q) (h0 : acc.length ≠ 0) (hl : ¬ S.length < q + 13 + (freshW S (q + 2)).d) (h1 : vAt S q 1 ≠ 0) (h2 : vAt S (q + 1) 1 = 1) (h64 : ¬ 64 < vAt S (q + 2) 5 + dAt S (q + 7))
    (hb : ¬ badC true w (freshW S (q + 2)) (vAt S (q + 13) (freshW S (q + 2)).d * 2 ^ (freshW S (q + 2)).t)) :
    MInv S b (acc ++ [acc.getD (acc.length - 1) 0 ^^^ vAt S (q + 13) (freshW S (q + 2)).d * 2 ^ (freshW S (q + 2)).t]) (freshW S (q + 2)) (q + (13 + (freshW S (q + 2)).d)) := by
  have hx : vAt S (q + 13) (freshW S (q + 2)).d * 2 ^ (freshW S (q + 2)).t ≠ 0 := fun e => hb (.inl e)
  have hok : (freshW S (q + 2)).Ok := fresh_ok h64
  have hh := x_hasW hok _ (vAt_lt S (q + 13) _) hx
  refine h.step h0 ((chk_new hl h1 h2 h64 hx).2 hb) (by omega) ?_ hh.1
  unfold mWin
  rw [if_neg hx, if_neg (fun e => hb (.inr ⟨rfl, .inl e⟩))]
  by_cases he : winOf (vAt S (q + 13) (freshW S (q + 2)).d * 2 ^ (freshW S (q + 2)).t) = freshW S (q + 2)
  · exact he
  · exact absurd (.inr ⟨rfl, .inr he⟩) hb
theorem MInv.chg {S : List Bool} {b : Nat} {acc : List Nat} {w w' : Win} {q q' x : Nat} (h : MInv S b acc w q) (h0 : acc.length ≠ 0) (hc : chg S w q = .ok x w' q') : MInv S b (acc ++ [acc.getD (acc.length - 1) 0 ^^^ x]) w' q' := by
  unfold Go.Proofs.YtpbgonpmpjpljaaGreatDoor.chg at hc
  split at hc
  · cases hc
  rename_i a1
  split at hc
  · rename_i a2
    injection hc with e1 e2 e3
    subst e1; subst e2; subst e3
    exact h.same h0 a1 a2
  rename_i a2
  split at hc
  · cases hc
  rename_i a3
  split at hc
  · rename_i a4
    split at hc
    · cases hc
    rename_i a5
    split at hc
    · cases hc
    rename_i a6
    unfold bodyC at hc
    split at hc
    · cases hc
    rename_i a7
    split at hc
    · cases hc
    rename_i a8
    injection hc with e1 e2 e3
    subst e1; subst e2; subst e3
    have := h.new h0 a7 a2 a4 a6 a8
    rw [← Nat.add_assoc] at this
    exact this
  · rename_i a4
    split at hc
    · cases hc
    rename_i a5
    unfold bodyC at hc
    split at hc
    · cases hc
    rename_i a7
    split at hc
    · cases hc
    rename_i a8
    injection hc with e1 e2 e3
    subst e1; subst e2; subst e3
    have := h.old h0 a5 a7 a2 a4 (fun e => a8 (.inl e))
    rw [← Nat.add_assoc] at this
    exact this

end Go.Proofs.YtpbgonpmpjpljaaGreatDoor

namespace Go.Proofs.YtpbgonpmpjpljaaGreatDoor
open Go.RowKit
set_option linter.unusedVariables false

theorem rdM_len {S : List Bool} : ∀ (n : Nat) (acc : List Nat) (w : Win) (q : Nat) (l : List Nat) (p : Nat), rdM S n acc w q = .ok l p → l.length = acc.length + n := by
  intro n
  induction n with
  | zero => intro acc w q l p h; injection h with h1 h2; subst h1; rfl
  | succ n ih =>
    intro acc w q l p h
    simp only [rdM] at h
    split at h
    · rename_i h0
      split at h
      · cases h
      · have := ih _ _ _ _ _ h; rw [List.length_singleton] at this; omega
    · split at h
      · cases h
      · have := ih _ _ _ _ _ h; rw [List.length_append, List.length_singleton] at this; omega
theorem chg_lt {S : List Bool} {w w' : Win} {q q' x : Nat} (hw : w = w0 ∨ w.Ok) (h : chg S w q = .ok x w' q') : x < 18446744073709551616 ∧ (w' = w0 ∨ w'.Ok) := by
  unfold chg at h
  split at h
  · cases h
  split at h
  · injection h with e1 e2 e3
    subst e1; subst e2
    exact ⟨by decide, hw⟩
  split at h
  · cases h
  split at h
  · split at h
    · cases h
    split at h
    · cases h
    rename_i h64
    unfold bodyC at h
    split at h
    · cases h
    split at h
    · cases h
    · rename_i hb
      injection h with e1 e2 e3
      subst e1; subst e2
      exact ⟨(x_hasW (fresh_ok h64) _ (vAt_lt _ _ _) (fun e => hb (.inl e))).1, .inr (fresh_ok h64)⟩
  · split at h
    · cases h
    rename_i hd
    have hok : w.Ok := by
      rcases hw with e | e
      · rw [e] at hd; exact absurd rfl hd
      · exact e
    unfold bodyC at h
    split at h
    · cases h
    split at h
    · cases h
    · rename_i hb
      injection h with e1 e2 e3
      subst e1; subst e2
      exact ⟨(x_hasW hok _ (vAt_lt _ _ _) (fun e => hb (.inl e))).1, hw⟩
end Go.Proofs.YtpbgonpmpjpljaaGreatDoor
