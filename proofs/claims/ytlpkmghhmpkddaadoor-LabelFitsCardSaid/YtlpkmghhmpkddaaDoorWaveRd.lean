/- Reading a wave: plain facts. -/
import Derived.Test.YtlpkmghhmpkddaaDoorWavePut
import Derived.Test.YtlpkmghhmpkddaaDoorTxt
namespace Go.Proofs.YtlpkmghhmpkddaaDoor
open Go.RowKit
set_option linter.unusedVariables false

def headB (k : Nat) : List Bool := match k with | 0 => [false] | 1 => [true, false] | 2 => [true, true, false] | 3 => [true, true, true, false] | _ => [true, true, true, true]
def headL (k : Nat) : Nat := match k with | 0 => 1 | 1 => 2 | 2 => 3 | _ => 4
def wN (k : Nat) : Nat := match k with | 0 => 0 | 1 => 7 | 2 => 9 | 3 => 12 | _ => 64
theorem wN_wide (k : Nat) : ((wN k : Nat) : Int) = wideK k := by
  match k with
  | 0 => rfl
  | 1 => rfl
  | 2 => rfl
  | 3 => rfl
  | k + 4 => rfl
theorem wN_le (k : Nat) : wN k ≤ 64 := by unfold wN; split <;> omega
theorem headL_eq (k : Nat) : ((headL k : Nat) : Int) = headN k := by
  match k with
  | 0 => rfl
  | 1 => rfl
  | 2 => rfl
  | k + 3 => rfl
theorem headL_bd (k : Nat) : 1 ≤ headL k ∧ headL k ≤ 4 := by unfold headL; split <;> omega
theorem headB_len (k : Nat) : (headB k).length = headL k := by
  unfold headB headL
  match k with
  | 0 => rfl
  | 1 => rfl
  | 2 => rfl
  | 3 => rfl
  | k + 4 => rfl
theorem headB_bits (k : Nat) (hk : k ≤ 4) : bitsN (headV k).toNat (headN k).toNat = headB k := by
  match k, hk with
  | 0, _ => decide
  | 1, _ => decide
  | 2, _ => decide
  | 3, _ => decide
  | 4, _ => decide
theorem waveBits_eq (n : Int) : waveBits n = headB (ofK n) ++ bitsN (waveV n).toNat (wN (ofK n)) := by
  unfold waveBits
  rw [headB_bits _ (ofK_le n), ← wN_wide, Int.toNat_natCast]

theorem valN_cons (b : Bool) (l : List Bool) : valN (b :: l) = b.toNat * 2 ^ l.length + valN l := by
  induction l using snoc_ind with
  | h0 => simp [valN]
  | h1 l c ih =>
    have e : b :: (l ++ [c]) = (b :: l) ++ [c] := rfl
    rw [e, valN_snoc, valN_snoc, ih, List.length_append, List.length_singleton, Nat.pow_succ]
    have : b.toNat * (2 ^ l.length * 2) = 2 * (b.toNat * 2 ^ l.length) := by rw [← Nat.mul_assoc, Nat.mul_comm]
    omega
theorem valN_bitsN (v : Nat) : ∀ n : Nat, valN (bitsN v n) = v % 2 ^ n := by
  intro n
  induction n with
  | zero => simp [bitsN, valN, Nat.mod_one]
  | succ n ih =>
    rw [bitsN_succ, valN_cons, ih, bitsN_len, testBit_q, Nat.pow_succ, Nat.mod_mul]
    rw [Nat.mul_comm, Nat.add_comm]
theorem bitsN_mod (v n : Nat) : bitsN (v % 2 ^ n) n = bitsN v n := by
  unfold bitsN
  apply List.map_congr_left
  intro j hj
  have := List.mem_range.1 hj
  rw [Nat.testBit_mod_two_pow]
  have h : n - 1 - j < n := by omega
  simp [h]
theorem bitsN_valN (l : List Bool) : bitsN (valN l) l.length = l := by
  induction l with
  | nil => rfl
  | cons b l ih =>
    rw [List.length_cons, bitsN_succ, valN_cons]
    have hlt := valN_lt l
    have h1 : (b.toNat * 2 ^ l.length + valN l).testBit l.length = b := by
      rw [Nat.testBit_eq_decide_div_mod_eq, Nat.mul_comm, Nat.mul_add_div (Nat.two_pow_pos _), Nat.div_eq_of_lt hlt]
      cases b <;> simp
    have h2 : bitsN (b.toNat * 2 ^ l.length + valN l) l.length = l := by
      rw [← bitsN_mod, Nat.mul_comm, Nat.mul_add_mod, Nat.mod_eq_of_lt hlt, ih]
    rw [h1, h2]

/-- The number of form k whose own bits tell v. -/
def numW (k v : Nat) : Int := match k with | 0 => (v : Int) | 1 => (v : Int) - 63 | 2 => (v : Int) - 255 | 3 => (v : Int) - 2047 | _ => if v < 9223372036854775808 then (v : Int) else (v : Int) - 18446744073709551616
theorem head_ne {j k : Nat} (hj : j ≤ 4) (hk : k ≤ 4) (a b : List Bool) (h : headB j ++ a = headB k ++ b) : j = k := by
  match j, k, hj, hk with
  | 0, 0, _, _ => rfl
  | 1, 1, _, _ => rfl
  | 2, 2, _, _ => rfl
  | 3, 3, _, _ => rfl
  | 4, 4, _, _ => rfl
  | 0, 1, _, _ | 0, 2, _, _ | 0, 3, _, _ | 0, 4, _, _ => simp [headB] at h
  | 1, 0, _, _ | 1, 2, _, _ | 1, 3, _, _ | 1, 4, _, _ => simp [headB] at h
  | 2, 0, _, _ | 2, 1, _, _ | 2, 3, _, _ | 2, 4, _, _ => simp [headB] at h
  | 3, 0, _, _ | 3, 1, _, _ | 3, 2, _, _ | 3, 4, _, _ => simp [headB] at h
  | 4, 0, _, _ | 4, 1, _, _ | 4, 2, _, _ | 4, 3, _, _ => simp [headB] at h
theorem waveV_num (k v : Nat) (hk : k ≤ 4) (hv : v < 2 ^ wN k) (h : ofK (numW k v) = k) : (waveV (numW k v)).toNat = v := by
  unfold waveV
  rw [h]
  match k, hk with
  | 0, _ => simp [wN] at hv; subst hv; rfl
  | 1, _ => simp [numW, mostW, wideK]
  | 2, _ => simp [numW, mostW, wideK]
  | 3, _ => simp [numW, mostW, wideK]
  | 4, _ =>
    have hv' : v < 18446744073709551616 := by simpa [wN] using hv
    rw [if_pos (Or.inr rfl)]
    simp only [numW]
    split <;> omega
/-- Of form k with its own bits B: it is the wave of its number just if the number's form is k. -/
theorem wave_iff (k : Nat) (B : List Bool) (hk : k ≤ 4) (hB : B.length = wN k) : waveBits (numW k (valN B)) = headB k ++ B ↔ ofK (numW k (valN B)) = k := by
  constructor
  · intro h
    rw [waveBits_eq] at h
    exact head_ne (ofK_le _) hk _ _ h
  · intro h
    rw [waveBits_eq, h, waveV_num k _ hk (by rw [← hB]; exact valN_lt B) h, ← hB, bitsN_valN]
theorem numW_range (k v : Nat) (hv : v < 18446744073709551616) (h3 : k < 4 → v < 4096) : -9223372036854775808 ≤ numW k v ∧ numW k v ≤ 9223372036854775807 := by
  unfold numW
  split
  · have := h3 (by omega); omega
  · have := h3 (by omega); omega
  · have := h3 (by omega); omega
  · have := h3 (by omega); omega
  · split <;> omega

inductive WRes where
  | none : WRes
  | bad : WRes
  | ok (n : Int) (m : Nat) : WRes
/-- How many bits are 1 from place p on, at most f; none: the bits end ahead of a 0. -/
def onesFrom (S : List Bool) : (p f : Nat) → Option Nat
  | p, 0 => some 0
  | p, f + 1 => match S[p]? with | none => none | some false => some 0 | some true => (onesFrom S (p + 1) f).map (· + 1)
def bodyW (S : List Bool) (p k : Nat) : List Bool := (S.drop (p + headL k)).take (wN k)
def getW (S : List Bool) (p : Nat) : WRes := match onesFrom S p 4 with
  | none => .none
  | some k => if S.length < p + headL k + wN k then .none else if ofK (numW k (valN (bodyW S p k))) = k then .ok (numW k (valN (bodyW S p k))) (headL k + wN k) else .bad
theorem ones_stop (S : List Bool) : ∀ (f p j : Nat), j < f → (∀ i, i < j → S[p + i]? = some true) → S[p + j]? = some false → onesFrom S p f = some j := by
  intro f
  induction f with
  | zero => intro p j h; omega
  | succ f ih =>
    intro p j h h1 h2
    cases j with
    | zero => simp only [onesFrom]; rw [Nat.add_zero] at h2; rw [h2]
    | succ j =>
      have h0 := h1 0 (by omega)
      rw [Nat.add_zero] at h0
      have := ih (p + 1) j (by omega) (fun i hi => by have := h1 (i + 1) (by omega); rwa [show p + 1 + i = p + (i + 1) by omega]) (by rwa [show p + 1 + j = p + (j + 1) by omega])
      simp only [onesFrom, h0, this, Option.map_some]
theorem ones_all (S : List Bool) : ∀ (f p : Nat), (∀ i, i < f → S[p + i]? = some true) → onesFrom S p f = some f := by
  intro f
  induction f with
  | zero => intro p _; rfl
  | succ f ih =>
    intro p h1
    have h0 := h1 0 (by omega)
    rw [Nat.add_zero] at h0
    have := ih (p + 1) (fun i hi => by have := h1 (i + 1) (by omega); rwa [show p + 1 + i = p + (i + 1) by omega])
    simp only [onesFrom, h0, this, Option.map_some]
theorem ones_out (S : List Bool) : ∀ (f p j : Nat), j < f → (∀ i, i < j → S[p + i]? = some true) → S[p + j]? = none → onesFrom S p f = none := by
  intro f
  induction f with
  | zero => intro p j h; omega
  | succ f ih =>
    intro p j h h1 h2
    cases j with
    | zero => simp only [onesFrom]; rw [Nat.add_zero] at h2; rw [h2]
    | succ j =>
      have h0 := h1 0 (by omega)
      rw [Nat.add_zero] at h0
      have := ih (p + 1) j (by omega) (fun i hi => by have := h1 (i + 1) (by omega); rwa [show p + 1 + i = p + (i + 1) by omega]) (by rwa [show p + 1 + j = p + (j + 1) by omega])
      simp only [onesFrom, h0, this, Option.map_none]
/-- What getW is where k bits are 1 and then comes a 0, or four are. -/
theorem getW_of {S : List Bool} {p k : Nat} (h : onesFrom S p 4 = some k) :
    getW S p = if S.length < p + headL k + wN k then .none else if ofK (numW k (valN (bodyW S p k))) = k then .ok (numW k (valN (bodyW S p k))) (headL k + wN k) else .bad := by
  unfold getW; rw [h]
theorem getW_none {S : List Bool} {p : Nat} (h : onesFrom S p 4 = none) : getW S p = .none := by unfold getW; rw [h]
theorem bodyW_len {S : List Bool} {p k : Nat} (h : ¬ S.length < p + headL k + wN k) : (bodyW S p k).length = wN k := by
  unfold bodyW; rw [List.length_take, List.length_drop]; omega
/-- The head and the body, as they lie in the bits. -/
theorem piece_eq {S : List Bool} {p k : Nat} (hk : k ≤ 4) (h1 : ∀ i, i < k → S[p + i]? = some true) (h2 : k = 4 ∨ S[p + k]? = some false) (h3 : ¬ S.length < p + headL k + wN k) : (S.drop p).take (headL k + wN k) = headB k ++ bodyW S p k := by
  have hh : (S.drop p).take (headL k) = headB k := by
    apply List.ext_getElem?
    intro i
    rw [List.getElem?_take]
    split
    · rename_i hi
      rw [List.getElem?_drop]
      match k, hk with
      | 0, _ => 
        have e : i = 0 := by simp [headL] at hi; omega
        subst e; rcases h2 with h2 | h2; omega; simpa [headB] using h2
      | 1, _ =>
        rcases h2 with h2 | h2
        · omega
        · have e : i = 0 ∨ i = 1 := by simp [headL] at hi; omega
          rcases e with rfl | rfl
          · simpa [headB] using h1 0 (by omega)
          · simpa [headB] using h2
      | 2, _ =>
        rcases h2 with h2 | h2
        · omega
        · have e : i = 0 ∨ i = 1 ∨ i = 2 := by simp [headL] at hi; omega
          rcases e with rfl | rfl | rfl
          · simpa [headB] using h1 0 (by omega)
          · simpa [headB] using h1 1 (by omega)
          · simpa [headB] using h2
      | 3, _ =>
        rcases h2 with h2 | h2
        · omega
        · have e : i = 0 ∨ i = 1 ∨ i = 2 ∨ i = 3 := by simp [headL] at hi; omega
          rcases e with rfl | rfl | rfl | rfl
          · simpa [headB] using h1 0 (by omega)
          · simpa [headB] using h1 1 (by omega)
          · simpa [headB] using h1 2 (by omega)
          · simpa [headB] using h2
      | 4, _ =>
        have e : i = 0 ∨ i = 1 ∨ i = 2 ∨ i = 3 := by simp [headL] at hi; omega
        rcases e with rfl | rfl | rfl | rfl
        · simpa [headB] using h1 0 (by omega)
        · simpa [headB] using h1 1 (by omega)
        · simpa [headB] using h1 2 (by omega)
        · simpa [headB] using h1 3 (by omega)
    · rename_i hi
      rw [List.getElem?_eq_none (by rw [headB_len]; omega)]
  rw [List.take_add, hh, List.drop_drop]; rfl
/-- The wave of a number is read as that number. -/
theorem getW_wave (a c : List Bool) (n : Int) (hn : -9223372036854775808 ≤ n ∧ n ≤ 9223372036854775807) : getW (a ++ (waveBits n ++ c)) a.length = .ok n (sizeN n).toNat := by
  have hk := ofK_le n
  have he := waveBits_eq n
  have hlen : (waveBits n).length = headL (ofK n) + wN (ofK n) := by rw [he, List.length_append, headB_len, bitsN_len]
  have hsz : (sizeN n).toNat = headL (ofK n) + wN (ofK n) := by have := waveBits_len n; omega
  have hget : ∀ i, i < headL (ofK n) → (a ++ (waveBits n ++ c))[a.length + i]? = (headB (ofK n))[i]? := by
    intro i hi
    rw [List.getElem?_append_right (by omega), Nat.add_sub_cancel_left, he, List.append_assoc, List.getElem?_append_left (by rw [headB_len]; exact hi)]
  have hones : onesFrom (a ++ (waveBits n ++ c)) a.length 4 = some (ofK n) := by
    generalize ofK n = k at hk hget
    match k, hk with
    | 0, _ => exact ones_stop _ 4 _ 0 (by omega) (by omega) (hget 0 (by decide))
    | 1, _ => exact ones_stop _ 4 _ 1 (by omega) (fun i hi => by obtain rfl : i = 0 := by omega
                                                                 exact hget 0 (by decide)) (hget 1 (by decide))
    | 2, _ => exact ones_stop _ 4 _ 2 (by omega) (fun i hi => by
        have e : i = 0 ∨ i = 1 := by omega
        rcases e with rfl | rfl
        · exact hget 0 (by decide)
        · exact hget 1 (by decide)) (hget 2 (by decide))
    | 3, _ => exact ones_stop _ 4 _ 3 (by omega) (fun i hi => by
        have e : i = 0 ∨ i = 1 ∨ i = 2 := by omega
        rcases e with rfl | rfl | rfl
        · exact hget 0 (by decide)
        · exact hget 1 (by decide)
        · exact hget 2 (by decide)) (hget 3 (by decide))
    | 4, _ => exact ones_all _ 4 _ (fun i hi => by
        have e : i = 0 ∨ i = 1 ∨ i = 2 ∨ i = 3 := by omega
        rcases e with rfl | rfl | rfl | rfl
        · exact hget 0 (by decide)
        · exact hget 1 (by decide)
        · exact hget 2 (by decide)
        · exact hget 3 (by decide))
  have hbody : bodyW (a ++ (waveBits n ++ c)) a.length (ofK n) = bitsN (waveV n).toNat (wN (ofK n)) := by
    unfold bodyW
    rw [List.drop_append, List.drop_eq_nil_of_le (by omega), List.nil_append, Nat.add_sub_cancel_left, he, List.append_assoc, List.drop_append, List.drop_eq_nil_of_le (by rw [headB_len]; omega), List.nil_append, headB_len, Nat.sub_self, List.drop_zero,
      List.take_append_of_le_length (by rw [bitsN_len]; omega), List.take_of_length_le (by rw [bitsN_len]; omega)]
  have hnum : numW (ofK n) (valN (bitsN (waveV n).toNat (wN (ofK n)))) = n := by
    rw [valN_bitsN]
    have hv := waveV_bd n
    have hm : (waveV n).toNat % 2 ^ wN (ofK n) = (waveV n).toNat := by
      apply Nat.mod_eq_of_lt
      unfold waveV wN
      by_cases h0 : ofK n = 0
      · have : n = 0 := by unfold ofK at h0; split at h0 <;> first | assumption | (repeat' split at h0) <;> omega
        rw [h0]; simp [this]
      by_cases h4 : ofK n = 4
      · rw [h4]; simp; omega
      have hmf := mid_facts n ⟨by omega, by omega⟩
      rw [if_neg (by omega)]
      have h123 : ofK n = 1 ∨ ofK n = 2 ∨ ofK n = 3 := by omega
      rcases h123 with h | h | h <;> rw [h] at hmf ⊢ <;> simp [mostW, wideK] at hmf ⊢ <;> omega
    rw [hm]
    unfold numW waveV
    by_cases h0 : ofK n = 0
    · have : n = 0 := by unfold ofK at h0; split at h0 <;> first | assumption | (repeat' split at h0) <;> omega
      rw [h0]; simp [this]
    by_cases h4 : ofK n = 4
    · rw [h4]; simp; split <;> omega
    have hmf := mid_facts n ⟨by omega, by omega⟩
    rw [if_neg (by omega)]
    have h123 : ofK n = 1 ∨ ofK n = 2 ∨ ofK n = 3 := by omega
    rcases h123 with h | h | h <;> rw [h] at hmf ⊢ <;> simp [mostW, wideK] at hmf ⊢ <;> omega
  rw [getW_of hones, if_neg (by rw [List.length_append, List.length_append, hlen]; omega), hbody, hnum, if_pos rfl, hsz]

theorem b8_table : ∀ (j : Fin 8) (a b c d e f g h : Bool), (a.toNat * 128 + b.toNat * 64 + c.toNat * 32 + d.toNat * 16 + e.toNat * 8 + f.toNat * 4 + g.toNat * 2 + h.toNat).testBit (7 - j.val) = [a, b, c, d, e, f, g, h].getD j.val false := by decide +kernel
theorem b8_bit (f : Nat → Bool) (j : Nat) (hj : j < 8) : (b8 f).testBit (7 - j) = f j := by
  have := b8_table ⟨j, hj⟩ (f 0) (f 1) (f 2) (f 3) (f 4) (f 5) (f 6) (f 7)
  unfold b8
  simp only at this
  rw [this]
  match j, hj with
  | 0, _ => rfl
  | 1, _ => rfl
  | 2, _ => rfl
  | 3, _ => rfl
  | 4, _ => rfl
  | 5, _ => rfl
  | 6, _ => rfl
  | 7, _ => rfl
/-- The bits of a row's bytes begin with the row's own bits. -/
theorem rbits_pack (l : List Bool) : (rbits (packN l)).take l.length = l := by
  apply List.ext_getElem?
  intro p
  rw [List.getElem?_take]
  split
  · rename_i hp
    have hi : p / 8 < (packN l).length := by rw [packN_len]; omega
    have hx : (packN l)[p / 8]? = some (byteAt l (p / 8)) := by
      rw [List.getElem?_eq_getElem hi]; simp [packN]
    rw [rbits_get _ p _ hx, byteAt, b8_bit _ _ (by omega), List.getD_eq_getElem?_getD]
    rw [show 8 * (p / 8) + p % 8 = p by omega, List.getElem?_eq_getElem hp]; rfl
  · rename_i hp
    rw [List.getElem?_eq_none (by omega)]
end Go.Proofs.YtlpkmghhmpkddaaDoor
