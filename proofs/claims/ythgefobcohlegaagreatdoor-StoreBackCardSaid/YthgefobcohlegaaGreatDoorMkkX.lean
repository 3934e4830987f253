/- math/bits by contracts: Len64, LeadingZeros64, TrailingZeros64 (by its table); package mask's windows: of, has. -/
import Derived.Test.YthgefobcohlegaaGreatDoorProg
import Derived.Test.YthgefobcohlegaaGreatDoorBaseX
import Derived.Test.YthgefobcohlegaaGreatDoorLen64X
import Derived.Lib.TrailingZeros
import Derived.Laws.Bits64b
import Derived.Test.YthgefobcohlegaaGreatDoorMkdX
import Derived.Test.YthgefobcohlegaaGreatDoorMkbX
import Derived.BigQuiet
namespace Go.Proofs.YthgefobcohlegaaGreatDoor
open Go.RowKit
set_option linter.unusedVariables false

/-- The number of zeros at the head of 64 bits. -/
def lzN (x : Nat) : Nat := 64 - Lib.bitLen x
theorem bitLen_64 (x : Nat) (h : x < 18446744073709551616) : Lib.bitLen x ≤ 64 := Lib.bitLen_le x 64 (Nat.le_refl _) h
theorem lz_any (x : Nat) (w : World) (h : x < 18446744073709551616) :
    Calls Tryz.prog 220 #[.int .u64 (x : Int)] w fun e w' => e = .returned (.int .i64 (lzN x)) ∧ w' = w := by
  have l := bitLen_64 x h
  have e8 : 64 - (Lib.bitLen x : Int) = (lzN x : Int) := by unfold lzN; omega
  have E8 := Lib.hid e8
  clear e8
  have hc := len64_int (x : Int) w (by omega) (by omega)
  rw [show ((x : Int)).toNat = x from rfl] at hc
  have Hc := Lib.hid hc
  clear hc
  go_enter Tryz.func220, Tryz.ntmps220
  go_wp2_with fail
  refine Hc.out.mono ?_
  rintro e w' ⟨rfl, rfl⟩
  go_wp2
  go_ret
  exact ⟨congrArg (fun z => Ending.returned (Value.int IntKind.i64 z)) E8.out, rfl⟩

def TabAt (w : World) : Prop := ∀ j, j < 64 → w.cell? ⟨19, j, none⟩ = some (.int .u8 (Lib.deBruijn64tab.getD j 0 : Nat))
theorem TabAt.below {w w' : World} {B : Nat} (h : TabAt w) (hb : Below B w w') (hB : 19 < B) : TabAt w' := fun j hj => (hb.cell (p := ⟨19, j, none⟩) hB).trans (h j hj)

theorem tz_core (x k idx : Nat) (w : World) (hx0 : ((x : Int) == 0) = false)
    (key : IntKind.u64.wrap (bits BinOp.and IntKind.u64 (x : Int) (IntKind.u64.wrap (-(x : Int))) * 285870213051353865) / 288230376151711744 = (idx : Int))
    (hi : idx < 64) (hk : k < 64) (hcell : w.cell? ⟨19, idx, none⟩ = some (.int .u8 k)) :
    Calls Tryz.prog 217 #[.int .u64 x] w fun e w' => e = .returned (.int .i64 k) ∧ w' = w := by
  go_enter Tryz.func217, Tryz.ntmps217
  go_wp2_with (simp only [key])
  go_ret
  exact ⟨rfl, rfl⟩
theorem tz_zero (w : World) : Calls Tryz.prog 217 #[.int .u64 0] w fun e w' => e = .returned (.int .i64 64) ∧ w' = w := by
  go_enter Tryz.func217, Tryz.ntmps217
  go_wp2
  go_ret
  exact ⟨rfl, rfl⟩
theorem tz_key (x a : Nat) (hx : x < 18446744073709551616) (hx0 : x ≠ 0) (hlow : x &&& (18446744073709551616 - x) = a) :
    IntKind.u64.wrap (bits BinOp.and IntKind.u64 (x : Int) (IntKind.u64.wrap (-(x : Int))) * 285870213051353865) / 288230376151711744 = ((a * 285870213051353865 % 18446744073709551616 / 288230376151711744 : Nat) : Int) := by
  have e1 : IntKind.u64.wrap (-(x : Int)) = ((18446744073709551616 - x : Nat) : Int) := by rw [IntKind.wrap_u64]; omega
  rw [e1, bits_and_u64_nat x _ hx (by omega), hlow, IntKind.wrap_u64]
  omega
/-- The number of zeros behind. -/
def tzN (x : Nat) : Nat := Lib.ctz 64 x
theorem tz_any (x : Nat) (w : World) (hx : x < 18446744073709551616) (hT : TabAt w) :
    Calls Tryz.prog 217 #[.int .u64 (x : Int)] w fun e w' => e = .returned (.int .i64 (tzN x)) ∧ w' = w := by
  by_cases hx0 : x = 0
  · subst hx0
    exact tz_zero w
  · obtain ⟨hlow, hk⟩ := Lib.lowest_bit 64 x hx0 hx
    obtain ⟨hi, htab⟩ := Lib.deBruijn64_at _ hk
    have hcell := hT _ hi
    rw [htab] at hcell
    exact tz_core x _ _ w (by simp; omega) (tz_key x _ hx hx0 hlow) hi hk hcell
end Go.Proofs.YthgefobcohlegaaGreatDoor

namespace Go.Proofs.YthgefobcohlegaaGreatDoor
open Go.RowKit
set_option linter.unusedVariables false

def headB (k : Nat) : List Bool := match k with | 0 => [false] | 1 => [true, false] | 2 => [true, true, false] | 3 => [true, true, true, false] | _ => [true, true, true, true]
def headL (k : Nat) : Nat := match k with | 0 => 1 | 1 => 2 | 2 => 3 | _ => 4
def wN (k : Nat) : Nat := match k with | 0 => 0 | 1 => 7 | 2 => 9 | 3 => 12 | _ => 64
theorem wN_wide (k : Nat) : ((wN k : Nat) : Int) = wideK k := by
  match k with
  | 0 => rfl
  | 1 => rfl
  | 2 => rfl
  | 3 => rfl
  | k + 4 => rfl
theorem wN_le (k : Nat) : wN k ≤ 64 := by unfold wN; split <;> omega
theorem headB_len (k : Nat) : (headB k).length = headL k := by
  unfold headB headL
  match k with
  | 0 => rfl
  | 1 => rfl
  | 2 => rfl
  | 3 => rfl
  | k + 4 => rfl
theorem headB_bits (k : Nat) (hk : k ≤ 4) : bitsN (headV k).toNat (headN k).toNat = headB k := by
  match k, hk with
  | 0, _ => decide
  | 1, _ => decide
  | 2, _ => decide
  | 3, _ => decide
  | 4, _ => decide
theorem waveBits_eq (n : Int) : waveBits n = headB (ofK n) ++ bitsN (waveV n).toNat (wN (ofK n)) := by
  unfold waveBits
  rw [headB_bits _ (ofK_le n), ← wN_wide, Int.toNat_natCast]

theorem valN_cons (b : Bool) (l : List Bool) : valN (b :: l) = b.toNat * 2 ^ l.length + valN l := by
  induction l using snoc_ind with
  | h0 => simp [valN]
  | h1 l c ih =>
    have e : b :: (l ++ [c]) = (b :: l) ++ [c] := rfl
    rw [e, valN_snoc, valN_snoc, ih, List.length_append, List.length_singleton, Nat.pow_succ]
    have : b.toNat * (2 ^ l.length * 2) = 2 * (b.toNat * 2 ^ l.length) := by rw [← Nat.mul_assoc, Nat.mul_comm]
    omega
theorem valN_bitsN (v : Nat) : ∀ n : Nat, valN (bitsN v n) = v % 2 ^ n := by
  intro n
  induction n with
  | zero => simp [bitsN, valN, Nat.mod_one]
  | succ n ih =>
    rw [bitsN_succ, valN_cons, ih, bitsN_len, testBit_q, Nat.pow_succ, Nat.mod_mul]
    rw [Nat.mul_comm, Nat.add_comm]
theorem bitsN_mod (v n : Nat) : bitsN (v % 2 ^ n) n = bitsN v n := by
  unfold bitsN
  apply List.map_congr_left
  intro j hj
  have := List.mem_range.1 hj
  rw [Nat.testBit_mod_two_pow]
  have h : n - 1 - j < n := by omega
  simp [h]
theorem bitsN_valN (l : List Bool) : bitsN (valN l) l.length = l := by
  induction l with
  | nil => rfl
  | cons b l ih =>
    rw [List.length_cons, bitsN_succ, valN_cons]
    have hlt := valN_lt l
    have h1 : (b.toNat * 2 ^ l.length + valN l).testBit l.length = b := by
      rw [Nat.testBit_eq_decide_div_mod_eq, Nat.mul_comm, Nat.mul_add_div (Nat.two_pow_pos _), Nat.div_eq_of_lt hlt]
      cases b <;> simp
    have h2 : bitsN (b.toNat * 2 ^ l.length + valN l) l.length = l := by
      rw [← bitsN_mod, Nat.mul_comm, Nat.mul_add_mod, Nat.mod_eq_of_lt hlt, ih]
    rw [h1, h2]

/-- The number of form k whose own bits tell v. -/
def numW (k v : Nat) : Int := match k with | 0 => (v : Int) | 1 => (v : Int) - 63 | 2 => (v : Int) - 255 | 3 => (v : Int) - 2047 | _ => if v < 9223372036854775808 then (v : Int) else (v : Int) - 18446744073709551616
inductive WRes where
  | none : WRes
  | bad : WRes
  | ok (n : Int) (m : Nat) : WRes
/-- How many bits are 1 from place p on, at most f; none: the bits end ahead of a 0. -/
def onesFrom (S : List Bool) : (p f : Nat) → Option Nat
  | p, 0 => some 0
  | p, f + 1 => match S[p]? with | none => none | some false => some 0 | some true => (onesFrom S (p + 1) f).map (· + 1)
def bodyW (S : List Bool) (p k : Nat) : List Bool := (S.drop (p + headL k)).take (wN k)
def getW (S : List Bool) (p : Nat) : WRes := match onesFrom S p 4 with
  | none => .none
  | some k => if S.length < p + headL k + wN k then .none else if ofK (numW k (valN (bodyW S p k))) = k then .ok (numW k (valN (bodyW S p k))) (headL k + wN k) else .bad
theorem ones_stop (S : List Bool) : ∀ (f p j : Nat), j < f → (∀ i, i < j → S[p + i]? = some true) → S[p + j]? = some false → onesFrom S p f = some j := by
  intro f
  induction f with
  | zero => intro p j h; omega
  | succ f ih =>
    intro p j h h1 h2
    cases j with
    | zero => simp only [onesFrom]; rw [Nat.add_zero] at h2; rw [h2]
    | succ j =>
      have h0 := h1 0 (by omega)
      rw [Nat.add_zero] at h0
      have := ih (p + 1) j (by omega) (fun i hi => by have := h1 (i + 1) (by omega); rwa [show p + 1 + i = p + (i + 1) by omega]) (by rwa [show p + 1 + j = p + (j + 1) by omega])
      simp only [onesFrom, h0, this, Option.map_some]
theorem ones_all (S : List Bool) : ∀ (f p : Nat), (∀ i, i < f → S[p + i]? = some true) → onesFrom S p f = some f := by
  intro f
  induction f with
  | zero => intro p _; rfl
  | succ f ih =>
    intro p h1
    have h0 := h1 0 (by omega)
    rw [Nat.add_zero] at h0
    have := ih (p + 1) (fun i hi => by have := h1 (i + 1) (by omega); rwa [show p + 1 + i = p + (i + 1) by omega])
    simp only [onesFrom, h0, this, Option.map_some]
theorem ones_out (S : List Bool) : ∀ (f p j : Nat), j < f → (∀ i, i < j → S[p + i]? = some true) → S[p + j]? = none → onesFrom S p f = none := by
  intro f
  induction f with
  | zero => intro p j h; omega
  | succ f ih =>
    intro p j h h1 h2
    cases j with
    | zero => simp only [onesFrom]; rw [Nat.add_zero] at h2; rw [h2]
    | succ j =>
      have h0 := h1 0 (by omega)
      rw [Nat.add_zero] at h0
      have := ih (p + 1) j (by omega) (fun i hi => by have := h1 (i + 1) (by omega); rwa [show p + 1 + i = p + (i + 1) by omega]) (by rwa [show p + 1 + j = p + (j + 1) by omega])
      simp only [onesFrom, h0, this, Option.map_none]
/-- What getW is where k bits are 1 and then comes a 0, or four are. -/
theorem getW_of {S : List Bool} {p k : Nat} (h : onesFrom S p 4 = some k) :
    getW S p = if S.length < p + headL k + wN k then .none else if ofK (numW k (valN (bodyW S p k))) = k then .ok (numW k (valN (bodyW S p k))) (headL k + wN k) else .bad := by
  unfold getW; rw [h]
theorem getW_none {S : List Bool} {p : Nat} (h : onesFrom S p 4 = none) : getW S p = .none := by unfold getW; rw [h]
theorem bodyW_len {S : List Bool} {p k : Nat} (h : ¬ S.length < p + headL k + wN k) : (bodyW S p k).length = wN k := by
  unfold bodyW; rw [List.length_take, List.length_drop]; omega
/-- The wave of a number is read as that number. -/
theorem getW_wave (a c : List Bool) (n : Int) (hn : -9223372036854775808 ≤ n ∧ n ≤ 9223372036854775807) : getW (a ++ (waveBits n ++ c)) a.length = .ok n (sizeN n).toNat := by
  have hk := ofK_le n
  have he := waveBits_eq n
  have hlen : (waveBits n).length = headL (ofK n) + wN (ofK n) := by rw [he, List.length_append, headB_len, bitsN_len]
  have hsz : (sizeN n).toNat = headL (ofK n) + wN (ofK n) := by have := waveBits_len n; omega
  have hget : ∀ i, i < headL (ofK n) → (a ++ (waveBits n ++ c))[a.length + i]? = (headB (ofK n))[i]? := by
    intro i hi
    rw [List.getElem?_append_right (by omega), Nat.add_sub_cancel_left, he, List.append_assoc, List.getElem?_append_left (by rw [headB_len]; exact hi)]
  have hones : onesFrom (a ++ (waveBits n ++ c)) a.length 4 = some (ofK n) := by
    generalize ofK n = k at hk hget
    match k, hk with
    | 0, _ => exact ones_stop _ 4 _ 0 (by omega) (by omega) (hget 0 (by decide))
    | 1, _ => exact ones_stop _ 4 _ 1 (by omega) (fun i hi => by obtain rfl : i = 0 := by omega
                                                                 exact hget 0 (by decide)) (hget 1 (by decide))
    | 2, _ => exact ones_stop _ 4 _ 2 (by omega) (fun i hi => by
        have e : i = 0 ∨ i = 1 := by omega
        rcases e with rfl | rfl
        · exact hget 0 (by decide)
        · exact hget 1 (by decide)) (hget 2 (by decide))
    | 3, _ => exact ones_stop _ 4 _ 3 (by omega) (fun i hi => by
        have e : i = 0 ∨ i = 1 ∨ i = 2 := by omega
        rcases e with rfl | rfl | rfl
        · exact hget 0 (by decide)
        · exact hget 1 (by decide)
        · exact hget 2 (by decide)) (hget 3 (by decide))
    | 4, _ => exact ones_all _ 4 _ (fun i hi => by
        have e : i = 0 ∨ i = 1 ∨ i = 2 ∨ i = 3 := by omega
        rcases e with rfl | rfl | rfl | rfl
        · exact hget 0 (by decide)
        · exact hget 1 (by decide)
        · exact hget 2 (by decide)
        · exact hget 3 (by decide))
  have hbody : bodyW (a ++ (waveBits n ++ c)) a.length (ofK n) = bitsN (waveV n).toNat (wN (ofK n)) := by
    unfold bodyW
    rw [List.drop_append, List.drop_eq_nil_of_le (by omega), List.nil_append, Nat.add_sub_cancel_left, he, List.append_assoc, List.drop_append, List.drop_eq_nil_of_le (by rw [headB_len]; omega), List.nil_append, headB_len, Nat.sub_self, List.drop_zero,
      List.take_append_of_le_length (by rw [bitsN_len]; omega), List.take_of_length_le (by rw [bitsN_len]; omega)]
  have hnum : numW (ofK n) (valN (bitsN (waveV n).toNat (wN (ofK n)))) = n := by
    rw [valN_bitsN]
    have hv := waveV_bd n
    have hm : (waveV n).toNat % 2 ^ wN (ofK n) = (waveV n).toNat := by
      apply Nat.mod_eq_of_lt
      unfold waveV wN
      by_cases h0 : ofK n = 0
      · have : n = 0 := by unfold ofK at h0; split at h0 <;> first | assumption | (repeat' split at h0) <;> omega
        rw [h0]; simp [this]
      by_cases h4 : ofK n = 4
      · rw [h4]; simp; omega
      have hmf := mid_facts n ⟨by omega, by omega⟩
      rw [if_neg (by omega)]
      have h123 : ofK n = 1 ∨ ofK n = 2 ∨ ofK n = 3 := by omega
      rcases h123 with h | h | h <;> rw [h] at hmf ⊢ <;> simp [mostW, wideK] at hmf ⊢ <;> omega
    rw [hm]
    unfold numW waveV
    by_cases h0 : ofK n = 0
    · have : n = 0 := by unfold ofK at h0; split at h0 <;> first | assumption | (repeat' split at h0) <;> omega
      rw [h0]; simp [this]
    by_cases h4 : ofK n = 4
    · rw [h4]; simp; split <;> omega
    have hmf := mid_facts n ⟨by omega, by omega⟩
    rw [if_neg (by omega)]
    have h123 : ofK n = 1 ∨ ofK n = 2 ∨ ofK n = 3 := by omega
    rcases h123 with h | h | h <;> rw [h] at hmf ⊢ <;> simp [mostW, wideK] at hmf ⊢ <;> omega
  rw [getW_of hones, if_neg (by rw [List.length_append, List.length_append, hlen]; omega), hbody, hnum, if_pos rfl, hsz]

theorem b8_table : ∀ (j : Fin 8) (a b c d e f g h : Bool), (a.toNat * 128 + b.toNat * 64 + c.toNat * 32 + d.toNat * 16 + e.toNat * 8 + f.toNat * 4 + g.toNat * 2 + h.toNat).testBit (7 - j.val) = [a, b, c, d, e, f, g, h].getD j.val false := by decide +kernel
theorem b8_bit (f : Nat → Bool) (j : Nat) (hj : j < 8) : (b8 f).testBit (7 - j) = f j := by
  have := b8_table ⟨j, hj⟩ (f 0) (f 1) (f 2) (f 3) (f 4) (f 5) (f 6) (f 7)
  unfold b8
  simp only at this
  rw [this]
  match j, hj with
  | 0, _ => rfl
  | 1, _ => rfl
  | 2, _ => rfl
  | 3, _ => rfl
  | 4, _ => rfl
  | 5, _ => rfl
  | 6, _ => rfl
  | 7, _ => rfl
/-- The bits of a row's bytes begin with the row's own bits. -/
theorem rbits_pack (l : List Bool) : (rbits (packN l)).take l.length = l := by
  apply List.ext_getElem?
  intro p
  rw [List.getElem?_take]
  split
  · rename_i hp
    have hi : p / 8 < (packN l).length := by rw [packN_len]; omega
    have hx : (packN l)[p / 8]? = some (byteAt l (p / 8)) := by
      rw [List.getElem?_eq_getElem hi]; simp [packN]
    rw [rbits_get _ p _ hx, byteAt, b8_bit _ _ (by omega), List.getD_eq_getElem?_getD]
    rw [show 8 * (p / 8) + p % 8 = p by omega, List.getElem?_eq_getElem hp]; rfl
  · rename_i hp
    rw [List.getElem?_eq_none (by omega)]
end Go.Proofs.YthgefobcohlegaaGreatDoor

namespace Go.Proofs.YthgefobcohlegaaGreatDoor
open Go.RowKit
set_option linter.unusedVariables false

theorem lt_bitLen : ∀ (k x : Nat), x < 2 ^ k → k ≤ 64 → x < 2 ^ Lib.bitLen x := by
  intro k
  induction k with
  | zero => intro x h _; have : x = 0 := by simpa using h
            subst this; exact Nat.two_pow_pos _
  | succ k ih =>
    intro x h hk
    by_cases h0 : x = 0
    · subst h0; exact Nat.two_pow_pos _
    · have h64 : x < 2 ^ 64 := Nat.lt_of_lt_of_le h (Nat.pow_le_pow_right (by decide) hk)
      rw [Lib.bitLen_half x h0 h64]
      have h1 : x / 2 < 2 ^ k := by rw [Nat.pow_succ] at h; omega
      have := ih (x / 2) h1 (by omega)
      rw [Nat.add_comm, Nat.pow_succ]; omega
theorem tz_spec (x : Nat) (h0 : x ≠ 0) (h : x < 18446744073709551616) : ∃ m, x = 2 ^ tzN x * (2 * m + 1) ∧ tzN x < 64 := by
  obtain ⟨m, h1, h2⟩ := Lib.ctzFrom_spec 64 x (by omega) h
  have e : tzN x = Lib.ctzFrom 64 x := by unfold tzN Lib.ctz; rw [if_neg h0]
  exact ⟨m, by rw [e]; exact h1, by rw [e]; exact h2⟩
theorem tz_lt_bl (x : Nat) (h0 : x ≠ 0) (h : x < 18446744073709551616) : tzN x < Lib.bitLen x := by
  obtain ⟨m, h1, h2⟩ := tz_spec x h0 h
  apply Nat.lt_of_not_le
  intro hle
  have h3 := lt_bitLen 64 x h (Nat.le_refl _)
  have h4 : 2 ^ Lib.bitLen x ≤ 2 ^ tzN x := Nat.pow_le_pow_right (by decide) hle
  have h5 : 2 ^ tzN x ≤ x := by
    conv => rhs; rw [h1]
    exact Nat.le_mul_of_pos_right _ (by omega)
  omega

structure Win where
  a : Nat
  t : Nat
  d : Nat
deriving DecidableEq
def Win.Ok (w : Win) : Prop := w.a ≤ 31 ∧ 1 ≤ w.d ∧ w.a + w.t + w.d = 64
def w0 : Win := ⟨0, 0, 0⟩
def leadN (x : Nat) : Nat := min 31 (lzN x)
def winOf (x : Nat) : Win := ⟨leadN x, tzN x, 64 - leadN x - tzN x⟩
theorem lead_le (x : Nat) : leadN x ≤ 31 := by unfold leadN; omega
theorem lead_bl (x : Nat) (h : x < 18446744073709551616) : leadN x + Lib.bitLen x ≤ 64 := by
  have := bitLen_64 x h
  unfold leadN lzN; omega
theorem winOf_ok (x : Nat) (h0 : x ≠ 0) (h : x < 18446744073709551616) : (winOf x).Ok := by
  have h1 := tz_lt_bl x h0 h
  have h2 := lead_bl x h
  have h3 := lead_le x
  refine ⟨h3, ?_, ?_⟩
  · show 1 ≤ 64 - leadN x - tzN x; omega
  · show leadN x + tzN x + (64 - leadN x - tzN x) = 64; omega
def hasW (w k : Win) : Prop := 0 < w.d ∧ w.a ≤ k.a ∧ w.t ≤ k.t
instance (w k : Win) : Decidable (hasW w k) := by unfold hasW; infer_instance
theorem x_lt_lead (x : Nat) (h : x < 18446744073709551616) (a : Nat) (ha : a ≤ leadN x) : x < 2 ^ (64 - a) := by
  have h1 := lead_bl x h
  exact Nat.lt_of_lt_of_le (lt_bitLen 64 x h (Nat.le_refl _)) (Nat.pow_le_pow_right (by decide) (by omega))
/-- What a window that has x's own tells: x. -/
theorem hasW_x {w : Win} (hw : w.Ok) (x : Nat) (h0 : x ≠ 0) (h : x < 18446744073709551616) (hh : hasW w (winOf x)) : x / 2 ^ w.t < 2 ^ w.d ∧ x / 2 ^ w.t * 2 ^ w.t = x := by
  obtain ⟨_, h1, h2⟩ := hh
  obtain ⟨w1, w2, w3⟩ := hw
  constructor
  · rw [Nat.div_lt_iff_lt_mul (Nat.two_pow_pos _), ← Nat.pow_add]
    have := x_lt_lead x h w.a h1
    rwa [show w.d + w.t = 64 - w.a by omega]
  · obtain ⟨m, h3, _⟩ := tz_spec x h0 h
    have h4 : 2 ^ w.t ∣ x := by
      rw [h3]
      exact Nat.dvd_trans (Nat.pow_dvd_pow 2 h2) (Nat.dvd_mul_right _ _)
    exact Nat.div_mul_cancel h4
theorem has_self (x : Nat) (h0 : x ≠ 0) (h : x < 18446744073709551616) : hasW (winOf x) (winOf x) := ⟨(winOf_ok x h0 h).2.1, Nat.le_refl _, Nat.le_refl _⟩
theorem x_hasW {w : Win} (hw : w.Ok) (v : Nat) (hv : v < 2 ^ w.d) (h0 : v * 2 ^ w.t ≠ 0) : v * 2 ^ w.t < 18446744073709551616 ∧ hasW w (winOf (v * 2 ^ w.t)) := by
  obtain ⟨w1, w2, w3⟩ := hw
  have hlt : v * 2 ^ w.t < 2 ^ (64 - w.a) := by
    rw [show 64 - w.a = w.d + w.t by omega, Nat.pow_add]
    exact Nat.mul_lt_mul_of_lt_of_le hv (Nat.le_refl _) (Nat.two_pow_pos _)
  have h64 : v * 2 ^ w.t < 18446744073709551616 := Nat.lt_of_lt_of_le hlt (Nat.pow_le_pow_right (n := 2) (by decide) (show 64 - w.a ≤ 64 by omega))
  refine ⟨h64, by omega, ?_, ?_⟩
  · show w.a ≤ leadN (v * 2 ^ w.t)
    have := Lib.bitLen_le _ (64 - w.a) (by omega) hlt
    unfold leadN lzN; omega
  · show w.t ≤ tzN (v * 2 ^ w.t)
    apply Nat.le_of_not_lt
    intro hlt2
    obtain ⟨m, h3, h4⟩ := tz_spec _ h0 h64
    obtain ⟨s, hs⟩ : ∃ s, w.t = tzN (v * 2 ^ w.t) + (s + 1) := ⟨w.t - tzN (v * 2 ^ w.t) - 1, by omega⟩
    generalize tzN (v * 2 ^ w.t) = z at hs h3 h4
    rw [hs, Nat.pow_add, Nat.pow_succ] at h3
    have h5 : 2 ^ z * (v * 2 ^ s * 2) = 2 ^ z * (2 * m + 1) := by
      rw [← h3]
      simp only [Nat.mul_assoc, Nat.mul_left_comm]
    have h6 := Nat.eq_of_mul_eq_mul_left (Nat.two_pow_pos z) h5
    omega

/-- A value that changes by x, behind a window: its parts, and the window then. -/
def mParts (w : Win) (x : Nat) : List (Nat × Nat) :=
  if x = 0 then [(0, 1)] else if hasW w (winOf x) then [(2, 2), (x / 2 ^ w.t, w.d)] else [(3, 2), ((winOf x).a, 5), ((winOf x).d, 6), (x / 2 ^ (winOf x).t, (winOf x).d)]
def mWin (w : Win) (x : Nat) : Win := if x = 0 then w else if hasW w (winOf x) then w else winOf x
def xAt (l : List Nat) (k : Nat) : Nat := l.getD k 0 ^^^ l.getD (k - 1) 0
def mW (l : List Nat) : Nat → Win
  | 0 => w0
  | k + 1 => if k = 0 then w0 else mWin (mW l k) (xAt l k)
def mP (l : List Nat) : Nat → List (Nat × Nat)
  | 0 => []
  | k + 1 => if k = 0 then [(l.getD 0 0, 64)] else mP l k ++ mParts (mW l k) (xAt l k)
def pBits (ps : List (Nat × Nat)) : List Bool := ps.flatMap fun p => bitsN p.1 p.2
def maskB (l : List Nat) : List Bool := pBits (mP l l.length)
theorem mP_succ (l : List Nat) {k : Nat} (h : k ≠ 0) : mP l (k + 1) = mP l k ++ mParts (mW l k) (xAt l k) := by rw [mP, if_neg h]
theorem mW_succ (l : List Nat) {k : Nat} (h : k ≠ 0) : mW l (k + 1) = mWin (mW l k) (xAt l k) := by rw [mW, if_neg h]
theorem pBits_append (a b : List (Nat × Nat)) : pBits (a ++ b) = pBits a ++ pBits b := by simp [pBits]
theorem pBits_cons (p : Nat × Nat) (b : List (Nat × Nat)) : pBits (p :: b) = bitsN p.1 p.2 ++ pBits b := by simp [pBits]
theorem mWin_ok {w : Win} (hw : w = w0 ∨ w.Ok) (x : Nat) (h : x < 18446744073709551616) : mWin w x = w0 ∨ (mWin w x).Ok := by
  unfold mWin
  split
  · exact hw
  · rename_i h0
    split
    · exact hw
    · exact .inr (winOf_ok x h0 h)
theorem has_ok {w k : Win} (hw : w = w0 ∨ w.Ok) (h : hasW w k) : w.Ok := by
  rcases hw with rfl | hw
  · exact absurd h.1 (by decide)
  · exact hw
theorem xAt_lt {l : List Nat} (hl : ∀ x ∈ l, x < 18446744073709551616) (k : Nat) : xAt l k < 18446744073709551616 := by
  have h : ∀ i, l.getD i 0 < 2 ^ 64 := by
    intro i
    rw [List.getD_eq_getElem?_getD]
    cases e : l[i]? with
    | none => simp
    | some y => exact hl y (List.mem_of_getElem? e)
  exact Nat.xor_lt_two_pow (h _) (h _)
theorem mW_ok {l : List Nat} (hl : ∀ x ∈ l, x < 18446744073709551616) : ∀ k, mW l k = w0 ∨ (mW l k).Ok
  | 0 => .inl rfl
  | k + 1 => by
    unfold mW
    split
    · exact .inl rfl
    · exact mWin_ok (mW_ok hl k) _ (xAt_lt hl k)
theorem mParts_ok {w : Win} (hw : w = w0 ∨ w.Ok) (x : Nat) (h : x < 18446744073709551616) : ∀ p ∈ mParts w x, p.1 < 18446744073709551616 ∧ p.2 ≤ 64 := by
  intro p hp
  have hd : ∀ t : Nat, x / 2 ^ t < 18446744073709551616 := fun t => Nat.lt_of_le_of_lt (Nat.div_le_self _ _) h
  unfold mParts at hp
  split at hp
  · simp at hp; subst hp; exact ⟨by decide, by decide⟩
  · rename_i h0
    split at hp
    · rename_i hh
      have hk := has_ok hw hh
      simp at hp
      rcases hp with rfl | rfl
      · exact ⟨by decide, by decide⟩
      · exact ⟨hd _, by have := hk.2.2; show w.d ≤ 64; omega⟩
    · have hk := winOf_ok x h0 h
      have h3 := hk.1; have h4 := hk.2.2
      simp at hp
      rcases hp with rfl | rfl | rfl | rfl
      · exact ⟨by decide, by decide⟩
      · exact ⟨by show (winOf x).a < _; omega, by show 5 ≤ 64; omega⟩
      · exact ⟨by show (winOf x).d < _; omega, by show 6 ≤ 64; omega⟩
      · exact ⟨hd _, by show (winOf x).d ≤ 64; omega⟩
theorem mP_ok {l : List Nat} (hl : ∀ x ∈ l, x < 18446744073709551616) : ∀ k, k ≤ l.length → ∀ p ∈ mP l k, p.1 < 18446744073709551616 ∧ p.2 ≤ 64
  | 0, _, p, hp => by simp [mP] at hp
  | k + 1, hk, p, hp => by
    unfold mP at hp
    split at hp
    · rename_i h0
      simp at hp; subst hp
      refine ⟨?_, Nat.le_refl _⟩
      show l[0]?.getD 0 < _
      rw [List.getElem?_eq_getElem (by omega)]
      exact hl _ (List.getElem_mem _)
    · rcases List.mem_append.1 hp with hp | hp
      · exact mP_ok hl k (by omega) p hp
      · exact mParts_ok (mW_ok hl k) _ (xAt_lt hl k) p hp
theorem mParts_len (w : Win) (x : Nat) : (mParts w x).length ≤ 4 := by
  unfold mParts
  split
  · simp
  · split <;> simp
theorem mP_len (l : List Nat) : ∀ k, (mP l k).length ≤ 4 * k
  | 0 => Nat.le_refl _
  | k + 1 => by
    unfold mP
    split
    · simp; omega
    · have := mP_len l k
      have h2 := mParts_len (mW l k) (xAt l k)
      rw [List.length_append]; omega
/-- How many bits. -/
def sumN (ps : List (Nat × Nat)) : Nat := (pBits ps).length
theorem sumN_snoc (ps : List (Nat × Nat)) (p : Nat × Nat) : sumN (ps ++ [p]) = sumN ps + p.2 := by
  unfold sumN; rw [pBits_append, List.length_append]; simp [pBits, bitsN_len]
theorem sumN_le (ps : List (Nat × Nat)) (h : ∀ p ∈ ps, p.2 ≤ 64) : sumN ps ≤ 64 * ps.length := by
  induction ps with
  | nil => simp [sumN, pBits]
  | cons p ps ih =>
    have h1 := ih (fun q hq => h q (List.mem_cons_of_mem _ hq))
    have h2 := h p List.mem_cons_self
    unfold sumN at h1 ⊢
    rw [pBits_cons, List.length_append, bitsN_len, List.length_cons]; omega
/-- Of the values ahead alone. -/
theorem xAt_take {l : List Nat} {m k : Nat} (h : k < m) : xAt (l.take m) k = xAt l k := by
  have e : ∀ i, i < m → (l.take m).getD i 0 = l.getD i 0 := by
    intro i hi
    rw [List.getD_eq_getElem?_getD, List.getD_eq_getElem?_getD, List.getElem?_take, if_pos hi]
  unfold xAt
  rw [e k h, e (k - 1) (by omega)]
theorem mW_take {l : List Nat} {m : Nat} : ∀ k, k ≤ m → mW (l.take m) k = mW l k
  | 0, _ => rfl
  | k + 1, h => by
    unfold mW
    rw [mW_take k (by omega), xAt_take (by omega)]
theorem mP_take {l : List Nat} {m : Nat} : ∀ k, k ≤ m → mP (l.take m) k = mP l k
  | 0, _ => rfl
  | k + 1, h => by
    unfold mP
    rw [mP_take k (by omega), mW_take k (by omega), xAt_take (by omega)]
    have e : (l.take m).getD 0 0 = l.getD 0 0 := by
      rw [List.getD_eq_getElem?_getD, List.getD_eq_getElem?_getD, List.getElem?_take, if_pos (by omega)]
    rw [e]
end Go.Proofs.YthgefobcohlegaaGreatDoor

namespace Go.Proofs.YthgefobcohlegaaGreatDoor
open Go.RowKit
set_option linter.unusedVariables false

theorem TabAt.lt {w : World} (h : TabAt w) : 19 < w.heap.size := by
  have h0 := h 0 (by decide)
  rcases Nat.lt_or_ge 19 w.heap.size with h' | h'
  · exact h'
  · simp [World.cell?, Array.getElem?_eq_none h'] at h0
theorem TabAt.call {w w' : World} {C : Nat} (h : TabAt w) (hb : Below C w w') (hC : w.heap.size ≤ C) : TabAt w' := h.below hb (Nat.lt_of_lt_of_le h.lt hC)
theorem TabAt.alloc {w : World} (h : TabAt w) (o : Obj) : TabAt (w.alloc o) := h.call (Below.alloc (Below.refl w.heap.size w) (Nat.le_refl _) o) (Nat.le_refl _)

def winV (w : Win) : Value := .agg #[.int .i64 w.a, .int .i64 w.t, .int .i64 w.d]
theorem mof_int (x : Nat) (w : World) (h : x < 18446744073709551616) (hT : TabAt w) :
    Calls Tryz.prog 211 #[.int .u64 (x : Int)] w fun e w' => e = .returned (.agg #[.int .i64 (leadN x), .int .i64 (tzN x), .int .i64 (64 - (leadN x : Int) - (tzN x : Int))]) ∧ Below w.heap.size w w' := by
  have h1 := lead_le x
  have h2 : tzN x ≤ 64 := by
    by_cases h0 : x = 0
    · subst h0; decide
    · obtain ⟨m, _, h3⟩ := tz_spec x h0 h; omega
  have hl : min 31 (lzN x : Int) = (leadN x : Int) := by unfold leadN; omega
  have HT := Lib.hid hT; have Hl := Lib.hid hl
  clear hT hl
  go_enter Tryz.func211, Tryz.ntmps211
  go_wp2_with fail
  refine (lz_any x _ h).mono ?_
  rintro e w' ⟨rfl, rfl⟩
  go_wp2_with fail
  refine (tz_any x _ h (HT.out.alloc _)).mono ?_
  rintro e w' ⟨rfl, rfl⟩
  go_wp2
  rw [Hl.out]
  have hb : Below w.heap.size w ((w.alloc (.cells #[.int .i64 (leadN x), .int .i64 (tzN x), .int .i64 (64 - (leadN x : Int) - (tzN x : Int))] 316)).alloc (.cells #[.int .i64 (leadN x), .int .i64 (tzN x), .int .i64 (64 - (leadN x : Int) - (tzN x : Int))] 316)) := by go_grown
  refine bodyPost_ret (v := .agg #[.int .i64 (leadN x), .int .i64 (tzN x), .int .i64 (64 - (leadN x : Int) - (tzN x : Int))]) (by simp [results, Tryz.results211, go_sem]) rfl ?_
  exact ⟨rfl, hb⟩
theorem mof_any (x : Nat) (w : World) (h : x < 18446744073709551616) (h0 : x ≠ 0) (hT : TabAt w) :
    Calls Tryz.prog 211 #[.int .u64 (x : Int)] w fun e w' => e = .returned (winV (winOf x)) ∧ Below w.heap.size w w' := by
  refine (mof_int x w h hT).mono ?_
  rintro e w' ⟨rfl, hb⟩
  refine ⟨?_, hb⟩
  have h1 := (winOf_ok x h0 h).2.2
  have h2 := (winOf_ok x h0 h).2.1
  have e : 64 - (leadN x : Int) - (tzN x : Int) = ((winOf x).d : Int) := by
    show _ = ((64 - leadN x - tzN x : Nat) : Int)
    have h3 : leadN x + tzN x + (64 - leadN x - tzN x) = 64 := h1
    omega
  rw [e]; rfl

theorem mhas_any (a t d a' t' d' : Int) (w : World) :
    Calls Tryz.prog 212 #[.agg #[.int .i64 a, .int .i64 t, .int .i64 d], .agg #[.int .i64 a', .int .i64 t', .int .i64 d']] w fun e w' => e = .returned (.bool (decide (0 < d ∧ a ≤ a' ∧ t ≤ t'))) ∧ Below w.heap.size w w' := by
  by_cases h1 : 0 < d
  · by_cases h2 : a ≤ a'
    · by_cases h3 : t ≤ t'
      · rw [decide_eq_true (show 0 < d ∧ a ≤ a' ∧ t ≤ t' from ⟨h1, h2, h3⟩)]
        go_enter Tryz.func212, Tryz.ntmps212
        go_wp2
        go_ret
        exact ⟨rfl, by go_grown⟩
      · rw [decide_eq_false (show ¬ (0 < d ∧ a ≤ a' ∧ t ≤ t') from fun h => h3 h.2.2)]
        go_enter Tryz.func212, Tryz.ntmps212
        go_wp2
        go_ret
        exact ⟨by simp, by go_grown⟩
    · rw [decide_eq_false (show ¬ (0 < d ∧ a ≤ a' ∧ t ≤ t') from fun h => h2 h.2.1)]
      go_enter Tryz.func212, Tryz.ntmps212
      go_wp2
      go_ret
      exact ⟨rfl, by go_grown⟩
  · rw [decide_eq_false (show ¬ (0 < d ∧ a ≤ a' ∧ t ≤ t') from fun h => h1 h.1)]
    go_enter Tryz.func212, Tryz.ntmps212
    go_wp2
    go_ret
    exact ⟨rfl, by go_grown⟩
theorem mhas_win (w k : Win) (W : World) : Calls Tryz.prog 212 #[winV w, winV k] W fun e w' => e = .returned (.bool (decide (hasW w k))) ∧ Below W.heap.size W w' := by
  refine (mhas_any _ _ _ _ _ _ W).mono ?_
  rintro e w' ⟨rfl, hb⟩
  refine ⟨?_, hb⟩
  congr 2
  apply decide_eq_decide.2
  unfold hasW
  omega

end Go.Proofs.YthgefobcohlegaaGreatDoor
