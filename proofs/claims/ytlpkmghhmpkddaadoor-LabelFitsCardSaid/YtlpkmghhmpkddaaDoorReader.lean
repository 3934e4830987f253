/- A reader of bits by contracts: Open, Left, Get; a row's Bytes; Put of too many bits. -/
import Derived.Test.YtlpkmghhmpkddaaDoorRef
import Derived.Test.YtlpkmghhmpkddaaDoorWavePut
import Derived.Test.YtlpkmghhmpkddaaDoorCode
import Derived.BigQuiet
namespace Go.Proofs.YtlpkmghhmpkddaaDoor
open Go.RowKit
set_option linter.unusedVariables false

theorem conv_bytes (w : World) {B : Nat} (A : Option Addr) (n c : Nat) (xs : List Nat) (h : Rd w B 1 A n (xs.map fun x : Nat => Value.int .u8 (x : Int))) (hx : ∀ x ∈ xs, x < 256) :
    (convert 77 9 (.slice A n c)).run Tryd.prog w = .ok (.string (bytesOf xs)) w := by
  have hn : n = (xs.map UInt8.ofNat).length := by have := h.1; simp at this; simp; omega
  cases A with
  | none =>
    have h0 : n = 0 := by
      rcases Nat.eq_zero_or_pos n with h0 | h0
      · exact h0
      · obtain ⟨b, o, e, _⟩ := h.2 h0
        cases e
    have hxs : xs = [] := by have := h.1; rw [h0] at this; simpa using this
    subst hxs
    simp [convert, run_underlying Tryd.underlying77, run_underlying Tryd.underlying9, run_underlying Tryd.underlying5, Conv.bytesToString, bytesOf, B8_nil]
  | some a =>
    rw [hn]
    refine run_convert_bytes_back (P := Tryd.prog) w 77 9 5 a c (xs.map UInt8.ofNat) Tryd.underlying77 Tryd.underlying5 Tryd.underlying9 (fun j hj => ?_)
    obtain ⟨b, o, e, _, hc⟩ := h.2 (by omega)
    injection e with e
    subst e
    have hj' : j < xs.length := by simpa using hj
    rw [add_at, hc j (.int .u8 (xs[j] : Nat)) (by simp [hj'])]
    have h8 := hx _ (List.getElem_mem hj')
    have : ((xs.map UInt8.ofNat)[j].toNat : Int) = (xs[j] : Nat) := by
      rw [List.getElem_map]; simp; omega
    rw [this]
theorem packN_256 (l : List Bool) : ∀ x ∈ packN l, x < 256 := by
  intro x hx
  obtain ⟨i, _, rfl⟩ := List.mem_map.1 hx
  exact byteAt_lt l i

theorem and_u8 (x : Nat) (hx : x < 256) : bits BinOp.and IntKind.u8 (x : Int) 1 = ((x % 2 : Nat) : Int) := by
  have e : ∀ z : Nat, z < 256 → (BitVec.ofInt 8 (z : Int)).toNat = z := fun z hz => by
    rw [BitVec.ofInt_natCast, BitVec.toNat_ofNat]; exact Nat.mod_eq_of_lt (by omega)
  show IntKind.u8.wrap ((BitVec.ofInt 8 (x : Int) &&& BitVec.ofInt 8 ((1 : Nat) : Int)).toNat : Int) = _
  rw [BitVec.toNat_and, e x hx, e 1 (by omega), IntKind.wrap_u8, Nat.and_one_is_mod]
  omega
theorem shr_bit (x i : Nat) (hx : x < 256) : bits BinOp.and IntKind.u8 ((x : Int) / 2 ^ i) 1 = (((x.testBit i).toNat : Nat) : Int) := by
  have e : ((x : Int) / 2 ^ i) = ((x / 2 ^ i : Nat) : Int) := by simp
  rw [e, and_u8 _ (Nat.lt_of_le_of_lt (Nat.div_le_self _ _) hx), testBit_q]
theorem or_low (q b : Nat) (hq : q < 9223372036854775808) (hb : b ≤ 1) : bits BinOp.or IntKind.u64 (2 * (q : Int)) (b : Int) = ((2 * q + b : Nat) : Int) := by
  have e : ∀ z : Nat, z < 18446744073709551616 → (BitVec.ofInt 64 (z : Int)).toNat = z := fun z hz => by
    rw [BitVec.ofInt_natCast, BitVec.toNat_ofNat]; exact Nat.mod_eq_of_lt (by omega)
  have e2 : (2 * (q : Int)) = ((2 * q : Nat) : Int) := by omega
  have hor : 2 * q ||| b = 2 * q + b := by
    have := Nat.two_pow_add_eq_or_of_lt (i := 1) (b := b) (by omega) q
    simpa using this.symm
  show IntKind.u64.wrap ((BitVec.ofInt 64 (2 * (q : Int)) ||| BitVec.ofInt 64 (b : Int)).toNat : Int) = _
  rw [e2, BitVec.toNat_or, e _ (by omega), e _ (by omega), hor, IntKind.wrap_u64]
  omega

end Go.Proofs.YtlpkmghhmpkddaaDoor
