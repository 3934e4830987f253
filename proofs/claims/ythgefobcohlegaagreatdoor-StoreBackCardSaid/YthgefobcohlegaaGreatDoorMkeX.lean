/- A reader of bits by contracts: Open, Left, Get; a row's Bytes; Put of too many bits. -/
import Derived.Test.YthgefobcohlegaaGreatDoorMkcX
import Derived.Test.YthgefobcohlegaaGreatDoorMkdX
import Derived.Test.YthgefobcohlegaaGreatDoorMkbX
import Derived.BigQuiet
import Derived.Laws.Bits64
import Derived.Laws.Bits64b
import Derived.Lib.ConvBytes
namespace Go.Proofs.YthgefobcohlegaaGreatDoor
open Go.RowKit
set_option linter.unusedVariables false

theorem conv_bytes (w : World) {B : Nat} (A : Option Addr) (n c : Nat) (xs : List Nat) (h : Rd w B 1 A n (xs.map fun x : Nat => Value.int .u8 (x : Int))) (hx : ∀ x ∈ xs, x < 256) :
    (convert 69 9 (.slice A n c)).run Tryz.prog w = .ok (.string (bytesOf xs)) w := by
  have hn : n = (xs.map UInt8.ofNat).length := by have := h.1; simp at this; simp; omega
  cases A with
  | none =>
    have h0 : n = 0 := by
      rcases Nat.eq_zero_or_pos n with h0 | h0
      · exact h0
      · obtain ⟨b, o, e, _⟩ := h.2 h0
        cases e
    have hxs : xs = [] := by have := h.1; rw [h0] at this; simpa using this
    subst hxs
    simp [convert, run_underlying Tryz.underlying69, run_underlying Tryz.underlying9, run_underlying Tryz.underlying5, Conv.bytesToString, bytesOf, B8_nil]
  | some a =>
    rw [hn]
    refine run_convert_bytes_back (P := Tryz.prog) w 69 9 5 a c (xs.map UInt8.ofNat) Tryz.underlying69 Tryz.underlying5 Tryz.underlying9 (fun j hj => ?_)
    obtain ⟨b, o, e, _, hc⟩ := h.2 (by omega)
    injection e with e
    subst e
    have hj' : j < xs.length := by simpa using hj
    rw [add_at, hc j (.int .u8 (xs[j] : Nat)) (by simp [hj'])]
    have h8 := hx _ (List.getElem_mem hj')
    have : ((xs.map UInt8.ofNat)[j].toNat : Int) = (xs[j] : Nat) := by
      rw [List.getElem_map]; simp; omega
    rw [this]
theorem packN_256 (l : List Bool) : ∀ x ∈ packN l, x < 256 := by
  intro x hx
  obtain ⟨i, _, rfl⟩ := List.mem_map.1 hx
  exact byteAt_lt l i

theorem bytes_any (g : Nat) (bv : Value) (l : List Bool) (w : World) (h : RowAt w g bv l) : Calls Tryz.prog 160 #[.pointer (some ⟨g, 0, none⟩)] w fun e w' => e = .returned (.string (bytesOf (packN l))) ∧ w = w' := by
  obtain ⟨h0, h1, f0, f1⟩ := h.facts
  have ho := h.2
  obtain ⟨A0, c0, rfl, _, _, hrd⟩ := own_form ho
  have hc := conv_bytes w A0 _ c0 _ hrd (packN_256 l)
  clear h ho hrd
  go_enter Tryz.func160, Tryz.ntmps160
  go_wp2
  go_ret
  exact ⟨rfl, rfl⟩

/-- A reader at bit p of N of the bytes xs. -/
def ReaderAt (w : World) (g : Nat) (xs : List Nat) (p N : Nat) : Prop :=
  Blk w g 320 #[.string (bytesOf xs), .int .i64 p, .int .i64 N] ∧ p ≤ N ∧ N ≤ 1048576 ∧ N ≤ 8 * xs.length ∧ ∀ x ∈ xs, x < 256
theorem ReaderAt.below {w w' : World} {g p N C : Nat} {xs : List Nat} (h : ReaderAt w g xs p N) (hb : Below C w w') (hC : w.heap.size ≤ C) : ReaderAt w' g xs p N :=
  ⟨h.1.below hb (Nat.lt_of_lt_of_le h.1.lt hC), h.2⟩

theorem open_ok (xs : List Nat) (n : Nat) (w : World) (hx : ∀ x ∈ xs, x < 256) (hxl : xs.length ≤ 1000000000) (hn : n ≤ 1048576) (hn8 : n ≤ 8 * xs.length) :
    Calls Tryz.prog 195 #[.string (bytesOf xs), .int .i64 n] w fun e w' => e = .returned (.tuple #[.pointer (some ⟨w.heap.size, 0, none⟩), .nilIface]) ∧ ReaderAt w' w.heap.size xs 0 n ∧ Below w.heap.size w w' := by
  have hsz : (bytesOf xs).size = xs.length := bytesOf_size xs
  have h1 : (n : Int) ≤ 1048576 := by omega
  have h2 : (n : Int) ≤ 8 * (xs.length : Int) := by omega
  have hfin : ReaderAt (w.alloc (.cells #[.string (bytesOf xs), .int .i64 0, .int .i64 n] 320)) w.heap.size xs 0 n := ⟨Blk.new _ _ _, Nat.zero_le _, hn, hn8, hx⟩
  have Hfin := Lib.hid hfin
  clear hfin hx
  go_enter Tryz.func195, Tryz.ntmps195
  go_wp2
  go_ret2
  exact ⟨rfl, Hfin.out, by go_grown⟩

theorem left_any (g p N : Nat) (xs : List Nat) (w : World) (h : ReaderAt w g xs p N) :
    Calls Tryz.prog 213 #[.pointer (some ⟨g, 0, none⟩)] w fun e w' => e = .returned (.int .i64 ((N : Int) - p)) ∧ Below w.heap.size w w' := by
  have h1 := h.1.cell 1
  have h2 := h.1.cell 2
  have hp := h.2.1
  have hN := h.2.2.1
  simp only [List.getElem?_toArray, List.getElem?_cons_zero, List.getElem?_cons_succ] at h1 h2
  clear h
  go_enter Tryz.func213, Tryz.ntmps213
  go_wp2
  go_quiet (fail)
  go_wp2
  go_ret
  exact ⟨rfl, Below.drewN (Below.refl _ _) _⟩

theorem get_none {es : Nat → Addr} {B : Nat} (g p N : Nat) (xs : List Nat) (n : Nat) (w : World) (hS : SV es B w) (hB : B ≤ w.heap.size) (h : ReaderAt w g xs p N) (hn : n ≤ 64) (hm : N < p + n) :
    Calls Tryz.prog 196 #[.pointer (some ⟨g, 0, none⟩), .int .i64 n] w fun e w' => e = .returned (.tuple #[.int .u64 0, sentV (es 4)]) ∧ Below w.heap.size w w' := by
  have hp := h.2.1
  have hN := h.2.2.1
  have h64 : (n : Int) ≤ 64 := by omega
  have h3 : (N : Int) - p < n := by omega
  have HS := Lib.hid hS; have H := Lib.hid h
  clear hS h
  go_enter Tryz.func196, Tryz.ntmps196
  go_wp2_with fail
  refine (left_any g p N xs w H.out).mono ?_
  rintro e w1 ⟨rfl, hb⟩
  have g4 : w1.cell? ⟨7, 0, none⟩ = some (sentV (es 4)) := (HS.out.below hb hB).var 4 (by decide)
  have Hb := Lib.hid hb
  clear hb
  go_wp2
  go_quiet (fail)
  go_wp2
  go_ret2
  exact ⟨rfl, Below.drewN Hb.out _⟩

theorem and_u8 (x : Nat) (hx : x < 256) : bits BinOp.and IntKind.u8 (x : Int) 1 = ((x % 2 : Nat) : Int) := by
  have e : ∀ z : Nat, z < 256 → (BitVec.ofInt 8 (z : Int)).toNat = z := fun z hz => by
    rw [BitVec.ofInt_natCast, BitVec.toNat_ofNat]; exact Nat.mod_eq_of_lt (by omega)
  show IntKind.u8.wrap ((BitVec.ofInt 8 (x : Int) &&& BitVec.ofInt 8 ((1 : Nat) : Int)).toNat : Int) = _
  rw [BitVec.toNat_and, e x hx, e 1 (by omega), IntKind.wrap_u8, Nat.and_one_is_mod]
  omega
theorem shr_bit (x i : Nat) (hx : x < 256) : bits BinOp.and IntKind.u8 ((x : Int) / 2 ^ i) 1 = (((x.testBit i).toNat : Nat) : Int) := by
  have e : ((x : Int) / 2 ^ i) = ((x / 2 ^ i : Nat) : Int) := by simp
  rw [e, and_u8 _ (Nat.lt_of_le_of_lt (Nat.div_le_self _ _) hx), testBit_q]
theorem or_low (q b : Nat) (hq : q < 9223372036854775808) (hb : b ≤ 1) : bits BinOp.or IntKind.u64 (2 * (q : Int)) (b : Int) = ((2 * q + b : Nat) : Int) := by
  have e : ∀ z : Nat, z < 18446744073709551616 → (BitVec.ofInt 64 (z : Int)).toNat = z := fun z hz => by
    rw [BitVec.ofInt_natCast, BitVec.toNat_ofNat]; exact Nat.mod_eq_of_lt (by omega)
  have e2 : (2 * (q : Int)) = ((2 * q : Nat) : Int) := by omega
  have hor : 2 * q ||| b = 2 * q + b := by
    have := Nat.two_pow_add_eq_or_of_lt (i := 1) (b := b) (by omega) q
    simpa using this.symm
  show IntKind.u64.wrap ((BitVec.ofInt 64 (2 * (q : Int)) ||| BitVec.ofInt 64 (b : Int)).toNat : Int) = _
  rw [e2, BitVec.toNat_or, e _ (by omega), e _ (by omega), hor, IntKind.wrap_u64]
  omega

set_option maxRecDepth 100000 in
set_option maxHeartbeats 4000000 in
theorem get_ok (g p N : Nat) (xs : List Nat) (n : Nat) (w : World) (h : ReaderAt w g xs p N) (hn : n ≤ 64) (hm : p + n ≤ N) :
    Calls Tryz.prog 196 #[.pointer (some ⟨g, 0, none⟩), .int .i64 n] w fun e w' => e = .returned (.tuple #[.int .u64 (valN (((rbits xs).drop p).take n)), .nilIface]) ∧ ReaderAt w' g xs (p + n) N ∧ Fr (fun k => k = g) w w' := by
  obtain ⟨hB0, hp, hN, hNx, hx⟩ := h
  have hN' : (N : Int) ≤ 1048576 := by omega
  have h64 : (n : Int) ≤ 64 := by omega
  have h3 : (n : Int) ≤ (N : Int) - p := by omega
  obtain ⟨st, hst⟩ : ∃ st, st = bytesOf xs := ⟨_, rfl⟩
  have hsz : st.size = xs.length := by rw [hst, bytesOf_size]
  have H := Lib.hid (show ReaderAt w g xs p N from ⟨hB0, hp, hN, hNx, hx⟩)
  have hidx : ∀ (a : Nat), a < N → ∃ x : Nat, (rbits xs)[a]? = some (x.testBit (7 - a % 8)) ∧ x < 256 ∧ a / 8 < st.size ∧ ∀ h : a / 8 < st.size, st[a / 8].toNat = x := by
    intro a ha
    have hi : a / 8 < xs.length := by omega
    have hm := hx _ (List.getElem_mem hi)
    refine ⟨xs[a / 8], rbits_get xs a _ (List.getElem?_eq_getElem hi), hm, by rw [hsz]; exact hi, fun h => ?_⟩
    subst hst
    exact bytesOf_get xs _ h _ (List.getElem?_eq_getElem hi) hm
  have Hidx := Lib.hid hidx; have Hst := Lib.hid hst; have Hx := Lib.hid hx; have HB0 := Lib.hid hB0
  clear hidx hst hx hB0
  go_enter Tryz.func196, Tryz.ntmps196
  go_wp2_with fail
  refine (left_any g p N xs w H.out).mono ?_
  rintro e w1 ⟨rfl, hb⟩
  have Hb1 := Lib.hid hb
  have hB1 := HB0.out.below hb HB0.out.lt
  rw [← Hst.out] at hB1
  have HB1 := Lib.hid hB1
  clear hb hB1
  go_wp2
  go_loopw [6, 20] (fun o i wr => ∃ (k q a : Nat), k ≤ n ∧ a = p + k ∧ o = .int .u64 q ∧ q = valN (((rbits xs).drop p).take k) ∧ i = .int .i64 k ∧ Blk wr g 320 #[.string st, .int .i64 a, .int .i64 N] ∧ Fr (fun k => k = g) w wr) (fun _ i _ => n - (intOf i).toNat)
  case atStart => exact ⟨0, 0, p, by omega, rfl, rfl, by simp [valN], rfl, HB1.out, Fr.call (Fr.refl _ _) Hb1.out (Nat.le_refl _)⟩
  case round =>
    obtain ⟨k, q, a, hk, ha, rfl, hq, rfl, hB, hfr⟩ := hrel
    have HB := Lib.hid hB; have Hfr := Lib.hid hfr; have Ha := Lib.hid ha
    have c0 := hB.cell 0
    have c1 := hB.cell 1
    have c2 := hB.cell 2
    have fz := hB.frozen 1
    have hgz := hB.lt
    simp only [List.getElem?_toArray, List.getElem?_cons_zero, List.getElem?_cons_succ] at c0 c1 c2
    have haN : a ≤ 1048576 := by omega
    by_cases hkn : k < n
    · obtain ⟨x, hxb, hx8, hxs, hix⟩ := Hidx.out a (by omega)
      have hix' := hix hxs
      have hlen : k < ((rbits xs).drop p).length := by rw [List.length_drop, rbits_len]; omega
      have hq63 : q < 9223372036854775808 := by
        have := valN_lt (((rbits xs).drop p).take k)
        rw [← hq, List.length_take, Nat.min_eq_left (by omega)] at this
        exact Nat.lt_of_lt_of_le this (by
          calc 2 ^ k ≤ 2 ^ 63 := Nat.pow_le_pow_right (by omega) (by omega)
            _ = 9223372036854775808 := rfl)
      have hget : ((rbits xs).drop p)[k]? = some (x.testBit (7 - a % 8)) := by rw [List.getElem?_drop, ← ha]; exact hxb
      have hnx : valN (((rbits xs).drop p).take (k + 1)) = 2 * q + (x.testBit (7 - a % 8)).toNat := by rw [take_snoc hget, valN_snoc, ← hq]
      obtain ⟨d, hd⟩ : ∃ d, d = a / 8 := ⟨_, rfl⟩
      obtain ⟨r, hr⟩ : ∃ r, r = a % 8 := ⟨_, rfl⟩
      obtain ⟨t, ht⟩ : ∃ t, t = 7 - a % 8 := ⟨_, rfl⟩
      rw [← hd] at hxs
      have hix2 : ∀ h : d < st.size, st[d].toNat = x := by subst hd; exact hix
      have hix3 := hix2 hxs
      rw [← ht] at hnx
      have hsb := shr_bit x t hx8
      have hor := or_low q (x.testBit t).toNat hq63 (toNat_le _)
      have hbt := toNat_le (x.testBit t)
      generalize (x.testBit t).toNat = bt at hnx hsb hor hbt
      have e0 : IntKind.u64.wrap ((q : Int) * 2) = 2 * (q : Int) := by rw [IntKind.wrap_u64]; omega
      have e1 : (a : Int) / 8 = (d : Int) := by omega
      have e2 : IntKind.i64.wrap (d : Int) = (d : Int) := by rw [IntKind.wrap_i64]; omega
      have e3 : (a : Int) % 8 = (r : Int) := by omega
      have e4 : IntKind.i64.wrap (r : Int) = (r : Int) := by rw [IntKind.wrap_i64]; omega
      have e5 : IntKind.i64.wrap (7 - (r : Int)) = (t : Int) := by rw [IntKind.wrap_i64]; omega
      have e6 : IntKind.u64.wrap (bt : Int) = (bt : Int) := by rw [IntKind.wrap_u64]; omega
      have ht7 : t ≤ 7 := by omega
      have ht7' : (t : Int) ≤ 7 := by omega
      have hxs' : (d : Int) < (st.size : Int) := by omega
      have Hnx := Lib.hid hnx
      clear hB hfr ha hq hxb hix hget hnx hlen hix' hix2 hd hr ht
      go_wp2
      go_quiet (fail)
      go_wp2
      go_roundw
      case rel => exact ⟨k + 1, 2 * q + bt, a + 1, by omega, by have := Ha.out; omega, by go_num, Hnx.out.symm, by go_num, by
        have := HB.out.set_ 1 (.int .i64 ((a + 1 : Nat) : Int))
        exact this, (Hfr.out.drewN _).setCell (.inr rfl) _⟩
      case measure => simp [intOf]; omega
    · obtain rfl : k = n := by omega
      have Hq := Lib.hid hq
      clear hB hfr ha hq c0 c1 c2 fz
      go_wp2
      go_ret2
      refine ⟨by rw [← Hq.out]; rfl, ⟨?_, by omega, hN, hNx, Hx.out⟩, Hfr.out⟩
      rw [← Ha.out, ← Hst.out]; exact HB.out
end Go.Proofs.YthgefobcohlegaaGreatDoor

namespace Go.Proofs.YthgefobcohlegaaGreatDoor
open Go
set_option linter.unusedVariables false

def polyN : Nat := 3988292384
def crcStep (c : Nat) : Nat := c / 2 ^^^ polyN * (c % 2)
def crcIter : Nat → Nat → Nat
  | 0, c => c
  | k + 1, c => crcStep (crcIter k c)
def crcByte (c x : Nat) : Nat := crcIter 8 (c ^^^ x)
def crcL (xs : List Nat) : Nat := xs.foldl crcByte 4294967295
theorem crcStep_lt (c : Nat) (h : c < 4294967296) : crcStep c < 4294967296 := by
  have h1 : c / 2 < 2 ^ 32 := by omega
  have h2 : polyN * (c % 2) < 2 ^ 32 := by
    rcases Nat.mod_two_eq_zero_or_one c with e | e <;> rw [e] <;> decide
  exact Nat.xor_lt_two_pow h1 h2
theorem crcIter_lt (c : Nat) (h : c < 4294967296) : ∀ k, crcIter k c < 4294967296
  | 0 => h
  | k + 1 => crcStep_lt _ (crcIter_lt c h k)
theorem crcByte_lt (c x : Nat) (h : c < 4294967296) (hx : x < 256) : crcByte c x < 4294967296 :=
  crcIter_lt _ (Nat.xor_lt_two_pow (n := 32) h (by omega)) 8
theorem crcL_lt (xs : List Nat) (h : ∀ x ∈ xs, x < 256) : crcL xs < 4294967296 := by
  have : ∀ (c : Nat), c < 4294967296 → xs.foldl crcByte c < 4294967296 := by
    induction xs with
    | nil => intro c hc; exact hc
    | cons x xs ih =>
      intro c hc
      exact ih (fun y hy => h y (List.mem_cons_of_mem _ hy)) _ (crcByte_lt c x hc (h x List.mem_cons_self))
  exact this _ (by decide)
theorem crcL_snoc (xs : List Nat) (x : Nat) : crcL (xs ++ [x]) = crcByte (crcL xs) x := by simp [crcL, List.foldl_append]

theorem bits_xor_u32_nat (a b : Nat) (ha : a < 4294967296) (hb : b < 4294967296) : bits .xor .u32 (a : Int) (b : Int) = ((a ^^^ b : Nat) : Int) := by
  have e : ∀ z : Nat, z < 4294967296 → (BitVec.ofInt 32 (z : Int)).toNat = z := fun z hz => by
    rw [BitVec.ofInt_natCast, BitVec.toNat_ofNat]; exact Nat.mod_eq_of_lt (by omega)
  have hlt : a ^^^ b < 4294967296 := Nat.xor_lt_two_pow (n := 32) ha hb
  show IntKind.u32.wrap ((BitVec.ofInt 32 (a : Int) ^^^ BitVec.ofInt 32 (b : Int)).toNat : Int) = _
  rw [BitVec.toNat_xor, e a ha, e b hb]
  simp [IntKind.wrap, IntKind.bits, IntKind.signed]; omega
theorem bits_and_u32_one (a : Nat) (ha : a < 4294967296) : bits .and .u32 (a : Int) 1 = ((a % 2 : Nat) : Int) := by
  have e : ∀ z : Nat, z < 4294967296 → (BitVec.ofInt 32 (z : Int)).toNat = z := fun z hz => by
    rw [BitVec.ofInt_natCast, BitVec.toNat_ofNat]; exact Nat.mod_eq_of_lt (by omega)
  show IntKind.u32.wrap ((BitVec.ofInt 32 (a : Int) &&& BitVec.ofInt 32 ((1 : Nat) : Int)).toNat : Int) = _
  rw [BitVec.toNat_and, e a ha, e 1 (by omega), Nat.and_one_is_mod]
  simp [IntKind.wrap, IntKind.bits, IntKind.signed]; omega
end Go.Proofs.YthgefobcohlegaaGreatDoor

namespace Go.Proofs.YthgefobcohlegaaGreatDoor
open Go.RowKit
set_option linter.unusedVariables false

/-- A row whose cells are cs, some of them frozen. -/
def BlkF (w : World) (g : Nat) (t : TypeId) (cs : Array Value) (k : Nat × Nat) : Prop := w.heap[g]? = some (.cells cs t k)
theorem BlkF.cell {w : World} {g : Nat} {t : TypeId} {cs : Array Value} {k : Nat × Nat} (h : BlkF w g t cs k) (i : Nat) : w.cell? ⟨g, i, none⟩ = cs[i]? := cell_of_row w g i cs t k h
theorem BlkF.set_ {w : World} {g : Nat} {t : TypeId} {cs : Array Value} {k : Nat × Nat} (h : BlkF w g t cs k) (i : Nat) (u : Value) : BlkF (w.setCell ⟨g, i, none⟩ u) g t (cs.setIfInBounds i u) k := by
  unfold BlkF at h ⊢
  simp [World.setCell, Array.getElem?_modify, h]
theorem bytesW_below (w : World) (t : TypeId) (s : ByteArray) : Below w.heap.size w (Lib.bytesWorld w t s) := by
  refine ⟨?_, ?_, ?_, by rw [Lib.bytesWorld_size]; omega, fun k hk => Lib.bytesWorld_at_old w t s k hk⟩ <;>
    (unfold Lib.bytesWorld World.freeze; rw [if_neg (by decide)]; rfl)
theorem conv_str (zs : List Nat) (hz : ∀ x ∈ zs, x < 256) (w : World) :
    ∃ cap W, (convert 9 69 (.string (bytesOf zs))).run Tryz.prog w = .ok (.slice (some ⟨w.heap.size, 0, none⟩) zs.length cap) W ∧ Below w.heap.size w W ∧ W.heap.size = w.heap.size + 1 ∧
      Rd W (w.heap.size + 1) 1 (some ⟨w.heap.size, 0, none⟩) zs.length (zs.map fun x : Nat => Value.int .u8 (x : Int)) ∧ (∀ j, j < zs.length → W.frozen? ⟨w.heap.size, j, none⟩ = false) ∧
      ∀ (j y : Nat), Rd (W.setCell ⟨w.heap.size, j, none⟩ (.int .u8 ((y : Nat) : Int))) (w.heap.size + 1) 1 (some ⟨w.heap.size, 0, none⟩) zs.length ((zs.set j y).map fun x : Nat => Value.int .u8 (x : Int)) := by
  have hlen : zs.length = (bytesOf zs).size := (bytesOf_size zs).symm
  have hcell : ∀ (j x : Nat), zs[j]? = some x → (Lib.bytesCells w 5 (bytesOf zs))[j]? = some (Value.int .u8 (x : Int)) := by
    intro j x hx
    have hj : j < zs.length := (List.getElem?_eq_some_iff.1 hx).1
    have h := Lib.bytesWorld_cell w 5 (bytesOf zs) j (by omega)
    have hB : BlkF (Lib.bytesWorld w 5 (bytesOf zs)) w.heap.size 5 _ _ := Lib.bytesWorld_at_new w 5 (bytesOf zs)
    rw [hB.cell] at h
    rw [h]
    have e : (bytesOf zs).data.toList = zs.map UInt8.ofNat := rfl
    have hb := hz x (List.mem_of_getElem? hx)
    rw [e, List.getD_eq_getElem?_getD, List.getElem?_map, hx]
    show some (Value.int .u8 ((UInt8.ofNat x).toNat : Int)) = _
    rw [UInt8.toNat_ofNat', Nat.mod_eq_of_lt (by omega)]
  have hbig : zs.length ≤ (Lib.bytesCells w 5 (bytesOf zs)).size := by
    have h1 : (bytesOf zs).data.size = zs.length := bytesOf_size zs
    unfold Lib.bytesCells
    rw [Array.size_append, Array.size_map, h1]; omega
  refine ⟨_, Lib.bytesWorld w 5 (bytesOf zs), by rw [hlen]; exact Lib.run_convert_string_bytes w 9 69 5 (bytesOf zs) Tryz.underlying9 Tryz.underlying69 Tryz.underlying5, bytesW_below _ _ _, Lib.bytesWorld_size _ _ _, ?_, ?_, ?_⟩
  · refine ⟨by simp, fun _ => ⟨_, 0, rfl, Nat.lt_succ_self _, fun j u hu => ?_⟩⟩
    rw [Nat.zero_add]
    have hB : BlkF (Lib.bytesWorld w 5 (bytesOf zs)) w.heap.size 5 _ _ := Lib.bytesWorld_at_new w 5 (bytesOf zs)
    rw [hB.cell]
    rw [List.getElem?_map] at hu
    obtain ⟨x, hx, rfl⟩ := Option.map_eq_some_iff.1 hu
    exact hcell j x hx
  · intro j hj
    unfold World.frozen?
    rw [Lib.bytesWorld_at_new]
    simp only
    rw [Bool.and_eq_false_iff]
    left
    exact decide_eq_false (by omega)
  · intro j y
    refine ⟨by simp, fun _ => ⟨_, 0, rfl, Nat.lt_succ_self _, fun i u hu => ?_⟩⟩
    rw [Nat.zero_add]
    have hB : BlkF (Lib.bytesWorld w 5 (bytesOf zs)) w.heap.size 5 _ _ := Lib.bytesWorld_at_new w 5 (bytesOf zs)
    rw [(hB.set_ j _).cell]
    rw [List.getElem?_map] at hu
    obtain ⟨x, hx, rfl⟩ := Option.map_eq_some_iff.1 hu
    rw [Array.getElem?_setIfInBounds]
    rw [List.getElem?_set] at hx
    by_cases hij : j = i
    · rw [if_pos hij] at hx ⊢
      split at hx
      · rename_i hj
        injection hx with hx
        rw [if_pos (by omega), hx]
      · cases hx
    · rw [if_neg hij] at hx ⊢
      exact hcell i x hx
end Go.Proofs.YthgefobcohlegaaGreatDoor

namespace Go.Proofs.YthgefobcohlegaaGreatDoor
open Go.RowKit
set_option linter.unusedVariables false

/-- A list of bytes as numbers. -/
def natsOf (s : Bs) : List Nat := s.map UInt8.toNat
theorem natsOf_256 (s : Bs) : ∀ x ∈ natsOf s, x < 256 := fun x hx => by
  obtain ⟨u, _, rfl⟩ := List.mem_map.1 hx
  exact UInt8.toNat_lt u
theorem bytesOf_nats (s : Bs) : bytesOf (natsOf s) = B8 s := by
  have e : UInt8.ofNat ∘ UInt8.toNat = id := by funext x; simp
  simp [bytesOf, natsOf, B8, e]
theorem okB_nat (b : UInt8) : okB b = ((decide (97 ≤ b.toNat) && decide (b.toNat ≤ 122)) || (decide (48 ≤ b.toNat) && decide (b.toNat ≤ 57)) || decide (b.toNat = 45)) := by
  unfold okB
  rw [show (b == 45) = decide (b.toNat = 45) by
    rw [Bool.eq_iff_iff, beq_iff_eq, decide_eq_true_iff]
    exact ⟨fun h => by rw [h]; rfl, fun h => UInt8.toNat_inj.1 h⟩]
  rfl
def okN (x : Nat) : Bool := (decide (97 ≤ x) && decide (x ≤ 122)) || (decide (48 ≤ x) && decide (x ≤ 57)) || decide (x = 45)
theorem okN_true {x : Nat} : okN x = true ↔ (97 ≤ x ∧ x ≤ 122) ∨ (48 ≤ x ∧ x ≤ 57) ∨ x = 45 := by
  unfold okN; simp only [Bool.or_eq_true, Bool.and_eq_true, decide_eq_true_iff, or_assoc]
theorem okN_false {x : Nat} : okN x = false ↔ ¬ ((97 ≤ x ∧ x ≤ 122) ∨ (48 ≤ x ∧ x ≤ 57) ∨ x = 45) := by
  rw [← okN_true]; simp

/-- The closure: is it no byte of a word? -/
theorem wordC_any (x : Nat) (hx : x < 256) (w : World) : Calls Tryz.prog 108 #[.int .u8 x] w fun e w' => e = .returned (.bool (!okN x)) ∧ w = w' := by
  rcases (show x < 45 ∨ x = 45 ∨ (45 < x ∧ x < 48) ∨ (48 ≤ x ∧ x ≤ 57) ∨ (57 < x ∧ x < 97) ∨ (97 ≤ x ∧ x ≤ 122) ∨ 122 < x by omega) with h | h | ⟨h, h2⟩ | ⟨h, h2⟩ | ⟨h, h2⟩ | ⟨h, h2⟩ | h
  case' inl => have hr : okN x = false := okN_false.2 (by omega)
  case' inr.inl => have hr : okN x = true := okN_true.2 (by omega)
  case' inr.inr.inl => have hr : okN x = false := okN_false.2 (by omega)
  case' inr.inr.inr.inl => have hr : okN x = true := okN_true.2 (by omega)
  case' inr.inr.inr.inr.inl => have hr : okN x = false := okN_false.2 (by omega)
  case' inr.inr.inr.inr.inr.inl => have hr : okN x = true := okN_true.2 (by omega)
  case' inr.inr.inr.inr.inr.inr => have hr : okN x = false := okN_false.2 (by omega)
  all_goals
    rw [hr]
    clear hr
  case' inr.inl => subst h
  all_goals
    go_enter Tryz.func108, Tryz.ntmps108
    go_wp2
    go_ret
    exact ⟨by first | rfl | (simp; omega), rfl⟩

/-- The place of the first byte that is none of a word. -/
def idxW (xs : List Nat) : Int := match (xs.findIdx? fun x => !okN x) with | some k => (k : Int) | none => -1
theorem idxW_some {xs : List Nat} {k : Nat} (h : xs.findIdx? (fun x => !okN x) = some k) : idxW xs = k := by unfold idxW; rw [h]
theorem idxW_none {xs : List Nat} (h : xs.findIdx? (fun x => !okN x) = none) : idxW xs = -1 := by unfold idxW; rw [h]
set_option maxRecDepth 100000 in
theorem indexW_any (A : Option Addr) (n c : Nat) (xs : List Nat) (w : World) (hA : Rd w w.heap.size 1 A n (xs.map fun x : Nat => Value.int .u8 (x : Int))) (hn : n ≤ 100000) (hx : ∀ x ∈ xs, x < 256) :
    Calls Tryz.prog 134 #[.slice A n c, .func (.func 108) #[] #[]] w fun e w' => e = .returned (.int .i64 (idxW xs)) ∧ w = w' := by
  have hlen : xs.length = n := by have := hA.1; simp at this; omega
  have HA := Lib.hid hA; have Hx := Lib.hid hx; have Hlen := Lib.hid hlen
  have hn' : (n : Int) ≤ 100000 := by omega
  clear hA hx hlen
  go_enter Tryz.func134, Tryz.ntmps134
  go_wp2
  go_loopw [8] (fun iv wr => ∃ k : Nat, k ≤ n ∧ iv = .int .i64 k ∧ wr = w ∧ ∀ j, j < k → (xs.getD j 0) < 256 ∧ okN (xs.getD j 0) = true) (fun iv _ => n - (intOf iv).toNat)
  case atStart => exact ⟨0, Nat.zero_le _, rfl, rfl, fun j hj => absurd hj (Nat.not_lt_zero _)⟩
  case round =>
    obtain ⟨k, hk, rfl, rfl, hpre⟩ := hrel
    have Hpre := Lib.hid hpre
    clear hpre
    by_cases hkn : k < n
    · obtain ⟨b1, o1, x, hA1, had1, hy1, e1⟩ := HA.out.at1 hkn
      subst hA1
      have hx256 := Hx.out x (List.mem_of_getElem? hy1)
      have hgd : xs.getD k 0 = x := by rw [List.getD_eq_getElem?_getD, hy1]; rfl
      have Hgd := Lib.hid hgd
      have Hfi := Lib.hid (show okN x = false → xs.findIdx? (fun x => !okN x) = some k from fun ho => by
        rw [List.findIdx?_eq_some_iff_getElem]
        obtain ⟨hl, hv⟩ := List.getElem?_eq_some_iff.1 hy1
        refine ⟨hl, by rw [hv, ho]; rfl, fun j hj => ?_⟩
        have h2 := (Hpre.out j hj).2
        have e2 : xs.getD j 0 = xs[j] := by rw [List.getD_eq_getElem?_getD, List.getElem?_eq_getElem]; rfl
        rw [e2] at h2
        rw [h2]; decide)
      clear hy1 hgd
      go_wp2_with fail
      refine (wordC_any x hx256 _).mono ?_
      rintro e w' ⟨rfl, rfl⟩
      cases ho : okN x with
      | true =>
        have Ho := Lib.hid ho
        clear ho
        go_wp2
        go_roundw
        case rel => exact ⟨k + 1, by omega, by go_num, by first | rfl | trivial, fun j hj => by
          rcases Nat.lt_or_ge j k with h | h
          · exact Hpre.out j h
          · obtain rfl : j = k := by omega
            rw [Hgd.out]; exact ⟨hx256, Ho.out⟩⟩
        case measure => simp [intOf]; omega
      | false =>
        have Hf := Lib.hid (Hfi.out ho)
        clear ho
        go_wp2
        go_ret
        exact ⟨by rw [idxW_some Hf.out]; rfl, rfl⟩
    · obtain rfl : k = n := by omega
      have Hf := Lib.hid (show xs.findIdx? (fun x => !okN x) = none from by
        rw [List.findIdx?_eq_none_iff]
        intro x hx
        obtain ⟨j, hj, rfl⟩ := List.getElem_of_mem hx
        have h2 := (Hpre.out j (by rw [← Hlen.out]; exact hj)).2
        have e2 : xs.getD j 0 = xs[j] := by rw [List.getD_eq_getElem?_getD, List.getElem?_eq_getElem hj]; rfl
        rw [e2] at h2
        rw [h2]; decide)
      go_wp2
      go_ret
      exact ⟨by rw [idxW_none Hf.out]; rfl, rfl⟩

set_option maxRecDepth 100000 in
theorem containsW_any (A : Option Addr) (n c : Nat) (xs : List Nat) (w : World) (hA : Rd w w.heap.size 1 A n (xs.map fun x : Nat => Value.int .u8 (x : Int))) (hn : n ≤ 100000) (hx : ∀ x ∈ xs, x < 256) :
    Calls Tryz.prog 107 #[.slice A n c, .func (.func 108) #[] #[]] w fun e w' => e = .returned (.bool (!xs.all okN)) ∧ w = w' := by
  have Hc := Lib.hid (indexW_any A n c xs w hA hn hx)
  clear hA hx
  cases hf : xs.findIdx? fun x => !okN x with
  | none =>
    rw [idxW_none hf] at Hc
    have Hr := Lib.hid (show xs.all okN = true from by
      rw [List.findIdx?_eq_none_iff] at hf
      exact List.all_eq_true.2 fun x hx => by simpa using hf x hx)
    clear hf
    go_enter Tryz.func107, Tryz.ntmps107
    go_wp2_with fail
    refine Hc.out.mono ?_
    rintro e w' ⟨rfl, rfl⟩
    go_wp2
    go_ret
    exact ⟨by rw [Hr.out]; rfl, rfl⟩
  | some k =>
    rw [idxW_some hf] at Hc
    have Hr := Lib.hid (show xs.all okN = false from by
      rw [List.findIdx?_eq_some_iff_getElem] at hf
      obtain ⟨hl, h2, _⟩ := hf
      rw [← Bool.not_eq_true, List.all_eq_true]
      intro h3
      have := h3 _ (List.getElem_mem hl)
      rw [this] at h2
      cases h2)
    clear hf
    go_enter Tryz.func107, Tryz.ntmps107
    go_wp2_with fail
    refine Hc.out.mono ?_
    rintro e w' ⟨rfl, rfl⟩
    go_wp2
    go_ret
    exact ⟨by rw [Hr.out]; rfl, rfl⟩
theorem all_nats (s : Bs) : (natsOf s).all okN = s.all okB := by
  unfold natsOf
  rw [List.all_map]
  congr 1
  funext b
  rw [okB_nat]; rfl

set_option maxRecDepth 100000 in
theorem word_any (s : Bs) (w : World) :
    Calls Tryz.prog 76 #[.string (B8 s)] w fun e w' => e = .returned (.bool (wordB s)) ∧ Below w.heap.size w w' := by
  obtain ⟨n, hn⟩ : ∃ n, n = s.length := ⟨_, rfl⟩
  have hsz : (B8 s).size = n := by rw [B8_size, hn]
  by_cases h0 : n = 0
  · have hs : s = [] := List.length_eq_zero_iff.1 (by omega)
    subst hs
    have hnil : (B8 []).toList = [] := B8_toList []
    have Hr := Lib.hid (show wordB [] = false from rfl)
    generalize B8 [] = st at hsz hnil ⊢
    go_enter Tryz.func76, Tryz.ntmps76
    go_wp2
    go_ret
    exact ⟨by rw [Hr.out]; rfl, Below.refl _ _⟩
  have hne : ¬ (B8 s).toList = [] := by
    rw [B8_toList]; intro h; rw [h] at hn; exact h0 hn
  by_cases h12 : 12 < n
  · have Hr := Lib.hid (show wordB s = false from by unfold wordB; rw [decide_eq_false (by omega)]; rfl)
    have h12' : ¬ (n : Int) ≤ 12 := by omega
    clear hn
    generalize B8 s = st at hsz hne ⊢
    go_enter Tryz.func76, Tryz.ntmps76
    go_wp2
    go_ret
    exact ⟨by rw [Hr.out]; rfl, Below.refl _ _⟩
  · have Hr := Lib.hid (show wordB s = s.all okB from by unfold wordB; rw [decide_eq_true (by omega)]; rfl)
    have h12' : (n : Int) ≤ 12 := by omega
    obtain ⟨cap, W, hcv, hcb, hcs, hcr, _, _⟩ := conv_str (natsOf s) (natsOf_256 s) w
    rw [show (natsOf s).length = n by rw [natsOf, List.length_map, hn], bytesOf_nats] at hcv
    rw [show (natsOf s).length = n by rw [natsOf, List.length_map, hn]] at hcr
    have Hcb := Lib.hid hcb
    have Hc := Lib.hid (containsW_any _ n cap (natsOf s) W (hcr.more (by omega)) (by omega) (natsOf_256 s))
    rw [all_nats] at Hc
    clear hn hcb hcr hcs
    have Hn2 := Lib.hid (show (B8 s).toList.isEmpty = false from by rw [B8_toList]; cases s with
      | nil => exact absurd (B8_toList []) hne
      | cons => rfl)
    generalize B8 s = st at hsz hne hcv Hn2 ⊢
    go_enter Tryz.func76, Tryz.ntmps76
    go_wp2_with fail
    refine Hc.out.mono ?_
    rintro e w' ⟨rfl, rfl⟩
    cases hs : s.all okB with
    | true =>
      rw [hs] at Hr
      go_wp2
      go_ret
      exact ⟨by rw [Hr.out]; show Ending.returned (.bool (!st.toList.isEmpty)) = _; rw [Hn2.out]; rfl, Hcb.out⟩
    | false =>
      rw [hs] at Hr
      go_wp2
      go_ret
      exact ⟨by rw [Hr.out]; rfl, Hcb.out⟩
set_option maxRecDepth 100000 in
theorem name_any (s : Bs) (w : World) :
    Calls Tryz.prog 75 #[.string (B8 s)] w fun e w' => e = .returned (.bool (nameB s)) ∧ Below w.heap.size w w' := by
  have Hw := Lib.hid (word_any s w)
  cases hs : wordB s with
  | false =>
    rw [hs] at Hw
    have Hr := Lib.hid (show nameB s = false from by unfold nameB; rw [hs]; rfl)
    clear hs
    generalize B8 s = st at Hw ⊢
    go_enter Tryz.func75, Tryz.ntmps75
    go_wp2_with fail
    refine Hw.out.mono ?_
    rintro e w1 ⟨rfl, hb⟩
    have HB1 := Lib.hid hb; clear hb
    go_wp2
    go_ret
    exact ⟨by rw [Hr.out]; rfl, HB1.out⟩
  | true =>
    rw [hs] at Hw
    cases s with
    | nil => cases hs
    | cons b t =>
      have hb := hs
      unfold wordB at hb
      rw [Bool.and_eq_true] at hb
      have hob := (List.all_eq_true.1 hb.2) b List.mem_cons_self
      have hsz : (B8 (b :: t)).size = t.length + 1 := by rw [B8_size, List.length_cons]
      have hg : ∀ h : 0 < (B8 (b :: t)).size, ((B8 (b :: t))[0]).toNat = b.toNat := fun h => by rw [B8_get (b :: t) 0 h b rfl]
      obtain ⟨x, hx⟩ : ∃ x, x = b.toNat := ⟨_, rfl⟩
      rw [okB_nat, ← hx] at hob
      have hob2 : okN x = true := hob
      rw [okN_true] at hob2
      have Hr := Lib.hid (show nameB (b :: t) = decide (97 ≤ x) from by unfold nameB; rw [hs, Bool.true_and, hx]; rfl)
      rw [← hx] at hg
      obtain ⟨m, hm⟩ : ∃ m, m = t.length := ⟨_, rfl⟩
      rw [← hm] at hsz
      clear hs hb hob hx hm
      generalize B8 (b :: t) = st at hsz hg Hw ⊢
      have hpos : 0 < st.size := by omega
      have hg0 := hg hpos
      clear hg
      by_cases h97 : 97 ≤ x
      · have h97' : (97 : Int) ≤ (x : Int) := by omega
        have h122 : (x : Int) ≤ 122 := by omega
        clear hob2
        go_enter Tryz.func75, Tryz.ntmps75
        go_wp2_with fail
        refine Hw.out.mono ?_
        rintro e w1 ⟨rfl, hb⟩
        have HB1 := Lib.hid hb; clear hb
        go_wp2
        go_ret
        exact ⟨by rw [Hr.out, decide_eq_true h97]; rfl, HB1.out⟩
      · have h97' : ¬ (97 : Int) ≤ (x : Int) := by omega
        clear hob2
        go_enter Tryz.func75, Tryz.ntmps75
        go_wp2_with fail
        refine Hw.out.mono ?_
        rintro e w1 ⟨rfl, hb⟩
        have HB1 := Lib.hid hb; clear hb
        go_wp2
        go_ret
        exact ⟨by rw [Hr.out, decide_eq_false h97]; rfl, HB1.out⟩
theorem B8_at (s : Bs) (k : Nat) (h : k < (B8 s).size) : ((B8 s)[k]).toNat = (s.getD k 0).toNat := by
  have hk : k < s.length := by rw [B8_size] at h; exact h
  rw [B8_get s k h (s[k]) (List.getElem?_eq_getElem hk), List.getD_eq_getElem?_getD, List.getElem?_eq_getElem hk]; rfl

end Go.Proofs.YthgefobcohlegaaGreatDoor
