/- A reader of bits by contracts: Open, Left, Get; a row's Bytes; Put of too many bits. -/
import Derived.Test.YtfkklcmepcocoaaGreatDoorRef
import Derived.Test.YtfkklcmepcocoaaGreatDoorWavePut
import Derived.Test.YtfkklcmepcocoaaGreatDoorCode
import Derived.BigQuiet
namespace Go.Proofs.YtfkklcmepcocoaaGreatDoor
open Go.RowKit
set_option linter.unusedVariables false

theorem conv_bytes (w : World) {B : Nat} (A : Option Addr) (n c : Nat) (xs : List Nat) (h : Rd w B 1 A n (xs.map fun x : Nat => Value.int .u8 (x : Int))) (hx : ∀ x ∈ xs, x < 256) :
    (convert 111 9 (.slice A n c)).run Tryz.prog w = .ok (.string (bytesOf xs)) w := by
  have hn : n = (xs.map UInt8.ofNat).length := by have := h.1; simp at this; simp; omega
  cases A with
  | none =>
    have h0 : n = 0 := by
      rcases Nat.eq_zero_or_pos n with h0 | h0
      · exact h0
      · obtain ⟨b, o, e, _⟩ := h.2 h0
        cases e
    have hxs : xs = [] := by have := h.1; rw [h0] at this; simpa using this
    subst hxs
    simp [convert, run_underlying Tryz.underlying111, run_underlying Tryz.underlying9, run_underlying Tryz.underlying5, Conv.bytesToString, bytesOf, B8_nil]
  | some a =>
    rw [hn]
    refine run_convert_bytes_back (P := Tryz.prog) w 111 9 5 a c (xs.map UInt8.ofNat) Tryz.underlying111 Tryz.underlying5 Tryz.underlying9 (fun j hj => ?_)
    obtain ⟨b, o, e, _, hc⟩ := h.2 (by omega)
    injection e with e
    subst e
    have hj' : j < xs.length := by simpa using hj
    rw [add_at, hc j (.int .u8 (xs[j] : Nat)) (by simp [hj'])]
    have h8 := hx _ (List.getElem_mem hj')
    have : ((xs.map UInt8.ofNat)[j].toNat : Int) = (xs[j] : Nat) := by
      rw [List.getElem_map]; simp; omega
    rw [this]
theorem packN_256 (l : List Bool) : ∀ x ∈ packN l, x < 256 := by
  intro x hx
  obtain ⟨i, _, rfl⟩ := List.mem_map.1 hx
  exact byteAt_lt l i

theorem bytes_any (g : Nat) (bv : Value) (l : List Bool) (w : World) (h : RowAt w g bv l) : Calls Tryz.prog 128 #[.pointer (some ⟨g, 0, none⟩)] w fun e w' => e = .returned (.string (bytesOf (packN l))) ∧ w = w' := by
  obtain ⟨h0, h1, f0, f1⟩ := h.facts
  have ho := h.2
  obtain ⟨A0, c0, rfl, _, _, hrd⟩ := own_form ho
  have hc := conv_bytes w A0 _ c0 _ hrd (packN_256 l)
  clear h ho hrd
  go_enter Tryz.func128, Tryz.ntmps128
  go_wp2
  go_ret
  exact ⟨rfl, rfl⟩

theorem put_bad {es : Nat → Addr} {B : Nat} (a v : Value) (n : Int) (w : World) (hS : SV es B w) (hn : n < 0 ∨ 64 < n) :
    Calls Tryz.prog 125 #[a, v, .int .i64 n] w fun e w' => e = .returned (sentV (es 1)) ∧ w = w' := by
  have g1 : w.cell? ⟨0, 0, none⟩ = some (sentV (es 1)) := hS.var 1 (by decide)
  clear hS
  rcases Int.lt_or_le n 0 with h | h
  · go_enter Tryz.func125, Tryz.ntmps125
    go_wp2
    go_ret
    exact ⟨rfl, rfl⟩
  · have h2 : 64 < n := by omega
    clear hn
    go_enter Tryz.func125, Tryz.ntmps125
    go_wp2
    go_ret
    exact ⟨rfl, rfl⟩

/-- A reader at bit p of N of the bytes xs. -/
def ReaderAt (w : World) (g : Nat) (xs : List Nat) (p N : Nat) : Prop :=
  Blk w g 328 #[.string (bytesOf xs), .int .i64 p, .int .i64 N] ∧ p ≤ N ∧ N ≤ 1048576 ∧ N ≤ 8 * xs.length ∧ ∀ x ∈ xs, x < 256
theorem ReaderAt.below {w w' : World} {g p N C : Nat} {xs : List Nat} (h : ReaderAt w g xs p N) (hb : Below C w w') (hC : w.heap.size ≤ C) : ReaderAt w' g xs p N :=
  ⟨h.1.below hb (Nat.lt_of_lt_of_le h.1.lt hC), h.2⟩

theorem open_bad {es : Nat → Addr} {B : Nat} (s : ByteArray) (n : Int) (w : World) (hS : SV es B w) (hs : s.size ≤ 1000000000) (hn : n < 0 ∨ 1048576 < n ∨ 8 * (s.size : Int) < n) :
    Calls Tryz.prog 215 #[.string s, .int .i64 n] w fun e w' => e = .returned (.tuple #[.pointer none, sentV (es 1)]) ∧ Below w.heap.size w w' := by
  have g1 : w.cell? ⟨0, 0, none⟩ = some (sentV (es 1)) := hS.var 1 (by decide)
  clear hS
  by_cases h1 : n < 0
  · clear hn
    go_enter Tryz.func215, Tryz.ntmps215
    go_wp2
    go_quiet (fail)
    go_wp2
    go_ret2
    exact ⟨rfl, Below.drewN (Below.refl _ _) _⟩
  by_cases h2 : 1048576 < n
  · clear hn
    go_enter Tryz.func215, Tryz.ntmps215
    go_wp2
    go_quiet (fail)
    go_wp2
    go_ret2
    exact ⟨rfl, Below.drewN (Below.refl _ _) _⟩
  have h3 : 8 * (s.size : Int) < n := by omega
  clear hn
  go_enter Tryz.func215, Tryz.ntmps215
  go_wp2
  go_quiet (fail)
  go_wp2
  go_ret2
  exact ⟨rfl, Below.drewN (Below.refl _ _) _⟩

theorem open_ok (xs : List Nat) (n : Nat) (w : World) (hx : ∀ x ∈ xs, x < 256) (hxl : xs.length ≤ 1000000000) (hn : n ≤ 1048576) (hn8 : n ≤ 8 * xs.length) :
    Calls Tryz.prog 215 #[.string (bytesOf xs), .int .i64 n] w fun e w' => e = .returned (.tuple #[.pointer (some ⟨w.heap.size, 0, none⟩), .nilIface]) ∧ ReaderAt w' w.heap.size xs 0 n ∧ Below w.heap.size w w' := by
  have hsz : (bytesOf xs).size = xs.length := bytesOf_size xs
  have h1 : (n : Int) ≤ 1048576 := by omega
  have h2 : (n : Int) ≤ 8 * (xs.length : Int) := by omega
  have hfin : ReaderAt (w.alloc (.cells #[.string (bytesOf xs), .int .i64 0, .int .i64 n] 328)) w.heap.size xs 0 n := ⟨Blk.new _ _ _, Nat.zero_le _, hn, hn8, hx⟩
  have Hfin := Lib.hid hfin
  clear hfin hx
  go_enter Tryz.func215, Tryz.ntmps215
  go_wp2
  go_ret2
  exact ⟨rfl, Hfin.out, by go_grown⟩

theorem left_any (g p N : Nat) (xs : List Nat) (w : World) (h : ReaderAt w g xs p N) :
    Calls Tryz.prog 246 #[.pointer (some ⟨g, 0, none⟩)] w fun e w' => e = .returned (.int .i64 ((N : Int) - p)) ∧ Below w.heap.size w w' := by
  have h1 := h.1.cell 1
  have h2 := h.1.cell 2
  have hp := h.2.1
  have hN := h.2.2.1
  simp only [List.getElem?_toArray, List.getElem?_cons_zero, List.getElem?_cons_succ] at h1 h2
  clear h
  go_enter Tryz.func246, Tryz.ntmps246
  go_wp2
  go_quiet (fail)
  go_wp2
  go_ret
  exact ⟨rfl, Below.drewN (Below.refl _ _) _⟩

theorem get_bad {es : Nat → Addr} {B : Nat} (a : Value) (n : Int) (w : World) (hS : SV es B w) (hn : n < 0 ∨ 64 < n) :
    Calls Tryz.prog 216 #[a, .int .i64 n] w fun e w' => e = .returned (.tuple #[.int .u64 0, sentV (es 1)]) ∧ Below w.heap.size w w' := by
  have g1 : w.cell? ⟨0, 0, none⟩ = some (sentV (es 1)) := hS.var 1 (by decide)
  clear hS
  rcases Int.lt_or_le n 0 with h | h
  · clear hn
    go_enter Tryz.func216, Tryz.ntmps216
    go_wp2
    go_quiet (fail)
    go_wp2
    go_ret2
    exact ⟨rfl, Below.drewN (Below.refl _ _) _⟩
  · have h2 : 64 < n := by omega
    clear hn
    go_enter Tryz.func216, Tryz.ntmps216
    go_wp2
    go_quiet (fail)
    go_wp2
    go_ret2
    exact ⟨rfl, Below.drewN (Below.refl _ _) _⟩

theorem get_none {es : Nat → Addr} {B : Nat} (g p N : Nat) (xs : List Nat) (n : Nat) (w : World) (hS : SV es B w) (hB : B ≤ w.heap.size) (h : ReaderAt w g xs p N) (hn : n ≤ 64) (hm : N < p + n) :
    Calls Tryz.prog 216 #[.pointer (some ⟨g, 0, none⟩), .int .i64 n] w fun e w' => e = .returned (.tuple #[.int .u64 0, sentV (es 4)]) ∧ Below w.heap.size w w' := by
  have hp := h.2.1
  have hN := h.2.2.1
  have h64 : (n : Int) ≤ 64 := by omega
  have h3 : (N : Int) - p < n := by omega
  have HS := Lib.hid hS; have H := Lib.hid h
  clear hS h
  go_enter Tryz.func216, Tryz.ntmps216
  go_wp2_with fail
  refine (left_any g p N xs w H.out).mono ?_
  rintro e w1 ⟨rfl, hb⟩
  have g4 : w1.cell? ⟨6, 0, none⟩ = some (sentV (es 4)) := (HS.out.below hb hB).var 4 (by decide)
  have Hb := Lib.hid hb
  clear hb
  go_wp2
  go_quiet (fail)
  go_wp2
  go_ret2
  exact ⟨rfl, Below.drewN Hb.out _⟩

theorem and_u8 (x : Nat) (hx : x < 256) : bits BinOp.and IntKind.u8 (x : Int) 1 = ((x % 2 : Nat) : Int) := by
  have e : ∀ z : Nat, z < 256 → (BitVec.ofInt 8 (z : Int)).toNat = z := fun z hz => by
    rw [BitVec.ofInt_natCast, BitVec.toNat_ofNat]; exact Nat.mod_eq_of_lt (by omega)
  show IntKind.u8.wrap ((BitVec.ofInt 8 (x : Int) &&& BitVec.ofInt 8 ((1 : Nat) : Int)).toNat : Int) = _
  rw [BitVec.toNat_and, e x hx, e 1 (by omega), IntKind.wrap_u8, Nat.and_one_is_mod]
  omega
theorem shr_bit (x i : Nat) (hx : x < 256) : bits BinOp.and IntKind.u8 ((x : Int) / 2 ^ i) 1 = (((x.testBit i).toNat : Nat) : Int) := by
  have e : ((x : Int) / 2 ^ i) = ((x / 2 ^ i : Nat) : Int) := by simp
  rw [e, and_u8 _ (Nat.lt_of_le_of_lt (Nat.div_le_self _ _) hx), testBit_q]
theorem or_low (q b : Nat) (hq : q < 9223372036854775808) (hb : b ≤ 1) : bits BinOp.or IntKind.u64 (2 * (q : Int)) (b : Int) = ((2 * q + b : Nat) : Int) := by
  have e : ∀ z : Nat, z < 18446744073709551616 → (BitVec.ofInt 64 (z : Int)).toNat = z := fun z hz => by
    rw [BitVec.ofInt_natCast, BitVec.toNat_ofNat]; exact Nat.mod_eq_of_lt (by omega)
  have e2 : (2 * (q : Int)) = ((2 * q : Nat) : Int) := by omega
  have hor : 2 * q ||| b = 2 * q + b := by
    have := Nat.two_pow_add_eq_or_of_lt (i := 1) (b := b) (by omega) q
    simpa using this.symm
  show IntKind.u64.wrap ((BitVec.ofInt 64 (2 * (q : Int)) ||| BitVec.ofInt 64 (b : Int)).toNat : Int) = _
  rw [e2, BitVec.toNat_or, e _ (by omega), e _ (by omega), hor, IntKind.wrap_u64]
  omega

set_option maxRecDepth 100000 in
set_option maxHeartbeats 4000000 in
theorem get_ok (g p N : Nat) (xs : List Nat) (n : Nat) (w : World) (h : ReaderAt w g xs p N) (hn : n ≤ 64) (hm : p + n ≤ N) :
    Calls Tryz.prog 216 #[.pointer (some ⟨g, 0, none⟩), .int .i64 n] w fun e w' => e = .returned (.tuple #[.int .u64 (valN (((rbits xs).drop p).take n)), .nilIface]) ∧ ReaderAt w' g xs (p + n) N ∧ Fr (fun k => k = g) w w' := by
  obtain ⟨hB0, hp, hN, hNx, hx⟩ := h
  have hN' : (N : Int) ≤ 1048576 := by omega
  have h64 : (n : Int) ≤ 64 := by omega
  have h3 : (n : Int) ≤ (N : Int) - p := by omega
  obtain ⟨st, hst⟩ : ∃ st, st = bytesOf xs := ⟨_, rfl⟩
  have hsz : st.size = xs.length := by rw [hst, bytesOf_size]
  have H := Lib.hid (show ReaderAt w g xs p N from ⟨hB0, hp, hN, hNx, hx⟩)
  have hidx : ∀ (a : Nat), a < N → ∃ x : Nat, (rbits xs)[a]? = some (x.testBit (7 - a % 8)) ∧ x < 256 ∧ a / 8 < st.size ∧ ∀ h : a / 8 < st.size, st[a / 8].toNat = x := by
    intro a ha
    have hi : a / 8 < xs.length := by omega
    have hm := hx _ (List.getElem_mem hi)
    refine ⟨xs[a / 8], rbits_get xs a _ (List.getElem?_eq_getElem hi), hm, by rw [hsz]; exact hi, fun h => ?_⟩
    subst hst
    exact bytesOf_get xs _ h _ (List.getElem?_eq_getElem hi) hm
  have Hidx := Lib.hid hidx; have Hst := Lib.hid hst; have Hx := Lib.hid hx; have HB0 := Lib.hid hB0
  clear hidx hst hx hB0
  go_enter Tryz.func216, Tryz.ntmps216
  go_wp2_with fail
  refine (left_any g p N xs w H.out).mono ?_
  rintro e w1 ⟨rfl, hb⟩
  have Hb1 := Lib.hid hb
  have hB1 := HB0.out.below hb HB0.out.lt
  rw [← Hst.out] at hB1
  have HB1 := Lib.hid hB1
  clear hb hB1
  go_wp2
  go_loopw [6, 20] (fun o i wr => ∃ (k q a : Nat), k ≤ n ∧ a = p + k ∧ o = .int .u64 q ∧ q = valN (((rbits xs).drop p).take k) ∧ i = .int .i64 k ∧ Blk wr g 328 #[.string st, .int .i64 a, .int .i64 N] ∧ Fr (fun k => k = g) w wr) (fun _ i _ => n - (intOf i).toNat)
  case atStart => exact ⟨0, 0, p, by omega, rfl, rfl, by simp [valN], rfl, HB1.out, Fr.call (Fr.refl _ _) Hb1.out (Nat.le_refl _)⟩
  case round =>
    obtain ⟨k, q, a, hk, ha, rfl, hq, rfl, hB, hfr⟩ := hrel
    have HB := Lib.hid hB; have Hfr := Lib.hid hfr; have Ha := Lib.hid ha
    have c0 := hB.cell 0
    have c1 := hB.cell 1
    have c2 := hB.cell 2
    have fz := hB.frozen 1
    have hgz := hB.lt
    simp only [List.getElem?_toArray, List.getElem?_cons_zero, List.getElem?_cons_succ] at c0 c1 c2
    have haN : a ≤ 1048576 := by omega
    by_cases hkn : k < n
    · obtain ⟨x, hxb, hx8, hxs, hix⟩ := Hidx.out a (by omega)
      have hix' := hix hxs
      have hlen : k < ((rbits xs).drop p).length := by rw [List.length_drop, rbits_len]; omega
      have hq63 : q < 9223372036854775808 := by
        have := valN_lt (((rbits xs).drop p).take k)
        rw [← hq, List.length_take, Nat.min_eq_left (by omega)] at this
        exact Nat.lt_of_lt_of_le this (by
          calc 2 ^ k ≤ 2 ^ 63 := Nat.pow_le_pow_right (by omega) (by omega)
            _ = 9223372036854775808 := rfl)
      have hget : ((rbits xs).drop p)[k]? = some (x.testBit (7 - a % 8)) := by rw [List.getElem?_drop, ← ha]; exact hxb
      have hnx : valN (((rbits xs).drop p).take (k + 1)) = 2 * q + (x.testBit (7 - a % 8)).toNat := by rw [take_snoc hget, valN_snoc, ← hq]
      obtain ⟨d, hd⟩ : ∃ d, d = a / 8 := ⟨_, rfl⟩
      obtain ⟨r, hr⟩ : ∃ r, r = a % 8 := ⟨_, rfl⟩
      obtain ⟨t, ht⟩ : ∃ t, t = 7 - a % 8 := ⟨_, rfl⟩
      rw [← hd] at hxs
      have hix2 : ∀ h : d < st.size, st[d].toNat = x := by subst hd; exact hix
      have hix3 := hix2 hxs
      rw [← ht] at hnx
      have hsb := shr_bit x t hx8
      have hor := or_low q (x.testBit t).toNat hq63 (toNat_le _)
      have hbt := toNat_le (x.testBit t)
      generalize (x.testBit t).toNat = bt at hnx hsb hor hbt
      have e0 : IntKind.u64.wrap ((q : Int) * 2) = 2 * (q : Int) := by rw [IntKind.wrap_u64]; omega
      have e1 : (a : Int) / 8 = (d : Int) := by omega
      have e2 : IntKind.i64.wrap (d : Int) = (d : Int) := by rw [IntKind.wrap_i64]; omega
      have e3 : (a : Int) % 8 = (r : Int) := by omega
      have e4 : IntKind.i64.wrap (r : Int) = (r : Int) := by rw [IntKind.wrap_i64]; omega
      have e5 : IntKind.i64.wrap (7 - (r : Int)) = (t : Int) := by rw [IntKind.wrap_i64]; omega
      have e6 : IntKind.u64.wrap (bt : Int) = (bt : Int) := by rw [IntKind.wrap_u64]; omega
      have ht7 : t ≤ 7 := by omega
      have ht7' : (t : Int) ≤ 7 := by omega
      have hxs' : (d : Int) < (st.size : Int) := by omega
      have Hnx := Lib.hid hnx
      clear hB hfr ha hq hxb hix hget hnx hlen hix' hix2 hd hr ht
      go_wp2
      go_quiet (fail)
      go_wp2
      go_roundw
      case rel => exact ⟨k + 1, 2 * q + bt, a + 1, by omega, by have := Ha.out; omega, by go_num, Hnx.out.symm, by go_num, by
        have := HB.out.set_ 1 (.int .i64 ((a + 1 : Nat) : Int))
        exact this, (Hfr.out.drewN _).setCell (.inr rfl) _⟩
      case measure => simp [intOf]; omega
    · obtain rfl : k = n := by omega
      have Hq := Lib.hid hq
      clear hB hfr ha hq c0 c1 c2 fz
      go_wp2
      go_ret2
      refine ⟨by rw [← Hq.out]; rfl, ⟨?_, by omega, hN, hNx, Hx.out⟩, Hfr.out⟩
      rw [← Ha.out, ← Hst.out]; exact HB.out
end Go.Proofs.YtfkklcmepcocoaaGreatDoor
