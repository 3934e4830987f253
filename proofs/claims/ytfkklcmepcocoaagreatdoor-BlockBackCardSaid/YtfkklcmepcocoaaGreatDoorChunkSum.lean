/- Sums of texts: package chunk's and the reference's; four bytes of a sum; Seal. -/
import Derived.Test.YtfkklcmepcocoaaGreatDoorRef
import Derived.Test.YtfkklcmepcocoaaGreatDoorCrc
import Derived.Test.YtfkklcmepcocoaaGreatDoorReader
namespace Go.Proofs.YtfkklcmepcocoaaGreatDoor
open Go.RowKit
set_option linter.unusedVariables false

def sumL (xs : List Nat) : Nat := 4294967295 - crcL xs
def fourL (n : Nat) : List Nat := [n / 16777216 % 256, n / 65536 % 256, n / 256 % 256, n % 256]
theorem fourL_256 (n : Nat) : ∀ x ∈ fourL n, x < 256 := by
  intro x hx
  simp [fourL] at hx
  omega
theorem fourL_len (n : Nat) : (fourL n).length = 4 := rfl
theorem sumL_lt (xs : List Nat) : sumL xs < 4294967296 := by unfold sumL; omega
def sealL (xs : List Nat) : List Nat := xs ++ fourL (sumL xs)
theorem xor_ones (c : Nat) (h : c < 4294967296) : c ^^^ 4294967295 = 4294967295 - c := by
  have h1 := congrArg BitVec.toNat (BitVec.xor_allOnes (x := BitVec.ofNat 32 c))
  rw [BitVec.toNat_xor, BitVec.toNat_not, BitVec.toNat_ofNat, BitVec.toNat_allOnes, Nat.mod_eq_of_lt (by omega)] at h1
  exact h1

set_option maxRecDepth 100000 in
set_option maxHeartbeats 4000000 in
theorem sum_any (xs : List Nat) (hx : ∀ x ∈ xs, x < 256) (hl : xs.length ≤ 1000000000) (w : World) :
    Calls Tryz.prog 98 #[.string (bytesOf xs)] w fun e w' => e = .returned (.int .u32 (sumL xs)) ∧ w' = w := by
  obtain ⟨st, hst⟩ : ∃ st, st = bytesOf xs := ⟨_, rfl⟩
  obtain ⟨n, hn⟩ : ∃ n, n = xs.length := ⟨_, rfl⟩
  have hsz : st.size = n := by rw [hst, bytesOf_size, hn]
  have hidx : ∀ k, k < n → ∃ x, xs[k]? = some x ∧ x < 256 ∧ ∀ h : k < st.size, st[k].toNat = x := by
    intro k hk
    have hk2 : k < xs.length := by omega
    have hm := hx _ (List.getElem_mem hk2)
    refine ⟨xs[k], List.getElem?_eq_getElem hk2, hm, fun h => ?_⟩
    subst hst
    exact bytesOf_get xs _ h _ (List.getElem?_eq_getElem hk2) hm
  have Hidx := Lib.hid hidx
  have Hlt := Lib.hid (fun k => crcL_lt (xs.take k) (fun x h => hx x (List.mem_of_mem_take h)))
  have hn2 : n ≤ 1000000000 := by omega
  have Hn := Lib.hid hn
  rw [← hst]
  clear hx hst hidx hn hl
  go_enter Tryz.func98, Tryz.ntmps98
  go_wp2
  go_loopw [3, 7] (fun c iv wr => ∃ k q : Nat, k ≤ n ∧ iv = .int .i64 k ∧ c = .int .u32 q ∧ q = crcL (xs.take k) ∧ wr = w) (fun _ iv _ => n - (intOf iv).toNat)
  case atStart => exact ⟨0, 4294967295, Nat.zero_le _, rfl, rfl, rfl, rfl⟩
  case round =>
    obtain ⟨k, q, hk, rfl, rfl, hq, rfl⟩ := hrel
    have hq32 : q < 4294967296 := by rw [hq]; exact Hlt.out k
    have Hq := Lib.hid hq
    clear hq
    by_cases hkn : k < n
    · obtain ⟨x, hxg, hx8, hix⟩ := Hidx.out k hkn
      have hks : k < st.size := by omega
      have hix' := hix hks
      have hnx : crcL (xs.take (k + 1)) = crcIter 8 (q ^^^ x) := by rw [take_snoc hxg, crcL_snoc, ← Hq.out]; rfl
      have hxr : bits BinOp.xor IntKind.u32 (q : Int) (x : Int) = ((q ^^^ x : Nat) : Int) := bits_xor_u32_nat q x hq32 (by omega)
      have hwx : IntKind.u32.wrap (x : Int) = (x : Int) := by rw [IntKind.wrap_u32]; omega
      have hc0 : q ^^^ x < 4294967296 := Nat.xor_lt_two_pow (n := 32) hq32 (by omega)
      obtain ⟨c0, hce⟩ : ∃ c0, c0 = q ^^^ x := ⟨_, rfl⟩
      rw [← hce] at hnx hxr hc0
      have Hnx := Lib.hid hnx
      clear hnx hce hix hxg
      go_wp2
      go_loopw [3, 16] (fun c jv wr' => ∃ j p : Nat, j ≤ 8 ∧ jv = .int .i64 j ∧ c = .int .u32 p ∧ p = crcIter j c0 ∧ wr' = wr) (fun _ jv _ => 8 - (intOf jv).toNat)
      case atStart => exact ⟨0, c0, Nat.zero_le _, rfl, rfl, rfl, rfl⟩
      case round =>
        obtain ⟨j, p, hj, rfl, rfl, hp, rfl⟩ := hrel
        have hp32 : p < 4294967296 := by rw [hp]; exact crcIter_lt c0 hc0 j
        have Hp := Lib.hid hp
        clear hp
        by_cases hj8 : j < 8
        · have hst : crcIter (j + 1) c0 = crcStep p := by rw [crcIter, ← Hp.out]
          have hsl := crcStep_lt p hp32
          obtain ⟨b, hb⟩ : ∃ b, b = p % 2 := ⟨_, rfl⟩
          obtain ⟨d, hd⟩ : ∃ d, d = p / 2 := ⟨_, rfl⟩
          obtain ⟨m, hm⟩ : ∃ m, m = polyN * b := ⟨_, rfl⟩
          obtain ⟨s, hs⟩ : ∃ s, s = crcStep p := ⟨_, rfl⟩
          have hm32 : m < 4294967296 := by
            rcases Nat.mod_two_eq_zero_or_one p with e | e <;> rw [hm, hb, e] <;> decide
          have hsm : s = d ^^^ m := by rw [hs, hd, hm, hb]; rfl
          have e1 : bits BinOp.and IntKind.u32 (p : Int) 1 = (b : Int) := by rw [bits_and_u32_one p hp32, hb]
          have e2 : IntKind.u32.wrap (3988292384 * (b : Int)) = (m : Int) := by
            have : (3988292384 * (b : Int)) = (m : Int) := by rw [hm]; unfold polyN; omega
            rw [this, IntKind.wrap_u32]; omega
          have e3 : (p : Int) / 2 = (d : Int) := by omega
          have e4 : bits BinOp.xor IntKind.u32 (d : Int) (m : Int) = (s : Int) := by rw [bits_xor_u32_nat d m (by omega) hm32, hsm]
          have Hs := Lib.hid (show s = crcIter (j + 1) c0 by rw [hs, hst])
          clear hb hd hm hs hsm hst hm32 hsl
          go_wp2
          go_roundw
          case rel => exact ⟨j + 1, s, by omega, by go_num, rfl, Hs.out, trivial⟩
          case measure => simp [intOf]; omega
        · obtain rfl : j = 8 := by omega
          have Hp2 := Lib.hid (show p = crcL (xs.take (k + 1)) by rw [Hnx.out, Hp.out])
          go_wp2
          go_roundw
          case rel => exact ⟨k + 1, p, by omega, by go_num, rfl, Hp2.out, trivial⟩
          case measure => simp [intOf]; omega
    · obtain rfl : k = n := by omega
      have hfin : crcL (xs.take k) = crcL xs := by rw [List.take_of_length_le (by have := Hn.out; omega)]
      have hxo : bits BinOp.xor IntKind.u32 IntKind.u32.max (q : Int) = ((4294967295 - q : Nat) : Int) := by
        have := bits_xor_u32_nat 4294967295 q (by decide) hq32
        rw [Nat.xor_comm, xor_ones q hq32] at this
        exact this
      have Hfin := Lib.hid (show (4294967295 - q : Nat) = sumL xs by unfold sumL; rw [← hfin, Hq.out])
      generalize 4294967295 - q = z at hxo Hfin
      clear hfin
      go_wp2
      go_ret
      exact ⟨by rw [← Hfin.out]; rfl, rfl⟩
theorem sum_lt_in (xs : List Nat) : sumL xs < 4294967296 := sumL_lt xs

theorem four_u8 (n : Nat) (W : World) (b : Nat) (h : Blk W b 5 #[.int .u8 ((n / 16777216 % 256 : Nat) : Int), .int .u8 ((n / 65536 % 256 : Nat) : Int), .int .u8 ((n / 256 % 256 : Nat) : Int), .int .u8 ((n % 256 : Nat) : Int)]) :
    (convert 111 9 (.slice (some ⟨b, 0, none⟩) 4 4)).run Tryz.prog W = .ok (.string (bytesOf (fourL n))) W :=
  conv_bytes W (some ⟨b, 0, none⟩) 4 4 (fourL n) (B := W.heap.size) ⟨rfl, fun _ => ⟨_, _, rfl, h.lt, fun j v hv => by rw [Nat.zero_add, h.cell]; simpa [fourL] using hv⟩⟩ (fourL_256 n)
set_option maxHeartbeats 1000000 in
theorem cfour_any (n : Nat) (hn : n < 4294967296) (w : World) : Calls Tryz.prog 129 #[.int .u32 n] w fun e w' => e = .returned (.string (bytesOf (fourL n))) ∧ Below w.heap.size w w' := by
  obtain ⟨b3, h3⟩ : ∃ b, b = n / 16777216 := ⟨_, rfl⟩
  obtain ⟨b2, h2⟩ : ∃ b, b = n / 65536 := ⟨_, rfl⟩
  obtain ⟨b1, h1⟩ : ∃ b, b = n / 256 := ⟨_, rfl⟩
  have e3 : (n : Int) / 16777216 = (b3 : Int) := by omega
  have e2 : (n : Int) / 65536 = (b2 : Int) := by omega
  have e1 : (n : Int) / 256 = (b1 : Int) := by omega
  obtain ⟨q3, hq3⟩ : ∃ q, q = b3 % 256 := ⟨_, rfl⟩
  obtain ⟨q2, hq2⟩ : ∃ q, q = b2 % 256 := ⟨_, rfl⟩
  obtain ⟨q1, hq1⟩ : ∃ q, q = b1 % 256 := ⟨_, rfl⟩
  obtain ⟨q0, hq0⟩ : ∃ q, q = n % 256 := ⟨_, rfl⟩
  have f3 : IntKind.u8.wrap (b3 : Int) = (q3 : Int) := by rw [IntKind.wrap_u8]; omega
  have f2 : IntKind.u8.wrap (b2 : Int) = (q2 : Int) := by rw [IntKind.wrap_u8]; omega
  have f1 : IntKind.u8.wrap (b1 : Int) = (q1 : Int) := by rw [IntKind.wrap_u8]; omega
  have f0 : IntKind.u8.wrap (n : Int) = (q0 : Int) := by rw [IntKind.wrap_u8]; omega
  have hc := four_u8 n (w.alloc (.cells #[.int .u8 (q3 : Int), .int .u8 (q2 : Int), .int .u8 (q1 : Int), .int .u8 (q0 : Int)] 5)) w.heap.size (by rw [← h3, ← h2, ← h1, ← hq3, ← hq2, ← hq1, ← hq0]; exact Blk.new w _ _)
  clear hq3 hq2 hq1 hq0 h3 h2 h1
  go_enter Tryz.func129, Tryz.ntmps129
  go_wp2
  go_ret
  exact ⟨rfl, by go_grown⟩

set_option maxRecDepth 100000 in
set_option maxHeartbeats 4000000 in
theorem crc_any (xs : List Nat) (hx : ∀ x ∈ xs, x < 256) (hl : xs.length ≤ 1000000000) (w : World) :
    Calls Tryz.prog 92 #[.string (bytesOf xs)] w fun e w' => e = .returned (.int .i64 (sumL xs)) ∧ w' = w := by
  obtain ⟨st, hst⟩ : ∃ st, st = bytesOf xs := ⟨_, rfl⟩
  obtain ⟨n, hn⟩ : ∃ n, n = xs.length := ⟨_, rfl⟩
  have hsz : st.size = n := by rw [hst, bytesOf_size, hn]
  have hidx : ∀ k, k < n → ∃ x, xs[k]? = some x ∧ x < 256 ∧ ∀ h : k < st.size, st[k].toNat = x := by
    intro k hk
    have hk2 : k < xs.length := by omega
    have hm := hx _ (List.getElem_mem hk2)
    refine ⟨xs[k], List.getElem?_eq_getElem hk2, hm, fun h => ?_⟩
    subst hst
    exact bytesOf_get xs _ h _ (List.getElem?_eq_getElem hk2) hm
  have Hidx := Lib.hid hidx
  have Hlt := Lib.hid (fun k => crcL_lt (xs.take k) (fun x h => hx x (List.mem_of_mem_take h)))
  have hn2 : n ≤ 1000000000 := by omega
  have Hn := Lib.hid hn
  rw [← hst]
  clear hx hst hidx hn hl
  go_enter Tryz.func92, Tryz.ntmps92
  go_wp2
  go_loopw [3, 4] (fun c iv wr => ∃ k q : Nat, k ≤ n ∧ iv = .int .i64 k ∧ c = .int .i64 q ∧ q = crcL (xs.take k) ∧ wr = w) (fun _ iv _ => n - (intOf iv).toNat)
  case atStart => exact ⟨0, 4294967295, Nat.zero_le _, rfl, rfl, rfl, rfl⟩
  case round =>
    obtain ⟨k, q, hk, rfl, rfl, hq, rfl⟩ := hrel
    have hq32 : q < 4294967296 := by rw [hq]; exact Hlt.out k
    have Hq := Lib.hid hq
    clear hq
    by_cases hkn : k < n
    · obtain ⟨x, hxg, hx8, hix⟩ := Hidx.out k hkn
      have hks : k < st.size := by omega
      have hix' := hix hks
      have hnx : crcL (xs.take (k + 1)) = refIter x 8 q := by rw [take_snoc hxg, crcL_snoc, ← Hq.out, ref_byte x q hx8]
      have hwx : IntKind.i64.wrap (x : Int) = (x : Int) := by rw [IntKind.wrap_i64]; omega
      have Hnx := Lib.hid hnx
      clear hnx hix hxg
      go_wp2
      go_loopw [3, 5] (fun c jv wr' => ∃ j p : Nat, j ≤ 8 ∧ jv = .int .i64 j ∧ c = .int .i64 p ∧ p = refIter x j q ∧ wr' = wr) (fun _ jv _ => 8 - (intOf jv).toNat)
      case atStart => exact ⟨0, q, Nat.zero_le _, rfl, rfl, rfl, rfl⟩
      case round =>
        obtain ⟨j, p, hj, rfl, rfl, hp, rfl⟩ := hrel
        have hp32 : p < 4294967296 := by rw [hp]; exact refIter_lt x q hq32 j
        have Hp := Lib.hid hp
        clear hp
        by_cases hj8 : j < 8
        · obtain ⟨y, hy⟩ : ∃ y, y = x / 2 ^ j := ⟨_, rfl⟩
          have hy8 : y < 256 := by rw [hy]; exact Nat.lt_of_le_of_lt (Nat.div_le_self _ _) hx8
          obtain ⟨z, hz⟩ : ∃ z, z = p ^^^ y := ⟨_, rfl⟩
          have hz32 : z < 4294967296 := by rw [hz]; exact Nat.xor_lt_two_pow (n := 32) hp32 (by omega)
          obtain ⟨d, hd⟩ : ∃ d, d = p / 2 := ⟨_, rfl⟩
          have e1 : (x : Int) / 2 ^ j = (y : Int) := by rw [hy]; simp
          have e2 : bits BinOp.xor IntKind.i64 (p : Int) (y : Int) = (z : Int) := by rw [bits_xor_i64_nat p y (by omega) (by omega), hz]
          have e3 : (p : Int) / 2 = (d : Int) := by omega
          have hst : refIter x (j + 1) q = if z % 2 = 1 then d ^^^ polyN else d := by rw [refIter, ← Hp.out]; unfold refStep; rw [← hy, ← hz, ← hd]
          by_cases hz1 : z % 2 = 1
          · rw [if_pos hz1] at hst
            obtain ⟨s, hs⟩ : ∃ s, s = d ^^^ polyN := ⟨_, rfl⟩
            have e4 : bits BinOp.xor IntKind.i64 (d : Int) 3988292384 = (s : Int) := by
              have := bits_xor_i64_nat d 3988292384 (by omega) (by decide)
              rw [hs]; exact this
            have e5 : (z : Int) % 2 = 1 := by omega
            have Hs := Lib.hid (show s = refIter x (j + 1) q by rw [hst, hs])
            clear hy hz hd hst hs hz1
            go_wp2
            go_roundw
            case rel => exact ⟨j + 1, s, by omega, by go_num, rfl, Hs.out, trivial⟩
            case measure => simp [intOf]; omega
          · rw [if_neg hz1] at hst
            have e5 : (z : Int) % 2 = 0 := by omega
            have Hs := Lib.hid hst.symm
            clear hy hz hd hst hz1
            go_wp2
            go_roundw
            case rel => exact ⟨j + 1, d, by omega, by go_num, rfl, Hs.out, trivial⟩
            case measure => simp [intOf]; omega
        · obtain rfl : j = 8 := by omega
          have Hp2 := Lib.hid (show p = crcL (xs.take (k + 1)) by rw [Hnx.out, Hp.out])
          go_wp2
          go_roundw
          case rel => exact ⟨k + 1, p, by omega, by go_num, rfl, Hp2.out, trivial⟩
          case measure => simp [intOf]; omega
    · obtain rfl : k = n := by omega
      have hfin : crcL (xs.take k) = crcL xs := by rw [List.take_of_length_le (by have := Hn.out; omega)]
      have hxo : bits BinOp.xor IntKind.i64 (q : Int) 4294967295 = ((4294967295 - q : Nat) : Int) := by
        have := bits_xor_i64_nat q 4294967295 (by omega) (by decide)
        rw [xor_ones q hq32] at this
        exact this
      have Hfin := Lib.hid (show (4294967295 - q : Nat) = sumL xs by unfold sumL; rw [← hfin, Hq.out])
      generalize 4294967295 - q = z at hxo Hfin
      clear hfin
      go_wp2
      go_ret
      exact ⟨by rw [← Hfin.out]; rfl, rfl⟩

set_option maxHeartbeats 1000000 in
theorem byte_mod (n x : Nat) (hn : n < 4294967296) (hx : x = n % 256) (w : World) : Calls Tryz.prog 76 #[.int .i64 n] w fun e w' => e = .returned (.string (bytesOf [x])) ∧ Below w.heap.size w w' := by
  have hx8 : x < 256 := by omega
  have hc : ∀ W : World, W.cell? ⟨w.heap.size, 0, none⟩ = some (.int .u8 x) → w.heap.size < W.heap.size → (convert 111 9 (.slice (some ⟨w.heap.size, 0, none⟩) 1 1)).run Tryz.prog W = .ok (.string (bytesOf [x])) W := by
    intro W hW hlt
    exact conv_bytes W (some ⟨w.heap.size, 0, none⟩) 1 1 [x] (B := W.heap.size) ⟨rfl, fun _ => ⟨_, _, rfl, hlt, fun j v hv => by
      cases j with
      | zero => rw [Nat.zero_add, hW]; simpa using hv
      | succ j => simp at hv⟩⟩ (by simpa using hx8)
  have hc1 := hc (w.alloc (.cells #[.int .u8 x] 5)) (by simp) (by simp)
  have hw : IntKind.u8.wrap (n : Int) = (x : Int) := by rw [IntKind.wrap_u8]; omega
  clear hc hx
  go_enter Tryz.func76, Tryz.ntmps76
  go_wp2
  go_ret
  exact ⟨rfl, by go_grown⟩
set_option maxHeartbeats 1000000 in
theorem rfour_any (n : Nat) (hn : n < 4294967296) (w : World) : Calls Tryz.prog 161 #[.int .i64 n] w fun e w' => e = .returned (.string (bytesOf (fourL n))) ∧ Below w.heap.size w w' := by
  obtain ⟨b3, h3⟩ : ∃ b, b = n / 16777216 := ⟨_, rfl⟩
  obtain ⟨b2, h2⟩ : ∃ b, b = n / 65536 := ⟨_, rfl⟩
  obtain ⟨b1, h1⟩ : ∃ b, b = n / 256 := ⟨_, rfl⟩
  have e3 : (n : Int) / 16777216 = (b3 : Int) := by omega
  have e2 : (n : Int) / 65536 = (b2 : Int) := by omega
  have e1 : (n : Int) / 256 = (b1 : Int) := by omega
  obtain ⟨q3, hq3⟩ : ∃ q, q = b3 % 256 := ⟨_, rfl⟩
  obtain ⟨q2, hq2⟩ : ∃ q, q = b2 % 256 := ⟨_, rfl⟩
  obtain ⟨q1, hq1⟩ : ∃ q, q = b1 % 256 := ⟨_, rfl⟩
  obtain ⟨q0, hq0⟩ : ∃ q, q = n % 256 := ⟨_, rfl⟩
  have hfin : bytesOf [q3] ++ bytesOf [q2] ++ bytesOf [q1] ++ bytesOf [q0] = bytesOf (fourL n) := by
    rw [bytesOf_append, bytesOf_append, bytesOf_append, hq3, hq2, hq1, hq0, h3, h2, h1]; rfl
  have s3 : (bytesOf [q3]).size = 1 := bytesOf_size _
  have s2 : (bytesOf [q2]).size = 1 := bytesOf_size _
  have s1 : (bytesOf [q1]).size = 1 := bytesOf_size _
  have s0 : (bytesOf [q0]).size = 1 := bytesOf_size _
  have H3 := Lib.hid (fun W => byte_mod b3 q3 (by omega) hq3 W)
  have H2 := Lib.hid (fun W => byte_mod b2 q2 (by omega) hq2 W)
  have H1 := Lib.hid (fun W => byte_mod b1 q1 (by omega) hq1 W)
  have H0 := Lib.hid (fun W => byte_mod n q0 (by omega) hq0 W)
  have Hfin := Lib.hid hfin
  generalize bytesOf [q3] = t3 at H3 s3 Hfin
  generalize bytesOf [q2] = t2 at H2 s2 Hfin
  generalize bytesOf [q1] = t1 at H1 s1 Hfin
  generalize bytesOf [q0] = t0 at H0 s0 Hfin
  clear hq3 hq2 hq1 hq0 h3 h2 h1 hfin
  go_enter Tryz.func161, Tryz.ntmps161
  go_wp2_with fail
  refine (H3.out _).mono ?_
  rintro e w1 ⟨rfl, hb1⟩
  have Hb1 := Lib.hid hb1; clear hb1
  go_wp2_with fail
  refine (H2.out _).mono ?_
  rintro e w2 ⟨rfl, hb2⟩
  have Hb2 := Lib.hid (Below.call Hb1.out hb2 Hb1.out.size); clear hb2
  go_wp2_with fail
  refine (H1.out _).mono ?_
  rintro e w3 ⟨rfl, hb3⟩
  have Hb3 := Lib.hid (Below.call Hb2.out hb3 Hb2.out.size); clear hb3
  go_wp2_with fail
  refine (H0.out _).mono ?_
  rintro e w4 ⟨rfl, hb4⟩
  have Hb4 := Lib.hid (Below.call Hb3.out hb4 Hb3.out.size); clear hb4
  go_wp2
  go_ret
  exact ⟨congrArg (fun b => Ending.returned (.string b)) Hfin.out, Hb4.out⟩
set_option maxHeartbeats 1000000 in
theorem seal_any (xs : List Nat) (hx : ∀ x ∈ xs, x < 256) (hl : xs.length ≤ 1000000000) (w : World) :
    Calls Tryz.prog 114 #[.string (bytesOf xs)] w fun e w' => e = .returned (.string (bytesOf (sealL xs))) ∧ Below w.heap.size w w' := by
  have hs := sumL_lt xs
  have hsz : (bytesOf xs).size = xs.length := bytesOf_size xs
  have hs4 : (bytesOf (fourL (sumL xs))).size = 4 := bytesOf_size _
  have Hfin := Lib.hid (show bytesOf xs ++ bytesOf (fourL (sumL xs)) = bytesOf (sealL xs) by rw [bytesOf_append]; rfl)
  have Hc := Lib.hid (fun W => crc_any xs hx hl W)
  have Hf := Lib.hid (fun W => rfour_any (sumL xs) hs W)
  generalize bytesOf (fourL (sumL xs)) = t4 at Hf Hfin hs4
  generalize sumL xs = z at Hc Hf hs
  generalize hst : bytesOf xs = st at Hc Hfin hsz ⊢
  clear hst hx
  go_enter Tryz.func114, Tryz.ntmps114
  go_wp2_with fail
  refine (Hc.out _).mono ?_
  rintro e w' ⟨rfl, rfl⟩
  go_wp2_with fail
  refine (Hf.out _).mono ?_
  rintro e w1 ⟨rfl, hb1⟩
  have Hb1 := Lib.hid hb1; clear hb1
  go_wp2
  go_ret
  exact ⟨congrArg (fun b => Ending.returned (.string b)) Hfin.out, Hb1.out⟩
end Go.Proofs.YtfkklcmepcocoaaGreatDoor
