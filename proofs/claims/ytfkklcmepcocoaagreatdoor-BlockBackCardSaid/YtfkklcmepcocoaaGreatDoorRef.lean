/- The reference's Byte, Bits, Pack, Unpack, ValueOf by contracts. -/
import Derived.Test.YtfkklcmepcocoaaGreatDoorChecked
import Derived.Test.YtfkklcmepcocoaaGreatDoorTxt
import Derived.Laws.IdiomStrings
import Derived.Laws.DeepStrings4
namespace Go.Proofs.YtfkklcmepcocoaaGreatDoor
open Go.RowKit
set_option linter.unusedVariables false

theorem byte_any (x : Nat) (hx : x < 256) (w : World) : Calls Tryz.prog 76 #[.int .i64 x] w fun e w' => e = .returned (.string (B8 [UInt8.ofNat x])) ∧ Below w.heap.size w w' := by
  have hc : ∀ W : World, W.cell? ⟨w.heap.size, 0, none⟩ = some (.int .u8 x) → (convert 111 9 (.slice (some ⟨w.heap.size, 0, none⟩) 1 1)).run Tryz.prog W = .ok (.string (B8 [UInt8.ofNat x])) W := by
    intro W hW
    have := run_convert_bytes_back (P := Tryz.prog) W 111 9 5 ⟨w.heap.size, 0, none⟩ 1 [UInt8.ofNat x] Tryz.underlying111 Tryz.underlying5 Tryz.underlying9 (by
      intro j hj
      have h0 : j = 0 := by simpa using hj
      subst h0
      rw [add_at, Nat.add_zero, hW]
      have : ((UInt8.ofNat x).toNat : Int) = x := by simp; omega
      simp only [List.getElem_cons_zero]
      rw [this])
    exact this
  have hc1 := hc (w.alloc (.cells #[.int .u8 x] 5)) (by simp)
  have h0 : (0 : Int) ≤ (x : Int) := by omega
  have h1 : (x : Int) < 256 := by omega
  clear hc
  go_enter Tryz.func76, Tryz.ntmps76
  go_wp2
  go_ret
  exact ⟨rfl, by go_grown⟩

set_option maxHeartbeats 1000000 in
theorem bits_any (v n : Nat) (hv : v < 18446744073709551616) (hn : n ≤ 64) (w : World) : Calls Tryz.prog 162 #[.int .u64 v, .int .i64 n] w fun e w' => e = .returned (.string (txt (bitsN v n))) ∧ Below w.heap.size w w' := by
  go_enter Tryz.func162, Tryz.ntmps162
  go_wp2
  go_loopw [0, 5, 6] (fun x s i wr => ∃ (k q : Nat) (st : ByteArray), k ≤ n ∧ q < 18446744073709551616 ∧ q = v / 2 ^ k ∧ x = .int .u64 q ∧ s = .string st ∧ st = txt (bitsN v k) ∧ i = .int .i64 k ∧ Below w.heap.size w wr) (fun _ _ i _ => n - (intOf i).toNat)
  case atStart => exact ⟨0, v, ByteArray.empty, Nat.zero_le _, hv, by simp, rfl, rfl, rfl, rfl, Below.refl _ _⟩
  case round =>
    obtain ⟨k, q, st, hk, hq, hqv, rfl, rfl, hst, rfl, hbel⟩ := hrel
    have Hst := Lib.hid hst; have Hbel := Lib.hid hbel; have Hqv := Lib.hid hqv
    clear hst hbel hqv
    by_cases hkn : k < n
    · have hchar : B8 [UInt8.ofNat (48 + q % 2)] = txt [v.testBit k] := by rw [Hqv.out]; exact char_q v k
      have hnext : txt [v.testBit k] ++ st = txt (bitsN v (k + 1)) := by rw [Hst.out, txt_append, bitsN_succ]; rfl
      have hq2 : q / 2 = v / 2 ^ (k + 1) := by rw [Hqv.out, Nat.div_div_eq_div_mul, Nat.pow_succ]
      have hsz : (txt [v.testBit k]).size + st.size ≤ 1000000 := by rw [Hst.out, txt_size, txt_size, bitsN_len]; simp; omega
      have Hchar := Lib.hid hchar; have Hnext := Lib.hid hnext; have Hq2 := Lib.hid hq2
      clear hchar hnext hq2
      go_wp2_with fail
      have harg : (48 + (q : Int) % 2) = ((48 + q % 2 : Nat) : Int) := by omega
      rw [harg]
      refine (byte_any (48 + q % 2) (by omega) _).mono ?_
      rintro e w1 ⟨rfl, hb⟩
      rw [Hchar.out]
      have hb1 := Lib.hid (Below.call Hbel.out hb Hbel.out.size)
      clear hb harg
      go_wp2
      go_roundw
      case rel => exact ⟨k + 1, q / 2, _, by omega, by omega, Hq2.out, by go_num, rfl, Hnext.out, by go_num, hb1.out⟩
      case measure => simp [intOf]; omega
    · obtain rfl : k = n := by omega
      go_wp2
      go_ret
      exact ⟨by rw [Hst.out]; rfl, Hbel.out⟩

/-- The bits of byte j of a row. -/
def bitF (l : List Bool) (j q : Nat) : Bool := l.getD (8 * j + q) false
set_option maxRecDepth 100000 in
set_option maxHeartbeats 4000000 in
theorem pack_any (l : List Bool) (hl : l.length ≤ 1048576) (w : World) : Calls Tryz.prog 115 #[.string (txt l)] w fun e w' => e = .returned (.string (bytesOf (packN l))) ∧ Below w.heap.size w w' := by
  obtain ⟨N, hN⟩ : ∃ N, N = l.length := ⟨_, rfl⟩
  obtain ⟨st, hst⟩ : ∃ st, st = txt l := ⟨_, rfl⟩
  have hsz : st.size = N := by rw [hst, txt_size, hN]
  have hN1 : N ≤ 1048576 := by omega
  have hN2 : (N : Int) ≤ 1048576 := by omega
  have hidx : ∀ (i : Nat) (h : i < st.size), st[i].toNat = 48 + (l.getD i false).toNat := by
    intro i h
    subst hst
    have hi : i < l.length := by rw [txt_size] at h; exact h
    have e := txt_get l i h (l.getD i false) (by rw [List.getD_eq_getElem?_getD, List.getElem?_eq_getElem hi]; rfl)
    exact (congrArg UInt8.toNat e).trans (chB_toNat _)
  have Hidx := Lib.hid hidx; have HN := Lib.hid hN
  rw [← hst]
  clear hst hN hl hidx
  go_enter Tryz.func115, Tryz.ntmps115
  go_wp2
  go_loopw [3, 4] (fun o i wr => ∃ (j i0 : Nat) (so : ByteArray), i0 ≤ N + 7 ∧ i0 = 8 * j ∧ i = .int .i64 i0 ∧ o = .string so ∧ so = bytesOf (packB l j) ∧ Below w.heap.size w wr) (fun _ i _ => N + 8 - (intOf i).toNat)
  case atStart => exact ⟨0, 0, ByteArray.empty, by omega, rfl, rfl, rfl, rfl, Below.refl _ _⟩
  case round =>
    obtain ⟨j, i0, so, hj, hi0, rfl, rfl, hso, hbel⟩ := hrel
    have hsos : so.size = j := by rw [hso, bytesOf_size, packB_len]
    have Hi0 := Lib.hid hi0; have Hso := Lib.hid hso; have Hbel := Lib.hid hbel; have Hsos := Lib.hid hsos
    clear hi0 hso hbel hsos
    by_cases hjn : i0 < N
    · go_wp2
      go_loop [5, 6] (fun n i => ∃ k : Nat, k ≤ 8 ∧ n = .int .i64 ((pb (bitF l j) k : Nat) : Int) ∧ i = .int .i64 k) (fun _ i => 8 - (intOf i).toNat)
      case atStart => exact ⟨0, by omega, rfl, rfl⟩
      case round =>
        obtain ⟨k, hk, rfl, rfl⟩ := hrel
        by_cases hk8 : k < 8
        · have hlt := pb_le (bitF l j) k hk
          have hnx : pb (bitF l j) (k + 1) = 2 * pb (bitF l j) k + (bitF l j k).toNat := rfl
          generalize hp : pb (bitF l j) k = p at hlt hnx
          have Hp := Lib.hid hp; have Hnx := Lib.hid hnx
          clear hp hnx
          by_cases hin : i0 + k < N
          · have hix0 : st[i0 + k].toNat = 48 + (bitF l j k).toNat := by rw [Hidx.out (i0 + k) (by rw [hsz]; exact hin)]; unfold bitF; rw [Hi0.out]
            have hix : ∀ b, bitF l j k = b → st[i0 + k].toNat = 48 + b.toNat := fun b hb => hb ▸ hix0
            clear hix0
            cases hbit : bitF l j k with
            | false =>
              have hix' : st[i0 + k].toNat = 48 := hix _ hbit
              have Hbit := Lib.hid hbit
              clear hbit hix
              go_wp2
              go_round
              case rel => exact ⟨k + 1, by omega, by rw [Hnx.out, Hbit.out]; go_num, by go_num⟩
              case measure => simp [intOf]; omega
            | true =>
              have hix' : st[i0 + k].toNat = 49 := hix _ hbit
              have Hbit := Lib.hid hbit
              clear hbit hix
              go_wp2
              go_round
              case rel => exact ⟨k + 1, by omega, by rw [Hnx.out, Hbit.out]; go_num, by go_num⟩
              case measure => simp [intOf]; omega
          · have hbit : bitF l j k = false := by
              unfold bitF
              rw [List.getD_eq_getElem?_getD, List.getElem?_eq_none (by rw [← HN.out, ← Hi0.out]; omega)]; rfl
            have Hbit := Lib.hid hbit
            clear hbit
            go_wp2
            go_round
            case rel => exact ⟨k + 1, by omega, by rw [Hnx.out, Hbit.out]; go_num, by go_num⟩
            case measure => simp [intOf]; omega
        · obtain rfl : k = 8 := by omega
          have hb8 : pb (bitF l j) 8 = byteAt l j := pb_8 _
          have hby := byteAt_lt l j
          rw [hb8]
          have hnext : so ++ B8 [UInt8.ofNat (byteAt l j)] = bytesOf (packB l (j + 1)) := by
            rw [packB_succ, ← bytesOf_append, Hso.out]; rfl
          have hsz2 : so.size + (B8 [UInt8.ofNat (byteAt l j)]).size ≤ 10000000 := by have := Hi0.out; rw [Hsos.out, B8_size]; simp; omega
          have Hnext := Lib.hid hnext
          clear hb8 hnext
          go_wp2_with fail
          refine (byte_any (byteAt l j) hby _).mono ?_
          rintro e w1 ⟨rfl, hb⟩
          have hb1 := Lib.hid (Below.call Hbel.out hb Hbel.out.size)
          clear hb
          go_wp2
          go_roundw
          case rel => exact ⟨j + 1, i0 + 8, _, by omega, by have := Hi0.out; omega, by go_num, rfl, Hnext.out, hb1.out⟩
          case measure => simp [intOf]; omega
    · have hjj : j = (N + 7) / 8 := by have := Hi0.out; omega
      have hfin : bytesOf (packN l) = so := by
        rw [Hso.out, hjj, HN.out]; rfl
      have Hfin := Lib.hid hfin
      clear hfin hjj
      go_wp2
      go_ret
      exact ⟨by rw [Hfin.out]; rfl, Hbel.out⟩

set_option maxHeartbeats 1000000 in
theorem valueOf_any (l : List Bool) (hl : l.length ≤ 64) (w : World) : Calls Tryz.prog 118 #[.string (txt l)] w fun e w' => e = .returned (.int .u64 (valN l)) ∧ w' = w := by
  obtain ⟨N, hN⟩ : ∃ N, N = l.length := ⟨_, rfl⟩
  obtain ⟨st, hst⟩ : ∃ st, st = txt l := ⟨_, rfl⟩
  have hsz : st.size = N := by rw [hst, txt_size, hN]
  have hN1 : N ≤ 64 := by omega
  have hidx : ∀ (i : Nat) (h : i < st.size), st[i].toNat = 48 + (l.getD i false).toNat := by
    intro i h
    subst hst
    have hi : i < l.length := by rw [txt_size] at h; exact h
    have e := txt_get l i h (l.getD i false) (by rw [List.getD_eq_getElem?_getD, List.getElem?_eq_getElem hi]; rfl)
    exact (congrArg UInt8.toNat e).trans (chB_toNat _)
  have Hidx := Lib.hid hidx; have HN := Lib.hid hN
  rw [← hst]
  clear hst hN hl hidx
  go_enter Tryz.func118, Tryz.ntmps118
  go_wp2
  go_loop [3, 4] (fun v i => ∃ (k q : Nat), k ≤ N ∧ q = valN (l.take k) ∧ v = .int .u64 q ∧ i = .int .i64 k) (fun _ i => N - (intOf i).toNat)
  case atStart => exact ⟨0, 0, by omega, rfl, rfl, rfl⟩
  case round =>
    obtain ⟨k, q, hk, hq, rfl, rfl⟩ := hrel
    by_cases hkn : k < N
    · have hlk : k < l.length := by rw [← HN.out]; exact hkn
      have hq63 : q < 9223372036854775808 := by
        have := valN_lt (l.take k)
        rw [← hq, List.length_take, Nat.min_eq_left (by omega)] at this
        exact Nat.lt_of_lt_of_le this (by
          calc 2 ^ k ≤ 2 ^ 63 := Nat.pow_le_pow_right (by omega) (by omega)
            _ = 9223372036854775808 := rfl)
      have hget : l[k]? = some (l.getD k false) := by rw [List.getD_eq_getElem?_getD, List.getElem?_eq_getElem hlk]; rfl
      have hnx : valN (l.take (k + 1)) = 2 * q + (l.getD k false).toNat := by rw [take_snoc hget, valN_snoc, ← hq]
      have hix := Hidx.out k (by rw [hsz]; exact hkn)
      have Hnx := Lib.hid hnx
      clear hq hget hnx hlk
      cases hbit : l.getD k false with
      | false =>
        rw [hbit] at hix
        have Hbit := Lib.hid hbit
        clear hbit
        have hix' : st[k].toNat = 48 := hix
        clear hix
        go_wp2
        go_round
        case rel => exact ⟨k + 1, 2 * q, by omega, by rw [Hnx.out, Hbit.out]; rfl, by go_num, by go_num⟩
        case measure => simp [intOf]; omega
      | true =>
        rw [hbit] at hix
        have Hbit := Lib.hid hbit
        clear hbit
        have hix' : st[k].toNat = 49 := hix
        clear hix
        go_wp2
        go_round
        case rel => exact ⟨k + 1, 2 * q + 1, by omega, by rw [Hnx.out, Hbit.out]; rfl, by go_num, by go_num⟩
        case measure => simp [intOf]; omega
    · obtain rfl : k = N := by omega
      have hfin : q = valN l := by rw [hq, HN.out, List.take_length]
      have Hfin := Lib.hid hfin
      clear hq hfin
      go_wp2
      go_ret
      exact ⟨by rw [← Hfin.out]; rfl, rfl⟩

set_option maxHeartbeats 1000000 in
theorem unpack_any (xs : List Nat) (hx : ∀ x ∈ xs, x < 256) (hl : xs.length ≤ 1048576) (w : World) : Calls Tryz.prog 117 #[.string (bytesOf xs)] w fun e w' => e = .returned (.string (txt (rbits xs))) ∧ Below w.heap.size w w' := by
  obtain ⟨N, hN⟩ : ∃ N, N = xs.length := ⟨_, rfl⟩
  obtain ⟨st, hst⟩ : ∃ st, st = bytesOf xs := ⟨_, rfl⟩
  have hsz : st.size = N := by rw [hst, bytesOf_size, hN]
  have hN1 : N ≤ 1048576 := by omega
  have hidx : ∀ (i : Nat) (h : i < st.size), ∃ x, xs[i]? = some x ∧ x < 256 ∧ st[i].toNat = x := by
    intro i h
    subst hst
    have hi : i < xs.length := by rw [bytesOf_size] at h; exact h
    have hm := hx _ (List.getElem_mem hi)
    exact ⟨xs[i], List.getElem?_eq_getElem hi, hm, bytesOf_get xs i h _ (List.getElem?_eq_getElem hi) hm⟩
  have Hidx := Lib.hid hidx; have HN := Lib.hid hN
  rw [← hst]
  clear hst hN hl hx hidx
  go_enter Tryz.func117, Tryz.ntmps117
  go_wp2
  go_loopw [3, 4] (fun o i wr => ∃ (k : Nat) (so : ByteArray), k ≤ N ∧ o = .string so ∧ so = txt (rbits (xs.take k)) ∧ so.size = 8 * k ∧ i = .int .i64 k ∧ Below w.heap.size w wr) (fun _ i _ => N - (intOf i).toNat)
  case atStart => exact ⟨0, ByteArray.empty, by omega, rfl, rfl, rfl, rfl, Below.refl _ _⟩
  case round =>
    obtain ⟨k, so, hk, rfl, hso, hsos, rfl, hbel⟩ := hrel
    have Hso := Lib.hid hso; have Hbel := Lib.hid hbel; have Hsos := Lib.hid hsos
    clear hso hbel hsos
    by_cases hkn : k < N
    · obtain ⟨x, hxk, hx8, hix⟩ := Hidx.out k (by rw [hsz]; exact hkn)
      have hnext : so ++ txt (bitsN x 8) = txt (rbits (xs.take (k + 1))) := by rw [rbits_take hxk, Hso.out, txt_append]
      have hsz2 : so.size + (txt (bitsN x 8)).size ≤ 100000000 := by rw [Hsos.out, txt_size, bitsN_len]; omega
      have hsz3 : (so ++ txt (bitsN x 8)).size = 8 * (k + 1) := by rw [ByteArray.size_append, Hsos.out, txt_size, bitsN_len]; omega
      have Hnext := Lib.hid hnext; have Hsz3 := Lib.hid hsz3
      clear hnext hxk hsz3
      go_wp2_with fail
      refine (bits_any x 8 (by omega) (by omega) _).mono ?_
      rintro e w1 ⟨rfl, hb⟩
      have hb1 := Lib.hid (Below.call Hbel.out hb Hbel.out.size)
      clear hb
      go_wp2
      go_roundw
      case rel => exact ⟨k + 1, _, by omega, rfl, Hnext.out, Hsz3.out, by go_num, hb1.out⟩
      case measure => simp [intOf]; omega
    · obtain rfl : k = N := by omega
      have hfin : so = txt (rbits xs) := by rw [Hso.out, HN.out, List.take_length]
      have Hfin := Lib.hid hfin
      clear hfin
      go_wp2
      go_ret
      exact ⟨by rw [← Hfin.out]; rfl, Hbel.out⟩
end Go.Proofs.YtfkklcmepcocoaaGreatDoor
