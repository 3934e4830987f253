/- The reference's Record by its contract. -/
import Derived.Test.YtfkklcmepcocoaaDoorRHexQ
import Derived.Test.YtfkklcmepcocoaaDoorWalRdNQ
import Derived.Test.YtfkklcmepcocoaaDoorMhac
import Derived.Test.YtfkklcmepcocoaaDoorWalRecQ
namespace Go.Proofs.YtfkklcmepcocoaaDoor
open Go.RowKit
set_option linter.unusedVariables false

theorem byt8_len (v k : Nat) : (byt8 v k).length = k := by unfold byt8; rw [List.length_map, List.length_range]
theorem byte_z (z : Int) (n x : Nat) (hz : z = (n : Int)) (hn : n < 4294967296) (hx : x = n % 256) (w : World) : Calls Tryd.prog 16 #[.int .i64 z] w fun e w' => e = .returned (.string (bytesOf [x])) ∧ Below w.heap.size w w' := by
  subst hz
  exact byte_mod n x hn hx w
theorem tmod_w (n : Nat) : wrap64 (((n : Nat) : Int).tmod 256) = ((n % 256 : Nat) : Int) := by
  rw [Int.tmod_eq_emod_of_nonneg (by omega)]
  unfold wrap64
  omega
set_option maxHeartbeats 4000000 in
set_option maxRecDepth 100000 in
theorem rrecord_any (nm : Bs) (t : Int) (bit : Nat) (hn : nm.length ≤ 100000) (ht : t.natAbs < 10 ^ 17) (hbit : bit < 18446744073709551616) (w : World) :
    Calls Tryd.prog 9 #[.string (B8 nm), .agg #[.int .i64 t, .int .u64 (bit : Int)]] w fun e w' => e = .returned (.string (B8 (recL ⟨nm, t, bit⟩))) ∧ Below w.heap.size w w' := by
  obtain ⟨f, hf⟩ : ∃ f, f = w.heap.size := ⟨_, rfl⟩
  have hwa : Below w.heap.size w (w.alloc (.cells #[.int .i64 t, .int .u64 (bit : Int)] 34)) := Below.alloc (Below.refl _ _) (Nat.le_refl _) _
  have hk := Blk.new w 34 #[.int .i64 t, .int .u64 (bit : Int)]
  rw [← hf] at hk
  have HKc := Lib.hid (fun W (hb : Blk W f 34 #[.int .i64 t, .int .u64 (bit : Int)]) => show W.cell? ⟨f, 0, none⟩ = some (.int .i64 t) ∧ W.cell? ⟨f, 1, none⟩ = some (.int .u64 (bit : Int)) from ⟨hb.cell 0, hb.cell 1⟩)
  have HWa := Lib.hid hwa; have HK := Lib.hid hk
  clear hwa hk
  generalize hsn : B8 nm = sn
  go_enter Tryd.func9, Tryd.ntmps9
  go_wp2_with fail
  rw [← hf]
  have hfw : w.heap.size ≤ f := by omega
  clear hf
  generalize hwx : w.alloc (.cells #[.int .i64 t, .int .u64 (bit : Int)] 34) = wx at HK HWa
  clear hwx
  go_loopw [5, 6] (fun ov kv wr => ∃ (k : Nat), k ≤ 8 ∧ kv = .int .i64 k ∧ ov = .string (B8 (byt8 bit k)) ∧ Below w.heap.size w wr ∧ Blk wr f 34 #[.int .i64 t, .int .u64 (bit : Int)]) (fun _ kv _ => 8 - (intOf kv).toNat)
  case atStart => exact ⟨0, Nat.zero_le _, rfl, rfl, HWa.out, HK.out⟩
  case round =>
    obtain ⟨k, hk, rfl, rfl, hb, hK⟩ := hrel
    have HB := Lib.hid hb; have HC := Lib.hid hK
    have c0 := (HKc.out _ hK).1
    have c1 := (HKc.out _ hK).2
    clear hb hK
    by_cases hk8 : k < 8
    · obtain ⟨v, hv⟩ : ∃ v, v = bit / 2 ^ (56 - 8 * k) := ⟨_, rfl⟩
      have Hv := Lib.hid hv
      have Hz := Lib.hid (show wrap64 (((bit : Int) / 2 ^ (56 - 8 * k)).tmod 256) = ((v % 256 : Nat) : Int) by
        have e : ((bit : Int) / 2 ^ (56 - 8 * k)) = ((v : Nat) : Int) := by rw [hv, Int.natCast_ediv, Int.natCast_pow]; rfl
        rw [e]; exact tmod_w v)
      clear hv
      have hbs : (B8 (byt8 bit k)).size = k := by rw [B8_size, byt8_len]
      go_wp2_with fail
      refine (byte_z _ (v % 256) (v % 256) Hz.out (by omega) (by omega) _).mono ?_
      rintro e w1 ⟨rfl, hb1⟩
      have HB1 := Lib.hid (Below.call HB.out hb1 HB.out.size); have HC1 := Lib.hid (HC.out.below hb1 HC.out.lt)
      clear hb1
      have hs1 : (bytesOf [v % 256]).size = 1 := rfl
      have Hs := Lib.hid (show B8 (byt8 bit k) ++ bytesOf [v % 256] = B8 (byt8 bit (k + 1)) by rw [byt8_snoc, ← B8_append, Hv.out]; rfl)
      generalize bytesOf [v % 256] = t1 at hs1 Hs ⊢
      go_wp2_with fail
      exact ⟨⟨k + 1, by omega, rfl, by rw [← Hs.out], HB1.out, HC1.out⟩, by simp [intOf]; omega⟩
    · obtain rfl : k = 8 := by omega
      have hsnl : sn.size ≤ 100000 := by rw [← hsn, B8_size]; exact hn
      have hil := itoa_len (n := t) (k := 17) (by decide) ht
      have hsi : (B8 (Lib.itoa t)).size ≤ 18 := by rw [B8_size]; exact hil
      have hsh : (B8 (hexK 16 bit)).size ≤ 16 := by rw [B8_size, hexK_len]; exact Nat.le_refl _
      have Hbody := Lib.hid (show sn ++ ⟨#[64]⟩ ++ B8 (Lib.itoa t) ++ ⟨#[61]⟩ ++ B8 (hexK 16 bit) = B8 (bodyL ⟨nm, t, bit⟩) by
        rw [← hsn, show (⟨#[64]⟩ : ByteArray) = B8 [64] from rfl, show (⟨#[61]⟩ : ByteArray) = B8 [61] from rfl, B8_append, B8_append, B8_append, B8_append]
        congr 1
        unfold bodyL
        simp)
      have Hrec := Lib.hid (show recL ⟨nm, t, bit⟩ = recB (bodyL ⟨nm, t, bit⟩) from rfl)
      have hbl : (bodyL ⟨nm, t, bit⟩).length ≤ 100036 := by
        unfold bodyL
        simp only [List.length_append, List.length_cons, hexK_len]
        omega
      have Hdec := Lib.hid (fun W => decimal_any t W (by omega) (by omega))
      rw [decZ_itoa (Nat.lt_of_lt_of_le ht (by decide))] at Hdec
      have Hhx := Lib.hid (fun W => rhex_any (byt8 bit 8) (by rw [byt8_len]; omega) W)
      rw [hexS_all] at Hhx
      generalize bodyL ⟨nm, t, bit⟩ = body at Hbody Hrec hbl
      generalize B8 (Lib.itoa t) = si at hsi Hbody Hdec
      generalize B8 (hexK 16 bit) = sh at hsh Hbody Hhx
      generalize B8 (byt8 bit 8) = sv at Hhx ⊢
      clear hil
      go_wp2_with fail
      refine (Hdec.out _).mono ?_
      rintro e w1 ⟨rfl, hb1⟩
      have HB1 := Lib.hid (Below.call HB.out hb1 HB.out.size)
      clear hb1
      go_wp2_with fail
      refine (Hhx.out _).mono ?_
      rintro e w2 ⟨rfl, hb2⟩
      have HB2 := Lib.hid (Below.call HB1.out hb2 HB1.out.size)
      clear hb2
      have m1 : ¬ 9223372036854775807 < sn.size + 1 + si.size := by omega
      have m2 : ¬ 9223372036854775807 < sn.size + 1 + si.size + 1 + sh.size := by omega
      go_wp2_with fail
      rw [Hbody.out]
      have Hcrc := Lib.hid (fun W => crc_any (natsOf body) (natsOf_256 body) (by unfold natsOf; rw [List.length_map]; omega) W)
      rw [bytesOf_nats] at Hcrc
      have hn32 := sumL_lt (natsOf body)
      obtain ⟨n, hnn⟩ : ∃ n, n = sumL (natsOf body) := ⟨_, rfl⟩
      rw [← hnn] at Hcrc hn32
      obtain ⟨ln, hln⟩ : ∃ ln, ln = body.length := ⟨_, rfl⟩
      have hls : (B8 body).size = ln := by rw [B8_size, hln]
      rw [← hln] at hbl
      refine (Hcrc.out _).mono ?_
      rintro e w3 ⟨rfl, rfl⟩
      have Hres := Lib.hid (show bytesOf [ln / 256 % 256] ++ bytesOf [ln % 256] ++ B8 body ++ bytesOf [n % 256] ++ bytesOf [n / 256 % 256] ++ bytesOf [n / 65536 % 256] ++ bytesOf [n / 16777216 % 256] = B8 (recB body) by
        have e1 : bytesOf [ln / 256 % 256] ++ bytesOf [ln % 256] = bytesOf [ln / 256 % 256, ln % 256] := rfl
        have e2 : bytesOf [n % 256, n / 256 % 256, n / 65536 % 256, n / 16777216 % 256] = bytesOf [n % 256] ++ bytesOf [n / 256 % 256] ++ bytesOf [n / 65536 % 256] ++ bytesOf [n / 16777216 % 256] := rfl
        have e3 := crc4_eq n hn32
        rw [e2] at e3
        rw [e1, len2_eq]
        rw [ByteArray.append_assoc, ByteArray.append_assoc, ByteArray.append_assoc, ← ByteArray.append_assoc (a := bytesOf [n % 256]), ← ByteArray.append_assoc (a := bytesOf [n % 256] ++ _), e3, B8_append, B8_append, hln, hnn]
        unfold recB
        rw [List.append_assoc])
      generalize hres : B8 (recB body) = res at Hres
      have Hrs := Lib.hid hres
      generalize B8 body = sb at hls Hres ⊢
      clear hres hnn hln m1 m2 hsi hsh hsnl Hdec Hhx Hcrc
      have q1 : (bytesOf [ln / 256 % 256]).size = 1 := rfl
      have q2 : (bytesOf [ln % 256]).size = 1 := rfl
      have q3 : (bytesOf [n % 256]).size = 1 := rfl
      have q4 : (bytesOf [n / 256 % 256]).size = 1 := rfl
      have q5 : (bytesOf [n / 65536 % 256]).size = 1 := rfl
      have q6 : (bytesOf [n / 16777216 % 256]).size = 1 := rfl
      have HL := Lib.hid hbl; have HN := Lib.hid hn32
      generalize ht1 : bytesOf [ln / 256 % 256] = t1 at q1 Hres
      generalize ht2 : bytesOf [ln % 256] = t2 at q2 Hres
      generalize ht3 : bytesOf [n % 256] = t3 at q3 Hres
      generalize ht4 : bytesOf [n / 256 % 256] = t4 at q4 Hres
      generalize ht5 : bytesOf [n / 65536 % 256] = t5 at q5 Hres
      generalize ht6 : bytesOf [n / 16777216 % 256] = t6 at q6 Hres
      have T1 := Lib.hid ht1; have T2 := Lib.hid ht2; have T3 := Lib.hid ht3
      have T4 := Lib.hid ht4; have T5 := Lib.hid ht5; have T6 := Lib.hid ht6
      clear ht1 ht2 ht3 ht4 ht5 ht6
      go_wp2_with fail
      refine (byte_z _ (ln / 256) (ln / 256 % 256) (by omega) (by omega) rfl _).mono ?_
      rintro e w4 ⟨rfl, hb4⟩
      rw [T1.out]
      have HB4 := Lib.hid (Below.call HB2.out hb4 HB2.out.size)
      clear hb4
      go_wp2_with fail
      refine (byte_z _ (ln % 256) (ln % 256) (by omega) (by omega) (by omega) _).mono ?_
      rintro e w5 ⟨rfl, hb5⟩
      rw [T2.out]
      have HB5 := Lib.hid (Below.call HB4.out hb5 HB4.out.size)
      clear hb5
      go_wp2_with fail
      refine (byte_z _ (n % 256) (n % 256) (by omega) (by omega) (by omega) _).mono ?_
      rintro e w6 ⟨rfl, hb6⟩
      rw [T3.out]
      have HB6 := Lib.hid (Below.call HB5.out hb6 HB5.out.size)
      clear hb6
      go_wp2_with fail
      refine (byte_z _ (n / 256 % 256) (n / 256 % 256) (by omega) (by omega) (by omega) _).mono ?_
      rintro e w7 ⟨rfl, hb7⟩
      rw [T4.out]
      have HB7 := Lib.hid (Below.call HB6.out hb7 HB6.out.size)
      clear hb7
      go_wp2_with fail
      refine (byte_z _ (n / 65536 % 256) (n / 65536 % 256) (by omega) (by omega) (by omega) _).mono ?_
      rintro e w8 ⟨rfl, hb8⟩
      rw [T5.out]
      have HB8 := Lib.hid (Below.call HB7.out hb8 HB7.out.size)
      clear hb8
      go_wp2_with fail
      refine (byte_z _ (n / 16777216) (n / 16777216 % 256) (by omega) (by omega) rfl _).mono ?_
      rintro e w9 ⟨rfl, hb9⟩
      rw [T6.out]
      have HB9 := Lib.hid (Below.call HB8.out hb9 HB8.out.size)
      clear hb9
      go_wp2_with fail
      go_ret
      exact ⟨by rw [Hrec.out, Hrs.out, ← Hres.out]; rfl, HB9.out⟩
end Go.Proofs.YtfkklcmepcocoaaDoor
