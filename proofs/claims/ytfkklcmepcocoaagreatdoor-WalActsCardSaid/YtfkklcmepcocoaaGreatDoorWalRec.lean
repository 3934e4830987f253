/- A log's record by its contract. -/
import Derived.Test.YtfkklcmepcocoaaGreatDoorWalW
namespace Go.Proofs.YtfkklcmepcocoaaGreatDoor
open Go.RowKit
set_option linter.unusedVariables false

theorem conv_n (W : World) (b : Nat) (l : List Nat) (cs : Array Value) (h : Blk W b 5 cs) (hcs : cs.toList = l.map fun x : Nat => Value.int .u8 (x : Int)) (hl : ∀ x ∈ l, x < 256) :
    (convert 111 9 (.slice (some ⟨b, 0, none⟩) l.length l.length)).run Tryz.prog W = .ok (.string (bytesOf l)) W :=
  conv_bytes W (some ⟨b, 0, none⟩) l.length l.length l (B := W.heap.size) ⟨by simp, fun _ => ⟨_, _, rfl, h.lt, fun j v hv => by rw [Nat.zero_add, h.cell, ← Array.getElem?_toList, hcs]; exact hv⟩⟩ hl
def sb_ok (s : ByteArray) (n : Nat) : Prop := s.size = n
theorem crc4_eq (n : Nat) (h : n < 4294967296) : bytesOf [n % 256, n / 256 % 256, n / 65536 % 256, n / 16777216 % 256] = B8 (crc4 n) := by
  unfold bytesOf crc4
  simp only [List.map_cons, List.map_nil]
theorem len2_eq (n : Nat) : bytesOf [n / 256 % 256, n % 256] = B8 (len2 n) := by
  unfold bytesOf len2
  simp only [List.map_cons, List.map_nil]
set_option maxHeartbeats 4000000 in
set_option maxRecDepth 100000 in
theorem record_any {es : Nat → Addr} {B : Nat} (nm : Bs) (t : Int) (bit : Nat) (hn : nm.length ≤ 100000) (ht : t.natAbs < 10 ^ 17) (hbit : bit < 18446744073709551616) (w : World) (hW : WalW es B w) (hB : B ≤ w.heap.size) :
    Calls Tryz.prog 58 #[.string (B8 nm), .agg #[.int .i64 t, .int .u64 (bit : Int)]] w fun e w' => e = .returned (.string (B8 (recL ⟨nm, t, bit⟩))) ∧ Below w.heap.size w w' := by
  obtain ⟨f, hf⟩ : ∃ f, f = w.heap.size := ⟨_, rfl⟩
  have hwa : Below w.heap.size w (w.alloc (.cells #[.int .i64 t, .int .u64 (bit : Int)] 51)) := Below.alloc (Below.refl _ _) (Nat.le_refl _) _
  have hk := Blk.new w 51 #[.int .i64 t, .int .u64 (bit : Int)]
  rw [← hf] at hk
  have hil := itoa_len (n := t) (k := 17) (by decide) ht
  have hsi : (B8 (Lib.itoa t)).size ≤ 18 := by rw [B8_size]; exact hil
  have hsn : (B8 nm).size ≤ 100000 := by rw [B8_size]; exact hn
  have hsh : (B8 (hexK 16 bit)).size ≤ 16 := by rw [B8_size, hexK_len]; exact Nat.le_refl _
  have Hbody := Lib.hid (show B8 nm ++ ⟨#[64]⟩ ++ B8 (Lib.itoa t) ++ ⟨#[61]⟩ ++ B8 (hexK 16 bit) = B8 (bodyL ⟨nm, t, bit⟩) by
    rw [show (⟨#[64]⟩ : ByteArray) = B8 [64] from rfl, show (⟨#[61]⟩ : ByteArray) = B8 [61] from rfl, B8_append, B8_append, B8_append, B8_append]
    congr 1
    unfold bodyL
    simp)
  have Hit := Lib.hid (fun W (hb : Below w.heap.size w W) => itoa_any t ht W (hW.below hb hB))
  have Hhx := Lib.hid (fun W (hb : Below w.heap.size w W) => hex_any bit hbit W (hW.below hb hB).tab (Nat.lt_of_lt_of_le hW.tablt (Nat.le_trans hB hb.size)))
  have HWa := Lib.hid hwa; have HK := Lib.hid hk
  have Hrec := Lib.hid (show recL ⟨nm, t, bit⟩ = recB (bodyL ⟨nm, t, bit⟩) from rfl)
  have hbl : (bodyL ⟨nm, t, bit⟩).length ≤ 100036 := by
    unfold bodyL
    simp only [List.length_append, List.length_cons, hexK_len]
    omega
  clear hW hwa hk hil
  generalize bodyL ⟨nm, t, bit⟩ = body at Hbody Hrec hbl
  generalize B8 (Lib.itoa t) = si at hsi Hbody Hit
  generalize B8 (hexK 16 bit) = sh at hsh Hbody Hhx
  generalize B8 nm = sn at hsn Hbody ⊢
  go_enter Tryz.func58, Tryz.ntmps58
  go_wp2_with fail
  rw [← hf]
  have hfw : w.heap.size ≤ f := by omega
  clear hf
  have HKd := Lib.hid (show Blk (w.alloc (.cells #[.int .i64 t, .int .u64 (bit : Int)] 51)).drew f 51 #[.int .i64 t, .int .u64 (bit : Int)] from HK.out)
  have HWd := Lib.hid (show Below w.heap.size w (w.alloc (.cells #[.int .i64 t, .int .u64 (bit : Int)] 51)).drew from HWa.out.drew)
  have HKc := Lib.hid (fun W (hb : Blk W f 51 #[.int .i64 t, .int .u64 (bit : Int)]) => show W.cell? ⟨f, 0, none⟩ = some (.int .i64 t) ∧ W.cell? ⟨f, 1, none⟩ = some (.int .u64 (bit : Int)) from ⟨hb.cell 0, hb.cell 1⟩)
  have c0 := (HKc.out _ HK.out).1
  have c1 := (HKc.out _ HK.out).2
  have n1 : ¬ 9223372036854775807 < sn.size + 1 := by omega
  have n2 : ¬ 9223372036854775807 < sn.size + 1 + si.size := by omega
  have n3 : ¬ 9223372036854775807 < sn.size + 1 + si.size + 1 := by omega
  have n4 : ¬ 9223372036854775807 < sn.size + 1 + si.size + 1 + sh.size := by omega
  have hsz := HWa.out.size
  generalize hwx : w.alloc (.cells #[.int .i64 t, .int .u64 (bit : Int)] 51) = wx at HK HKd HWa HWd c0 c1 hsz
  clear hwx
  go_region_held3 (fun w' => w'.cell? ⟨f, 0, none⟩ = some (.int .i64 t) ∧ w'.cell? ⟨f, 1, none⟩ = some (.int .u64 (bit : Int)))
    (first | with_reducible exact HKc.out _ HKd.out | with_reducible exact HKc.out _ K4.out | with_reducible exact HKc.out _ K5.out)
    (first
      | (go_at_call 77; refine (Hit.out _ HWd.out).mono ?_; rintro e w4 ⟨rfl, hb⟩; have B4 := Lib.hid (Below.call HWd.out hb HWd.out.size); have K4 := Lib.hid (HKd.out.below hb HKd.out.lt); clear hb)
      | (go_at_call 97; refine (Hhx.out _ B4.out).mono ?_; rintro e w5 ⟨rfl, hb⟩; have B5 := Lib.hid (Below.call B4.out hb B4.out.size); have K5 := Lib.hid (K4.out.below hb K4.out.lt); clear hb))
  rw [Hbody.out]
  have Hsum := Lib.hid (fun W => sum_any (natsOf body) (natsOf_256 body) (by unfold natsOf; rw [List.length_map]; omega) W)
  rw [bytesOf_nats] at Hsum
  have hn32 := sumL_lt (natsOf body)
  obtain ⟨n, hnn⟩ : ∃ n, n = sumL (natsOf body) := ⟨_, rfl⟩
  rw [← hnn] at Hsum hn32
  obtain ⟨ln, hln⟩ : ∃ ln, ln = body.length := ⟨_, rfl⟩
  have hls : (B8 body).size = ln := by rw [B8_size, hln]
  rw [← hln] at hbl
  have Hres := Lib.hid (show bytesOf [ln / 256 % 256, ln % 256] ++ B8 body ++ bytesOf [n % 256, n / 256 % 256, n / 65536 % 256, n / 16777216 % 256] = B8 (recB body) by
    rw [len2_eq, crc4_eq n hn32, B8_append, B8_append, hln, hnn]
    unfold recB
    rw [List.append_assoc])
  have hz1 : (bytesOf [ln / 256 % 256, ln % 256]).size = 2 := rfl
  have hz2 : (bytesOf [n % 256, n / 256 % 256, n / 65536 % 256, n / 16777216 % 256]).size = 4 := rfl
  obtain ⟨l1, h1⟩ : ∃ b, b = ln / 256 := ⟨_, rfl⟩
  have e1 : (ln : Int) / 256 = (l1 : Int) := by omega
  obtain ⟨p1, hp1⟩ : ∃ q, q = l1 % 256 := ⟨_, rfl⟩
  obtain ⟨p0, hp0⟩ : ∃ q, q = ln % 256 := ⟨_, rfl⟩
  have f1 : IntKind.u8.wrap (l1 : Int) = (p1 : Int) := by rw [IntKind.wrap_u8]; omega
  have f0 : IntKind.u8.wrap (ln : Int) = (p0 : Int) := by rw [IntKind.wrap_u8]; omega
  obtain ⟨b3, k3⟩ : ∃ b, b = n / 16777216 := ⟨_, rfl⟩
  obtain ⟨b2, k2⟩ : ∃ b, b = n / 65536 := ⟨_, rfl⟩
  obtain ⟨b1, k1⟩ : ∃ b, b = n / 256 := ⟨_, rfl⟩
  have d3 : (n : Int) / 16777216 = (b3 : Int) := by omega
  have d2 : (n : Int) / 65536 = (b2 : Int) := by omega
  have d1 : (n : Int) / 256 = (b1 : Int) := by omega
  obtain ⟨q3, hq3⟩ : ∃ q, q = b3 % 256 := ⟨_, rfl⟩
  obtain ⟨q2, hq2⟩ : ∃ q, q = b2 % 256 := ⟨_, rfl⟩
  obtain ⟨q1, hq1⟩ : ∃ q, q = b1 % 256 := ⟨_, rfl⟩
  obtain ⟨q0, hq0⟩ : ∃ q, q = n % 256 := ⟨_, rfl⟩
  have g3 : IntKind.u8.wrap (b3 : Int) = (q3 : Int) := by rw [IntKind.wrap_u8]; omega
  have g2 : IntKind.u8.wrap (b2 : Int) = (q2 : Int) := by rw [IntKind.wrap_u8]; omega
  have g1 : IntKind.u8.wrap (b1 : Int) = (q1 : Int) := by rw [IntKind.wrap_u8]; omega
  have g0 : IntKind.u8.wrap (n : Int) = (q0 : Int) := by rw [IntKind.wrap_u8]; omega
  rw [← h1, ← hp1, ← hp0, ← k3, ← k2, ← k1, ← hq3, ← hq2, ← hq1, ← hq0] at Hres
  have hv1 : (convert 111 9 (.slice (some ⟨w5.heap.size, 0, none⟩) 2 2)).run Tryz.prog (w5.alloc (.cells #[.int .u8 (p1 : Int), .int .u8 (p0 : Int)] 5)) = .ok (.string (bytesOf [p1, p0])) (w5.alloc (.cells #[.int .u8 (p1 : Int), .int .u8 (p0 : Int)] 5)) := conv_n (w5.alloc (.cells #[.int .u8 (p1 : Int), .int .u8 (p0 : Int)] 5)) w5.heap.size [p1, p0] _ (Blk.new _ _ _) rfl (by intro x hx; simp at hx; omega)
  have hv2 : (convert 111 9 (.slice (some ⟨w5.heap.size + 1, 0, none⟩) 4 4)).run Tryz.prog ((w5.alloc (.cells #[.int .u8 (p1 : Int), .int .u8 (p0 : Int)] 5)).alloc (.cells #[.int .u8 (q0 : Int), .int .u8 (q1 : Int), .int .u8 (q2 : Int), .int .u8 (q3 : Int)] 5)) = .ok (.string (bytesOf [q0, q1, q2, q3])) ((w5.alloc (.cells #[.int .u8 (p1 : Int), .int .u8 (p0 : Int)] 5)).alloc (.cells #[.int .u8 (q0 : Int), .int .u8 (q1 : Int), .int .u8 (q2 : Int), .int .u8 (q3 : Int)] 5)) := conv_n ((w5.alloc (.cells #[.int .u8 (p1 : Int), .int .u8 (p0 : Int)] 5)).alloc (.cells #[.int .u8 (q0 : Int), .int .u8 (q1 : Int), .int .u8 (q2 : Int), .int .u8 (q3 : Int)] 5)) (w5.heap.size + 1) [q0, q1, q2, q3] _ (by have := Blk.new (w5.alloc (.cells #[.int .u8 (p1 : Int), .int .u8 (p0 : Int)] 5)) 5 #[.int .u8 (q0 : Int), .int .u8 (q1 : Int), .int .u8 (q2 : Int), .int .u8 (q3 : Int)]; rw [World.size_alloc] at this; exact this) rfl (by intro x hx; simp at hx; omega)
  have hbd : sb_ok (B8 body) ln := hls
  have s1 : (bytesOf [p1, p0]).size = 2 := rfl
  have s2 : (bytesOf [q0, q1, q2, q3]).size = 4 := rfl
  generalize hres : B8 (recB body) = res at Hres
  have Hrs := Lib.hid hres
  clear hres
  generalize B8 body = sb at Hsum Hres hbd hls ⊢
  generalize bytesOf [p1, p0] = t1 at hv1 s1 Hres
  generalize bytesOf [q0, q1, q2, q3] = t2 at hv2 s2 Hres
  have HS1 := Lib.hid s1; have HS2 := Lib.hid s2
  have m1 : ¬ 9223372036854775807 < t1.size + sb.size := by omega
  have m2 : ¬ 9223372036854775807 < t1.size + sb.size + t2.size := by omega
  have hlsz : (sb.size : Int) = (ln : Int) := by rw [hls]
  clear hq3 hq2 hq1 hq0 k3 k2 k1 h1 hp1 hp0 hz1 hz2 hnn hln s1 s2 hbd hls n1 n2 n3 n4 hsn hsi hsh
  go_wp2_with fail
  refine (Hsum.out _).mono ?_
  rintro e w6 ⟨rfl, rfl⟩
  go_wp2
  go_ret
  refine ⟨by rw [Hrec.out, Hrs.out, ← Hres.out]; rfl, ?_⟩
  have hs5 := B5.out.size
  exact Below.alloc (Below.alloc B5.out hs5 _) (by simp; omega) _
end Go.Proofs.YtfkklcmepcocoaaGreatDoor
