/- ChunkPlain by its contract: it returns true. -/
import Derived.Test.YtfnjgminbjopeaaDoorConvB
import Derived.Test.YtfnjgminbjopeaaDoorRowOf
import Derived.Test.YtfnjgminbjopeaaDoorDecN
import Derived.Test.YtfnjgminbjopeaaDoorPtsRef
import Derived.Test.YtfnjgminbjopeaaDoorChunked
namespace Go.Proofs.YtfnjgminbjopeaaDoor
open Go.RowKit
set_option linter.unusedVariables false

theorem pchunk_len (l : List (Int × Int)) (hn : l.length ≤ 120) (hl : ∀ p ∈ l, 0 ≤ p.2 ∧ p.2 < 18446744073709551616) : 5 ≤ (chunkL l).length ∧ (chunkL l).length ≤ 100000 ∧ 1 ≤ (packN (rowP l)).length := by
  have h := rowP_len l hn hl
  unfold chunkL
  rw [seal_len, packN_len]
  omega
theorem xor_ne {x b : Nat} (h : b ≠ 0) : x ^^^ b ≠ x := fun e => h (by
  have := congrArg (x ^^^ ·) e
  simpa [← Nat.xor_assoc] using this)
theorem pcode_1 : (decide ((((0 : Nat) : Int) + 1) = 1) && decide ((-1 : Int) = -1)) = true := by decide

set_option maxRecDepth 100000 in
set_option maxHeartbeats 8000000 in
theorem chunkPlain_law {es : Nat → Addr} {B : Nat} (A : Option Addr) (n c : Nat) (l : List (Int × Int)) (at_ by_ cut : Int) (w : World) (hS : Sents es B w) (hT : TabAt w) (hB : B = w.heap.size)
    (hA : Rd w w.heap.size 2 A n (ptsC l)) (hn : n ≤ 140737488351232) (hl : ∀ p ∈ l, 0 ≤ p.2 ∧ p.2 < 18446744073709551616) (hby : 0 ≤ by_ ∧ by_ < 256) :
    Calls Tryd.prog 8 #[.slice A n c, .int .i64 at_, .int .u8 by_, .int .i64 cut] w fun e w' => e = .returned (.bool true) ∧ Below w.heap.size w w' := by
  have hB0 : B ≤ w.heap.size := Nat.le_of_eq hB
  have hTB : 15 < B := by rw [hB]; exact hT.lt
  have hla : l.length = n := by have := hA.1; rw [flat_len (fun p : Int × Int => [Value.int .i64 p.1, Value.int .u64 p.2]) 2 (fun _ => rfl)] at this; omega
  obtain ⟨hby0, hby1⟩ := hby
  obtain ⟨y0, rfl⟩ := Int.eq_ofNat_of_zero_le hby0
  have hy0 : y0 < 256 := by omega
  clear hB hby0 hby1
  have Hck := Lib.hid (chunked_any w hS.v hT hTB hB0)
  have HS := Lib.hid hS; have HT := Lib.hid hT; have Hla := Lib.hid hla; have Hl := Lib.hid hl
  have HA := Lib.hid (fun W (hb : Below w.heap.size w W) => (hA.below hb).more hb.size)
  clear hS hT hA hla hl
  by_cases q0 : 120 < n
  · have q1 : (120 : Int) < n := by omega
    clear q0
    go_enter Tryd.func8, Tryd.ntmps8
    go_wp2_with (go_at_call 11; refine Hck.out.mono ?_; rintro e w1 ⟨rfl, hb1⟩; have hb1 := Lib.hid hb1)
    go_ret
    exact ⟨rfl, hb1.out⟩
  have q4 : n ≤ 120 := by omega
  have q5 : (n : Int) ≤ 120 := by omega
  clear q0 hn
  obtain ⟨i, hi1, hi2, hi3⟩ := first_pt l n
  have Hi2 := Lib.hid hi2; have Hi3 := Lib.hid hi3
  by_cases hin : i < n
  · have Hbad := Lib.hid (hi3 hin)
    clear hi2 hi3
    go_enter Tryd.func8, Tryd.ntmps8
    go_wp2_with fail
    refine (Hck.out).mono ?_
    rintro e w1 ⟨rfl, hb⟩
    have HB1 := Lib.hid hb; clear hb
    go_wp2_with fail
    refine (own_any A n c l _ (HA.out _ HB1.out) (by omega)).mono ?_
    rintro e w2 ⟨v1, rfl, ho1, hb⟩
    have HB2 := Lib.hid (Below.call HB1.out hb HB1.out.size)
    obtain ⟨A1, c1, rfl, _, _, hr1⟩ := own_form ho1
    have HR1 := Lib.hid hr1
    clear hb ho1 hr1
    go_wp2_with fail
    refine (encode_bad A1 n c1 l i _ (HS.out.below HB2.out hB0).v (Nat.le_trans hB0 HB2.out.size) HR1.out (by omega) hin Hi2.out Hbad.out).mono ?_
    rintro e w3 ⟨pb, rfl, hpb, hpl, hp0, hp1, hb⟩
    have HB3 := Lib.hid (Below.call HB2.out hb HB2.out.size)
    clear hb hpb hpl hp0 hp1
    go_wp2
    go_ret
    exact ⟨rfl, HB3.out⟩
  obtain rfl : i = n := by omega
  obtain ⟨hc1, hc2, hc3⟩ := pchunk_len l (by rw [Hla.out]; omega) Hl.out
  have Hdec := Lib.hid (decR_chunk (by rw [Hla.out]; exact hi2) (by rw [Hla.out]; omega) Hl.out)
  obtain ⟨zs, hzs⟩ : ∃ zs, zs = chunkL l := ⟨_, rfl⟩
  have hz256 : ∀ x ∈ zs, x < 256 := by rw [hzs]; exact chunkL_256 l
  have He := Lib.hid (fun A1 c1 W (hf : Below w.heap.size w W) (hr : Rd W W.heap.size 2 A1 i (ptsC l)) => encode_ok A1 i c1 l W (HS.out.below hf hB0).v (HT.out.call hf (Nat.le_refl _)) (Nat.le_trans hB0 hf.size) hr (by omega) Hi2.out Hl.out)
  have Hturn := Lib.hid (fun (k x y : Nat) (h1 : zs[k]? = some x) (h2 : y < 256) (h3 : y ≠ x) => show decR (zs.set k y) = .err 8 from by
    rw [hzs] at h1 ⊢
    exact decR_turned (packN_256 _) hc3 h1 h2 h3)
  rw [← hzs] at hc1 hc2 Hdec He
  have Hd := Lib.hid (fun W ys (hf : Below w.heap.size w W) (hy : ∀ x ∈ ys, x < 256) (hyl : ys.length ≤ 100000) => decode_any ys W (HS.out.below hf hB0).v (HT.out.call hf (Nat.le_refl _)) hTB (Nat.le_trans hB0 hf.size) hy hyl)
  have Hz256 := Lib.hid hz256
  have Hcv := Lib.hid (fun W => conv_str zs hz256 W)
  have Hd0 := Lib.hid (fun W (hf : Below w.heap.size w W) => Hd.out W zs hf hz256 hc2)
  obtain ⟨m, hm⟩ : ∃ m, m = zs.length := ⟨_, rfl⟩
  rw [← hm] at Hcv hc1 hc2
  have Hex := Lib.hid (fun k => bytesOf_extract zs 0 k)
  have hsz : (bytesOf zs).size = m := by rw [bytesOf_size, hm]
  have Hm := Lib.hid hm
  have hm5 : (5 : Int) ≤ m := by omega
  generalize bytesOf zs = st at He Hcv Hd0 Hex hsz
  clear hi2 hi3 hin hzs hc3 hz256 hm
  have hP : (at_ < 0 ∨ (0 ≤ at_ ∧ (m : Int) ≤ at_)) ∨ (0 ≤ at_ ∧ at_ < m) := by omega
  have hcut : cut < 0 ∨ (0 ≤ cut ∧ 4 < cut) ∨ (0 ≤ cut ∧ cut ≤ 4) := by omega
  have HP := Lib.hid hP; have Hcut := Lib.hid hcut
  clear hP hcut
  go_enter Tryd.func8, Tryd.ntmps8
  go_wp2_with fail
  refine (Hck.out).mono ?_
  rintro e w1 ⟨rfl, hb⟩
  have HB1 := Lib.hid hb; clear hb
  go_wp2_with fail
  refine (own_any A i c l _ (HA.out _ HB1.out) (by omega)).mono ?_
  rintro e w2 ⟨v1, rfl, ho1, hb⟩
  have HB2 := Lib.hid (Below.call HB1.out hb HB1.out.size)
  obtain ⟨A1, c1, rfl, _, _, hr1⟩ := own_form ho1
  have HR1 := Lib.hid hr1
  clear hb ho1 hr1
  go_wp2_with fail
  refine (He.out A1 c1 _ HB2.out HR1.out).mono ?_
  rintro e w3 ⟨rfl, hb⟩
  have HB3 := Lib.hid (Below.call HB2.out hb HB2.out.size)
  clear hb
  go_wp2_with fail
  refine (Hd0.out _ HB3.out).mono ?_
  rintro e w4 ⟨_, hok, hb⟩
  obtain ⟨v4, rfl, ho4⟩ := hok l Hdec.out
  rw [Hla.out] at ho4
  obtain ⟨A4, c4, rfl, _, _, hr4⟩ := own_form ho4
  have HB4 := Lib.hid (Below.call HB3.out hb HB3.out.size)
  have HR4 := Lib.hid hr4
  clear hok hb ho4 hr4
  go_wp2_with fail
  refine (samePoints_eq A4 i c4 A c l _ HR4.out (HA.out _ HB4.out) (by omega)).mono ?_
  rintro e w5 ⟨rfl, hb⟩
  have HB5 := Lib.hid (Below.call HB4.out hb HB4.out.size)
  clear hb
  obtain ⟨cap, wc, hcv, hcb, hcs, hcr, hcf, hcx⟩ := Hcv.out w5
  rcases HP.out with (hp | hp) | ⟨hp1, hp2⟩
  case' inl.inl =>
    have HB8 := HB5
    clear hcv hcb hcs hcr hcf hcx
    rcases Hcut.out with hk | ⟨hk1, hk2⟩ | ⟨hk1, hk2⟩
  case' inl.inr =>
    obtain ⟨hp1, hp2⟩ := hp
    have HB8 := HB5
    clear hcv hcb hcs hcr hcf hcx
    rcases Hcut.out with hk | ⟨hk1, hk2⟩ | ⟨hk1, hk2⟩
  case' inr =>
    by_cases hy : y0 = 0
    case' pos =>
      subst hy
      have HB8 := HB5
      clear hcv hcb hcs hcr hcf hcx
      rcases Hcut.out with hk | ⟨hk1, hk2⟩ | ⟨hk1, hk2⟩
    case' neg =>
      obtain ⟨k, rfl⟩ := Int.eq_ofNat_of_zero_le hp1
      have hkm : k < m := by omega
      have hyb : ((y0 : Int) == 0) = false := by rw [beq_eq_false_iff_ne]; omega
      obtain ⟨x, hx⟩ : ∃ x, zs[k]? = some x := ⟨_, List.getElem?_eq_getElem (by rw [← Hm.out]; exact hkm)⟩
      have hx256 : x < 256 := Hz256.out x (List.mem_of_getElem? hx)
      obtain ⟨y, hyv⟩ : ∃ y, y = x ^^^ y0 := ⟨_, rfl⟩
      have hy256 : y < 256 := by rw [hyv]; exact Nat.xor_lt_two_pow (n := 8) hx256 hy0
      have hxo : bits .xor .u8 (x : Int) (y0 : Int) = (y : Int) := by rw [bits_xor_u8_nat x y0 hx256 hy0, hyv]
      have Hdt := Lib.hid (Hturn.out k x y hx hy256 (by rw [hyv]; exact xor_ne hy))
      obtain ⟨_, _, x', e1, _, hx', hc0⟩ := hcr.at1 (k := k) hkm
      injection e1 with e1
      injection e1 with e1 e2
      subst e1; subst e2
      rw [hx] at hx'
      injection hx' with hx'
      subst hx'
      rw [Nat.zero_add] at hc0
      have hf0 := hcf k hkm
      have hset : ∀ z ∈ zs.set k y, z < 256 := fun z hz => by
        rcases List.mem_or_eq_of_mem_set hz with h' | h'
        · exact Hz256.out z h'
        · rw [h']; exact hy256
      have hbk := conv_bytes _ _ _ cap _ (hcx k y) hset
      have HBc := Lib.hid (show Below w.heap.size w (wc.setCell ⟨w5.heap.size, k, none⟩ (.int .u8 (y : Int))) from (Below.call HB5.out hcb HB5.out.size).setCell HB5.out.size _)
      have Hd5 := Lib.hid (fun W hf => Hd.out W (zs.set k y) hf hset (by rw [List.length_set, ← Hm.out]; omega))
      generalize bytesOf (zs.set k y) = st2 at hbk Hd5
      have hkn : (k : Int) < m := by omega
      clear hcb hcs hcr hcf hcx hx hyv hy256 hset hx256 hp1 hp2
      go_wp2_with fail
      refine (Hd5.out _ HBc.out).mono ?_
      rintro e w7 ⟨her, _, hb⟩
      obtain rfl := her 8 Hdt.out
      have HB8 := Lib.hid (Below.call HBc.out hb HBc.out.size)
      clear her hb hcv hbk hc0 hf0 hxo
      rcases Hcut.out with hk | ⟨hk1, hk2⟩ | ⟨hk1, hk2⟩
  all_goals first
    | (go_wp2; go_ret; exact ⟨rfl, HB8.out⟩)
    | skip
  all_goals
    obtain ⟨q, rfl⟩ := Int.eq_ofNat_of_zero_le hk1
    have hq4 : q ≤ 4 := by omega
    have hqm : q ≤ m := by omega
    have hqs : q ≤ st.size := by omega
    have hqm' : (q : Int) ≤ m := by omega
    have Hdq := Lib.hid (show decR ((zs.take q).drop 0) = .err 0 from decR_short (by rw [List.drop_zero, List.length_take]; omega))
    have Hd6 := Lib.hid (fun W hf => Hd.out W ((zs.take q).drop 0) hf (fun x hx => Hz256.out x (List.mem_of_mem_take (List.mem_of_mem_drop hx))) (by rw [List.drop_zero, List.length_take]; omega))
    rw [← Hex.out q] at Hd6
    go_wp2_with fail
    refine (Hd6.out _ HB8.out).mono ?_
    rintro e w9 ⟨her, _, hb⟩
    obtain rfl := her 0 Hdq.out
    have HB9 := Lib.hid (Below.call HB8.out hb HB8.out.size)
    clear her hb
    go_wp2_with fail
    refine (coded_any _ _ _ 1 _ (HS.out.below HB9.out hB0) (Nat.le_trans hB0 HB9.out.size) (ErrIs.sent (HS.out.below HB9.out hB0) (k := 0) (by omega))).mono ?_
    rintro e w10 ⟨rfl, hb⟩
    rw [pcode_1]
    have HB10 := Lib.hid (Below.call HB9.out hb HB9.out.size)
    clear hb
    go_wp2
    go_ret
    exact ⟨rfl, HB10.out⟩
end Go.Proofs.YtfnjgminbjopeaaDoor
