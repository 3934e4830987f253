/- The walk of the law WaveReads: it returns true, whatever pieces are handed over. -/
import Derived.Test.YtiohnehccmbplaaDoorWaveGet
import Derived.Test.YtiohnehccmbplaaDoorUnwave
import Derived.Test.YtiohnehccmbplaaDoorWaved
import Derived.Test.YtiohnehccmbplaaDoorPieces
namespace Go.Proofs.YtiohnehccmbplaaDoor
open Go.RowKit
set_option linter.unusedVariables false

theorem coded_k5 : (decide ((((4 : Nat) : Int) + 1) = 5) && decide ((-1 : Int) = -1)) = true := by decide
theorem coded_k1 : (decide ((((0 : Nat) : Int) + 1) = 1) && decide ((-1 : Int) = -1)) = true := by decide
theorem coded_k0 : (decide ((0 : Int) = 0) && decide ((-1 : Int) = -1)) = true := by decide

set_option maxRecDepth 100000 in
set_option maxHeartbeats 8000000 in
theorem waveReads_law {es : Nat → Addr} {B : Nat} (A : Option Addr) (n c : Nat) (ps : List (Int × Int)) (w : World) (hS : Sents es B w) (hB0 : B ≤ w.heap.size) (hA : Rd w w.heap.size 2 A n (pcC ps)) (hn : n ≤ 140737488351232)
    (hps : ∀ p ∈ ps, 0 ≤ p.1 ∧ p.1 < 18446744073709551616) :
    Calls Tryd.prog 7 #[.slice A n c] w fun e w' => e = .returned (.bool true) ∧ Below w.heap.size w w' := by
  have hlen : ps.length = n := by have := hA.1; rw [flat_len _ 2 (fun _ => rfl)] at this; omega
  by_cases q1 : 30 < n
  · have q1' : (30 : Int) < n := by omega
    clear hA hlen hps hS
    go_enter Tryd.func7, Tryd.ntmps7
    go_wp2_with (go_at_call 14; refine (waved_any _).mono ?_; rintro e w1 ⟨rfl, hb1⟩; have hb1 := Lib.hid hb1)
    go_ret
    exact ⟨rfl, hb1.out⟩
  have q1' : (n : Int) ≤ 30 := by omega
  have HS := Lib.hid hS; have HA := Lib.hid hA; have Hlen := Lib.hid hlen; have Hps := Lib.hid hps
  clear hS hA hlen hps
  go_enter Tryd.func7, Tryd.ntmps7
  go_wp2_with fail
  refine (waved_any _).mono ?_
  rintro e w1 ⟨rfl, hb⟩
  have hB1 := Lib.hid hb; clear hb
  go_wp2
  go_loopw [4, 5] (fun m i wr => ∃ (k : Nat) (st : ByteArray) (L : List Bool), k ≤ n ∧ i = .int .i64 k ∧ m = .string st ∧ st = txt L ∧ st.size = L.length ∧ L = okL (ps.take k) ∧ L.length ≤ 64 * k ∧ Below w.heap.size w wr) (fun _ i _ => n - (intOf i).toNat)
  case atStart => exact ⟨0, ByteArray.empty, [], by omega, rfl, rfl, rfl, rfl, rfl, by simp, hB1.out⟩
  case round =>
    obtain ⟨k, st, L, hk, rfl, rfl, hst, hsz, hL, hLk, hbel⟩ := hrel
    have Hst := Lib.hid hst; have Hsz := Lib.hid hsz; have HL := Lib.hid hL; have Hbel := Lib.hid hbel
    clear hst hsz hL hbel
    by_cases hkn : k < n
    · obtain ⟨bb, off, y, hAe, had, hy, e0, e1⟩ := HA.out.at2 hkn
      subst hAe
      have e0' := (Hbel.out.cell (p := ⟨bb, off + k * 2, none⟩) had).trans e0
      have e1' := (Hbel.out.cell (p := ⟨bb, off + k * 2 + 1, none⟩) had).trans e1
      obtain ⟨hy0, hy1⟩ := Hps.out y (List.mem_of_getElem? hy)
      have hwr : w.heap.size ≤ wr.heap.size := Hbel.out.size
      clear e0 e1
      by_cases hgood : 0 ≤ y.2 ∧ y.2 ≤ 64
      · obtain ⟨v, hv⟩ := Int.eq_ofNat_of_zero_le hy0
        obtain ⟨m, hm⟩ := Int.eq_ofNat_of_zero_le hgood.1
        have hm64 : m ≤ 64 := by omega
        have hv64 : v < 18446744073709551616 := by omega
        have hLn : okL (ps.take (k + 1)) = L ++ bitsN v m := by
          rw [okL_good hy hgood, ← HL.out, hv, hm, Int.toNat_natCast, Int.toNat_natCast]
        rw [hv] at e0'
        rw [hm] at e1'
        have HS1 := Lib.hid (show wr.drew.cell? ⟨bb, off + k * 2, none⟩ = some (.int .u64 (v : Int)) ∧ wr.drew.cell? ⟨bb, off + k * 2 + 1, none⟩ = some (.int .i64 (m : Int)) from ⟨e0', e1'⟩)
        have hB3 := Lib.hid (show Below w.heap.size w wr.drew from Hbel.out.drew)
        have m1 : (m : Int) ≤ 64 := by omega
        have hnext : st ++ txt (bitsN v m) = txt (L ++ bitsN v m) := by rw [Hst.out, txt_append]
        have htbs : (txt (bitsN v m)).size = m := by rw [txt_size, bitsN_len]
        have hLs : (L ++ bitsN v m).length = L.length + m := by rw [List.length_append, bitsN_len]
        have hss := Hsz.out
        generalize htb : txt (bitsN v m) = tb at hnext htbs
        have HLn := Lib.hid hLn; have Htb := Lib.hid htb; have Hnext := Lib.hid hnext; have HLs := Lib.hid hLs
        have hcat : ¬ 9223372036854775807 < L.length + m := by omega
        clear hLn htb hnext hLs hy hgood hv hm hy0 hy1
        go_wp2_with fail
        go_region_held3 (fun w' => w'.cell? ⟨bb, off + k * 2, none⟩ = some (.int .u64 (v : Int)) ∧ w'.cell? ⟨bb, off + k * 2 + 1, none⟩ = some (.int .i64 (m : Int)))
          (first | with_reducible exact HS1.out | (with_reducible refine keep2 hb4'.out ?_ ?_ HS1.out <;> first | (simp; done) | (simp; omega)))
          (first | (go_at_call 34; refine (bits_any v m hv64 hm64 _).mono ?_; rintro e w4 ⟨rfl, hb4⟩; rw [Htb.out]; have hb4' := Lib.hid (hb4.mono hB3.out.size); have hb4 := Lib.hid hb4))
        go_wp2
        go_roundw
        case rel => exact ⟨k + 1, _, L ++ bitsN v m, by omega, by go_num, rfl, Hnext.out, by rw [Hnext.out, txt_size], HLn.out.symm, by rw [HLs.out]; omega, Below.call hB3.out hb4.out hB3.out.size⟩
        case measure => simp [intOf]; omega
      · have hLn := okL_bad hy hgood
        rw [← HL.out] at hLn
        have HLn := Lib.hid hLn
        have hbad : y.2 < 0 ∨ 64 < y.2 := by omega
        clear hLn hy hgood
        rcases hbad with hbad | hbad
        · go_wp2
          go_roundw
          case rel => exact ⟨k + 1, st, L, by omega, by go_num, rfl, Hst.out, Hsz.out, HLn.out.symm, by omega, Hbel.out⟩
          case measure => simp [intOf]; omega
        · have hge : 0 ≤ y.2 := by omega
          go_wp2
          go_roundw
          case rel => exact ⟨k + 1, st, L, by omega, by go_num, rfl, Hst.out, Hsz.out, HLn.out.symm, by omega, Hbel.out⟩
          case measure => simp [intOf]; omega
    · have hst := Hst.out
      subst hst
      have hss := Hsz.out
      have hL4 : L.length ≤ 1920 := by omega
      go_wp2_with fail
      refine (openBits_any L (by omega) _).mono ?_
      rintro e w4 ⟨g2, rfl, hg2, hrd, hb4⟩
      have hB4 := Lib.hid (Below.call Hbel.out hb4 Hbel.out.size)
      have hg3 : w.heap.size ≤ g2 := Nat.le_trans Hbel.out.size hg2
      have Hrd4 := Lib.hid hrd
      clear hb4 hrd hg2
      go_wp2
      go_loopw [7, 8] (fun at_ i wq => ∃ (k1 p : Nat), k1 ≤ 60 ∧ i = .int .i64 k1 ∧ at_ = .int .i64 p ∧ ReaderAt wq g2 (packN L) p L.length ∧ Below w.heap.size w wq) (fun _ i _ => 60 - (intOf i).toNat)
      case atStart => exact ⟨0, 0, by omega, rfl, rfl, Hrd4.out, hB4.out⟩
      case round =>
        obtain ⟨k1, p, hk1, rfl, rfl, hrd, hbq⟩ := hrel
        have hpL := hrd.2.1
        have Hrd := Lib.hid hrd; have Hbq := Lib.hid hbq
        clear hrd hbq
        by_cases hkn1 : k1 < 60
        · have hrp := rbits_pack L
          have Hrp := Lib.hid hrp
          clear hrp
          go_wp2_with fail
          refine (wget_any g2 p L.length (packN L) _ (HS.out.below Hbq.out hB0) (Nat.le_trans hB0 Hbq.out.size) (Nat.le_trans hB0 hg3) Hrd.out).mono ?_
          rintro e w6 ⟨rfl, hf6, ⟨p6, _, hr6⟩, hr6k⟩
          rw [Hrp.out] at hr6k ⊢
          have Hr6 := Lib.hid hr6; have Hr6k := Lib.hid hr6k
          have hB6 := Lib.hid (Below.trans Hbq.out (hf6.below Hbq.out.size (fun q hq hs => by omega)))
          have Huw := Lib.hid (unwave_any L p (by omega) (by omega) w6)
          clear hf6 hr6 hr6k
          cases hgw : getW L p with
          | none =>
            rw [hgw] at Huw
            have hret : wRet es .none = .tuple #[.int .i64 0, sentV (es 4)] := rfl
            rw [hret]
            clear hret hgw
            go_wp2_with fail
            refine Huw.out.mono ?_
            rintro e w7 ⟨rfl, hb7⟩
            have hret : pRet .none = .agg #[.int .i64 0, .int .u64 0, .int .i64 0, .int .i64 5] := rfl
            rw [hret]
            have hB7 := Lib.hid (Below.call hB6.out hb7 hB6.out.size)
            have hw7 : w.heap.size ≤ w7.heap.size := hB7.out.size
            have HK := Lib.hid (Blk.new w7 74 #[.int .i64 0, .int .u64 0, .int .i64 0, .int .i64 5])
            have hB8 := Lib.hid (show Below w.heap.size w (w7.alloc (.cells #[.int .i64 0, .int .u64 0, .int .i64 0, .int .i64 5] 74)) from Below.alloc hB7.out hw7 _)
            clear hb7 hret
            go_wp2_with fail
            refine (coded_any _ _ _ 5 _ (HS.out.below hB8.out hB0) (Nat.le_trans hB0 hB8.out.size) (ErrIs.sent (HS.out.below hB8.out hB0) (k := 4) (by omega))).mono ?_
            rintro e w9 ⟨rfl, hb9⟩
            rw [coded_k5]
            have hK9 := HK.out.below hb9 (by simp)
            have z0 := hK9.cell 0; have z2 := hK9.cell 2; have z3 := hK9.cell 3
            simp only [List.getElem?_toArray, List.getElem?_cons_zero, List.getElem?_cons_succ] at z0 z2 z3
            have hB9 := Lib.hid (Below.call hB8.out hb9 hB8.out.size)
            clear hb9 hK9
            go_wp2
            go_ret
            exact ⟨rfl, hB9.out⟩
          | bad =>
            rw [hgw] at Huw
            have hret : wRet es .bad = .tuple #[.int .i64 0, sentV (es 0)] := rfl
            rw [hret]
            clear hret hgw
            go_wp2_with fail
            refine Huw.out.mono ?_
            rintro e w7 ⟨rfl, hb7⟩
            have hret : pRet .bad = .agg #[.int .i64 0, .int .u64 0, .int .i64 0, .int .i64 1] := rfl
            rw [hret]
            have hB7 := Lib.hid (Below.call hB6.out hb7 hB6.out.size)
            have hw7 : w.heap.size ≤ w7.heap.size := hB7.out.size
            have HK := Lib.hid (Blk.new w7 74 #[.int .i64 0, .int .u64 0, .int .i64 0, .int .i64 1])
            have hB8 := Lib.hid (show Below w.heap.size w (w7.alloc (.cells #[.int .i64 0, .int .u64 0, .int .i64 0, .int .i64 1] 74)) from Below.alloc hB7.out hw7 _)
            clear hb7 hret
            go_wp2_with fail
            refine (coded_any _ _ _ 1 _ (HS.out.below hB8.out hB0) (Nat.le_trans hB0 hB8.out.size) (ErrIs.sent (HS.out.below hB8.out hB0) (k := 0) (by omega))).mono ?_
            rintro e w9 ⟨rfl, hb9⟩
            rw [coded_k1]
            have hK9 := HK.out.below hb9 (by simp)
            have z0 := hK9.cell 0; have z2 := hK9.cell 2; have z3 := hK9.cell 3
            simp only [List.getElem?_toArray, List.getElem?_cons_zero, List.getElem?_cons_succ] at z0 z2 z3
            have hB9 := Lib.hid (Below.call hB8.out hb9 hB8.out.size)
            clear hb9 hK9
            go_wp2
            go_ret
            exact ⟨rfl, hB9.out⟩
          | ok y m =>
            rw [hgw] at Huw
            have hrk := Hr6k.out y m hgw
            have hpm := hrk.2.1
            have Hrk := Lib.hid hrk
            have hret : wRet es (.ok y m) = .tuple #[.int .i64 y, .nilIface] := rfl
            rw [hret]
            clear hret hgw hrk
            go_wp2_with fail
            refine Huw.out.mono ?_
            rintro e w7 ⟨rfl, hb7⟩
            have hret : pRet (.ok y m) = .agg #[.int .i64 y, .int .u64 0, .int .i64 m, .int .i64 0] := rfl
            rw [hret]
            have hB7 := Lib.hid (Below.call hB6.out hb7 hB6.out.size)
            have hw7 : w.heap.size ≤ w7.heap.size := hB7.out.size
            have HK := Lib.hid (Blk.new w7 74 #[.int .i64 y, .int .u64 0, .int .i64 m, .int .i64 0])
            have hB8 := Lib.hid (show Below w.heap.size w (w7.alloc (.cells #[.int .i64 y, .int .u64 0, .int .i64 m, .int .i64 0] 74)) from Below.alloc hB7.out hw7 _)
            have Hr8 := Lib.hid ((Hrk.out.below hb7 (Nat.le_refl _)).below (show Below w7.heap.size w7 (w7.alloc (.cells #[.int .i64 y, .int .u64 0, .int .i64 m, .int .i64 0] 74)) from Below.alloc (Below.refl _ _) (Nat.le_refl _) _) (Nat.le_refl _))
            clear hb7 hret
            go_wp2_with fail
            refine (coded_any .nilIface 0 (-1) 0 _ (HS.out.below hB8.out hB0) (Nat.le_trans hB0 hB8.out.size) ErrIs.nil).mono ?_
            rintro e w9 ⟨rfl, hb9⟩
            rw [coded_k0]
            have hK9 := HK.out.below hb9 (by simp)
            have z0 := hK9.cell 0; have z2 := hK9.cell 2; have z3 := hK9.cell 3
            simp only [List.getElem?_toArray, List.getElem?_cons_zero, List.getElem?_cons_succ] at z0 z2 z3
            have hB9 := Lib.hid (Below.call hB8.out hb9 hB8.out.size)
            have Hr9 := Lib.hid (Hr8.out.below hb9 (Nat.le_refl _))
            clear hb9 hK9
            go_wp2_with fail
            refine (left_any g2 (p + m) L.length (packN L) _ Hr9.out).mono ?_
            rintro e w10 ⟨rfl, hb10⟩
            have hB10 := Lib.hid (Below.call hB9.out hb10 hB9.out.size)
            have Hr10 := Lib.hid (Hr9.out.below hb10 (Nat.le_refl _))
            clear hb10
            go_wp2
            go_roundw
            case rel => exact ⟨k1 + 1, p + m, by omega, by go_num, by go_num, Hr10.out, hB10.out⟩
            case measure => simp [intOf]; omega
        · obtain rfl : k1 = 60 := by omega
          go_wp2
          go_ret
          exact ⟨rfl, Hbq.out⟩
end Go.Proofs.YtiohnehccmbplaaDoor
