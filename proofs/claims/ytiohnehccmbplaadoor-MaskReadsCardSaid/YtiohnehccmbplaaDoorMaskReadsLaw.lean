/- The walk of the law MaskReads: it returns true, whatever pieces are handed over. -/
import Derived.Test.YtiohnehccmbplaaDoorMaskGet
import Derived.Test.YtiohnehccmbplaaDoorReadMask
import Derived.Test.YtiohnehccmbplaaDoorMasked
import Derived.Test.YtiohnehccmbplaaDoorPieces
import Derived.Test.YtiohnehccmbplaaDoorSameV
import Derived.Test.YtiohnehccmbplaaDoorWaveGet
namespace Go.Proofs.YtiohnehccmbplaaDoor
open Go.RowKit
set_option linter.unusedVariables false

theorem mcode_2 : (decide ((((1 : Nat) : Int) + 1) = 2) && decide ((-1 : Int) = -1)) = true := by decide
theorem mcode_0 : (decide ((0 : Int) = 0) && decide ((-1 : Int) = -1)) = true := by decide
theorem mcode_s (n : Int) : (decide (n = n) && decide ((-1 : Int) = -1)) = true := by simp

theorem readMask_zero (S : List Bool) (n : Nat) (w : World) (hS : S.length ≤ 1000000) (hn : n ≤ 120) :
    Calls Tryd.prog 54 #[.string (txt S), .int .i64 0, .int .i64 n] w fun e w' => (∀ c, rdM S n [] w0 0 = .err c → e = .returned (.tuple #[.slice none 0 0, .int .i64 0, .int .i64 ((c : Int) + 1)])) ∧
      (∀ l q, rdM S n [] w0 0 = .ok l q → ∃ v, e = .returned (.tuple #[v, .int .i64 q, .int .i64 0]) ∧ w'.ownsRow w.heap.size 42 1 v n (l.map fun x : Nat => Value.int .u64 (x : Int))) ∧ Below w.heap.size w w' := readMask_any S 0 n w hS (Nat.zero_le _) hn

set_option maxRecDepth 100000 in
set_option maxHeartbeats 8000000 in
theorem maskReads_law {es : Nat → Addr} {B : Nat} (A' : Option Addr) (n' c' : Nat) (ps : List (Int × Int)) (N : Int) (w : World) (hS : Sents es B w) (hT : TabAt w) (hB : B = w.heap.size)
    (hA' : Rd w w.heap.size 2 A' n' (pcC ps)) (hn' : n' ≤ 140737488351232) (hps : ∀ p ∈ ps, 0 ≤ p.1 ∧ p.1 < 18446744073709551616) (hN : -9223372036854775808 ≤ N ∧ N ≤ 9223372036854775807) :
    Calls Tryd.prog 10 #[.slice A' n' c', .int .i64 N] w fun e w' => e = .returned (.bool true) ∧ Below w.heap.size w w' := by
  have hB0 : B ≤ w.heap.size := Nat.le_of_eq hB
  have hTB : 12 < B := by rw [hB]; exact hT.lt
  obtain ⟨hN1, hN2⟩ := hN
  clear hB
  have Hmk := Lib.hid (masked_any w hT)
  by_cases q2 : 40 < n'
  · have q2' : (40 : Int) < n' := by omega
    clear hA' hps hS hT
    go_enter Tryd.func10, Tryd.ntmps10
    go_wp2_with (go_at_call 52; refine Hmk.out.mono ?_; rintro e w1 ⟨rfl, hb1⟩; have hb1 := Lib.hid hb1)
    go_ret
    exact ⟨rfl, hb1.out⟩
  have q2' : (n' : Int) ≤ 40 := by omega
  by_cases q3 : 30 < N ∧ N ≤ 120
  · obtain ⟨q3, q4⟩ := q3
    clear hA' hps hS hT
    go_enter Tryd.func10, Tryd.ntmps10
    go_wp2_with (go_at_call 52; refine Hmk.out.mono ?_; rintro e w1 ⟨rfl, hb1⟩; have hb1 := Lib.hid hb1)
    go_ret
    exact ⟨rfl, hb1.out⟩
  have HS := Lib.hid hS; have HA' := Lib.hid hA'; have Hps := Lib.hid hps; have HT := Lib.hid hT
  clear hS hA' hps hT
  have q5 : N ≤ 30 ∨ (30 < N ∧ 120 < N) := by omega
  clear q3
  go_enter Tryd.func10, Tryd.ntmps10
  go_wp2_with fail
  refine Hmk.out.mono ?_
  rintro e w1 ⟨rfl, hb⟩
  have hB1 := Lib.hid hb; clear hb
  rcases q5 with q5 | ⟨q5, q6⟩
  all_goals
    go_wp2
    go_loopw [6, 7] (fun m i wr => ∃ (k : Nat) (st : ByteArray) (L : List Bool), k ≤ n' ∧ i = .int .i64 k ∧ m = .string st ∧ st = txt L ∧ st.size = L.length ∧ L = okL (ps.take k) ∧ L.length ≤ 64 * k ∧ Below w.heap.size w wr) (fun _ i _ => n' - (intOf i).toNat)
    case atStart => exact ⟨0, ByteArray.empty, [], by omega, rfl, rfl, rfl, rfl, rfl, by simp, hB1.out⟩
    case round =>
      obtain ⟨k, st, L, hk, rfl, rfl, hst, hsz, hL, hLk, hbel⟩ := hrel
      have Hst := Lib.hid hst; have Hsz := Lib.hid hsz; have HL := Lib.hid hL; have Hbel := Lib.hid hbel
      clear hst hsz hL hbel
      by_cases hkn : k < n'
      · obtain ⟨bb, off, y, hAe, had, hy, e0, e1⟩ := HA'.out.at2 hkn
        subst hAe
        have e0' := (Hbel.out.cell (p := ⟨bb, off + k * 2, none⟩) had).trans e0
        have e1' := (Hbel.out.cell (p := ⟨bb, off + k * 2 + 1, none⟩) had).trans e1
        obtain ⟨hy0, hy1⟩ := Hps.out y (List.mem_of_getElem? hy)
        have hwr : w.heap.size ≤ wr.heap.size := Hbel.out.size
        clear e0 e1
        by_cases hgood : 0 ≤ y.2 ∧ y.2 ≤ 64
        · obtain ⟨v, hv⟩ := Int.eq_ofNat_of_zero_le hy0
          obtain ⟨m, hm⟩ := Int.eq_ofNat_of_zero_le hgood.1
          have hm64 : m ≤ 64 := by omega
          have hv64 : v < 18446744073709551616 := by omega
          have hLn : okL (ps.take (k + 1)) = L ++ bitsN v m := by
            rw [okL_good hy hgood, ← HL.out, hv, hm, Int.toNat_natCast, Int.toNat_natCast]
          rw [hv] at e0'
          rw [hm] at e1'
          have HS1 := Lib.hid (show wr.drew.cell? ⟨bb, off + k * 2, none⟩ = some (.int .u64 (v : Int)) ∧ wr.drew.cell? ⟨bb, off + k * 2 + 1, none⟩ = some (.int .i64 (m : Int)) from ⟨e0', e1'⟩)
          have hB3 := Lib.hid (show Below w.heap.size w wr.drew from Hbel.out.drew)
          have m1 : (m : Int) ≤ 64 := by omega
          have hnext : st ++ txt (bitsN v m) = txt (L ++ bitsN v m) := by rw [Hst.out, txt_append]
          have htbs : (txt (bitsN v m)).size = m := by rw [txt_size, bitsN_len]
          have hLs : (L ++ bitsN v m).length = L.length + m := by rw [List.length_append, bitsN_len]
          have hss := Hsz.out
          generalize htb : txt (bitsN v m) = tb at hnext htbs
          have HLn := Lib.hid hLn; have Htb := Lib.hid htb; have Hnext := Lib.hid hnext; have HLs := Lib.hid hLs
          have hcat : ¬ 9223372036854775807 < L.length + m := by omega
          clear hLn htb hnext hLs hy hgood hv hm hy0 hy1
          go_wp2_with fail
          go_region_held3 (fun w' => w'.cell? ⟨bb, off + k * 2, none⟩ = some (.int .u64 (v : Int)) ∧ w'.cell? ⟨bb, off + k * 2 + 1, none⟩ = some (.int .i64 (m : Int)))
            (first | with_reducible exact HS1.out | (with_reducible refine keep2 hb4'.out ?_ ?_ HS1.out <;> first | (simp; done) | (simp; omega)))
            (first | (go_at_call 34; refine (bits_any v m hv64 hm64 _).mono ?_; rintro e w4 ⟨rfl, hb4⟩; rw [Htb.out]; have hb4' := Lib.hid (hb4.mono hB3.out.size); have hb4 := Lib.hid hb4))
          go_wp2
          go_roundw
          case rel => exact ⟨k + 1, _, L ++ bitsN v m, by omega, by go_num, rfl, Hnext.out, by rw [Hnext.out, txt_size], HLn.out.symm, by rw [HLs.out]; omega, Below.call hB3.out hb4.out hB3.out.size⟩
          case measure => simp [intOf]; omega
        · have hLn := okL_bad hy hgood
          rw [← HL.out] at hLn
          have HLn := Lib.hid hLn
          have hbad : y.2 < 0 ∨ 64 < y.2 := by omega
          clear hLn hy hgood
          rcases hbad with hbad | hbad
          · go_wp2
            go_roundw
            case rel => exact ⟨k + 1, st, L, by omega, by go_num, rfl, Hst.out, Hsz.out, HLn.out.symm, by omega, Hbel.out⟩
            case measure => simp [intOf]; omega
          · have hge : 0 ≤ y.2 := by omega
            go_wp2
            go_roundw
            case rel => exact ⟨k + 1, st, L, by omega, by go_num, rfl, Hst.out, Hsz.out, HLn.out.symm, by omega, Hbel.out⟩
            case measure => simp [intOf]; omega
      · have hst := Hst.out
        subst hst
        have hss := Hsz.out
        have hL4 : L.length ≤ 2560 := by omega
        go_wp2_with fail
        refine (openBits_any L (by omega) _).mono ?_
        rintro e w24 ⟨g2, rfl, hg2, hrd, hb24⟩
        have hB24 := Lib.hid (Below.call Hbel.out hb24 Hbel.out.size)
        have hg3 : w.heap.size ≤ g2 := Nat.le_trans Hbel.out.size hg2
        have Hrd24 := Lib.hid hrd
        clear hb24 hrd hg2
        by_cases hbad : N < 0 ∨ 120 < N
        · go_wp2_with fail
          refine (mread_bad _ N _ (HS.out.below hB24.out hB0).v hbad).mono ?_
          rintro e w25 ⟨rfl, hb25⟩
          have hB25 := Lib.hid (Below.call hB24.out hb25 hB24.out.size)
          clear hb25
          rcases hbad with hbad | hbad
          · go_wp2_with (go_at_call 21; refine (coded_any _ _ _ 2 _ (HS.out.below hB25.out hB0) (Nat.le_trans hB0 hB25.out.size) (ErrIs.sent (HS.out.below hB25.out hB0) (k := 1) (by omega))).mono ?_; rintro e w29 ⟨rfl, hb29⟩; rw [mcode_2]; have hB29 := Lib.hid (Below.call hB25.out hb29 hB25.out.size); clear hb29)
            go_ret
            exact ⟨rfl, hB29.out⟩
          · have hN0 : 0 ≤ N := by omega
            go_wp2_with (go_at_call 21; refine (coded_any _ _ _ 2 _ (HS.out.below hB25.out hB0) (Nat.le_trans hB0 hB25.out.size) (ErrIs.sent (HS.out.below hB25.out hB0) (k := 1) (by omega))).mono ?_; rintro e w29 ⟨rfl, hb29⟩; rw [mcode_2]; have hB29 := Lib.hid (Below.call hB25.out hb29 hB25.out.size); clear hb29)
            go_ret
            exact ⟨rfl, hB29.out⟩
        (try (exfalso; omega))
        all_goals
          obtain ⟨M, rfl⟩ := Int.eq_ofNat_of_zero_le (show 0 ≤ N by omega)
          have hM : M ≤ 120 := by omega
          have hM' : (M : Int) ≤ 120 := by omega
          have hM3 : (M : Int) ≤ 30 := by omega
          clear hbad q5
          go_wp2_with fail
          refine (mread_any g2 0 L.length (packN L) M L _ (rbits_pack L).symm (HS.out.below hB24.out hB0).v (HT.out.call hB24.out (Nat.le_refl _)) hTB (Nat.le_trans hB0 hB24.out.size) (Nat.le_trans hB0 hg3) Hrd24.out hM).mono ?_
          rintro e w25 ⟨her, hok, hf⟩
          have hB25 := Lib.hid (Below.trans hB24.out (hf.below hB24.out.size (fun k hk hs => by omega)))
          have Hrt2 := Lib.hid (readMask_zero L M w25 (by omega) hM)
          clear hf
          cases hr : rdM L M [] w0 0 with
          | err ce =>
            obtain rfl := her ce hr
            have hce := rdM_errs M [] w0 0 ce hr
            have Hrr := Lib.hid hr
            clear her hok hr
            go_wp2_with fail
            refine Hrt2.out.mono ?_
            rintro e w26 ⟨her2, _, hb26⟩
            obtain rfl := her2 ce Hrr.out
            have hB26 := Lib.hid (Below.call hB25.out hb26 hB25.out.size)
            have hce1 : (0 : Int) < (ce : Int) + 1 := by omega
            have hce11 : ce < 11 := by omega
            clear her2 hb26
            go_wp2_with fail
            refine (coded_any _ _ _ ((ce : Int) + 1) _ (HS.out.below hB26.out hB0) (Nat.le_trans hB0 hB26.out.size) (ErrIs.sent (HS.out.below hB26.out hB0) (k := ce) hce11)).mono ?_
            rintro e w27 ⟨rfl, hb27⟩
            rw [mcode_s]
            have hB27 := Lib.hid (Below.call hB26.out hb27 hB26.out.size)
            clear hb27
            go_wp2_with fail
            refine (sameValues_eq none 0 0 none 0 [] _ Rd.nil Rd.nil (by omega)).mono ?_
            rintro e w28 ⟨rfl, hb28⟩
            have hB28 := Lib.hid (Below.call hB27.out hb28 hB27.out.size)
            clear hb28
            go_wp2
            go_ret
            exact ⟨rfl, hB28.out⟩
          | ok lo qo =>
            obtain ⟨v25, rfl, hown, hrd⟩ := hok lo qo hr
            obtain ⟨A25, c25, rfl, _, _, hr25⟩ := own_form hown
            have hqo := hrd.2.1
            have Hrr := Lib.hid hr; have Hrd25 := Lib.hid hrd; have Hr25 := Lib.hid hr25
            clear her hok hr hown hrd hr25
            go_wp2_with fail
            refine Hrt2.out.mono ?_
            rintro e w26 ⟨_, hok2, hb26⟩
            obtain ⟨v26, rfl, hown2⟩ := hok2 lo qo Hrr.out
            obtain ⟨A26, c26, rfl, _, _, hr26⟩ := own_form hown2
            have hB26 := Lib.hid (Below.call hB25.out hb26 hB25.out.size)
            have Hr25b := Lib.hid ((Hr25.out.below hb26).more hb26.size)
            have Hrd26 := Lib.hid (Hrd25.out.below hb26 (Nat.le_refl _))
            have Hr26 := Lib.hid hr26
            clear hok2 hb26 hown2 hr26
            go_wp2_with fail
            refine (coded_any .nilIface 0 (-1) 0 _ (HS.out.below hB26.out hB0) (Nat.le_trans hB0 hB26.out.size) ErrIs.nil).mono ?_
            rintro e w27 ⟨rfl, hb27⟩
            rw [mcode_0]
            have hB27 := Lib.hid (Below.call hB26.out hb27 hB26.out.size)
            have Hr25c := Lib.hid ((Hr25b.out.below hb27).more hb27.size)
            have Hr26c := Lib.hid ((Hr26.out.below hb27).more hb27.size)
            have Hrd27 := Lib.hid (Hrd26.out.below hb27 (Nat.le_refl _))
            clear hb27
            go_wp2_with fail
            refine (sameValues_eq A25 M c25 A26 c26 lo _ Hr25c.out Hr26c.out (by omega)).mono ?_
            rintro e w28 ⟨rfl, hb28⟩
            have hB28 := Lib.hid (Below.call hB27.out hb28 hB27.out.size)
            have Hrd28 := Lib.hid (Hrd27.out.below hb28 (Nat.le_refl _))
            clear hb28
            go_wp2_with fail
            refine (left_any g2 qo L.length (packN L) _ Hrd28.out).mono ?_
            rintro e w29 ⟨rfl, hb29⟩
            have hB29 := Lib.hid (Below.call hB28.out hb29 hB28.out.size)
            clear hb29
            go_wp2
            go_ret
            exact ⟨rfl, hB29.out⟩
end Go.Proofs.YtiohnehccmbplaaDoor
