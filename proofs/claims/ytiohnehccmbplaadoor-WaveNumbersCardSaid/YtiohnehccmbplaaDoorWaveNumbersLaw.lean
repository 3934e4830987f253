/- The walk of the law WaveNumbers: it returns true, whatever numbers are handed over. -/
import Derived.Test.YtiohnehccmbplaaDoorWaveGet
import Derived.Test.YtiohnehccmbplaaDoorWaveRef
import Derived.Test.YtiohnehccmbplaaDoorWaved
namespace Go.Proofs.YtiohnehccmbplaaDoor
open Go.RowKit
set_option linter.unusedVariables false

theorem wavesL_len (l : List Int) : (wavesL l).length ≤ 68 * l.length := by
  induction l with
  | nil => simp [wavesL]
  | cons a l ih =>
    have e : wavesL (a :: l) = waveBits a ++ wavesL l := by simp [wavesL]
    have h1 := waveBits_len a
    have h2 := sizeN_bd a
    rw [e, List.length_append, List.length_cons]; omega
theorem wavesL_split {l : List Int} {k : Nat} {y : Int} (h : l[k]? = some y) : wavesL l = wavesL (l.take k) ++ (waveBits y ++ wavesL (l.drop (k + 1))) := by
  have hk : k < l.length := (List.getElem?_eq_some_iff.1 h).1
  have e : l = l.take k ++ (y :: l.drop (k + 1)) := by
    have : l.drop k = y :: l.drop (k + 1) := by
      rw [List.drop_eq_getElem_cons hk]; congr 1; exact (List.getElem?_eq_some_iff.1 h).2
    rw [← this, List.take_append_drop]
  conv => lhs; rw [e]
  simp [wavesL]
theorem getW_end (S : List Bool) : getW S S.length = .none := getW_none (ones_out S 4 S.length 0 (by omega) (fun i hi => by omega) (List.getElem?_eq_none (by omega)))
theorem code_k5 : (decide ((((4 : Nat) : Int) + 1) = 5) && decide ((-1 : Int) = -1)) = true := by decide
theorem code_k3 : (decide ((((2 : Nat) : Int) + 1) = 3) && decide ((-1 : Int) = -1)) = true := by decide

set_option maxRecDepth 100000 in
set_option maxHeartbeats 8000000 in
theorem waveNumbers_law {es : Nat → Addr} {B : Nat} (A : Option Addr) (n c : Nat) (xs : List Int) (w : World) (hS : Sents es B w) (hB0 : B ≤ w.heap.size) (hA : Rd w w.heap.size 1 A n (xs.map (Value.int .i64))) (hn : n ≤ 140737488351232)
    (hxs : ∀ x ∈ xs, -9223372036854775808 ≤ x ∧ x ≤ 9223372036854775807) :
    Calls Tryd.prog 8 #[.slice A n c] w fun e w' => e = .returned (.bool true) ∧ Below w.heap.size w w' := by
  have hlen : xs.length = n := by have := hA.1; simp at this; omega
  by_cases q1 : 60 < n
  · have q1' : (60 : Int) < n := by omega
    clear hA hlen hxs hS
    go_enter Tryd.func8, Tryd.ntmps8
    go_wp2_with (go_at_call 14; refine (waved_any _).mono ?_; rintro e w1 ⟨rfl, hb1⟩; have hb1 := Lib.hid hb1)
    go_ret
    exact ⟨rfl, hb1.out⟩
  have q1' : (n : Int) ≤ 60 := by omega
  have HS := Lib.hid hS; have HA := Lib.hid hA; have Hlen := Lib.hid hlen; have Hxs := Lib.hid hxs
  clear hS hA hlen hxs
  go_enter Tryd.func8, Tryd.ntmps8
  go_wp2_with fail
  refine (waved_any _).mono ?_
  rintro e w1 ⟨rfl, hb⟩
  have hB1 := Lib.hid hb; clear hb
  go_wp2_with fail
  refine (new_any _).mono ?_
  rintro e w2 ⟨rfl, hw2⟩
  have hr2 : RowAt w2 w1.heap.size (.slice none 0 0) [] := by rw [hw2]; exact new_row w1
  have hB2 := Lib.hid (show Below w.heap.size w w2 by rw [hw2]; exact Below.alloc hB1.out hB1.out.size _)
  have hg : w.heap.size ≤ w1.heap.size := hB1.out.size
  generalize hgg : w1.heap.size = g at hr2 hg
  have Hr2 := Lib.hid hr2
  clear hw2 hr2 hgg hB1
  go_wp2
  go_loopw [5, 6] (fun m i wr => ∃ (k : Nat) (st : ByteArray) (bv : Value) (L : List Bool), k ≤ n ∧ i = .int .i64 k ∧ m = .string st ∧ st = txt L ∧ st.size = L.length ∧ L = wavesL (xs.take k) ∧ L.length ≤ 68 * k ∧ RowAt wr g bv L ∧ Below w.heap.size w wr) (fun _ i _ => n - (intOf i).toNat)
  case atStart => exact ⟨0, ByteArray.empty, _, [], by omega, rfl, rfl, rfl, rfl, rfl, by simp, Hr2.out, hB2.out⟩
  case round =>
    obtain ⟨k, st, bv, L, hk, rfl, rfl, hst, hsz, hL, hLk, hrow, hbel⟩ := hrel
    have Hst := Lib.hid hst; have Hsz := Lib.hid hsz; have HL := Lib.hid hL; have Hrow := Lib.hid hrow; have Hbel := Lib.hid hbel
    clear hst hsz hL hrow hbel
    by_cases hkn : k < n
    · obtain ⟨bb, off, y, hAe, had, hy, e0⟩ := HA.out.at1 hkn
      subst hAe
      have e0' := (Hbel.out.cell (p := ⟨bb, off + k, none⟩) had).trans e0
      have HE := Lib.hid e0
      have hyr := Hxs.out y (List.mem_of_getElem? hy)
      have hnx := wavesL_next hy
      rw [← HL.out] at hnx
      have hsb := sizeN_bd y
      have hwl := waveBits_len y
      obtain ⟨sz, hsz'⟩ : ∃ sz : Nat, sizeN y = (sz : Int) := ⟨(sizeN y).toNat, by omega⟩
      have htys : (txt (waveBits y)).size = sz := by rw [txt_size]; omega
      have hlens : (L ++ waveBits y).length = L.length + sz := by rw [List.length_append]; omega
      have hnext : st ++ txt (waveBits y) = txt (L ++ waveBits y) := by rw [Hst.out, txt_append]
      have hfit : (L.length : Int) + sizeN y ≤ 1048576 := by omega
      have hsz68 : sz ≤ 68 := by omega
      have hss := Hsz.out
      have Hfit := Lib.hid hfit; have Hyr := Lib.hid hyr; have Hszy := Lib.hid hsz'
      generalize hty : txt (waveBits y) = ty at htys hnext
      generalize hL2 : L ++ waveBits y = L2 at hlens hnext hnx
      have HL2 := Lib.hid hL2; have Hty := Lib.hid hty; have Hnext := Lib.hid hnext; have Hnx := Lib.hid hnx
      clear e0 hy hyr hsb hwl hfit hsz' hty hL2 hnext hnx
      go_wp2_with fail
      refine (waveOf_any y Hyr.out _).mono ?_
      rintro e w3 ⟨rfl, hb3⟩
      rw [Hty.out]
      have hB3 := Lib.hid (Below.call Hbel.out hb3 Hbel.out.size)
      have Hrow3 := Lib.hid (Hrow.out.below hb3 (Nat.le_refl _))
      have e3 := (hB3.out.cell (p := ⟨bb, off + k, none⟩) had).trans HE.out
      clear hb3 e0'
      go_wp2_with fail
      refine (wput_ok g bv L y w3 Hrow3.out Hfit.out).mono ?_
      rintro e w4 ⟨rfl, hst4⟩
      have hB4 := Lib.hid (Below.trans hB3.out (hst4.below Hrow3.out hg))
      obtain ⟨bv4, hr4, _, _⟩ := hst4
      rw [HL2.out] at hr4
      have Hr4 := Lib.hid hr4
      have e4 := (hB4.out.cell (p := ⟨bb, off + k, none⟩) had).trans HE.out
      clear hr4 e3
      go_wp2_with fail
      refine (size_any y _).mono ?_
      rintro e w5 ⟨rfl, hb5⟩
      rw [Hszy.out]
      have hB5 := Lib.hid (Below.call hB4.out hb5 hB4.out.size)
      have Hr5 := Lib.hid (Hr4.out.below hb5 (Nat.le_refl _))
      clear hb5
      go_wp2_with fail
      refine (len_any g bv4 L2 w5 Hr5.out).mono ?_
      rintro e w' ⟨rfl, rfl⟩
      go_wp2
      go_roundw
      case rel => exact ⟨k + 1, _, bv4, L2, by omega, by go_num, rfl, Hnext.out, by rw [Hnext.out, txt_size], Hnx.out.symm, by omega, Hr5.out, hB5.out⟩
      case measure => simp [intOf]; omega
    · obtain rfl : k = n := by omega
      have hLx : L = wavesL xs := by rw [HL.out, List.take_of_length_le (by rw [Hlen.out]; exact Nat.le_refl _)]
      have HLx := Lib.hid hLx
      have hst := Hst.out
      subst hst
      have hss := Hsz.out
      have hL4 : L.length ≤ 4080 := by omega
      clear hLx
      go_wp2_with fail
      refine (bytes_any g bv L _ Hrow.out).mono ?_
      rintro e w' ⟨rfl, rfl⟩
      go_wp2_with fail
      refine (pack_any L (by omega) _).mono ?_
      rintro e w3 ⟨rfl, hb3⟩
      have hB3 := Lib.hid (Below.call Hbel.out hb3 Hbel.out.size)
      clear hb3
      go_wp2_with fail
      refine (openBits_any L (by omega) _).mono ?_
      rintro e w4 ⟨g2, rfl, hg2, hrd, hb4⟩
      have hB4 := Lib.hid (Below.call hB3.out hb4 hB3.out.size)
      have hg3 : w.heap.size ≤ g2 := Nat.le_trans hB3.out.size hg2
      have Hrd4 := Lib.hid hrd
      clear hb4 hrd hg2
      go_wp2
      go_loopw [9] (fun i wq => ∃ (k1 p : Nat), k1 ≤ k ∧ i = .int .i64 k1 ∧ p = (wavesL (xs.take k1)).length ∧ ReaderAt wq g2 (packN L) p L.length ∧ Below w.heap.size w wq) (fun i _ => k - (intOf i).toNat)
      case atStart => exact ⟨0, 0, by omega, rfl, rfl, Hrd4.out, hB4.out⟩
      case round =>
        obtain ⟨k1, p, hk1, rfl, hp, hrd, hbq⟩ := hrel
        have Hp := Lib.hid hp; have Hrd := Lib.hid hrd; have Hbq := Lib.hid hbq
        clear hp hrd hbq
        by_cases hkn1 : k1 < k
        · obtain ⟨b2, o2, y, hAe2, had2, hy2, e2⟩ := HA.out.at1 hkn1
          subst hAe2
          have HE2 := Lib.hid e2
          have hyr := Hxs.out y (List.mem_of_getElem? hy2)
          have hgw : getW ((rbits (packN L)).take L.length) p = .ok y (sizeN y).toNat := by
            rw [rbits_pack, HLx.out, wavesL_split hy2, Hp.out]
            exact getW_wave _ _ y hyr
          have hp2 : p + (sizeN y).toNat = (wavesL (xs.take (k1 + 1))).length := by
            have := waveBits_len y
            rw [wavesL_next hy2, List.length_append, ← Hp.out]; omega
          have Hgw := Lib.hid hgw; have Hp2 := Lib.hid hp2
          clear hy2 e2 hyr hgw hp2
          go_wp2_with fail
          refine (wget_any g2 p L.length (packN L) _ (HS.out.below Hbq.out hB0) (Nat.le_trans hB0 Hbq.out.size) (Nat.le_trans hB0 hg3) Hrd.out).mono ?_
          rintro e w6 ⟨rfl, hf6, _, hr6⟩
          rw [Hgw.out] at hr6 ⊢
          have Hr6 := Lib.hid (hr6 y _ rfl)
          have hB6 := Lib.hid (Below.trans Hbq.out (hf6.below Hbq.out.size (fun q hq hs => by omega)))
          have e6 := (hB6.out.cell (p := ⟨b2, o2 + k1, none⟩) had2).trans HE2.out
          have hret : wRet es (.ok y (sizeN y).toNat) = .tuple #[.int .i64 y, .nilIface] := rfl
          rw [hret]
          clear hf6 hr6 hret
          go_wp2
          go_roundw
          case rel => exact ⟨k1 + 1, _, by omega, by go_num, Hp2.out, Hr6.out, hB6.out⟩
          case measure => simp [intOf]; omega
        · obtain rfl : k1 = k := by omega
          have hpL : p = L.length := by rw [Hp.out, HLx.out, List.take_of_length_le (by rw [Hlen.out]; exact Nat.le_refl _)]
          have hgw : getW ((rbits (packN L)).take L.length) p = .none := by rw [rbits_pack, hpL]; exact getW_end L
          have Hgw := Lib.hid hgw; have HpL := Lib.hid hpL
          clear hgw hpL
          go_wp2_with fail
          refine (wget_any g2 p L.length (packN L) _ (HS.out.below Hbq.out hB0) (Nat.le_trans hB0 Hbq.out.size) (Nat.le_trans hB0 hg3) Hrd.out).mono ?_
          rintro e w6 ⟨rfl, hf6, ⟨p6, hp6, hr6⟩, _⟩
          rw [Hgw.out]
          have hret : wRet es .none = .tuple #[.int .i64 0, sentV (es 4)] := rfl
          rw [hret]
          have hpp : p6 = L.length := by have := hr6.2.1; have := HpL.out; omega
          have Hr6 := Lib.hid (show ReaderAt w6 g2 (packN L) L.length L.length by rw [hpp] at hr6; exact hr6)
          have hB6 := Lib.hid (Below.trans Hbq.out (hf6.below Hbq.out.size (fun q hq hs => by omega)))
          clear hf6 hr6 hret hpp hp6
          go_wp2_with fail
          refine (wget_nil _ (HS.out.below hB6.out hB0)).mono ?_
          rintro e w7 ⟨rfl, hb7⟩
          have hB7 := Lib.hid (Below.call hB6.out hb7 hB6.out.size)
          have Hr7 := Lib.hid (Hr6.out.below hb7 (Nat.le_refl _))
          clear hb7
          go_wp2_with fail
          refine (left_any g2 L.length L.length (packN L) _ Hr7.out).mono ?_
          rintro e w8 ⟨rfl, hb8⟩
          have hB8 := Lib.hid (Below.call hB7.out hb8 hB7.out.size)
          clear hb8
          go_wp2_with fail
          refine (coded_any _ _ _ 5 _ (HS.out.below hB8.out hB0) (Nat.le_trans hB0 hB8.out.size) (ErrIs.sent (HS.out.below hB8.out hB0) (k := 4) (by omega))).mono ?_
          rintro e w9 ⟨rfl, hb9⟩
          rw [code_k5]
          have hB9 := Lib.hid (Below.call hB8.out hb9 hB8.out.size)
          clear hb9
          go_wp2_with fail
          refine (coded_any _ _ _ 3 _ (HS.out.below hB9.out hB0) (Nat.le_trans hB0 hB9.out.size) (ErrIs.sent (HS.out.below hB9.out hB0) (k := 2) (by omega))).mono ?_
          rintro e w10 ⟨rfl, hb10⟩
          rw [code_k3]
          have hB10 := Lib.hid (Below.call hB9.out hb10 hB9.out.size)
          clear hb10
          go_wp2_with fail
          refine (wput_nil _ _ (HS.out.below hB10.out hB0)).mono ?_
          rintro e w' ⟨rfl, rfl⟩
          go_wp2_with fail
          refine (coded_any _ _ _ 3 _ (HS.out.below hB10.out hB0) (Nat.le_trans hB0 hB10.out.size) (ErrIs.sent (HS.out.below hB10.out hB0) (k := 2) (by omega))).mono ?_
          rintro e w11 ⟨rfl, hb11⟩
          rw [code_k3]
          have hB11 := Lib.hid (Below.call hB10.out hb11 hB10.out.size)
          clear hb11
          go_wp2
          go_ret
          exact ⟨rfl, hB11.out⟩
end Go.Proofs.YtiohnehccmbplaaDoor
