/- The walk of the law BitsRows: it returns true, whatever pieces and numbers of bits are handed over. -/
import Derived.Test.YtiohnehccmbplaaDoorRowed
import Derived.Deep.RegionHeld3
namespace Go.Proofs.YtiohnehccmbplaaDoor
open Go.RowKit
set_option linter.unusedVariables false

abbrev pcC (ps : List (Int × Int)) : List Value := ps.flatMap fun p => [.int .u64 p.1, .int .i64 p.2]
/-- The bits of the pieces whose number of bits is one. -/
def okL (ps : List (Int × Int)) : List Bool := ps.flatMap fun p => if 0 ≤ p.2 ∧ p.2 ≤ 64 then bitsN p.1.toNat p.2.toNat else []
theorem okL_len (ps : List (Int × Int)) : (okL ps).length ≤ 64 * ps.length := by
  induction ps with
  | nil => simp [okL]
  | cons p ps ih =>
    have e : okL (p :: ps) = (if 0 ≤ p.2 ∧ p.2 ≤ 64 then bitsN p.1.toNat p.2.toNat else []) ++ okL ps := by simp [okL]
    rw [e, List.length_append, List.length_cons]
    split
    · rw [bitsN_len]; omega
    · simp; omega
theorem okL_bad {ps : List (Int × Int)} {k : Nat} {y : Int × Int} (h : ps[k]? = some y) (hb : ¬ (0 ≤ y.2 ∧ y.2 ≤ 64)) : okL (ps.take (k + 1)) = okL (ps.take k) := by
  rw [take_snoc h]; simp only [okL, List.flatMap_append, List.flatMap_cons, List.flatMap_nil, if_neg hb, List.append_nil]
theorem okL_good {ps : List (Int × Int)} {k : Nat} {y : Int × Int} (h : ps[k]? = some y) (hb : 0 ≤ y.2 ∧ y.2 ≤ 64) : okL (ps.take (k + 1)) = okL (ps.take k) ++ bitsN y.1.toNat y.2.toNat := by
  rw [take_snoc h]; simp only [okL, List.flatMap_append, List.flatMap_cons, List.flatMap_nil, if_pos hb, List.append_nil]
theorem keep2 {B : Nat} {w w' : World} {a1 a2 : Addr} {v1 v2 : Value} (hb : Below B w w') (h1 : a1.block < B) (h2 : a2.block < B) (h : w.cell? a1 = some v1 ∧ w.cell? a2 = some v2) : w'.cell? a1 = some v1 ∧ w'.cell? a2 = some v2 := by
  rw [hb.cell h1, hb.cell h2]; exact h
theorem code2_bound : (decide ((((1 : Nat) : Int) + 1) = 2) && decide ((-1 : Int) = -1)) = true := by decide
theorem code2_none : (decide ((((4 : Nat) : Int) + 1) = 5) && decide ((-1 : Int) = -1)) = true := by decide

set_option maxRecDepth 100000 in
set_option maxHeartbeats 8000000 in
theorem bitsRows_law {es : Nat → Addr} {B : Nat} (A : Option Addr) (n c : Nat) (ps : List (Int × Int)) (A' : Option Addr) (n' c' : Nat) (xs : List Int) (N : Int) (w : World) (hS : Sents es B w) (hB0 : B ≤ w.heap.size)
    (hA : Rd w w.heap.size 2 A n (pcC ps)) (hn : n ≤ 140737488351232) (hps : ∀ p ∈ ps, 0 ≤ p.1 ∧ p.1 < 18446744073709551616) (hA' : Rd w w.heap.size 1 A' n' (xs.map (Value.int .i64))) (hn' : n' ≤ 140737488351232)
    (hxs : ∀ x ∈ xs, -9223372036854775808 ≤ x ∧ x ≤ 9223372036854775807) (hN : -9223372036854775808 ≤ N ∧ N ≤ 9223372036854775807) :
    Calls Tryd.prog 6 #[.slice A n c, .slice A' n' c', .int .i64 N] w fun e w' => e = .returned (.bool true) ∧ Below w.heap.size w w' := by
  have hlen : ps.length = n := by have := hA.1; rw [flat_len _ 2 (fun _ => rfl)] at this; omega
  by_cases q1 : 60 < n
  · have q1' : (60 : Int) < n := by omega
    clear hA hA' hlen hps hS hxs
    go_enter Tryd.func6, Tryd.ntmps6
    go_wp2_with (go_at_call 32; refine (rowed_any _).mono ?_; rintro e w1 ⟨rfl, hb1⟩; have hb1 := Lib.hid hb1)
    go_ret
    exact ⟨rfl, hb1.out⟩
  by_cases q2 : 60 < n'
  · have q1' : (n : Int) ≤ 60 := by omega
    have q2' : (60 : Int) < n' := by omega
    clear hA hA' hlen hps hS hxs
    go_enter Tryd.func6, Tryd.ntmps6
    go_wp2_with (go_at_call 32; refine (rowed_any _).mono ?_; rintro e w1 ⟨rfl, hb1⟩; have hb1 := Lib.hid hb1)
    go_ret
    exact ⟨rfl, hb1.out⟩
  have q1' : (n : Int) ≤ 60 := by omega
  have q2' : (n' : Int) ≤ 60 := by omega
  obtain ⟨hN1, hN2⟩ := hN
  have HS := Lib.hid hS; have HA := Lib.hid hA; have HA' := Lib.hid hA'; have Hlen := Lib.hid hlen; have Hps := Lib.hid hps; have Hxs := Lib.hid hxs
  clear hS hA hA' hlen hps hxs
  go_enter Tryd.func6, Tryd.ntmps6
  go_wp2_with fail
  refine (rowed_any _).mono ?_
  rintro e w1 ⟨rfl, hb⟩
  have hB1 := Lib.hid hb; clear hb
  go_wp2_with fail
  refine (new_any _).mono ?_
  rintro e w2 ⟨rfl, hw2⟩
  have hr2 : RowAt w2 w1.heap.size (.slice none 0 0) [] := by rw [hw2]; exact new_row w1
  have hB2 := Lib.hid (show Below w.heap.size w w2 by rw [hw2]; exact Below.alloc hB1.out hB1.out.size _)
  have hg : w.heap.size ≤ w1.heap.size := hB1.out.size
  generalize hgg : w1.heap.size = g at hr2 hg
  have Hr2 := Lib.hid hr2
  clear hw2 hr2 hgg hB1
  go_wp2
  go_loopw [9, 10] (fun m i wr => ∃ (k : Nat) (st : ByteArray) (bv : Value) (L : List Bool), k ≤ n ∧ i = .int .i64 k ∧ m = .string st ∧ st = txt L ∧ st.size = L.length ∧ L = okL (ps.take k) ∧ L.length ≤ 64 * k ∧ RowAt wr g bv L ∧ Below w.heap.size w wr) (fun _ i _ => n - (intOf i).toNat)
  case atStart => exact ⟨0, ByteArray.empty, _, [], by omega, rfl, rfl, rfl, rfl, rfl, by simp, Hr2.out, hB2.out⟩
  case round =>
    obtain ⟨k, st, bv, L, hk, rfl, rfl, hst, hsz, hL, hLk, hrow, hbel⟩ := hrel
    have Hst := Lib.hid hst; have Hsz := Lib.hid hsz; have HL := Lib.hid hL; have Hrow := Lib.hid hrow; have Hbel := Lib.hid hbel
    clear hst hsz hL hrow hbel
    by_cases hkn : k < n
    · obtain ⟨bb, off, y, hAe, had, hy, e0, e1⟩ := HA.out.at2 hkn
      have hAe' := hAe
      subst hAe
      have e0' := (Hbel.out.cell (p := ⟨bb, off + k * 2, none⟩) had).trans e0
      have e1' := (Hbel.out.cell (p := ⟨bb, off + k * 2 + 1, none⟩) had).trans e1
      have hyw := Hps.out y (List.mem_of_getElem? hy)
      obtain ⟨hy0, hy1⟩ := hyw
      have hwr : w.heap.size ≤ wr.heap.size := Hbel.out.size
      have HS0 := Lib.hid (show wr.drew.cell? ⟨bb, off + k * 2, none⟩ = some (.int .u64 y.1) ∧ wr.drew.cell? ⟨bb, off + k * 2 + 1, none⟩ = some (.int .i64 y.2) from ⟨e0', e1'⟩)
      have Hrow' := Lib.hid (show RowAt wr.drew g bv L from Hrow.out)
      have Hbel' := Lib.hid (show Below w.heap.size w wr.drew from Hbel.out.drew)
      clear e0 e1
      by_cases hgood : 0 ≤ y.2 ∧ y.2 ≤ 64
      · obtain ⟨v, hv⟩ := Int.eq_ofNat_of_zero_le hy0
        obtain ⟨m, hm⟩ := Int.eq_ofNat_of_zero_le hgood.1
        have hm64 : m ≤ 64 := by omega
        have hv64 : v < 18446744073709551616 := by omega
        have hLn : okL (ps.take (k + 1)) = L ++ bitsN v m := by
          rw [okL_good hy hgood, ← HL.out, hv, hm, Int.toNat_natCast, Int.toNat_natCast]
        rw [hv] at e0'
        rw [hm] at e1'
        have HS1 := Lib.hid (show wr.drew.cell? ⟨bb, off + k * 2, none⟩ = some (.int .u64 (v : Int)) ∧ wr.drew.cell? ⟨bb, off + k * 2 + 1, none⟩ = some (.int .i64 (m : Int)) from ⟨e0', e1'⟩)
        have HLn := Lib.hid hLn
        have hfit : (L.length : Int) + m ≤ 1048576 := by omega
        have m1 : (m : Int) ≤ 64 := by omega
        clear hLn hy hgood hv hm hy0 hy1 HS0
        go_wp2_with fail
        go_region_held3 (fun w' => w'.cell? ⟨bb, off + k * 2, none⟩ = some (.int .u64 (v : Int)) ∧ w'.cell? ⟨bb, off + k * 2 + 1, none⟩ = some (.int .i64 (m : Int)))
          (first | with_reducible exact HS1.out | (with_reducible refine keep2 hb3.out ?_ ?_ HS1.out <;> first | (simp; done) | (simp; omega)))
          (first | (go_at_call 33; refine (put_any g bv L (v : Int) (m : Int) _ Hrow'.out (by omega) (by omega) hfit (by omega) (by omega)).mono ?_; rintro e w3 ⟨rfl, hst⟩; have hb3 := Lib.hid (hst.below Hrow'.out hg); obtain ⟨bv3, hr3, _, _⟩ := hst; simp only [Int.toNat_natCast] at hr3; have Hr3 := Lib.hid hr3; clear hr3))
        have e0'' := (hb3.out.cell (p := ⟨bb, off + k * 2, none⟩) had).trans HS1.out.1
        have e1'' := (hb3.out.cell (p := ⟨bb, off + k * 2 + 1, none⟩) had).trans HS1.out.2
        have HS3 := Lib.hid (show w3.drew.cell? ⟨bb, off + k * 2, none⟩ = some (.int .u64 (v : Int)) ∧ w3.drew.cell? ⟨bb, off + k * 2 + 1, none⟩ = some (.int .i64 (m : Int)) from ⟨e0'', e1''⟩)
        have hB3 := Lib.hid (show Below w.heap.size w w3.drew from (Below.trans Hbel'.out hb3.out).drew)
        have hnext : st ++ txt (bitsN v m) = txt (L ++ bitsN v m) := by rw [Hst.out, txt_append]
        have htbs : (txt (bitsN v m)).size = m := by rw [txt_size, bitsN_len]
        have hLs : (L ++ bitsN v m).length = L.length + m := by rw [List.length_append, bitsN_len]
        have hss := Hsz.out
        generalize htb : txt (bitsN v m) = tb at hnext htbs
        generalize hL2 : L ++ bitsN v m = L2 at hnext hLs
        have HL2 := Lib.hid hL2; have Htb := Lib.hid htb; have Hnext := Lib.hid hnext
        have Hr3' := Lib.hid (show RowAt w3 g bv3 L2 by rw [← hL2]; exact Hr3.out)
        have hcat : ¬ 9223372036854775807 < L.length + m := by omega
        clear hL2 htb hnext
        go_wp2_with fail
        go_region_held3 (fun w' => w'.cell? ⟨bb, off + k * 2, none⟩ = some (.int .u64 (v : Int)) ∧ w'.cell? ⟨bb, off + k * 2 + 1, none⟩ = some (.int .i64 (m : Int)))
          (first | with_reducible exact HS3.out | (with_reducible refine keep2 hb4'.out ?_ ?_ HS3.out <;> first | (simp; done) | (simp; omega)))
          (first | (go_at_call 34; refine (bits_any v m hv64 hm64 _).mono ?_; rintro e w4 ⟨rfl, hb4⟩; rw [Htb.out]; have hb4' := Lib.hid (hb4.mono hB3.out.size); have hb4 := Lib.hid hb4))
        go_wp2_with (go_at_call 18; refine (len_any g bv3 L2 w4 (RowAt.below (w := w3.drew) Hr3'.out hb4.out (Nat.le_refl _))).mono ?_; rintro e w' ⟨rfl, rfl⟩)
        go_roundw
        case rel => exact ⟨k + 1, _, bv3, L2, by omega, by go_num, rfl, Hnext.out, by rw [Hnext.out, txt_size], by rw [← HL2.out]; exact HLn.out.symm, by omega, RowAt.below (w := w3.drew) Hr3'.out hb4.out (Nat.le_refl _), Below.call hB3.out hb4.out hB3.out.size⟩
        case measure => simp [intOf]; omega
      · have hLn := okL_bad hy hgood
        rw [← HL.out] at hLn
        have HLn := Lib.hid hLn
        have hbad : y.2 < 0 ∨ 64 < y.2 := by omega
        clear hLn hy
        go_wp2_with fail
        go_region_held3 (fun w' => w'.cell? ⟨bb, off + k * 2, none⟩ = some (.int .u64 y.1) ∧ w'.cell? ⟨bb, off + k * 2 + 1, none⟩ = some (.int .i64 y.2))
          (first | with_reducible exact HS0.out | (with_reducible assumption))
          (first | (go_at_call 33; refine (put_bad _ _ y.2 _ (HS.out.below Hbel'.out hB0) hbad).mono ?_; rintro e w' ⟨rfl, rfl⟩))
        rcases hbad with hbad | hbad
        · go_wp2_with (go_at_call 21; refine (coded_any _ _ _ 2 _ (HS.out.below Hbel'.out hB0) (Nat.le_trans hB0 Hbel'.out.size) (ErrIs.sent (HS.out.below Hbel'.out hB0) (k := 1) (by omega))).mono ?_; rintro e w4 ⟨rfl, hb4⟩; rw [code2_bound]; have hb4 := Lib.hid hb4)
          go_roundw
          case rel => exact ⟨k + 1, st, bv, L, by omega, by go_num, rfl, Hst.out, Hsz.out, HLn.out.symm, by omega, Hrow'.out.below hb4.out (Nat.le_refl _), Below.call Hbel'.out hb4.out Hbel'.out.size⟩
          case measure => simp [intOf]; omega
        · have hge : 0 ≤ y.2 := by omega
          go_wp2_with (go_at_call 21; refine (coded_any _ _ _ 2 _ (HS.out.below Hbel'.out hB0) (Nat.le_trans hB0 Hbel'.out.size) (ErrIs.sent (HS.out.below Hbel'.out hB0) (k := 1) (by omega))).mono ?_; rintro e w4 ⟨rfl, hb4⟩; rw [code2_bound]; have hb4 := Lib.hid hb4)
          go_roundw
          case rel => exact ⟨k + 1, st, bv, L, by omega, by go_num, rfl, Hst.out, Hsz.out, HLn.out.symm, by omega, Hrow'.out.below hb4.out (Nat.le_refl _), Below.call Hbel'.out hb4.out Hbel'.out.size⟩
          case measure => simp [intOf]; omega
    · have hst := Hst.out
      subst hst
      have hss := Hsz.out
      have hL4 : L.length ≤ 3840 := by omega
      obtain ⟨X, hX⟩ : ∃ X, X = packN L := ⟨_, rfl⟩
      have hXl : X.length ≤ 480 := by rw [hX, packN_len]; omega
      have HX8 := Lib.hid (show ∀ x ∈ X, x < 256 by rw [hX]; exact packN_256 L)
      have HX := Lib.hid hX
      have hXs : (bytesOf X).size = X.length := bytesOf_size X
      clear hX
      go_wp2_with fail
      refine (pack_any L (by omega) wr).mono ?_
      rintro e w3 ⟨rfl, hb⟩
      have Hrow3 := Lib.hid (Hrow.out.below hb (Nat.le_refl _))
      have hB3 := Lib.hid (Below.call Hbel.out hb Hbel.out.size)
      rw [← HX.out]
      clear hb
      go_wp2_with fail
      refine (bytes_any g bv L w3 Hrow3.out).mono ?_
      rintro e w' ⟨rfl, rfl⟩
      rw [← HX.out]
      go_wp2_with fail
      by_cases hbad : N < 0 ∨ 8 * (X.length : Int) < N
      · refine (open_bad (bytesOf X) N _ (HS.out.below hB3.out hB0) (by rw [hXs]; omega) (by rw [hXs]; omega)).mono ?_
        rintro e w4 ⟨rfl, hb4⟩
        have hB4 := Lib.hid (Below.call hB3.out hb4 hB3.out.size)
        clear hb4
        rcases hbad with hbad | hbad
        · go_wp2_with (go_at_call 21; refine (coded_any _ _ _ 2 _ (HS.out.below hB4.out hB0) (Nat.le_trans hB0 hB4.out.size) (ErrIs.sent (HS.out.below hB4.out hB0) (k := 1) (by omega))).mono ?_; rintro e w9 ⟨rfl, hb9⟩; rw [code2_bound]; have hB9 := Lib.hid (Below.call hB4.out hb9 hB4.out.size); have hb9 := Lib.hid hb9)
          go_ret
          exact ⟨rfl, hB9.out⟩
        · have hN0 : 0 ≤ N := by omega
          go_wp2_with (go_at_call 21; refine (coded_any _ _ _ 2 _ (HS.out.below hB4.out hB0) (Nat.le_trans hB0 hB4.out.size) (ErrIs.sent (HS.out.below hB4.out hB0) (k := 1) (by omega))).mono ?_; rintro e w9 ⟨rfl, hb9⟩; rw [code2_bound]; have hB9 := Lib.hid (Below.call hB4.out hb9 hB4.out.size); have hb9 := Lib.hid hb9)
          go_ret
          exact ⟨rfl, hB9.out⟩
      obtain ⟨N0, rfl⟩ := Int.eq_ofNat_of_zero_le (show 0 ≤ N by omega)
      have hN8 : (N0 : Int) ≤ 8 * (X.length : Int) := by omega
      refine (open_ok X N0 _ HX8.out (by omega) (by omega) (by omega)).mono ?_
      rintro e w4 ⟨rfl, hrd, hb4⟩
      have hB4 := Lib.hid (Below.call hB3.out hb4 hB3.out.size)
      have hg2 : w.heap.size ≤ w3.heap.size := hB3.out.size
      generalize w3.heap.size = g2 at hrd hg2 ⊢
      have Hrd4 := Lib.hid hrd
      clear hb4 hrd hbad
      go_wp2_with fail
      refine (unpack_any X HX8.out (by omega) w4).mono ?_
      rintro e w5 ⟨rfl, hb5⟩
      have Hrd5 := Lib.hid (Hrd4.out.below hb5 (Nat.le_refl _))
      have hB5 := Lib.hid (Below.call hB4.out hb5 hB4.out.size)
      have hR : (txt (rbits X)).size = 8 * X.length := by rw [txt_size, rbits_len]
      have hex : (txt (rbits X)).extract 0 N0 = txt ((rbits X).take N0) := by rw [txt_extract, List.drop_zero]
      have hs0s : (txt ((rbits X).take N0)).size = N0 := by rw [txt_size, List.length_take, rbits_len]; omega
      generalize htr : txt (rbits X) = tr at hR hex ⊢
      generalize hs0 : txt ((rbits X).take N0) = s0 at hex hs0s
      have Hs0 := Lib.hid hs0
      clear hb5 htr hs0
      go_wp2
      go_loopw [16, 17] (fun at_ i wq => ∃ (k1 a : Nat), k1 ≤ n' ∧ i = .int .i64 k1 ∧ at_ = .int .i64 a ∧ ReaderAt wq g2 X a N0 ∧ Below w.heap.size w wq) (fun _ i _ => n' - (intOf i).toNat)
      case atStart => exact ⟨0, 0, by omega, rfl, rfl, Hrd5.out, hB5.out⟩
      case round =>
        obtain ⟨k1, a, hk1, rfl, rfl, hrd, hbq⟩ := hrel
        have haN := hrd.2.1
        have Hrd := Lib.hid hrd; have Hbq := Lib.hid hbq
        clear hrd hbq
        by_cases hkn1 : k1 < n'
        · obtain ⟨b2, o2, z, hAe2, had2, hy2, e2⟩ := HA'.out.at1 hkn1
          subst hAe2
          have e2' := (Hbq.out.cell (p := ⟨b2, o2 + k1, none⟩) had2).trans e2
          have HE2 := Lib.hid e2
          obtain ⟨hz1, hz2⟩ := Hxs.out z (List.mem_of_getElem? hy2)
          clear hy2 e2
          by_cases hbz : z < 0 ∨ 64 < z
          · go_wp2_with fail
            refine (get_bad _ z _ (HS.out.below Hbq.out hB0) hbz).mono ?_
            rintro e w6 ⟨rfl, hb6⟩
            have hB6 := Lib.hid (Below.call Hbq.out hb6 Hbq.out.size)
            have Hrd6 := Lib.hid (Hrd.out.below hb6 (Nat.le_refl _))
            have e6 := (hB6.out.cell (p := ⟨b2, o2 + k1, none⟩) had2).trans HE2.out
            clear hb6
            rcases hbz with hbz | hbz
            · go_wp2_with (go_at_call 21; refine (coded_any _ _ _ 2 _ (HS.out.below hB6.out hB0) (Nat.le_trans hB0 hB6.out.size) (ErrIs.sent (HS.out.below hB6.out hB0) (k := 1) (by omega))).mono ?_; rintro e w9 ⟨rfl, hb9⟩; rw [code2_bound]; have hB9 := Lib.hid (Below.call hB6.out hb9 hB6.out.size); have hb9 := Lib.hid hb9)
              go_roundw
              case rel => exact ⟨k1 + 1, a, by omega, by go_num, rfl, Hrd6.out.below hb9.out (Nat.le_refl _), hB9.out⟩
              case measure => simp [intOf]; omega
            · have hz0 : 0 ≤ z := by omega
              go_wp2_with (go_at_call 21; refine (coded_any _ _ _ 2 _ (HS.out.below hB6.out hB0) (Nat.le_trans hB0 hB6.out.size) (ErrIs.sent (HS.out.below hB6.out hB0) (k := 1) (by omega))).mono ?_; rintro e w9 ⟨rfl, hb9⟩; rw [code2_bound]; have hB9 := Lib.hid (Below.call hB6.out hb9 hB6.out.size); have hb9 := Lib.hid hb9)
              go_roundw
              case rel => exact ⟨k1 + 1, a, by omega, by go_num, rfl, Hrd6.out.below hb9.out (Nat.le_refl _), hB9.out⟩
              case measure => simp [intOf]; omega
          obtain ⟨m, rfl⟩ := Int.eq_ofNat_of_zero_le (show 0 ≤ z by omega)
          have hm64 : (m : Int) ≤ 64 := by omega
          have hm64' : m ≤ 64 := by omega
          clear hbz hz1 hz2
          by_cases hno : N0 < a + m
          · have hno' : (N0 : Int) - a < m := by omega
            go_wp2_with fail
            refine (get_none g2 a N0 X m _ (HS.out.below Hbq.out hB0) (Nat.le_trans hB0 Hbq.out.size) Hrd.out hm64' hno).mono ?_
            rintro e w6 ⟨rfl, hb6⟩
            have hB6 := Lib.hid (Below.call Hbq.out hb6 Hbq.out.size)
            have Hrd6 := Lib.hid (Hrd.out.below hb6 (Nat.le_refl _))
            have e6 := (hB6.out.cell (p := ⟨b2, o2 + k1, none⟩) had2).trans HE2.out
            clear hb6
            go_wp2_with (go_at_call 21; refine (coded_any _ _ _ 5 _ (HS.out.below hB6.out hB0) (Nat.le_trans hB0 hB6.out.size) (ErrIs.sent (HS.out.below hB6.out hB0) (k := 4) (by omega))).mono ?_; rintro e w9 ⟨rfl, hb9⟩; rw [code2_none]; have hB9 := Lib.hid (Below.call hB6.out hb9 hB6.out.size); have hb9 := Lib.hid hb9)
            go_roundw
            case rel => exact ⟨k1 + 1, a, by omega, by go_num, rfl, Hrd6.out.below hb9.out (Nat.le_refl _), hB9.out⟩
            case measure => simp [intOf]; omega
          · have hyes : (m : Int) ≤ (N0 : Int) - a := by omega
            have hex2 : s0.extract a (a + m) = txt (((rbits X).drop a).take m) := by
              rw [← Hs0.out, txt_extract, List.take_take, Nat.min_eq_left (by omega), List.drop_take]
              congr 2; omega
            have hl2 : (((rbits X).drop a).take m).length ≤ 64 := Nat.le_trans (List.length_take_le _ _) hm64'
            go_wp2_with fail
            refine (get_ok g2 a N0 X m _ Hrd.out hm64' (by omega)).mono ?_
            rintro e w6 ⟨rfl, hr6, hf6⟩
            have hB6 := Lib.hid (Below.trans Hbq.out (hf6.below Hbq.out.size (fun k hk hs => by omega)))
            have Hrd6 := Lib.hid hr6
            have e6 := (hB6.out.cell (p := ⟨b2, o2 + k1, none⟩) had2).trans HE2.out
            generalize ((rbits X).drop a).take m = l2 at hex2 hl2 ⊢
            have hv2 := valN_lt l2
            clear hr6 hf6
            have t1 : (a : Int) + m ≤ N0 := by omega
            go_wp2_with (first
              | (go_at_call 40; refine (valueOf_any l2 hl2 _).mono ?_; rintro e w' ⟨rfl, rfl⟩)
              | (go_at_call 41; refine (left_any g2 (a + m) N0 X _ Hrd6.out).mono ?_; rintro e w9 ⟨rfl, hb9⟩; have hB9 := Lib.hid (Below.call hB6.out hb9 hB6.out.size); have hb9 := Lib.hid hb9))
            go_roundw
            case rel => exact ⟨k1 + 1, a + m, by omega, by go_num, by go_num, Hrd6.out.below hb9.out (Nat.le_refl _), hB9.out⟩
            case measure => simp [intOf]; omega
        · go_wp2
          go_ret
          exact ⟨rfl, Hbq.out⟩
end Go.Proofs.YtiohnehccmbplaaDoor
