/- The reference's MaskOf by its contract. -/
import Derived.Test.YtfkklcmepcocoaaGreatDoorMaskPQX
import Derived.Test.YtfkklcmepcocoaaGreatDoorMkaX
import Derived.BigQuiet
namespace Go.Proofs.YtfkklcmepcocoaaGreatDoor
open Go.RowKit
set_option linter.unusedVariables false

theorem txt_m0 : (⟨#[48]⟩ : ByteArray) = txt [false] := rfl
theorem txt_m10 : (⟨#[49, 48]⟩ : ByteArray) = txt [true, false] := rfl
theorem txt_m11 : (⟨#[49, 49]⟩ : ByteArray) = txt [true, true] := rfl
theorem sumN_mPk (xs : List Nat) (n : Nat) (hxs : ∀ x ∈ xs, x < 18446744073709551616) (hn : n ≤ xs.length) : sumN (mP xs n) ≤ 256 * n := by
  have h1 := sumN_le (mP xs n) (fun p hp => (mP_ok hxs n hn p hp).2)
  have h2 := mP_len xs n
  omega
theorem mask_zero (st : ByteArray) (l : List (Nat × Nat)) (h : st = txt (pBits l)) : st ++ (⟨#[48]⟩ : ByteArray) = txt (pBits (l ++ [(0, 1)])) := by
  rw [h, txt_m0, txt_append, pBits_append]; rfl
theorem mask_old (st s : ByteArray) (l : List (Nat × Nat)) (v d : Nat) (h : st = txt (pBits l)) (hs : s = txt (bitsN v d)) : st ++ (⟨#[49, 48]⟩ : ByteArray) ++ s = txt (pBits (l ++ [(2, 2), (v, d)])) := by
  rw [h, hs, txt_m10, txt_append, txt_append, pBits_append, pBits_cons, pBits_cons, List.append_assoc]
  congr 2
  show _ = [true, false] ++ (_ ++ [])
  rw [List.append_nil]
theorem mask_new (st s5 s6 s : ByteArray) (l : List (Nat × Nat)) (a v d : Nat) (h : st = txt (pBits l)) (h5 : s5 = txt (bitsN a 5)) (h6 : s6 = txt (bitsN d 6)) (hs : s = txt (bitsN v d)) :
    st ++ (⟨#[49, 49]⟩ : ByteArray) ++ s5 ++ s6 ++ s = txt (pBits (l ++ [(3, 2), (a, 5), (d, 6), (v, d)])) := by
  rw [h, h5, h6, hs, txt_m11, txt_append, txt_append, txt_append, txt_append, pBits_append, pBits_cons, pBits_cons, pBits_cons, pBits_cons]
  congr 1
  simp only [List.append_assoc]
  congr 1
  show _ = [true, true] ++ (_ ++ (_ ++ (_ ++ [])))
  rw [List.append_nil]

set_option maxRecDepth 100000 in
set_option maxHeartbeats 8000000 in
theorem maskOf_any (A : Option Addr) (n c : Nat) (xs : List Nat) (w : World) (hA : Rd w w.heap.size 1 A n (xs.map fun x : Nat => Value.int .u64 (x : Int))) (hn : n ≤ 10000) (hxs : ∀ x ∈ xs, x < 18446744073709551616) :
    Calls Tryz.prog 164 #[.slice A n c] w fun e w' => e = .returned (.string (txt (maskB xs))) ∧ Below w.heap.size w w' := by
  have hlen : xs.length = n := by have := hA.1; simp at this; omega
  have hmb : maskB xs = pBits (mP xs n) := by unfold maskB; rw [hlen]
  rw [hmb]
  have Hsm := Lib.hid (fun k (hk : k ≤ n) => sumN_mPk xs k hxs (by omega))
  have HA := Lib.hid hA; have Hxs := Lib.hid hxs
  clear hA hxs hlen hmb
  go_enter Tryz.func164, Tryz.ntmps164
  go_wp2
  go_loopw [3, 4, 5, 6, 7] (fun o a t f iv wr => ∃ (k : Nat) (st : ByteArray) (ww : Win), k ≤ n ∧ iv = .int .i64 k ∧ o = .string st ∧ st = txt (pBits (mP xs k)) ∧ st.size = sumN (mP xs k) ∧ ww = mW xs k ∧ a = .int .i64 ww.a ∧ t = .int .i64 ww.t ∧ f = .bool (decide (0 < ww.d)) ∧ Below w.heap.size w wr) (fun _ _ _ _ iv _ => n - (intOf iv).toNat)
  case atStart => exact ⟨0, ByteArray.empty, w0, Nat.zero_le _, rfl, rfl, rfl, rfl, rfl, rfl, rfl, rfl, Below.refl _ _⟩
  case round =>
    obtain ⟨k, st, ww, hk, rfl, rfl, hst, hss, hww, rfl, rfl, rfl, hbel⟩ := hrel
    have hs1 := Hsm.out k hk
    rw [← hss] at hs1
    have hs2 : st.size ≤ 2560000 := by omega
    have Hst := Lib.hid hst; have Hww := Lib.hid hww; have Hbel := Lib.hid hbel
    have hwr : w.heap.size ≤ wr.heap.size := hbel.size
    clear hst hss hww hbel hs1
    by_cases hkn : k < n
    · obtain ⟨b, o, y, hAe, had, hy, e0⟩ := (HA.out.below Hbel.out).at1 hkn
      subst hAe
      have hylt := Hxs.out y (List.mem_of_getElem? hy)
      have Hy := Lib.hid hy
      clear hy
      by_cases hk0 : k = 0
      · subst hk0
        simp only [Nat.add_zero] at e0
        have hmp : mP xs (0 + 1) = [(y, 64)] := by
          have := Hy.out
          simp [mP, this]
        have hmw : mW xs (0 + 1) = mW xs 0 := rfl
        have Hfin := Lib.hid (show txt (bitsN y 64) = txt (pBits (mP xs (0 + 1))) by rw [hmp, pBits_cons]; show _ = txt (_ ++ []); rw [List.append_nil])
        have Hmw := Lib.hid hmw
        clear hmp hmw
        go_wp2_with fail
        refine (bits_any y 64 hylt (by omega) _).mono ?_
        rintro e w1 ⟨rfl, hb1⟩
        have Hb1 := Lib.hid (Below.call Hbel.out hb1 hwr)
        clear hb1
        go_wp2
        go_roundw
        case rel => exact ⟨0 + 1, _, ww, by omega, by go_num, rfl, Hfin.out, by rw [Hfin.out, txt_size]; rfl, by rw [Hmw.out]; exact Hww.out, rfl, rfl, rfl, Hb1.out⟩
        case measure => simp [intOf]; omega
      · obtain ⟨b2, o2, z, hA2, had2, hz, e2⟩ := (HA.out.below Hbel.out).at1 (k := k - 1) (by omega)
        injection hA2 with hA2
        injection hA2 with hA3 hA4
        subst hA3; subst hA4
        have hzlt := Hxs.out z (List.mem_of_getElem? hz)
        have n1 : IntKind.i64.wrap ((k : Int) - 1) = ((k - 1 : Nat) : Int) := by rw [IntKind.wrap_i64]; omega
        obtain ⟨X, hX⟩ : ∃ X, X = y ^^^ z := ⟨_, rfl⟩
        have hxr : bits BinOp.xor IntKind.u64 (y : Int) (z : Int) = (X : Int) := by rw [bits_xor_u64_nat y z hylt hzlt, hX]
        have hXl : X < 18446744073709551616 := by rw [hX]; exact Nat.xor_lt_two_pow (n := 64) hylt hzlt
        have hxa : xAt xs k = X := by unfold xAt; rw [getD_get Hy.out, getD_get hz, hX]
        have Hxa := Lib.hid hxa
        have hk1 : ((k : Int) == 0) = false := by rw [beq_eq_false_iff_ne]; omega
        clear hxa hX hz
        by_cases hX0 : X = 0
        · have hxr0 : bits BinOp.xor IntKind.u64 (y : Int) (z : Int) = 0 := by rw [hxr, hX0]; rfl
          have hxp : mParts (mW xs k) X = [(0, 1)] := by unfold mParts; rw [if_pos hX0]
          have hwp : mWin (mW xs k) X = mW xs k := by unfold mWin; rw [if_pos hX0]
          have hmp : mP xs (k + 1) = mP xs k ++ [(0, 1)] := by rw [mP_succ xs hk0, Hxa.out, hxp]
          have Hmw := Lib.hid (show mW xs (k + 1) = mW xs k by rw [mW_succ xs hk0, Hxa.out, hwp])
          have Hfin := Lib.hid (show st ++ (⟨#[48]⟩ : ByteArray) = txt (pBits (mP xs (k + 1))) by rw [hmp]; exact mask_zero st _ Hst.out)
          have hcat : ¬ 9223372036854775807 < st.size + 1 := by omega
          clear hxp hwp hX0 hxr hXl Hxa hmp
          go_wp2
          go_quiet (fail)
          go_wp2
          go_roundw
          case rel => exact ⟨k + 1, _, ww, by omega, by go_num, rfl, Hfin.out, by rw [Hfin.out, txt_size]; rfl, by rw [Hmw.out]; exact Hww.out, rfl, rfl, rfl, Below.drewN Hbel.out _⟩
          case measure => simp [intOf]; omega
        · have hx0 : ((X : Int) == 0) = false := by rw [beq_eq_false_iff_ne]; omega
          obtain ⟨lz, hlz⟩ : ∃ lz, lz = lzN X := ⟨_, rfl⟩
          have hwk := winOf_ok X hX0 hXl
          have hka : (winOf X).a = min 31 lz := by rw [hlz]; rfl
          have hkt : tzN X = (winOf X).t := rfl
          have hzl := zeros_lead X hX0 hXl
          have hzt := zeros_tail X hX0 hXl
          rw [← hlz] at hzl
          rw [hkt] at hzt
          have hbl := bitsN_len X 64
          have Hz1 := Lib.hid (show ∀ W, Calls Tryz.prog 208 #[.string (txt (bitsN X 64))] W fun e w' => e = .returned (.int .i64 (lz : Int)) ∧ w' = W from fun W => by rw [← hzl]; exact zeros_any _ (by rw [hbl]; omega) W)
          have Htu := Lib.hid (fun W => turned_any (bitsN X 64) (by rw [hbl]; omega) W)
          have Hz2 := Lib.hid (show ∀ W, Calls Tryz.prog 208 #[.string (txt (bitsN X 64).reverse)] W fun e w' => e = .returned (.int .i64 ((winOf X).t : Int)) ∧ w' = W from fun W => by rw [← hzt]; exact zeros_any _ (by rw [List.length_reverse, hbl]; omega) W)
          have Hbx := Lib.hid (fun W => bits_any X 64 hXl (by omega) W)
          have Hex := Lib.hid (show ∀ a t, a + t ≤ 64 → (txt (bitsN X 64)).extract a (64 - t) = txt (bitsN (X / 2 ^ t) (64 - t - a)) from fun a t h => by rw [txt_extract, bitsN_slice X a t h])
          have Hnew := Lib.hid (show ¬ hasW ww (winOf X) → mP xs (k + 1) = mP xs k ++ [(3, 2), ((winOf X).a, 5), ((winOf X).d, 6), (X / 2 ^ (winOf X).t, (winOf X).d)] ∧ mW xs (k + 1) = winOf X from fun hh => ⟨by rw [mP_succ xs hk0, Hxa.out, ← Hww.out]; unfold mParts; rw [if_neg hX0, if_neg hh], by rw [mW_succ xs hk0, Hxa.out, ← Hww.out]; unfold mWin; rw [if_neg hX0, if_neg hh]⟩)
          have Hold := Lib.hid (show hasW ww (winOf X) → mP xs (k + 1) = mP xs k ++ [(2, 2), (X / 2 ^ ww.t, ww.d)] ∧ mW xs (k + 1) = ww from fun hh => ⟨by rw [mP_succ xs hk0, Hxa.out, ← Hww.out]; unfold mParts; rw [if_neg hX0, if_pos hh], by rw [mW_succ xs hk0, Hxa.out, ← Hww.out]; unfold mWin; rw [if_neg hX0, if_pos hh]⟩)
          have hwok : hasW ww (winOf X) → ww.Ok := fun hh => has_ok (by rw [Hww.out]; exact mW_ok Hxs.out k) hh
          have hsx : (txt (bitsN X 64)).size = 64 := by rw [txt_size, hbl]
          generalize txt (bitsN X 64) = ts at Hz1 Htu Hz2 Hbx Hex hsx
          generalize txt (bitsN X 64).reverse = tr at Htu Hz2
          have Hwok := Lib.hid hwok
          obtain ⟨la, lt, ld⟩ := ww
          generalize winOf X = kw at hwk hka Hz2 Hnew Hold Hwok
          obtain ⟨ka, kt, kd⟩ := kw
          simp only at hka
          obtain ⟨hk31, hkd1, hk64⟩ := hwk
          simp only at hk31 hkd1 hk64
          clear hlz hkt hzl hzt hbl hwok
          obtain ⟨r, hr⟩ : ∃ r, r = 64 - kt := ⟨_, rfl⟩
          have n3 : IntKind.i64.wrap (64 - (kt : Int)) = (r : Int) := by rw [IntKind.wrap_i64]; omega
          have u2 : IntKind.u64.wrap (kd : Int) = (kd : Int) := by rw [IntKind.wrap_u64]; omega
          have i1 : ka ≤ r := by omega
          have i2 : (ka : Int) ≤ (r : Int) := by omega
          have i3 : r ≤ 64 := by omega
          have i4 : (r : Int) ≤ 64 := by omega
          have Hr := Lib.hid hr
          clear hr
          by_cases h31 : 31 < lz
          · obtain rfl : ka = 31 := by omega
            have h31' : (31 : Int) < (lz : Int) := by omega
            have u1 : IntKind.u64.wrap 31 = 31 := by rw [IntKind.wrap_u64]; omega
            have i5 : (31 : Int) ≤ (r : Int) := by omega
            have u3 : IntKind.i64.wrap 33 = 33 := by rw [IntKind.wrap_i64]; omega
            clear hka
            have n5 : IntKind.i64.wrap (33 - (kt : Int)) = (kd : Int) := by rw [IntKind.wrap_i64]; omega
            have Hb5 := Lib.hid (show ∀ W, Calls Tryz.prog 162 #[.int .u64 31, .int .i64 5] W fun e w' => e = .returned (.string (txt (bitsN 31 5))) ∧ Below W.heap.size W w' from fun W => bits_any 31 5 (by omega) (by omega) W)
            have Hb6 := Lib.hid (show ∀ W, Calls Tryz.prog 162 #[.int .u64 (kd : Int), .int .i64 6] W fun e w' => e = .returned (.string (txt (bitsN kd 6))) ∧ Below W.heap.size W w' from fun W => bits_any kd 6 (by omega) (by omega) W)
            have h5s : (txt (bitsN 31 5)).size = 5 := by rw [txt_size, bitsN_len]
            have h6s : (txt (bitsN kd 6)).size = 6 := by rw [txt_size, bitsN_len]
            obtain ⟨t5, ht5⟩ : ∃ t5, t5 = txt (bitsN 31 5) := ⟨_, rfl⟩
            obtain ⟨t6, ht6⟩ : ∃ t6, t6 = txt (bitsN kd 6) := ⟨_, rfl⟩
            rw [← ht5] at Hb5 h5s
            rw [← ht6] at Hb6 h6s
            have Ht5 := Lib.hid ht5; have Ht6 := Lib.hid ht6
            clear ht5 ht6
            by_cases hh : hasW ⟨la, lt, ld⟩ ⟨31, kt, kd⟩
            · obtain ⟨hmp, hmw⟩ := Hold.out hh
              obtain ⟨g1, g2, g3⟩ := Hwok.out hh
              have hh' := hh
              obtain ⟨q1, q2, q3⟩ := hh'
              simp only at g1 g2 g3 q1 q2 q3
              have q2' : (la : Int) ≤ 31 := by omega
              have q3' : (lt : Int) ≤ (kt : Int) := by omega
              have dq : decide (0 < ld) = true := decide_eq_true q1
              have Hq := Lib.hid (show true = decide (0 < ld) from dq.symm)
              obtain ⟨s, hs⟩ : ∃ s, s = 64 - lt := ⟨_, rfl⟩
              have m3 : IntKind.i64.wrap (64 - (lt : Int)) = (s : Int) := by rw [IntKind.wrap_i64]; omega
              have j1 : la ≤ s := by omega
              have j2 : (la : Int) ≤ (s : Int) := by omega
              have j3 : s ≤ 64 := by omega
              have j4 : (s : Int) ≤ 64 := by omega
              have hfin : st ++ (⟨#[49, 48]⟩ : ByteArray) ++ ts.extract la s = txt (pBits (mP xs (k + 1))) := by
                rw [hmp]
                refine mask_old st _ _ _ _ Hst.out ?_
                rw [hs, Hex.out la lt (by omega), show 64 - lt - la = ld by omega]
              have hcat1 : ¬ 9223372036854775807 < st.size + 2 := by omega
              have hcat2 : ¬ 9223372036854775807 < st.size + 2 + (s - la) := by omega
              have Hfin := Lib.hid hfin; have Hmw := Lib.hid hmw
              clear hfin hmp hmw hs hh Hold Hnew Hwok
              go_wp2
              go_quiet (fail)
              go_wp2_with fail
              refine (Hbx.out _).mono ?_
              rintro e w1 ⟨rfl, hb1⟩
              have Hb1 := Lib.hid (Below.call (Below.drewN Hbel.out _) hb1 hwr)
              clear hb1
              go_wp2_with fail
              refine (Hz1.out _).mono ?_
              rintro e w' ⟨rfl, rfl⟩
              go_wp2_with fail
              refine (Htu.out _).mono ?_
              rintro e w' ⟨rfl, rfl⟩
              go_wp2_with fail
              refine (Hz2.out _).mono ?_
              rintro e w' ⟨rfl, rfl⟩
              go_wp2
              go_roundw
              case rel => exact ⟨k + 1, _, ⟨la, lt, ld⟩, by omega, by go_num, rfl, Hfin.out, by rw [Hfin.out, txt_size]; rfl, Hmw.out.symm, rfl, rfl, congrArg Value.bool Hq.out, Hb1.out⟩
              case measure => simp [intOf]; omega
            · obtain ⟨hmp, hmw⟩ := Hnew.out hh
              have hfin : st ++ (⟨#[49, 49]⟩ : ByteArray) ++ t5 ++ t6 ++ ts.extract 31 r = txt (pBits (mP xs (k + 1))) := by
                rw [hmp]
                refine mask_new st t5 t6 _ _ _ _ _ Hst.out Ht5.out Ht6.out ?_
                rw [Hr.out, Hex.out 31 kt (by omega), show 64 - kt - 31 = kd by omega]
              have hcat1 : ¬ 9223372036854775807 < st.size + 2 := by omega
              have hcat2 : ¬ 9223372036854775807 < st.size + 2 + 5 := by omega
              have hcat3 : ¬ 9223372036854775807 < st.size + 2 + 5 + 6 := by omega
              have hcat4 : ¬ 9223372036854775807 < st.size + 2 + 5 + 6 + (r - 31) := by omega
              have Hfin := Lib.hid hfin; have Hmw := Lib.hid hmw
              have hd2 : true = decide (0 < kd) := (decide_eq_true (by omega)).symm
              have Hd2 := Lib.hid hd2
              have hnot : ¬ 0 < ld ∨ (0 < ld ∧ 31 < (la : Int)) ∨ (0 < ld ∧ (la : Int) ≤ 31 ∧ (kt : Int) < (lt : Int)) := by
                by_cases a1 : 0 < ld
                · by_cases a2 : la ≤ 31
                  · exact .inr (.inr ⟨a1, by omega, by by_cases a3 : lt ≤ kt; exact absurd (show hasW ⟨la, lt, ld⟩ ⟨31, kt, kd⟩ from ⟨a1, a2, a3⟩) hh; omega⟩)
                  · exact .inr (.inl ⟨a1, by omega⟩)
                · exact .inl a1
              clear hfin hmp hmw hh Hold Hnew Hwok hd2
              go_wp2
              go_quiet (fail)
              go_wp2_with fail
              refine (Hbx.out _).mono ?_
              rintro e w1 ⟨rfl, hb1⟩
              have Hb1 := Lib.hid (Below.call (Below.drewN Hbel.out _) hb1 hwr)
              have hw1 : w.heap.size ≤ w1.heap.size := Hb1.out.size
              clear hb1
              go_wp2_with fail
              refine (Hz1.out _).mono ?_
              rintro e w' ⟨rfl, rfl⟩
              go_wp2_with fail
              refine (Htu.out _).mono ?_
              rintro e w' ⟨rfl, rfl⟩
              go_wp2_with fail
              refine (Hz2.out _).mono ?_
              rintro e w' ⟨rfl, rfl⟩
              rcases hnot with a1 | ⟨a1, a2⟩ | ⟨a1, a2, a3⟩
              case' inl => have dq : decide (0 < ld) = false := decide_eq_false a1
              case' inr.inl => have dq : decide (0 < ld) = true := decide_eq_true a1
              case' inr.inr => have dq : decide (0 < ld) = true := decide_eq_true a1
              all_goals
                go_wp2_with fail
                go_region_held3 (fun _ => True) (first | trivial)
                  (first
                    | (go_at_call 162; with_reducible refine (Hb5.out _).mono ?_; rintro e w5 ⟨rfl, hb5⟩; have hb5 := Lib.hid hb5)
                    | (go_at_call 162; with_reducible refine (Hb6.out _).mono ?_; rintro e w6 ⟨rfl, hb6⟩; have hb6 := Lib.hid hb6))
                go_wp2
                go_roundw
                case rel => exact ⟨k + 1, _, ⟨31, kt, kd⟩, by omega, by go_num, rfl, Hfin.out, by rw [Hfin.out, txt_size]; rfl, Hmw.out.symm, rfl, rfl, congrArg Value.bool Hd2.out, Below.call (Below.call Hb1.out.drew hb5.out hw1) hb6.out (Nat.le_trans hw1 hb5.out.size)⟩
                case measure => simp [intOf]; omega
          · obtain rfl : ka = lz := by omega
            have h31' : ¬ (31 : Int) < (ka : Int) := by omega
            clear hka
            have u1 : IntKind.u64.wrap (ka : Int) = (ka : Int) := by rw [IntKind.wrap_u64]; omega
            have n2 : IntKind.i64.wrap (64 - (ka : Int)) = ((64 - ka : Nat) : Int) := by rw [IntKind.wrap_i64]; omega
            have n5 : IntKind.i64.wrap (((64 - ka : Nat) : Int) - (kt : Int)) = (kd : Int) := by rw [IntKind.wrap_i64]; omega
            have Hb5 := Lib.hid (show ∀ W, Calls Tryz.prog 162 #[.int .u64 (ka : Int), .int .i64 5] W fun e w' => e = .returned (.string (txt (bitsN ka 5))) ∧ Below W.heap.size W w' from fun W => bits_any ka 5 (by omega) (by omega) W)
            have Hb6 := Lib.hid (show ∀ W, Calls Tryz.prog 162 #[.int .u64 (kd : Int), .int .i64 6] W fun e w' => e = .returned (.string (txt (bitsN kd 6))) ∧ Below W.heap.size W w' from fun W => bits_any kd 6 (by omega) (by omega) W)
            have h5s : (txt (bitsN ka 5)).size = 5 := by rw [txt_size, bitsN_len]
            have h6s : (txt (bitsN kd 6)).size = 6 := by rw [txt_size, bitsN_len]
            obtain ⟨t5, ht5⟩ : ∃ t5, t5 = txt (bitsN ka 5) := ⟨_, rfl⟩
            obtain ⟨t6, ht6⟩ : ∃ t6, t6 = txt (bitsN kd 6) := ⟨_, rfl⟩
            rw [← ht5] at Hb5 h5s
            rw [← ht6] at Hb6 h6s
            have Ht5 := Lib.hid ht5; have Ht6 := Lib.hid ht6
            clear ht5 ht6
            by_cases hh : hasW ⟨la, lt, ld⟩ ⟨ka, kt, kd⟩
            · obtain ⟨hmp, hmw⟩ := Hold.out hh
              obtain ⟨g1, g2, g3⟩ := Hwok.out hh
              have hh' := hh
              obtain ⟨q1, q2, q3⟩ := hh'
              simp only at g1 g2 g3 q1 q2 q3
              have q2' : (la : Int) ≤ (ka : Int) := by omega
              have q3' : (lt : Int) ≤ (kt : Int) := by omega
              have dq : decide (0 < ld) = true := decide_eq_true q1
              have Hq := Lib.hid (show true = decide (0 < ld) from dq.symm)
              obtain ⟨s, hs⟩ : ∃ s, s = 64 - lt := ⟨_, rfl⟩
              have m3 : IntKind.i64.wrap (64 - (lt : Int)) = (s : Int) := by rw [IntKind.wrap_i64]; omega
              have j1 : la ≤ s := by omega
              have j2 : (la : Int) ≤ (s : Int) := by omega
              have j3 : s ≤ 64 := by omega
              have j4 : (s : Int) ≤ 64 := by omega
              have hfin : st ++ (⟨#[49, 48]⟩ : ByteArray) ++ ts.extract la s = txt (pBits (mP xs (k + 1))) := by
                rw [hmp]
                refine mask_old st _ _ _ _ Hst.out ?_
                rw [hs, Hex.out la lt (by omega), show 64 - lt - la = ld by omega]
              have hcat1 : ¬ 9223372036854775807 < st.size + 2 := by omega
              have hcat2 : ¬ 9223372036854775807 < st.size + 2 + (s - la) := by omega
              have Hfin := Lib.hid hfin; have Hmw := Lib.hid hmw
              clear hfin hmp hmw hs hh Hold Hnew Hwok
              go_wp2
              go_quiet (fail)
              go_wp2_with fail
              refine (Hbx.out _).mono ?_
              rintro e w1 ⟨rfl, hb1⟩
              have Hb1 := Lib.hid (Below.call (Below.drewN Hbel.out _) hb1 hwr)
              clear hb1
              go_wp2_with fail
              refine (Hz1.out _).mono ?_
              rintro e w' ⟨rfl, rfl⟩
              go_wp2_with fail
              refine (Htu.out _).mono ?_
              rintro e w' ⟨rfl, rfl⟩
              go_wp2_with fail
              refine (Hz2.out _).mono ?_
              rintro e w' ⟨rfl, rfl⟩
              go_wp2
              go_roundw
              case rel => exact ⟨k + 1, _, ⟨la, lt, ld⟩, by omega, by go_num, rfl, Hfin.out, by rw [Hfin.out, txt_size]; rfl, Hmw.out.symm, rfl, rfl, congrArg Value.bool Hq.out, Hb1.out⟩
              case measure => simp [intOf]; omega
            · obtain ⟨hmp, hmw⟩ := Hnew.out hh
              have hfin : st ++ (⟨#[49, 49]⟩ : ByteArray) ++ t5 ++ t6 ++ ts.extract ka r = txt (pBits (mP xs (k + 1))) := by
                rw [hmp]
                refine mask_new st t5 t6 _ _ _ _ _ Hst.out Ht5.out Ht6.out ?_
                rw [Hr.out, Hex.out ka kt (by omega), show 64 - kt - ka = kd by omega]
              have hcat1 : ¬ 9223372036854775807 < st.size + 2 := by omega
              have hcat2 : ¬ 9223372036854775807 < st.size + 2 + 5 := by omega
              have hcat3 : ¬ 9223372036854775807 < st.size + 2 + 5 + 6 := by omega
              have hcat4 : ¬ 9223372036854775807 < st.size + 2 + 5 + 6 + (r - ka) := by omega
              have Hfin := Lib.hid hfin; have Hmw := Lib.hid hmw
              have hd2 : true = decide (0 < kd) := (decide_eq_true (by omega)).symm
              have Hd2 := Lib.hid hd2
              have hnot : ¬ 0 < ld ∨ (0 < ld ∧ (ka : Int) < (la : Int)) ∨ (0 < ld ∧ (la : Int) ≤ (ka : Int) ∧ (kt : Int) < (lt : Int)) := by
                by_cases a1 : 0 < ld
                · by_cases a2 : la ≤ ka
                  · exact .inr (.inr ⟨a1, by omega, by by_cases a3 : lt ≤ kt; exact absurd (show hasW ⟨la, lt, ld⟩ ⟨ka, kt, kd⟩ from ⟨a1, a2, a3⟩) hh; omega⟩)
                  · exact .inr (.inl ⟨a1, by omega⟩)
                · exact .inl a1
              clear hfin hmp hmw hh Hold Hnew Hwok hd2
              go_wp2
              go_quiet (fail)
              go_wp2_with fail
              refine (Hbx.out _).mono ?_
              rintro e w1 ⟨rfl, hb1⟩
              have Hb1 := Lib.hid (Below.call (Below.drewN Hbel.out _) hb1 hwr)
              have hw1 : w.heap.size ≤ w1.heap.size := Hb1.out.size
              clear hb1
              go_wp2_with fail
              refine (Hz1.out _).mono ?_
              rintro e w' ⟨rfl, rfl⟩
              go_wp2_with fail
              refine (Htu.out _).mono ?_
              rintro e w' ⟨rfl, rfl⟩
              go_wp2_with fail
              refine (Hz2.out _).mono ?_
              rintro e w' ⟨rfl, rfl⟩
              rcases hnot with a1 | ⟨a1, a2⟩ | ⟨a1, a2, a3⟩
              case' inl => have dq : decide (0 < ld) = false := decide_eq_false a1
              case' inr.inl => have dq : decide (0 < ld) = true := decide_eq_true a1
              case' inr.inr => have dq : decide (0 < ld) = true := decide_eq_true a1
              all_goals
                go_wp2_with fail
                go_region_held3 (fun _ => True) (first | trivial)
                  (first
                    | (go_at_call 162; with_reducible refine (Hb5.out _).mono ?_; rintro e w5 ⟨rfl, hb5⟩; have hb5 := Lib.hid hb5)
                    | (go_at_call 162; with_reducible refine (Hb6.out _).mono ?_; rintro e w6 ⟨rfl, hb6⟩; have hb6 := Lib.hid hb6))
                go_wp2
                go_roundw
                case rel => exact ⟨k + 1, _, ⟨ka, kt, kd⟩, by omega, by go_num, rfl, Hfin.out, by rw [Hfin.out, txt_size]; rfl, Hmw.out.symm, rfl, rfl, congrArg Value.bool Hd2.out, Below.call (Below.call Hb1.out.drew hb5.out hw1) hb6.out (Nat.le_trans hw1 hb5.out.size)⟩
                case measure => simp [intOf]; omega
    · obtain rfl : k = n := by omega
      have hst := Hst.out
      subst hst
      go_wp2
      go_ret
      exact ⟨rfl, Hbel.out⟩
end Go.Proofs.YtfkklcmepcocoaaGreatDoor
