/- The reference's MaskOf by its contract. -/
import Derived.Test.YtpbgonpmpjpljaaGreatDoorMkiX
import Derived.Test.YtpbgonpmpjpljaaGreatDoorMkcX
import Derived.BigQuiet
import Derived.Test.YtpbgonpmpjpljaaGreatDoorChunkEncQX
import Derived.Test.YtpbgonpmpjpljaaGreatDoorMknX
namespace Go.Proofs.YtpbgonpmpjpljaaGreatDoor
open Go.RowKit
set_option linter.unusedVariables false

theorem txt_m0 : (⟨#[48]⟩ : ByteArray) = txt [false] := rfl
theorem txt_m10 : (⟨#[49, 48]⟩ : ByteArray) = txt [true, false] := rfl
theorem txt_m11 : (⟨#[49, 49]⟩ : ByteArray) = txt [true, true] := rfl
theorem sumN_mPk (xs : List Nat) (n : Nat) (hxs : ∀ x ∈ xs, x < 18446744073709551616) (hn : n ≤ xs.length) : sumN (mP xs n) ≤ 256 * n := by
  have h1 := sumN_le (mP xs n) (fun p hp => (mP_ok hxs n hn p hp).2)
  have h2 := mP_len xs n
  omega
theorem mask_zero (st : ByteArray) (l : List (Nat × Nat)) (h : st = txt (pBits l)) : st ++ (⟨#[48]⟩ : ByteArray) = txt (pBits (l ++ [(0, 1)])) := by
  rw [h, txt_m0, txt_append, pBits_append]; rfl
theorem mask_old (st s : ByteArray) (l : List (Nat × Nat)) (v d : Nat) (h : st = txt (pBits l)) (hs : s = txt (bitsN v d)) : st ++ (⟨#[49, 48]⟩ : ByteArray) ++ s = txt (pBits (l ++ [(2, 2), (v, d)])) := by
  rw [h, hs, txt_m10, txt_append, txt_append, pBits_append, pBits_cons, pBits_cons, List.append_assoc]
  congr 2
  show _ = [true, false] ++ (_ ++ [])
  rw [List.append_nil]
theorem mask_new (st s5 s6 s : ByteArray) (l : List (Nat × Nat)) (a v d : Nat) (h : st = txt (pBits l)) (h5 : s5 = txt (bitsN a 5)) (h6 : s6 = txt (bitsN d 6)) (hs : s = txt (bitsN v d)) :
    st ++ (⟨#[49, 49]⟩ : ByteArray) ++ s5 ++ s6 ++ s = txt (pBits (l ++ [(3, 2), (a, 5), (d, 6), (v, d)])) := by
  rw [h, h5, h6, hs, txt_m11, txt_append, txt_append, txt_append, txt_append, pBits_append, pBits_cons, pBits_cons, pBits_cons, pBits_cons]
  congr 1
  simp only [List.append_assoc]
  congr 1
  show _ = [true, true] ++ (_ ++ (_ ++ (_ ++ [])))
  rw [List.append_nil]

set_option maxRecDepth 100000 in
set_option maxHeartbeats 8000000 in
theorem maskOf_any (A : Option Addr) (n c : Nat) (xs : List Nat) (w : World) (hA : Rd w w.heap.size 1 A n (xs.map fun x : Nat => Value.int .u64 (x : Int))) (hn : n ≤ 10000) (hxs : ∀ x ∈ xs, x < 18446744073709551616) :
    Calls Tryz.prog 75 #[.slice A n c] w fun e w' => e = .returned (.string (txt (maskB xs))) ∧ Below w.heap.size w w' := by
  have hlen : xs.length = n := by have := hA.1; simp at this; omega
  have hmb : maskB xs = pBits (mP xs n) := by unfold maskB; rw [hlen]
  rw [hmb]
  have Hsm := Lib.hid (fun k (hk : k ≤ n) => sumN_mPk xs k hxs (by omega))
  have HA := Lib.hid hA; have Hxs := Lib.hid hxs
  clear hA hxs hlen hmb
  go_enter Tryz.func75, Tryz.ntmps75
  go_wp2
  go_loopw [3, 4, 5, 6, 7] (fun o a t f iv wr => ∃ (k : Nat) (st : ByteArray) (ww : Win), k ≤ n ∧ iv = .int .i64 k ∧ o = .string st ∧ st = txt (pBits (mP xs k)) ∧ st.size = sumN (mP xs k) ∧ ww = mW xs k ∧ a = .int .i64 ww.a ∧ t = .int .i64 ww.t ∧ f = .bool (decide (0 < ww.d)) ∧ Below w.heap.size w wr) (fun _ _ _ _ iv _ => n - (intOf iv).toNat)
  case atStart => exact ⟨0, ByteArray.empty, w0, Nat.zero_le _, rfl, rfl, rfl, rfl, rfl, rfl, rfl, rfl, Below.refl _ _⟩
  case round =>
    obtain ⟨k, st, ww, hk, rfl, rfl, hst, hss, hww, rfl, rfl, rfl, hbel⟩ := hrel
    have hs1 := Hsm.out k hk
    rw [← hss] at hs1
    have hs2 : st.size ≤ 2560000 := by omega
    have Hst := Lib.hid hst; have Hww := Lib.hid hww; have Hbel := Lib.hid hbel
    have hwr : w.heap.size ≤ wr.heap.size := hbel.size
    clear hst hss hww hbel hs1
    by_cases hkn : k < n
    · obtain ⟨b, o, y, hAe, had, hy, e0⟩ := (HA.out.below Hbel.out).at1 hkn
      subst hAe
      have hylt := Hxs.out y (List.mem_of_getElem? hy)
      have Hy := Lib.hid hy
      clear hy
      by_cases hk0 : k = 0
      · subst hk0
        simp only [Nat.add_zero] at e0
        have hmp : mP xs (0 + 1) = [(y, 64)] := by
          have := Hy.out
          simp [mP, this]
        have hmw : mW xs (0 + 1) = mW xs 0 := rfl
        have Hfin := Lib.hid (show txt (bitsN y 64) = txt (pBits (mP xs (0 + 1))) by rw [hmp, pBits_cons]; show _ = txt (_ ++ []); rw [List.append_nil])
        have Hmw := Lib.hid hmw
        clear hmp hmw
        go_wp2_with fail
        refine (bits_any y 64 hylt (by omega) _).mono ?_
        rintro e w1 ⟨rfl, hb1⟩
        have Hb1 := Lib.hid (Below.call Hbel.out hb1 hwr)
        clear hb1
        go_wp2
        go_roundw
        case rel => exact ⟨0 + 1, _, ww, by omega, by go_num, rfl, Hfin.out, by rw [Hfin.out, txt_size]; rfl, by rw [Hmw.out]; exact Hww.out, rfl, rfl, rfl, Hb1.out⟩
        case measure => simp [intOf]; omega
      · obtain ⟨b2, o2, z, hA2, had2, hz, e2⟩ := (HA.out.below Hbel.out).at1 (k := k - 1) (by omega)
        injection hA2 with hA2
        injection hA2 with hA3 hA4
        subst hA3; subst hA4
        have hzlt := Hxs.out z (List.mem_of_getElem? hz)
        have n1 : IntKind.i64.wrap ((k : Int) - 1) = ((k - 1 : Nat) : Int) := by rw [IntKind.wrap_i64]; omega
        obtain ⟨X, hX⟩ : ∃ X, X = y ^^^ z := ⟨_, rfl⟩
        have hxr : bits BinOp.xor IntKind.u64 (y : Int) (z : Int) = (X : Int) := by rw [bits_xor_u64_nat y z hylt hzlt, hX]
        have hXl : X < 18446744073709551616 := by rw [hX]; exact Nat.xor_lt_two_pow (n := 64) hylt hzlt
        have hxa : xAt xs k = X := by unfold xAt; rw [getD_get Hy.out, getD_get hz, hX]
        have Hxa := Lib.hid hxa
        have hk1 : ((k : Int) == 0) = false := by rw [beq_eq_false_iff_ne]; omega
        clear hxa hX hz
        by_cases hX0 : X = 0
        · have hxr0 : bits BinOp.xor IntKind.u64 (y : Int) (z : Int) = 0 := by rw [hxr, hX0]; rfl
          have hxp : mParts (mW xs k) X = [(0, 1)] := by unfold mParts; rw [if_pos hX0]
          have hwp : mWin (mW xs k) X = mW xs k := by unfold mWin; rw [if_pos hX0]
          have hmp : mP xs (k + 1) = mP xs k ++ [(0, 1)] := by rw [mP_succ xs hk0, Hxa.out, hxp]
          have Hmw := Lib.hid (show mW xs (k + 1) = mW xs k by rw [mW_succ xs hk0, Hxa.out, hwp])
          have Hfin := Lib.hid (show st ++ (⟨#[48]⟩ : ByteArray) = txt (pBits (mP xs (k + 1))) by rw [hmp]; exact mask_zero st _ Hst.out)
          have hcat : ¬ 9223372036854775807 < st.size + 1 := by omega
          clear hxp hwp hX0 hxr hXl Hxa hmp
          go_wp2
          go_quiet (fail)
          go_wp2
          go_roundw
          case rel => exact ⟨k + 1, _, ww, by omega, by go_num, rfl, Hfin.out, by rw [Hfin.out, txt_size]; rfl, by rw [Hmw.out]; exact Hww.out, rfl, rfl, rfl, Below.drewN Hbel.out _⟩
          case measure => simp [intOf]; omega
        · have hx0 : ((X : Int) == 0) = false := by rw [beq_eq_false_iff_ne]; omega
          obtain ⟨lz, hlz⟩ : ∃ lz, lz = lzN X := ⟨_, rfl⟩
          have hwk := winOf_ok X hX0 hXl
          have hka : (winOf X).a = min 31 lz := by rw [hlz]; rfl
          have hkt : tzN X = (winOf X).t := rfl
          have hzl := zeros_lead X hX0 hXl
          have hzt := zeros_tail X hX0 hXl
          rw [← hlz] at hzl
          rw [hkt] at hzt
          have hbl := bitsN_len X 64
          have Hz1 := Lib.hid (show ∀ W, Calls Tryz.prog 108 #[.string (txt (bitsN X 64))] W fun e w' => e = .returned (.int .i64 (lz : Int)) ∧ w' = W from fun W => by rw [← hzl]; exact zeros_any _ (by rw [hbl]; omega) W)
          have Htu := Lib.hid (fun W => turned_any (bitsN X 64) (by rw [hbl]; omega) W)
          have Hz2 := Lib.hid (show ∀ W, Calls Tryz.prog 108 #[.string (txt (bitsN X 64).reverse)] W fun e w' => e = .returned (.int .i64 ((winOf X).t : Int)) ∧ w' = W from fun W => by rw [← hzt]; exact zeros_any _ (by rw [List.length_reverse, hbl]; omega) W)
          have Hbx := Lib.hid (fun W => bits_any X 64 hXl (by omega) W)
          have Hex := Lib.hid (show ∀ a t, a + t ≤ 64 → (txt (bitsN X 64)).extract a (64 - t) = txt (bitsN (X / 2 ^ t) (64 - t - a)) from fun a t h => by rw [txt_extract, bitsN_slice X a t h])
          have Hnew := Lib.hid (show ¬ hasW ww (winOf X) → mP xs (k + 1) = mP xs k ++ [(3, 2), ((winOf X).a, 5), ((winOf X).d, 6), (X / 2 ^ (winOf X).t, (winOf X).d)] ∧ mW xs (k + 1) = winOf X from fun hh => ⟨by rw [mP_succ xs hk0, Hxa.out, ← Hww.out]; unfold mParts; rw [if_neg hX0, if_neg hh], by rw [mW_succ xs hk0, Hxa.out, ← Hww.out]; unfold mWin; rw [if_neg hX0, if_neg hh]⟩)
          have Hold := Lib.hid (show hasW ww (winOf X) → mP xs (k + 1) = mP xs k ++ [(2, 2), (X / 2 ^ ww.t, ww.d)] ∧ mW xs (k + 1) = ww from fun hh => ⟨by rw [mP_succ xs hk0, Hxa.out, ← Hww.out]; unfold mParts; rw [if_neg hX0, if_pos hh], by rw [mW_succ xs hk0, Hxa.out, ← Hww.out]; unfold mWin; rw [if_neg hX0, if_pos hh]⟩)
          have hwok : hasW ww (winOf X) → ww.Ok := fun hh => has_ok (by rw [Hww.out]; exact mW_ok Hxs.out k) hh
          have hsx : (txt (bitsN X 64)).size = 64 := by rw [txt_size, hbl]
          generalize txt (bitsN X 64) = ts at Hz1 Htu Hz2 Hbx Hex hsx
          generalize txt (bitsN X 64).reverse = tr at Htu Hz2
          have Hwok := Lib.hid hwok
          obtain ⟨la, lt, ld⟩ := ww
          generalize winOf X = kw at hwk hka Hz2 Hnew Hold Hwok
          obtain ⟨ka, kt, kd⟩ := kw
          simp only at hka
          obtain ⟨hk31, hkd1, hk64⟩ := hwk
          simp only at hk31 hkd1 hk64
          clear hlz hkt hzl hzt hbl hwok
          obtain ⟨r, hr⟩ : ∃ r, r = 64 - kt := ⟨_, rfl⟩
          have n3 : IntKind.i64.wrap (64 - (kt : Int)) = (r : Int) := by rw [IntKind.wrap_i64]; omega
          have u2 : IntKind.u64.wrap (kd : Int) = (kd : Int) := by rw [IntKind.wrap_u64]; omega
          have i1 : ka ≤ r := by omega
          have i2 : (ka : Int) ≤ (r : Int) := by omega
          have i3 : r ≤ 64 := by omega
          have i4 : (r : Int) ≤ 64 := by omega
          have Hr := Lib.hid hr
          clear hr
          by_cases h31 : 31 < lz
          · obtain rfl : ka = 31 := by omega
            have h31' : (31 : Int) < (lz : Int) := by omega
            have u1 : IntKind.u64.wrap 31 = 31 := by rw [IntKind.wrap_u64]; omega
            have i5 : (31 : Int) ≤ (r : Int) := by omega
            have u3 : IntKind.i64.wrap 33 = 33 := by rw [IntKind.wrap_i64]; omega
            clear hka
            have n5 : IntKind.i64.wrap (33 - (kt : Int)) = (kd : Int) := by rw [IntKind.wrap_i64]; omega
            have Hb5 := Lib.hid (show ∀ W, Calls Tryz.prog 72 #[.int .u64 31, .int .i64 5] W fun e w' => e = .returned (.string (txt (bitsN 31 5))) ∧ Below W.heap.size W w' from fun W => bits_any 31 5 (by omega) (by omega) W)
            have Hb6 := Lib.hid (show ∀ W, Calls Tryz.prog 72 #[.int .u64 (kd : Int), .int .i64 6] W fun e w' => e = .returned (.string (txt (bitsN kd 6))) ∧ Below W.heap.size W w' from fun W => bits_any kd 6 (by omega) (by omega) W)
            have h5s : (txt (bitsN 31 5)).size = 5 := by rw [txt_size, bitsN_len]
            have h6s : (txt (bitsN kd 6)).size = 6 := by rw [txt_size, bitsN_len]
            obtain ⟨t5, ht5⟩ : ∃ t5, t5 = txt (bitsN 31 5) := ⟨_, rfl⟩
            obtain ⟨t6, ht6⟩ : ∃ t6, t6 = txt (bitsN kd 6) := ⟨_, rfl⟩
            rw [← ht5] at Hb5 h5s
            rw [← ht6] at Hb6 h6s
            have Ht5 := Lib.hid ht5; have Ht6 := Lib.hid ht6
            clear ht5 ht6
            by_cases hh : hasW ⟨la, lt, ld⟩ ⟨31, kt, kd⟩
            · obtain ⟨hmp, hmw⟩ := Hold.out hh
              obtain ⟨g1, g2, g3⟩ := Hwok.out hh
              have hh' := hh
              obtain ⟨q1, q2, q3⟩ := hh'
              simp only at g1 g2 g3 q1 q2 q3
              have q2' : (la : Int) ≤ 31 := by omega
              have q3' : (lt : Int) ≤ (kt : Int) := by omega
              have dq : decide (0 < ld) = true := decide_eq_true q1
              have Hq := Lib.hid (show true = decide (0 < ld) from dq.symm)
              obtain ⟨s, hs⟩ : ∃ s, s = 64 - lt := ⟨_, rfl⟩
              have m3 : IntKind.i64.wrap (64 - (lt : Int)) = (s : Int) := by rw [IntKind.wrap_i64]; omega
              have j1 : la ≤ s := by omega
              have j2 : (la : Int) ≤ (s : Int) := by omega
              have j3 : s ≤ 64 := by omega
              have j4 : (s : Int) ≤ 64 := by omega
              have hfin : st ++ (⟨#[49, 48]⟩ : ByteArray) ++ ts.extract la s = txt (pBits (mP xs (k + 1))) := by
                rw [hmp]
                refine mask_old st _ _ _ _ Hst.out ?_
                rw [hs, Hex.out la lt (by omega), show 64 - lt - la = ld by omega]
              have hcat1 : ¬ 9223372036854775807 < st.size + 2 := by omega
              have hcat2 : ¬ 9223372036854775807 < st.size + 2 + (s - la) := by omega
              have Hfin := Lib.hid hfin; have Hmw := Lib.hid hmw
              clear hfin hmp hmw hs hh Hold Hnew Hwok
              go_wp2
              go_quiet (fail)
              go_wp2_with fail
              refine (Hbx.out _).mono ?_
              rintro e w1 ⟨rfl, hb1⟩
              have Hb1 := Lib.hid (Below.call (Below.drewN Hbel.out _) hb1 hwr)
              clear hb1
              go_wp2_with fail
              refine (Hz1.out _).mono ?_
              rintro e w' ⟨rfl, rfl⟩
              go_wp2_with fail
              refine (Htu.out _).mono ?_
              rintro e w' ⟨rfl, rfl⟩
              go_wp2_with fail
              refine (Hz2.out _).mono ?_
              rintro e w' ⟨rfl, rfl⟩
              go_wp2
              go_roundw
              case rel => exact ⟨k + 1, _, ⟨la, lt, ld⟩, by omega, by go_num, rfl, Hfin.out, by rw [Hfin.out, txt_size]; rfl, Hmw.out.symm, rfl, rfl, congrArg Value.bool Hq.out, Hb1.out⟩
              case measure => simp [intOf]; omega
            · obtain ⟨hmp, hmw⟩ := Hnew.out hh
              have hfin : st ++ (⟨#[49, 49]⟩ : ByteArray) ++ t5 ++ t6 ++ ts.extract 31 r = txt (pBits (mP xs (k + 1))) := by
                rw [hmp]
                refine mask_new st t5 t6 _ _ _ _ _ Hst.out Ht5.out Ht6.out ?_
                rw [Hr.out, Hex.out 31 kt (by omega), show 64 - kt - 31 = kd by omega]
              have hcat1 : ¬ 9223372036854775807 < st.size + 2 := by omega
              have hcat2 : ¬ 9223372036854775807 < st.size + 2 + 5 := by omega
              have hcat3 : ¬ 9223372036854775807 < st.size + 2 + 5 + 6 := by omega
              have hcat4 : ¬ 9223372036854775807 < st.size + 2 + 5 + 6 + (r - 31) := by omega
              have Hfin := Lib.hid hfin; have Hmw := Lib.hid hmw
              have hd2 : true = decide (0 < kd) := (decide_eq_true (by omega)).symm
              have Hd2 := Lib.hid hd2
              have hnot : ¬ 0 < ld ∨ (0 < ld ∧ 31 < (la : Int)) ∨ (0 < ld ∧ (la : Int) ≤ 31 ∧ (kt : Int) < (lt : Int)) := by
                by_cases a1 : 0 < ld
                · by_cases a2 : la ≤ 31
                  · exact .inr (.inr ⟨a1, by omega, by by_cases a3 : lt ≤ kt; exact absurd (show hasW ⟨la, lt, ld⟩ ⟨31, kt, kd⟩ from ⟨a1, a2, a3⟩) hh; omega⟩)
                  · exact .inr (.inl ⟨a1, by omega⟩)
                · exact .inl a1
              clear hfin hmp hmw hh Hold Hnew Hwok hd2
              go_wp2
              go_quiet (fail)
              go_wp2_with fail
              refine (Hbx.out _).mono ?_
              rintro e w1 ⟨rfl, hb1⟩
              have Hb1 := Lib.hid (Below.call (Below.drewN Hbel.out _) hb1 hwr)
              have hw1 : w.heap.size ≤ w1.heap.size := Hb1.out.size
              clear hb1
              go_wp2_with fail
              refine (Hz1.out _).mono ?_
              rintro e w' ⟨rfl, rfl⟩
              go_wp2_with fail
              refine (Htu.out _).mono ?_
              rintro e w' ⟨rfl, rfl⟩
              go_wp2_with fail
              refine (Hz2.out _).mono ?_
              rintro e w' ⟨rfl, rfl⟩
              rcases hnot with a1 | ⟨a1, a2⟩ | ⟨a1, a2, a3⟩
              case' inl => have dq : decide (0 < ld) = false := decide_eq_false a1
              case' inr.inl => have dq : decide (0 < ld) = true := decide_eq_true a1
              case' inr.inr => have dq : decide (0 < ld) = true := decide_eq_true a1
              all_goals
                go_wp2_with fail
                go_region_held3 (fun _ => True) (first | trivial)
                  (first
                    | (go_at_call 72; with_reducible refine (Hb5.out _).mono ?_; rintro e w5 ⟨rfl, hb5⟩; have hb5 := Lib.hid hb5)
                    | (go_at_call 72; with_reducible refine (Hb6.out _).mono ?_; rintro e w6 ⟨rfl, hb6⟩; have hb6 := Lib.hid hb6))
                go_wp2
                go_roundw
                case rel => exact ⟨k + 1, _, ⟨31, kt, kd⟩, by omega, by go_num, rfl, Hfin.out, by rw [Hfin.out, txt_size]; rfl, Hmw.out.symm, rfl, rfl, congrArg Value.bool Hd2.out, Below.call (Below.call Hb1.out.drew hb5.out hw1) hb6.out (Nat.le_trans hw1 hb5.out.size)⟩
                case measure => simp [intOf]; omega
          · obtain rfl : ka = lz := by omega
            have h31' : ¬ (31 : Int) < (ka : Int) := by omega
            clear hka
            have u1 : IntKind.u64.wrap (ka : Int) = (ka : Int) := by rw [IntKind.wrap_u64]; omega
            have n2 : IntKind.i64.wrap (64 - (ka : Int)) = ((64 - ka : Nat) : Int) := by rw [IntKind.wrap_i64]; omega
            have n5 : IntKind.i64.wrap (((64 - ka : Nat) : Int) - (kt : Int)) = (kd : Int) := by rw [IntKind.wrap_i64]; omega
            have Hb5 := Lib.hid (show ∀ W, Calls Tryz.prog 72 #[.int .u64 (ka : Int), .int .i64 5] W fun e w' => e = .returned (.string (txt (bitsN ka 5))) ∧ Below W.heap.size W w' from fun W => bits_any ka 5 (by omega) (by omega) W)
            have Hb6 := Lib.hid (show ∀ W, Calls Tryz.prog 72 #[.int .u64 (kd : Int), .int .i64 6] W fun e w' => e = .returned (.string (txt (bitsN kd 6))) ∧ Below W.heap.size W w' from fun W => bits_any kd 6 (by omega) (by omega) W)
            have h5s : (txt (bitsN ka 5)).size = 5 := by rw [txt_size, bitsN_len]
            have h6s : (txt (bitsN kd 6)).size = 6 := by rw [txt_size, bitsN_len]
            obtain ⟨t5, ht5⟩ : ∃ t5, t5 = txt (bitsN ka 5) := ⟨_, rfl⟩
            obtain ⟨t6, ht6⟩ : ∃ t6, t6 = txt (bitsN kd 6) := ⟨_, rfl⟩
            rw [← ht5] at Hb5 h5s
            rw [← ht6] at Hb6 h6s
            have Ht5 := Lib.hid ht5; have Ht6 := Lib.hid ht6
            clear ht5 ht6
            by_cases hh : hasW ⟨la, lt, ld⟩ ⟨ka, kt, kd⟩
            · obtain ⟨hmp, hmw⟩ := Hold.out hh
              obtain ⟨g1, g2, g3⟩ := Hwok.out hh
              have hh' := hh
              obtain ⟨q1, q2, q3⟩ := hh'
              simp only at g1 g2 g3 q1 q2 q3
              have q2' : (la : Int) ≤ (ka : Int) := by omega
              have q3' : (lt : Int) ≤ (kt : Int) := by omega
              have dq : decide (0 < ld) = true := decide_eq_true q1
              have Hq := Lib.hid (show true = decide (0 < ld) from dq.symm)
              obtain ⟨s, hs⟩ : ∃ s, s = 64 - lt := ⟨_, rfl⟩
              have m3 : IntKind.i64.wrap (64 - (lt : Int)) = (s : Int) := by rw [IntKind.wrap_i64]; omega
              have j1 : la ≤ s := by omega
              have j2 : (la : Int) ≤ (s : Int) := by omega
              have j3 : s ≤ 64 := by omega
              have j4 : (s : Int) ≤ 64 := by omega
              have hfin : st ++ (⟨#[49, 48]⟩ : ByteArray) ++ ts.extract la s = txt (pBits (mP xs (k + 1))) := by
                rw [hmp]
                refine mask_old st _ _ _ _ Hst.out ?_
                rw [hs, Hex.out la lt (by omega), show 64 - lt - la = ld by omega]
              have hcat1 : ¬ 9223372036854775807 < st.size + 2 := by omega
              have hcat2 : ¬ 9223372036854775807 < st.size + 2 + (s - la) := by omega
              have Hfin := Lib.hid hfin; have Hmw := Lib.hid hmw
              clear hfin hmp hmw hs hh Hold Hnew Hwok
              go_wp2
              go_quiet (fail)
              go_wp2_with fail
              refine (Hbx.out _).mono ?_
              rintro e w1 ⟨rfl, hb1⟩
              have Hb1 := Lib.hid (Below.call (Below.drewN Hbel.out _) hb1 hwr)
              clear hb1
              go_wp2_with fail
              refine (Hz1.out _).mono ?_
              rintro e w' ⟨rfl, rfl⟩
              go_wp2_with fail
              refine (Htu.out _).mono ?_
              rintro e w' ⟨rfl, rfl⟩
              go_wp2_with fail
              refine (Hz2.out _).mono ?_
              rintro e w' ⟨rfl, rfl⟩
              go_wp2
              go_roundw
              case rel => exact ⟨k + 1, _, ⟨la, lt, ld⟩, by omega, by go_num, rfl, Hfin.out, by rw [Hfin.out, txt_size]; rfl, Hmw.out.symm, rfl, rfl, congrArg Value.bool Hq.out, Hb1.out⟩
              case measure => simp [intOf]; omega
            · obtain ⟨hmp, hmw⟩ := Hnew.out hh
              have hfin : st ++ (⟨#[49, 49]⟩ : ByteArray) ++ t5 ++ t6 ++ ts.extract ka r = txt (pBits (mP xs (k + 1))) := by
                rw [hmp]
                refine mask_new st t5 t6 _ _ _ _ _ Hst.out Ht5.out Ht6.out ?_
                rw [Hr.out, Hex.out ka kt (by omega), show 64 - kt - ka = kd by omega]
              have hcat1 : ¬ 9223372036854775807 < st.size + 2 := by omega
              have hcat2 : ¬ 9223372036854775807 < st.size + 2 + 5 := by omega
              have hcat3 : ¬ 9223372036854775807 < st.size + 2 + 5 + 6 := by omega
              have hcat4 : ¬ 9223372036854775807 < st.size + 2 + 5 + 6 + (r - ka) := by omega
              have Hfin := Lib.hid hfin; have Hmw := Lib.hid hmw
              have hd2 : true = decide (0 < kd) := (decide_eq_true (by omega)).symm
              have Hd2 := Lib.hid hd2
              have hnot : ¬ 0 < ld ∨ (0 < ld ∧ (ka : Int) < (la : Int)) ∨ (0 < ld ∧ (la : Int) ≤ (ka : Int) ∧ (kt : Int) < (lt : Int)) := by
                by_cases a1 : 0 < ld
                · by_cases a2 : la ≤ ka
                  · exact .inr (.inr ⟨a1, by omega, by by_cases a3 : lt ≤ kt; exact absurd (show hasW ⟨la, lt, ld⟩ ⟨ka, kt, kd⟩ from ⟨a1, a2, a3⟩) hh; omega⟩)
                  · exact .inr (.inl ⟨a1, by omega⟩)
                · exact .inl a1
              clear hfin hmp hmw hh Hold Hnew Hwok hd2
              go_wp2
              go_quiet (fail)
              go_wp2_with fail
              refine (Hbx.out _).mono ?_
              rintro e w1 ⟨rfl, hb1⟩
              have Hb1 := Lib.hid (Below.call (Below.drewN Hbel.out _) hb1 hwr)
              have hw1 : w.heap.size ≤ w1.heap.size := Hb1.out.size
              clear hb1
              go_wp2_with fail
              refine (Hz1.out _).mono ?_
              rintro e w' ⟨rfl, rfl⟩
              go_wp2_with fail
              refine (Htu.out _).mono ?_
              rintro e w' ⟨rfl, rfl⟩
              go_wp2_with fail
              refine (Hz2.out _).mono ?_
              rintro e w' ⟨rfl, rfl⟩
              rcases hnot with a1 | ⟨a1, a2⟩ | ⟨a1, a2, a3⟩
              case' inl => have dq : decide (0 < ld) = false := decide_eq_false a1
              case' inr.inl => have dq : decide (0 < ld) = true := decide_eq_true a1
              case' inr.inr => have dq : decide (0 < ld) = true := decide_eq_true a1
              all_goals
                go_wp2_with fail
                go_region_held3 (fun _ => True) (first | trivial)
                  (first
                    | (go_at_call 72; with_reducible refine (Hb5.out _).mono ?_; rintro e w5 ⟨rfl, hb5⟩; have hb5 := Lib.hid hb5)
                    | (go_at_call 72; with_reducible refine (Hb6.out _).mono ?_; rintro e w6 ⟨rfl, hb6⟩; have hb6 := Lib.hid hb6))
                go_wp2
                go_roundw
                case rel => exact ⟨k + 1, _, ⟨ka, kt, kd⟩, by omega, by go_num, rfl, Hfin.out, by rw [Hfin.out, txt_size]; rfl, Hmw.out.symm, rfl, rfl, congrArg Value.bool Hd2.out, Below.call (Below.call Hb1.out.drew hb5.out hw1) hb6.out (Nat.le_trans hw1 hb5.out.size)⟩
                case measure => simp [intOf]; omega
    · obtain rfl : k = n := by omega
      have hst := Hst.out
      subst hst
      go_wp2
      go_ret
      exact ⟨rfl, Hbel.out⟩
end Go.Proofs.YtpbgonpmpjpljaaGreatDoor

namespace Go.Proofs.YtpbgonpmpjpljaaGreatDoor
open Go.RowKit
set_option linter.unusedVariables false

theorem ro_int {w wr wa : World} {v v' v2 : Value} {k : Nat} {l : List Int} {l2 : List Nat} {t : Int} (h1 : wr.ownsRow w.heap.size 3 1 v k (l.map (Value.int .i64))) (h2 : wr.ownsRow w.heap.size 55 1 v2 k (l2.map fun x : Nat => Value.int .u64 (x : Int))) (hb : Below w.heap.size w wr)
    (hown' : wa.ownsRow w.heap.size 3 1 v' (k + 1) (l.map (Value.int .i64) ++ [.int .i64 t])) (hgr : (wr.alloc (.cells #[.int .i64 t] 3)).grownBy wa v.ownBlock) :
    wa.ownsRow w.heap.size 3 1 v' (k + 1) ((l ++ [t]).map (Value.int .i64)) ∧ wa.ownsRow w.heap.size 55 1 v2 k (l2.map fun x : Nat => Value.int .u64 (x : Int)) ∧ Below w.heap.size w wa :=
  ⟨by rw [List.map_append]; exact hown', own_after (h2.alloc _) (h1.alloc (.cells #[.int .i64 t] 3)) (by decide) hgr, Below.grown (Below.alloc hb hb.size _) hgr (by have := hb.size; simp; omega) (fun g hg => (own_lt h1 g hg).1)⟩
theorem ro_u64 {w wr wa : World} {v v' v2 : Value} {k m : Nat} {l : List Nat} {l2 : List Int} {t : Nat} (h1 : wr.ownsRow w.heap.size 55 1 v k (l.map fun x : Nat => Value.int .u64 (x : Int))) (h2 : wr.ownsRow w.heap.size 3 1 v2 m (l2.map (Value.int .i64))) (hb : Below w.heap.size w wr)
    (hown' : wa.ownsRow w.heap.size 55 1 v' (k + 1) ((l.map fun x : Nat => Value.int .u64 (x : Int)) ++ [.int .u64 (t : Int)])) (hgr : (wr.alloc (.cells #[.int .u64 (t : Int)] 55)).grownBy wa v.ownBlock) :
    wa.ownsRow w.heap.size 55 1 v' (k + 1) ((l ++ [t]).map fun x : Nat => Value.int .u64 (x : Int)) ∧ wa.ownsRow w.heap.size 3 1 v2 m (l2.map (Value.int .i64)) ∧ Below w.heap.size w wa :=
  ⟨by rw [List.map_append]; exact hown', own_after (h2.alloc _) (h1.alloc (.cells #[.int .u64 (t : Int)] 55)) (by decide) hgr, Below.grown (Below.alloc hb hb.size _) hgr (by have := hb.size; simp; omega) (fun g hg => (own_lt h1 g hg).1)⟩
set_option maxRecDepth 100000 in
set_option maxHeartbeats 4000000 in
theorem rowOf_any (A : Option Addr) (n c : Nat) (l : List (Int × Int)) (w : World) (hA : Rd w w.heap.size 2 A n (ptsC l)) (hn : n ≤ 120) (hok : ∀ j, j < n → okAt l j) (hl : ∀ p ∈ l, 0 ≤ p.2 ∧ p.2 < 18446744073709551616) :
    Calls Tryz.prog 50 #[.slice A n c] w fun e w' => e = .returned (.string (txt (rowP l))) ∧ Below w.heap.size w w' := by
  have hlen : l.length = n := by have := hA.1; rw [flat_len (fun p : Int × Int => [Value.int .i64 p.1, Value.int .u64 p.2]) 2 (fun _ => rfl)] at this; omega
  have hn' : (n : Int) ≤ 120 := by omega
  obtain ⟨i1, hi, hz0, hz1, hz2⟩ := info_parts infoInt
  obtain ⟨i2, hi2, hy0, hy1, hy2⟩ := info_parts infoU64e
  have Hi := Lib.hid hi; have Hz0 := Lib.hid hz0; have Hz1 := Lib.hid hz1; have Hz2 := Lib.hid hz2
  have Hi2 := Lib.hid hi2; have Hy0 := Lib.hid hy0; have Hy1 := Lib.hid hy1; have Hy2 := Lib.hid hy2
  have HA := Lib.hid hA; have Hl := Lib.hid hl; have Hlen := Lib.hid hlen
  have Ht := Lib.hid (okAt_tick hlen hok); have Hv := Lib.hid (vsOf_lt hl)
  have hu : IntKind.u64.wrap (n : Int) = (n : Int) := by rw [IntKind.wrap_u64]; omega
  clear hi hz0 hz1 hz2 hi2 hy0 hy1 hy2 hA hl hlen hok
  go_enter Tryz.func50, Tryz.ntmps50
  go_wp2
  go_loopw [3, 4, 5] (fun v1 v2 iv wr => ∃ k : Nat, k ≤ n ∧ iv = .int .i64 k ∧ wr.ownsRow w.heap.size 3 1 v1 k ((tsOf (l.take k)).map (Value.int .i64)) ∧ wr.ownsRow w.heap.size 55 1 v2 k ((vsOf (l.take k)).map fun x : Nat => Value.int .u64 (x : Int)) ∧ Below w.heap.size w wr) (fun _ _ iv _ => n - (intOf iv).toNat)
  case atStart => exact ⟨0, Nat.zero_le _, rfl, World.ownsRow_nil _ _ _ _, World.ownsRow_nil _ _ _ _, Below.refl _ _⟩
  case round =>
    obtain ⟨k, hk, rfl, hown1, hown2, hbel⟩ := hrel
    obtain ⟨A1, c1, rfl, _, _, _⟩ := own_form hown1
    obtain ⟨A2, c2, rfl, _, _, _⟩ := own_form hown2
    have Hown1 := Lib.hid hown1; have Hown2 := Lib.hid hown2; have Hbel := Lib.hid hbel
    have hwr : w.heap.size ≤ wr.heap.size := hbel.size
    clear hown1 hown2 hbel
    by_cases hkn : k < n
    · obtain ⟨bb, off, y, hAe, had, hy, e0, e1⟩ := HA.out.at2 hkn
      subst hAe
      obtain ⟨y1, y2⟩ := y
      simp only at e0 e1
      have x0 : wr.cell? ⟨bb, off + k * 2, none⟩ = some (.int .i64 y1) := (Hbel.out.cell (p := ⟨bb, off + k * 2, none⟩) had).trans e0
      have hy2 : 0 ≤ y2 := (Hl.out _ (List.mem_of_getElem? hy)).1
      obtain ⟨z, rfl⟩ := Int.eq_ofNat_of_zero_le hy2
      have hk63 : k + 1 ≤ maxLen := by unfold maxLen; omega
      have hk8 : (k + 1) * 8 ≤ 140737488355328 := by omega
      have Hts := Lib.hid (show tsOf (l.take (k + 1)) = tsOf (l.take k) ++ [y1] by unfold tsOf; rw [take_snoc hy, List.map_append]; rfl)
      have Hvs := Lib.hid (show vsOf (l.take (k + 1)) = vsOf (l.take k) ++ [z] by unfold vsOf; rw [take_snoc hy, List.map_append]; rfl)
      have Hx1 := Lib.hid e1
      have Hsz := Lib.hid (show w.heap.size ≤ (wr.alloc (.cells #[.int .i64 y1] 3)).heap.size by simp; omega)
      have tok1 : True := trivial
      clear e0 e1 hy hy2
      go_wp2_with (first
        | (have htok := tok1; at_builtin; refine wpList_append_rd _ rfl (.tmp 12) (.tmp 18) _ rfl w.heap.size 3 i1 (.int .i64 0) 1 8 Tryz.underlying94 Hi.out Hz0.out Hz1.out Hz2.out rfl (by decide) (.slice A1 k c1) k _ rfl (Hown1.out.alloc _) _ _ 1 1 [.int .i64 y1] rfl (Rd.one wr 3 (.int .i64 y1)) (int_one [y1]) hk63 hk8 Hsz.out ?_; intro v' wa hown' hgr hat; clear htok tok1; have HQ := Lib.hid (ro_int Hown1.out Hown2.out Hbel.out hown' hgr); have x1 : wa.cell? ⟨bb, off + k * 2 + 1, none⟩ = some (.int .u64 (z : Int)) := (HQ.out.2.2.cell (p := ⟨bb, off + k * 2 + 1, none⟩) had).trans Hx1.out; have Hsz2 := Lib.hid (show w.heap.size ≤ (wa.alloc (.cells #[.int .u64 (z : Int)] 55)).heap.size by have := HQ.out.2.2.size; simp; omega); clear hown' hgr hat)
        | (have htok := HQ; at_builtin; refine wpList_append_rd _ rfl (.tmp 20) (.tmp 26) _ rfl w.heap.size 55 i2 (.int .u64 0) 1 8 Tryz.underlying97 Hi2.out Hy0.out Hy1.out Hy2.out rfl (by decide) (.slice A2 k c2) k _ rfl (HQ.out.2.1.alloc _) _ _ 1 1 [.int .u64 (z : Int)] rfl (Rd.one wa 55 (.int .u64 (z : Int))) (u64_onee [z]) hk63 hk8 Hsz2.out ?_; intro v'' wb hown' hgr hat; clear htok; have HR := Lib.hid (ro_u64 HQ.out.2.1 HQ.out.1 HQ.out.2.2 hown' hgr); clear hown' hgr hat))
      go_roundw
      case rel => exact ⟨k + 1, by omega, by go_num, by rw [Hts.out]; exact HR.out.2.1, by rw [Hvs.out]; exact HR.out.1, HR.out.2.2⟩
      case measure => simp [intOf]; omega
    · obtain rfl : k = n := by omega
      have htk : l.take k = l := List.take_of_length_le (by rw [Hlen.out]; exact Nat.le_refl _)
      rw [htk] at Hown1 Hown2
      have Hr1 := Lib.hid (Rd.of_own Hown1.out); have Hr2 := Lib.hid (Rd.of_own Hown2.out)
      have hbits : (bitsN k 8).length = 8 := bitsN_len _ _
      have htb : (ticksBits (tsOf l)).length ≤ 8160 := by
        have h := ticksBits_le (tsOf l)
        have h2 : (tsOf l).length = l.length := List.length_map _
        rw [h2, Hlen.out] at h; omega
      have hmb : (maskB (vsOf l)).length ≤ 30720 := by
        have h := sumN_mP (vsOf l) (vsOf l).length Hv.out (Nat.le_refl _)
        have h2 : (vsOf l).length = l.length := List.length_map _
        have h3 : (maskB (vsOf l)).length ≤ 256 * (vsOf l).length := h
        rw [h2, Hlen.out] at h3; omega
      have Hfin := Lib.hid (show txt (bitsN k 8) ++ txt (ticksBits (tsOf l)) ++ txt (maskB (vsOf l)) = txt (rowP l) by rw [txt_append, txt_append]; unfold rowP; rw [Hlen.out, List.append_assoc])
      have hs1 : (txt (bitsN k 8)).size = 8 := by rw [txt_size, hbits]
      have hs2 : (txt (ticksBits (tsOf l))).size ≤ 8160 := by rw [txt_size]; exact htb
      have hs3 : (txt (maskB (vsOf l))).size ≤ 30720 := by rw [txt_size]; exact hmb
      have Hc1 := Lib.hid (fun W => bits_any k 8 (by omega) (by omega) W)
      have Hc2 := Lib.hid (fun W h => ticksOf_any A1 k c1 (tsOf l) W h (by omega) Ht.out)
      have Hc3 := Lib.hid (fun W h => maskOf_any A2 k c2 (vsOf l) W h (by omega) Hv.out)
      generalize txt (bitsN k 8) = t1 at Hfin hs1 Hc1
      generalize txt (ticksBits (tsOf l)) = t2 at Hfin hs2 Hc2
      generalize txt (maskB (vsOf l)) = t3 at Hfin hs3 Hc3
      clear hbits htb hmb htk
      go_wp2_with fail
      refine (Hc1.out _).mono ?_
      rintro e w1 ⟨rfl, hb⟩
      have HB1 := Lib.hid (Below.call Hbel.out hb hwr)
      have Hr1b := Lib.hid ((Hr1.out.below hb).more hb.size); have Hr2b := Lib.hid ((Hr2.out.below hb).more hb.size)
      clear hb
      go_wp2_with fail
      refine (Hc2.out _ Hr1b.out).mono ?_
      rintro e w2 ⟨rfl, hb⟩
      have HB2 := Lib.hid (Below.call HB1.out hb HB1.out.size)
      have Hr2c := Lib.hid ((Hr2b.out.below hb).more hb.size)
      clear hb
      go_wp2_with fail
      refine (Hc3.out _ Hr2c.out).mono ?_
      rintro e w3 ⟨rfl, hb⟩
      have HB3 := Lib.hid (Below.call HB2.out hb HB2.out.size)
      clear hb
      go_wp2
      go_ret
      exact ⟨congrArg (fun b => Ending.returned (.string b)) Hfin.out, HB3.out⟩
theorem rowP_len (l : List (Int × Int)) (hn : l.length ≤ 120) (hl : ∀ p ∈ l, 0 ≤ p.2 ∧ p.2 < 18446744073709551616) : 8 ≤ (rowP l).length ∧ (rowP l).length ≤ 39000 := by
  have h := ticksBits_le (tsOf l)
  have h2 : (tsOf l).length = l.length := List.length_map _
  have h3 := sumN_mP (vsOf l) (vsOf l).length (vsOf_lt hl) (Nat.le_refl _)
  have h4 : (vsOf l).length = l.length := List.length_map _
  have h5 : (maskB (vsOf l)).length ≤ 256 * (vsOf l).length := h3
  rw [h2] at h
  rw [h4] at h5
  unfold rowP
  rw [List.length_append, List.length_append, bitsN_len]
  omega
set_option maxHeartbeats 1000000 in
theorem chunkOf_any (A : Option Addr) (n c : Nat) (l : List (Int × Int)) (w : World) (hA : Rd w w.heap.size 2 A n (ptsC l)) (hn : n ≤ 120) (hok : ∀ j, j < n → okAt l j) (hl : ∀ p ∈ l, 0 ≤ p.2 ∧ p.2 < 18446744073709551616) :
    Calls Tryz.prog 63 #[.slice A n c] w fun e w' => e = .returned (.string (bytesOf (chunkL l))) ∧ Below w.heap.size w w' := by
  have hlen : l.length = n := by have := hA.1; rw [flat_len (fun p : Int × Int => [Value.int .i64 p.1, Value.int .u64 p.2]) 2 (fun _ => rfl)] at this; omega
  have hrl := rowP_len l (by omega) hl
  have Hc := Lib.hid (rowOf_any A n c l w hA hn hok hl)
  have Hp := Lib.hid (fun W => pack_any (rowP l) (by omega) W)
  have Hs := Lib.hid (fun W => seal_any (packN (rowP l)) (packN_256 _) (by rw [packN_len]; omega) W)
  have Hch := Lib.hid (show bytesOf (sealL (packN (rowP l))) = bytesOf (chunkL l) from rfl)
  rw [Hch.out] at Hs
  generalize bytesOf (chunkL l) = t1 at Hs ⊢
  generalize bytesOf (packN (rowP l)) = t2 at Hp Hs
  generalize txt (rowP l) = t3 at Hc Hp
  clear hA hok hl hlen hrl Hch
  go_enter Tryz.func63, Tryz.ntmps63
  go_wp2_with fail
  refine Hc.out.mono ?_
  rintro e w1 ⟨rfl, hb⟩
  have HB1 := Lib.hid hb; clear hb
  go_wp2_with fail
  refine (Hp.out _).mono ?_
  rintro e w2 ⟨rfl, hb⟩
  have HB2 := Lib.hid (Below.call HB1.out hb HB1.out.size); clear hb
  go_wp2_with fail
  refine (Hs.out _).mono ?_
  rintro e w3 ⟨rfl, hb⟩
  have HB3 := Lib.hid (Below.call HB2.out hb HB2.out.size); clear hb
  go_wp2
  go_ret
  exact ⟨rfl, HB3.out⟩
end Go.Proofs.YtpbgonpmpjpljaaGreatDoor
