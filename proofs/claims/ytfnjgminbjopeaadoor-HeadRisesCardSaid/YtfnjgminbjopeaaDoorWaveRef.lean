/- The reference's Wave and Unwave by contracts. -/
import Derived.Test.YtfnjgminbjopeaaDoorRef
import Derived.Test.YtfnjgminbjopeaaDoorWaveRd
import Derived.Deep.RegionHeld3
namespace Go.Proofs.YtfnjgminbjopeaaDoor
open Go.RowKit
set_option linter.unusedVariables false

theorem txt_inj {a b : List Bool} (h : (txt a).toList = (txt b).toList) : a = b := by
  unfold txt at h
  rw [B8_toList, B8_toList] at h
  have : ∀ (a b : List Bool), a.map chB = b.map chB → a = b := by
    intro a
    induction a with
    | nil => intro b h; cases b with
      | nil => rfl
      | cons => simp at h
    | cons x a ih => intro b h; cases b with
      | nil => simp at h
      | cons y b =>
        simp only [List.map_cons, List.cons.injEq] at h
        obtain ⟨h1, h2⟩ := h
        rw [ih b h2]
        cases x <;> cases y <;> simp [chB] at h1 ⊢
  exact this a b h
theorem txt_ne {a b : List Bool} (h : a ≠ b) : ((txt a).toList == (txt b).toList) = false := by
  rw [beq_eq_false_iff_ne]; exact fun e => h (txt_inj e)
theorem txt_h0 : (⟨#[48]⟩ : ByteArray) = txt [false] := rfl
theorem txt_h1 : (⟨#[49, 48]⟩ : ByteArray) = txt [true, false] := rfl
theorem txt_h2 : (⟨#[49, 49, 48]⟩ : ByteArray) = txt [true, true, false] := rfl
theorem txt_h3 : (⟨#[49, 49, 49, 48]⟩ : ByteArray) = txt [true, true, true, false] := rfl
theorem txt_h4 : (⟨#[49, 49, 49, 49]⟩ : ByteArray) = txt [true, true, true, true] := rfl
theorem ofK_cases (n : Int) : (n = 0 ∧ ofK n = 0) ∨ (n ≠ 0 ∧ -64 < n ∧ n ≤ 64 ∧ ofK n = 1) ∨ (¬ (-64 < n ∧ n ≤ 64) ∧ -256 < n ∧ n ≤ 256 ∧ ofK n = 2) ∨ (¬ (-256 < n ∧ n ≤ 256) ∧ -2048 < n ∧ n ≤ 2048 ∧ ofK n = 3) ∨ (¬ (-2048 < n ∧ n ≤ 2048) ∧ ofK n = 4) := by
  unfold ofK
  repeat' split
  all_goals omega

set_option maxRecDepth 100000 in
set_option maxHeartbeats 1000000 in
theorem waveOf_any (n : Int) (hn : -9223372036854775808 ≤ n ∧ n ≤ 9223372036854775807) (w : World) : Calls Tryd.prog 149 #[.int .i64 n] w fun e w' => e = .returned (.string (txt (waveBits n))) ∧ Below w.heap.size w w' := by
  have hwb := waveBits_eq n
  obtain ⟨hn0, hn1⟩ := hn
  rcases ofK_cases n with ⟨h, hk⟩ | ⟨h0, h1, h2, hk⟩ | ⟨h0, h1, h2, hk⟩ | ⟨h0, h1, h2, hk⟩ | ⟨h0, hk⟩
  · subst h
    have hfin : txt (waveBits 0) = ⟨#[48]⟩ := by rw [hwb, hk, txt_h0]; rfl
    have Hfin := Lib.hid hfin
    clear hwb hk hfin
    go_enter Tryd.func149, Tryd.ntmps149
    go_wp2
    go_ret
    exact ⟨by rw [Hfin.out]; rfl, Below.refl _ _⟩
  · obtain ⟨v, rfl⟩ : ∃ v : Nat, n = (v : Int) - 63 := ⟨(n + 63).toNat, by omega⟩
    have hv : v < 128 := by omega
    have hfin : (⟨#[49, 48]⟩ : ByteArray) ++ txt (bitsN v 7) = txt (waveBits ((v : Int) - 63)) := by
      have hvn : (waveV ((v : Int) - 63)).toNat = v := by
        unfold waveV; rw [hk, if_neg (by omega)]; simp [mostW, wideK]
      rw [hwb, hk, hvn, txt_h1, txt_append]; rfl
    have htb : (txt (bitsN v 7)).size = 7 := by rw [txt_size, bitsN_len]
    generalize htx : txt (bitsN v 7) = tx at hfin htb
    have Hfin := Lib.hid hfin; have Htx := Lib.hid htx
    have hb0 : (((v : Int) - 63) == 0) = false := by rw [beq_eq_false_iff_ne]; omega
    clear hwb hk hfin htx
    clear h0
    go_enter Tryd.func149, Tryd.ntmps149
    go_wp2_with fail
    refine (bits_any v 7 (by omega) (by omega) _).mono ?_
    rintro e w1 ⟨rfl, hb⟩
    rw [Htx.out]
    have Hb := Lib.hid hb; clear hb
    go_wp2
    go_ret
    exact ⟨by rw [← Hfin.out]; rfl, Hb.out⟩
  · obtain ⟨v, rfl⟩ : ∃ v : Nat, n = (v : Int) - 255 := ⟨(n + 255).toNat, by omega⟩
    have hv : v < 512 := by omega
    have hfin : (⟨#[49, 49, 48]⟩ : ByteArray) ++ txt (bitsN v 9) = txt (waveBits ((v : Int) - 255)) := by
      have hvn : (waveV ((v : Int) - 255)).toNat = v := by
        unfold waveV; rw [hk, if_neg (by omega)]; simp [mostW, wideK]
      rw [hwb, hk, hvn, txt_h2, txt_append]; rfl
    have htb : (txt (bitsN v 9)).size = 9 := by rw [txt_size, bitsN_len]
    generalize htx : txt (bitsN v 9) = tx at hfin htb
    have Hfin := Lib.hid hfin; have Htx := Lib.hid htx
    have hb0 : (((v : Int) - 255) == 0) = false := by rw [beq_eq_false_iff_ne]; omega
    clear hwb hk hfin htx
    have h3 : (v : Int) - 255 ≤ -64 ∨ 64 < (v : Int) - 255 := by omega
    clear h0
    rcases h3 with h3 | h3
    all_goals
      go_enter Tryd.func149, Tryd.ntmps149
      go_wp2_with fail
      refine (bits_any v 9 (by omega) (by omega) _).mono ?_
      rintro e w1 ⟨rfl, hb⟩
      rw [Htx.out]
      have Hb := Lib.hid hb; clear hb
      go_wp2
      go_ret
      exact ⟨by rw [← Hfin.out]; rfl, Hb.out⟩
  · obtain ⟨v, rfl⟩ : ∃ v : Nat, n = (v : Int) - 2047 := ⟨(n + 2047).toNat, by omega⟩
    have hv : v < 4096 := by omega
    have hfin : (⟨#[49, 49, 49, 48]⟩ : ByteArray) ++ txt (bitsN v 12) = txt (waveBits ((v : Int) - 2047)) := by
      have hvn : (waveV ((v : Int) - 2047)).toNat = v := by
        unfold waveV; rw [hk, if_neg (by omega)]; simp [mostW, wideK]
      rw [hwb, hk, hvn, txt_h3, txt_append]; rfl
    have htb : (txt (bitsN v 12)).size = 12 := by rw [txt_size, bitsN_len]
    generalize htx : txt (bitsN v 12) = tx at hfin htb
    have Hfin := Lib.hid hfin; have Htx := Lib.hid htx
    have hb0 : (((v : Int) - 2047) == 0) = false := by rw [beq_eq_false_iff_ne]; omega
    clear hwb hk hfin htx
    have h3 : (v : Int) - 2047 ≤ -256 ∨ 256 < (v : Int) - 2047 := by omega
    clear h0
    rcases h3 with h3 | h3
    all_goals
      go_enter Tryd.func149, Tryd.ntmps149
      go_wp2_with fail
      refine (bits_any v 12 (by omega) (by omega) _).mono ?_
      rintro e w1 ⟨rfl, hb⟩
      rw [Htx.out]
      have Hb := Lib.hid hb; clear hb
      go_wp2
      go_ret
      exact ⟨by rw [← Hfin.out]; rfl, Hb.out⟩
  · obtain ⟨v, hv⟩ : ∃ v : Nat, n % 18446744073709551616 = (v : Int) := ⟨(n % 18446744073709551616).toNat, by omega⟩
    have hv2 : v < 18446744073709551616 := by omega
    have hvw : IntKind.u64.wrap n = (v : Int) := by rw [IntKind.wrap_u64]; exact hv
    have hfin : (⟨#[49, 49, 49, 49]⟩ : ByteArray) ++ txt (bitsN v 64) = txt (waveBits n) := by
      have hvn : (waveV n).toNat = v := by
        unfold waveV; rw [hk, if_pos (Or.inr rfl)]; omega
      rw [hwb, hk, hvn, txt_h4, txt_append]; rfl
    have htb : (txt (bitsN v 64)).size = 64 := by rw [txt_size, bitsN_len]
    generalize htx : txt (bitsN v 64) = tx at hfin htb
    have Hfin := Lib.hid hfin; have Htx := Lib.hid htx
    have hb0 : (n == 0) = false := by rw [beq_eq_false_iff_ne]; omega
    have h3 : n ≤ -2048 ∨ 2048 < n := by omega
    clear hwb hk hfin htx h0
    rcases h3 with h3 | h3
    all_goals
      go_enter Tryd.func149, Tryd.ntmps149
      go_wp2_with fail
      refine (bits_any v 64 hv2 (by omega) _).mono ?_
      rintro e w1 ⟨rfl, hb⟩
      rw [Htx.out]
      have Hb := Lib.hid hb; clear hb
      go_wp2
      go_ret
      exact ⟨by rw [← Hfin.out]; rfl, Hb.out⟩
end Go.Proofs.YtfnjgminbjopeaaDoor
