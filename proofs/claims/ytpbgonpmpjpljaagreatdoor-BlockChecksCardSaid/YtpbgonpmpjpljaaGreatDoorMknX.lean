/- The reference's Wave and Unwave by contracts. -/
import Derived.Test.YtpbgonpmpjpljaaGreatDoorMkcX
import Derived.Test.YtpbgonpmpjpljaaGreatDoorMkhX
import Derived.Deep.RegionHeld3
import Derived.Test.YtpbgonpmpjpljaaGreatDoorMkeX
import Derived.Test.YtpbgonpmpjpljaaGreatDoorMkaX
import Derived.BigQuiet
import Derived.Test.YtpbgonpmpjpljaaGreatDoorMkkX
import Derived.Test.YtpbgonpmpjpljaaGreatDoorMkfX
import Derived.Test.YtpbgonpmpjpljaaGreatDoorMklX
import Derived.Test.YtpbgonpmpjpljaaGreatDoorMkmX
namespace Go.Proofs.YtpbgonpmpjpljaaGreatDoor
open Go.RowKit
set_option linter.unusedVariables false

theorem txt_inj {a b : List Bool} (h : (txt a).toList = (txt b).toList) : a = b := by
  unfold txt at h
  rw [B8_toList, B8_toList] at h
  have : ∀ (a b : List Bool), a.map chB = b.map chB → a = b := by
    intro a
    induction a with
    | nil => intro b h; cases b with
      | nil => rfl
      | cons => simp at h
    | cons x a ih => intro b h; cases b with
      | nil => simp at h
      | cons y b =>
        simp only [List.map_cons, List.cons.injEq] at h
        obtain ⟨h1, h2⟩ := h
        rw [ih b h2]
        cases x <;> cases y <;> simp [chB] at h1 ⊢
  exact this a b h
theorem txt_ne {a b : List Bool} (h : a ≠ b) : ((txt a).toList == (txt b).toList) = false := by
  rw [beq_eq_false_iff_ne]; exact fun e => h (txt_inj e)
theorem txt_h0 : (⟨#[48]⟩ : ByteArray) = txt [false] := rfl
theorem txt_h1 : (⟨#[49, 48]⟩ : ByteArray) = txt [true, false] := rfl
theorem txt_h2 : (⟨#[49, 49, 48]⟩ : ByteArray) = txt [true, true, false] := rfl
theorem txt_h3 : (⟨#[49, 49, 49, 48]⟩ : ByteArray) = txt [true, true, true, false] := rfl
theorem txt_h4 : (⟨#[49, 49, 49, 49]⟩ : ByteArray) = txt [true, true, true, true] := rfl
theorem ofK_cases (n : Int) : (n = 0 ∧ ofK n = 0) ∨ (n ≠ 0 ∧ -64 < n ∧ n ≤ 64 ∧ ofK n = 1) ∨ (¬ (-64 < n ∧ n ≤ 64) ∧ -256 < n ∧ n ≤ 256 ∧ ofK n = 2) ∨ (¬ (-256 < n ∧ n ≤ 256) ∧ -2048 < n ∧ n ≤ 2048 ∧ ofK n = 3) ∨ (¬ (-2048 < n ∧ n ≤ 2048) ∧ ofK n = 4) := by
  unfold ofK
  repeat' split
  all_goals omega

set_option maxRecDepth 100000 in
set_option maxHeartbeats 1000000 in
theorem waveOf_any (n : Int) (hn : -9223372036854775808 ≤ n ∧ n ≤ 9223372036854775807) (w : World) : Calls Tryz.prog 107 #[.int .i64 n] w fun e w' => e = .returned (.string (txt (waveBits n))) ∧ Below w.heap.size w w' := by
  have hwb := waveBits_eq n
  obtain ⟨hn0, hn1⟩ := hn
  rcases ofK_cases n with ⟨h, hk⟩ | ⟨h0, h1, h2, hk⟩ | ⟨h0, h1, h2, hk⟩ | ⟨h0, h1, h2, hk⟩ | ⟨h0, hk⟩
  · subst h
    have hfin : txt (waveBits 0) = ⟨#[48]⟩ := by rw [hwb, hk, txt_h0]; rfl
    have Hfin := Lib.hid hfin
    clear hwb hk hfin
    go_enter Tryz.func107, Tryz.ntmps107
    go_wp2
    go_ret
    exact ⟨by rw [Hfin.out]; rfl, Below.refl _ _⟩
  · obtain ⟨v, rfl⟩ : ∃ v : Nat, n = (v : Int) - 63 := ⟨(n + 63).toNat, by omega⟩
    have hv : v < 128 := by omega
    have hfin : (⟨#[49, 48]⟩ : ByteArray) ++ txt (bitsN v 7) = txt (waveBits ((v : Int) - 63)) := by
      have hvn : (waveV ((v : Int) - 63)).toNat = v := by
        unfold waveV; rw [hk, if_neg (by omega)]; simp [mostW, wideK]
      rw [hwb, hk, hvn, txt_h1, txt_append]; rfl
    have htb : (txt (bitsN v 7)).size = 7 := by rw [txt_size, bitsN_len]
    generalize htx : txt (bitsN v 7) = tx at hfin htb
    have Hfin := Lib.hid hfin; have Htx := Lib.hid htx
    have hb0 : (((v : Int) - 63) == 0) = false := by rw [beq_eq_false_iff_ne]; omega
    clear hwb hk hfin htx
    clear h0
    go_enter Tryz.func107, Tryz.ntmps107
    go_wp2_with fail
    refine (bits_any v 7 (by omega) (by omega) _).mono ?_
    rintro e w1 ⟨rfl, hb⟩
    rw [Htx.out]
    have Hb := Lib.hid hb; clear hb
    go_wp2
    go_ret
    exact ⟨by rw [← Hfin.out]; rfl, Hb.out⟩
  · obtain ⟨v, rfl⟩ : ∃ v : Nat, n = (v : Int) - 255 := ⟨(n + 255).toNat, by omega⟩
    have hv : v < 512 := by omega
    have hfin : (⟨#[49, 49, 48]⟩ : ByteArray) ++ txt (bitsN v 9) = txt (waveBits ((v : Int) - 255)) := by
      have hvn : (waveV ((v : Int) - 255)).toNat = v := by
        unfold waveV; rw [hk, if_neg (by omega)]; simp [mostW, wideK]
      rw [hwb, hk, hvn, txt_h2, txt_append]; rfl
    have htb : (txt (bitsN v 9)).size = 9 := by rw [txt_size, bitsN_len]
    generalize htx : txt (bitsN v 9) = tx at hfin htb
    have Hfin := Lib.hid hfin; have Htx := Lib.hid htx
    have hb0 : (((v : Int) - 255) == 0) = false := by rw [beq_eq_false_iff_ne]; omega
    clear hwb hk hfin htx
    have h3 : (v : Int) - 255 ≤ -64 ∨ 64 < (v : Int) - 255 := by omega
    clear h0
    rcases h3 with h3 | h3
    all_goals
      go_enter Tryz.func107, Tryz.ntmps107
      go_wp2_with fail
      refine (bits_any v 9 (by omega) (by omega) _).mono ?_
      rintro e w1 ⟨rfl, hb⟩
      rw [Htx.out]
      have Hb := Lib.hid hb; clear hb
      go_wp2
      go_ret
      exact ⟨by rw [← Hfin.out]; rfl, Hb.out⟩
  · obtain ⟨v, rfl⟩ : ∃ v : Nat, n = (v : Int) - 2047 := ⟨(n + 2047).toNat, by omega⟩
    have hv : v < 4096 := by omega
    have hfin : (⟨#[49, 49, 49, 48]⟩ : ByteArray) ++ txt (bitsN v 12) = txt (waveBits ((v : Int) - 2047)) := by
      have hvn : (waveV ((v : Int) - 2047)).toNat = v := by
        unfold waveV; rw [hk, if_neg (by omega)]; simp [mostW, wideK]
      rw [hwb, hk, hvn, txt_h3, txt_append]; rfl
    have htb : (txt (bitsN v 12)).size = 12 := by rw [txt_size, bitsN_len]
    generalize htx : txt (bitsN v 12) = tx at hfin htb
    have Hfin := Lib.hid hfin; have Htx := Lib.hid htx
    have hb0 : (((v : Int) - 2047) == 0) = false := by rw [beq_eq_false_iff_ne]; omega
    clear hwb hk hfin htx
    have h3 : (v : Int) - 2047 ≤ -256 ∨ 256 < (v : Int) - 2047 := by omega
    clear h0
    rcases h3 with h3 | h3
    all_goals
      go_enter Tryz.func107, Tryz.ntmps107
      go_wp2_with fail
      refine (bits_any v 12 (by omega) (by omega) _).mono ?_
      rintro e w1 ⟨rfl, hb⟩
      rw [Htx.out]
      have Hb := Lib.hid hb; clear hb
      go_wp2
      go_ret
      exact ⟨by rw [← Hfin.out]; rfl, Hb.out⟩
  · obtain ⟨v, hv⟩ : ∃ v : Nat, n % 18446744073709551616 = (v : Int) := ⟨(n % 18446744073709551616).toNat, by omega⟩
    have hv2 : v < 18446744073709551616 := by omega
    have hvw : IntKind.u64.wrap n = (v : Int) := by rw [IntKind.wrap_u64]; exact hv
    have hfin : (⟨#[49, 49, 49, 49]⟩ : ByteArray) ++ txt (bitsN v 64) = txt (waveBits n) := by
      have hvn : (waveV n).toNat = v := by
        unfold waveV; rw [hk, if_pos (Or.inr rfl)]; omega
      rw [hwb, hk, hvn, txt_h4, txt_append]; rfl
    have htb : (txt (bitsN v 64)).size = 64 := by rw [txt_size, bitsN_len]
    generalize htx : txt (bitsN v 64) = tx at hfin htb
    have Hfin := Lib.hid hfin; have Htx := Lib.hid htx
    have hb0 : (n == 0) = false := by rw [beq_eq_false_iff_ne]; omega
    have h3 : n ≤ -2048 ∨ 2048 < n := by omega
    clear hwb hk hfin htx h0
    rcases h3 with h3 | h3
    all_goals
      go_enter Tryz.func107, Tryz.ntmps107
      go_wp2_with fail
      refine (bits_any v 64 hv2 (by omega) _).mono ?_
      rintro e w1 ⟨rfl, hb⟩
      rw [Htx.out]
      have Hb := Lib.hid hb; clear hb
      go_wp2
      go_ret
      exact ⟨by rw [← Hfin.out]; rfl, Hb.out⟩
end Go.Proofs.YtpbgonpmpjpljaaGreatDoor

namespace Go.Proofs.YtpbgonpmpjpljaaGreatDoor
open Go.RowKit
set_option linter.unusedVariables false

theorem stepsL_take (l : List Int) {k : Nat} (hk : k < l.length) : wavesL ((stepsL l).take (k + 1)) = wavesL ((stepsL l).take k) ++ waveBits (stepAt l k) := wavesL_next (stepsL_get l k hk)
theorem stepAt_range (l : List Int) (hl : ∀ t ∈ l, Tick t) (k : Nat) : -4398046511104 ≤ stepAt l k ∧ stepAt l k ≤ 4398046511104 := by
  have h : ∀ i, -1099511627776 ≤ l.getD i 0 ∧ l.getD i 0 ≤ 1099511627776 := by
    intro i
    rw [List.getD_eq_getElem?_getD]
    cases he : l[i]? with
    | none => simp
    | some t => obtain ⟨a, b⟩ := hl t (List.mem_of_getElem? he); simpa using ⟨a, b⟩
  have h0 := h k
  have h1 := h (k - 1)
  have h2 := h (k - 2)
  have h3 := h 0
  have h4 := h 1
  unfold stepAt
  split
  · omega
  · split <;> omega

set_option maxRecDepth 100000 in
set_option maxHeartbeats 2000000 in
theorem ticksOf_any (A : Option Addr) (n c : Nat) (l : List Int) (w : World) (hA : Rd w w.heap.size 1 A n (l.map (Value.int .i64))) (hn : n ≤ 1000) (hl : ∀ t ∈ l, Tick t) :
    Calls Tryz.prog 77 #[.slice A n c] w fun e w' => e = .returned (.string (txt (ticksBits l))) ∧ Below w.heap.size w w' := by
  have hlen : l.length = n := by have := hA.1; simp at this; omega
  have HA := Lib.hid hA; have Hl := Lib.hid hl; have Hlen := Lib.hid hlen
  clear hA hl hlen
  go_enter Tryz.func77, Tryz.ntmps77
  go_wp2
  go_loopw [3, 4] (fun m i wr => ∃ (k : Nat) (st : ByteArray) (L : List Bool), k ≤ n ∧ i = .int .i64 k ∧ m = .string st ∧ st = txt L ∧ st.size = L.length ∧ L = wavesL ((stepsL l).take k) ∧ L.length ≤ 68 * k ∧ Below w.heap.size w wr) (fun _ i _ => n - (intOf i).toNat)
  case atStart => exact ⟨0, ByteArray.empty, [], by omega, rfl, rfl, rfl, rfl, rfl, by simp, Below.refl _ _⟩
  case round =>
    obtain ⟨k, st, L, hk, rfl, rfl, hst, hsz, hL, hLk, hbel⟩ := hrel
    have Hst := Lib.hid hst; have Hsz := Lib.hid hsz; have HL := Lib.hid hL; have Hbel := Lib.hid hbel
    clear hst hsz hL hbel
    by_cases hkn : k < n
    · have hsr := stepAt_range l Hl.out k
      have hnx := stepsL_take l (k := k) (by rw [Hlen.out]; exact hkn)
      rw [← HL.out] at hnx
      have hwl := waveBits_len (stepAt l k)
      have hsb := sizeN_bd (stepAt l k)
      have htx : st ++ txt (waveBits (stepAt l k)) = txt (L ++ waveBits (stepAt l k)) := by rw [Hst.out, txt_append]
      have hl2 : (L ++ waveBits (stepAt l k)).length ≤ 68 * (k + 1) := by rw [List.length_append]; omega
      have htb : (txt (waveBits (stepAt l k))).size ≤ 68 := by rw [txt_size]; omega
      have hss : st.size ≤ 68 * k := by rw [Hsz.out]; exact hLk
      have fin : ∀ (W W' : World), Below w.heap.size w W → Below W.heap.size W W' → Below w.heap.size w W' := fun W W' h1 h2 => Below.call h1 h2 h1.size
      generalize htt : txt (waveBits (stepAt l k)) = tb at htx htb
      have Hnx := Lib.hid hnx; have Htx := Lib.hid htx; have Hl2 := Lib.hid hl2; have Htt := Lib.hid htt; have Hsr := Lib.hid hsr; have Hfin := Lib.hid fin
      clear hnx htx hl2 htt hwl hsb hsr fin
      obtain ⟨bb, off, t, hAe, had, hy, e0⟩ := HA.out.at1 hkn
      subst hAe
      have e0' := (Hbel.out.cell (p := ⟨bb, off + k, none⟩) had).trans e0
      obtain ⟨ht0, ht1⟩ := Hl.out t (List.mem_of_getElem? hy)
      have hg := getD_of hy
      clear e0
      have hc : k = 0 ∨ k = 1 ∨ 2 ≤ k := by omega
      rcases hc with hc | hc | hc
      · have hx : stepAt l k = t := by unfold stepAt; rw [if_pos hc, ← hg, hc]
        have hc' : (k : Int) ≤ 0 := by omega
        rw [hx] at Htt Hsr
        have Hc := Lib.hid hc; have Hx := Lib.hid hx
        clear hy hg hc hx
        go_wp2_with fail
        refine (waveOf_any t (by have := Hsr.out; omega) _).mono ?_
        rintro e w3 ⟨rfl, hb3⟩
        rw [Htt.out]
        have Hb3 := Lib.hid (Hfin.out _ _ Hbel.out hb3)
        clear hb3
        go_wp2
        go_roundw
        case rel => exact ⟨k + 1, _, L ++ waveBits (stepAt l k), by omega, by go_num, rfl, Htx.out, by rw [Htx.out, txt_size], Hnx.out.symm, Hl2.out, Hb3.out⟩
        case measure => simp [intOf]; omega
      · obtain ⟨b1, o1, t1, hAe1, had1, hy1, e1⟩ := HA.out.at1 (k := k - 1) (by omega)
        injection hAe1 with hAe1
        injection hAe1 with hA1 hA2
        subst hA1; subst hA2
        have e1' := (Hbel.out.cell (p := ⟨bb, off + (k - 1), none⟩) had1).trans e1
        obtain ⟨ht2, ht3⟩ := Hl.out t1 (List.mem_of_getElem? hy1)
        have hg1 := getD_of hy1
        subst hc
        simp only [Nat.sub_self, Nat.add_zero] at e1' hg1
        have hx : stepAt l 1 = t - t1 := by unfold stepAt; rw [if_neg (by omega), if_pos rfl, ← hg, ← hg1]
        rw [hx] at Htt Hsr
        have Hx := Lib.hid hx
        clear hy hg hx hy1 hg1 e1
        go_wp2_with fail
        refine (waveOf_any (t - t1) (by have := Hsr.out; omega) _).mono ?_
        rintro e w3 ⟨rfl, hb3⟩
        rw [Htt.out]
        have Hb3 := Lib.hid (Hfin.out _ _ Hbel.out hb3)
        clear hb3
        go_wp2
        go_roundw
        case rel => exact ⟨2, _, L ++ waveBits (stepAt l 1), by omega, by go_num, rfl, Htx.out, by rw [Htx.out, txt_size], Hnx.out.symm, Hl2.out, Hb3.out⟩
        case measure => simp [intOf]; omega
      · obtain ⟨j, rfl⟩ : ∃ j, k = j + 2 := ⟨k - 2, by omega⟩
        obtain ⟨b1, o1, t1, hAe1, had1, hy1, e1⟩ := HA.out.at1 (k := j + 1) (by omega)
        injection hAe1 with hAe1
        injection hAe1 with hA1 hA2
        subst hA1; subst hA2
        obtain ⟨b2, o2, t2, hAe2, had2, hy2, e2⟩ := HA.out.at1 (k := j) (by omega)
        injection hAe2 with hAe2
        injection hAe2 with hA1 hA2
        subst hA1; subst hA2
        have e1' := (Hbel.out.cell (p := ⟨bb, off + (j + 1), none⟩) had1).trans e1
        have e2' := (Hbel.out.cell (p := ⟨bb, off + j, none⟩) had2).trans e2
        obtain ⟨ht2, ht3⟩ := Hl.out t1 (List.mem_of_getElem? hy1)
        obtain ⟨ht4, ht5⟩ := Hl.out t2 (List.mem_of_getElem? hy2)
        have hg1 := getD_of hy1
        have hg2 := getD_of hy2
        have hx : stepAt l (j + 2) = t - t1 - (t1 - t2) := by
          unfold stepAt
          rw [if_neg (by omega), if_neg (by omega), show j + 2 - 1 = j + 1 by omega, show j + 2 - 2 = j by omega, hg, hg1, hg2]
        rw [hx] at Htt Hsr
        have Hx := Lib.hid hx
        have n1 : IntKind.i64.wrap ((j : Int) + 2 - 1) = ((j + 1 : Nat) : Int) := by rw [IntKind.wrap_i64]; omega
        have n2 : IntKind.i64.wrap ((j : Int) + 2 - 2) = ((j : Nat) : Int) := by rw [IntKind.wrap_i64]; omega
        have n3 : IntKind.i64.wrap (t1 - t2) = t1 - t2 := by rw [IntKind.wrap_i64]; omega
        have n4 : IntKind.i64.wrap (t - t1 - (t1 - t2)) = t - t1 - (t1 - t2) := by rw [IntKind.wrap_i64]; omega
        clear hy hg hx hy1 hg1 e1 hy2 hg2 e2
        go_wp2
        go_quiet (fail)
        go_wp2_with fail
        refine (waveOf_any (t - t1 - (t1 - t2)) (by have := Hsr.out; omega) _).mono ?_
        rintro e w3 ⟨rfl, hb3⟩
        rw [Htt.out]
        have Hb3 := Lib.hid (Hfin.out _ _ (Below.drewN Hbel.out _) hb3)
        clear hb3
        go_wp2
        go_roundw
        case rel => exact ⟨j + 2 + 1, _, L ++ waveBits (stepAt l (j + 2)), by omega, by go_num, rfl, Htx.out, by rw [Htx.out, txt_size], Hnx.out.symm, Hl2.out, Hb3.out⟩
        case measure => simp [intOf]; omega
    · obtain rfl : k = n := by omega
      have e : L = ticksBits l := by rw [HL.out, List.take_of_length_le (by rw [stepsL_len, Hlen.out]; exact Nat.le_refl _)]; rfl
      have He := Lib.hid e
      clear e
      go_wp2
      go_ret
      exact ⟨by rw [Hst.out, He.out]; rfl, Hbel.out⟩

end Go.Proofs.YtpbgonpmpjpljaaGreatDoor

namespace Go.Proofs.YtpbgonpmpjpljaaGreatDoor
open Go.RowKit
set_option linter.unusedVariables false

theorem seal_len (xs : List Nat) : (sealL xs).length = xs.length + 4 := by unfold sealL; rw [List.length_append, fourL_len]
theorem seal_take (xs : List Nat) : (sealL xs).take ((sealL xs).length - 4) = xs := by
  rw [seal_len, Nat.add_sub_cancel]; unfold sealL; exact List.take_left
end Go.Proofs.YtpbgonpmpjpljaaGreatDoor

namespace Go.Proofs.YtpbgonpmpjpljaaGreatDoor
open Go.RowKit
set_option linter.unusedVariables false

theorem bytesLess_lt : ∀ (x y : Bs), Op.bytesLess x y = decide (x < y)
  | _, [] => by
    unfold Op.bytesLess
    symm
    exact decide_eq_false (List.not_lt_nil _)
  | [], b :: y => by
    unfold Op.bytesLess
    symm
    exact decide_eq_true (List.nil_lt_cons b y)
  | a :: x, b :: y => by
    unfold Op.bytesLess
    rw [bytesLess_lt x y, Bool.eq_iff_iff, decide_eq_true_iff, List.cons_lt_cons_iff]
    simp
theorem lt_irrefl_bs (x : Bs) : ¬ x < x := List.lt_irrefl x
theorem lt_asymm_bs {x y : Bs} (h : x < y) : ¬ y < x := fun h' => List.lt_irrefl x (List.lt_trans h h')
theorem lt_or_bs (x y : Bs) : x < y ∨ x = y ∨ y < x := by
  by_cases h1 : x < y
  · exact .inl h1
  · by_cases h2 : y < x
    · exact .inr (.inr h2)
    · exact .inr (.inl (List.le_antisymm (show x ≤ y from h2) (show y ≤ x from h1)))

/-- A line: its series, its points, its last tick ever. -/
abbrev HA := Bs × List (Int × Int) × Int
def tickB (t : Int) : Bool := decide (-1099511627776 ≤ t ∧ t ≤ 1099511627776)
end Go.Proofs.YtpbgonpmpjpljaaGreatDoor

namespace Go.Proofs.YtpbgonpmpjpljaaGreatDoor
open Go.RowKit
set_option linter.unusedVariables false

abbrev Rw := Bs × List (Int × Int)
theorem firstM_none {g : Nat → Option Nat} : ∀ {n : Nat}, firstM g n = none ↔ ∀ i, i < n → g i = none
  | 0 => ⟨fun _ i h => absurd h (Nat.not_lt_zero _), fun _ => rfl⟩
  | n + 1 => by
    constructor
    · intro h i hi
      unfold firstM at h
      split at h
      · cases h
      · rename_i h1
        split at h
        · cases h
        · rename_i h2
          rcases Nat.lt_or_ge i n with h3 | h3
          · exact firstM_none.1 h1 i h3
          · obtain rfl : i = n := by omega
            exact h2
    · intro h
      exact firstM_ok (firstM_none.2 fun i hi => h i (by omega)) (h n (Nat.lt_succ_self _))
theorem leS_false {a b : Bs} : leS a b = false ↔ b < a := by
  unfold leS
  rw [bytesLess_lt, Bool.or_eq_false_iff, decide_eq_false_iff_not, beq_eq_false_iff_ne]
  constructor
  · rintro ⟨h1, h2⟩
    rcases lt_or_bs a b with h | h | h
    · exact absurd h h1
    · exact absurd h h2
    · exact h
  · intro h
    exact ⟨lt_asymm_bs h, fun e => by subst e; exact lt_irrefl_bs _ h⟩
theorem dupB_rise {ns : List Bs} (h : ∀ i, i < ns.length → dupB ns i = false) : ns.Pairwise (· < ·) := by
  have hs : ∀ i, i + 1 < ns.length → ns.getD i [] < ns.getD (i + 1) [] := fun i hi => by
    have := h (i + 1) hi
    unfold dupB at this
    rw [decide_eq_true (Nat.succ_pos i), Bool.true_and, Nat.add_sub_cancel] at this
    exact leS_false.1 this
  have ht : ∀ d i, i + d + 1 < ns.length → ns.getD i [] < ns.getD (i + d + 1) [] := by
    intro d
    induction d with
    | zero => exact fun i hi => hs i hi
    | succ d ih => exact fun i hi => List.lt_trans (ih i (by omega)) (hs (i + d + 1) (by omega))
  rw [List.pairwise_iff_getElem]
  intro i j hi hj hij
  have := ht (j - i - 1) i (by omega)
  rw [show i + (j - i - 1) + 1 = j by omega, List.getD_eq_getElem?_getD, List.getD_eq_getElem?_getD, List.getElem?_eq_getElem hi, List.getElem?_eq_getElem hj] at this
  exact this
theorem rise_dupB {ns : List Bs} (h : ns.Pairwise (· < ·)) {i : Nat} (hi : i < ns.length) : dupB ns i = false := by
  unfold dupB
  rcases Nat.eq_zero_or_pos i with h0 | h0
  · rw [decide_eq_false (by omega), Bool.false_and]
  · rw [leS_false.2, Bool.and_false]
    have := List.pairwise_iff_getElem.1 h (i - 1) i (by omega) hi (by omega)
    rw [List.getD_eq_getElem?_getD, List.getD_eq_getElem?_getD, List.getElem?_eq_getElem hi, List.getElem?_eq_getElem (show i - 1 < ns.length by omega)]
    exact this
/-- A row that is right by itself. -/
def RowOk (fr en : Int) (r : Rw) : Prop := (rdF r.1).1 = 0 ∧ (ptF r.2).1 = 0 ∧ allIn fr en r.2 = true
theorem ptF_zero {l : List (Int × Int)} : (ptF l).1 = 0 ↔ l.length ≤ 120 ∧ ∀ j, j < l.length → okAt l j := by
  rcases ptF_cases l with ⟨h, e⟩ | ⟨h, i, h1, h2, h3, e⟩ | ⟨h, h2, e⟩ <;> rw [e]
  · exact ⟨fun h => (by cases h), fun ⟨h', _⟩ => by omega⟩
  · exact ⟨fun h => absurd h (Nat.succ_ne_zero _), fun ⟨_, h'⟩ => absurd (h' i h1) h3⟩
  · exact ⟨fun _ => ⟨h, h2⟩, fun _ => rfl⟩
theorem mkR_none {fr en : Int} {rows : List Rw} {i : Nat} : mkR fr en rows i = none ↔ RowOk fr en (rows.getD i ([], [])) ∧ dupB (rows.map Prod.fst) i = false := by
  unfold mkR mkV RowOk
  by_cases h1 : (rdF (rows.getD i ([], [])).1).1 = 0
  case neg => rw [if_pos h1]; exact ⟨fun h => (by cases h), fun h => absurd h.1.1 h1⟩
  rw [if_neg (by simpa using h1)]
  cases hd : dupB (rows.map Prod.fst) i
  case true => exact ⟨fun h => (by cases h), fun h => (by cases h.2)⟩
  rw [if_neg (by decide)]
  by_cases h2 : (ptF (rows.getD i ([], [])).2).1 = 0
  case neg => rw [if_pos h2]; exact ⟨fun h => (by cases h), fun h => absurd h.1.2.1 h2⟩
  rw [if_neg (by simpa using h2)]
  cases hi : allIn fr en (rows.getD i ([], [])).2
  · exact ⟨fun h => (by cases h), fun h => (by cases h.1.2.2)⟩
  · exact ⟨fun _ => ⟨⟨h1, h2, rfl⟩, rfl⟩, fun _ => rfl⟩
/-- Rows that are right: each by itself, names rising. -/
def RowsOk (fr en : Int) (rows : List Rw) : Prop := (∀ r ∈ rows, RowOk fr en r) ∧ (rows.map Prod.fst).Pairwise (· < ·)
theorem RowsOk_iff {fr en : Int} {rows : List Rw} : firstM (mkR fr en rows) rows.length = none ↔ RowsOk fr en rows := by
  rw [firstM_none]
  constructor
  · intro h
    refine ⟨fun r hr => ?_, dupB_rise fun i hi => (mkR_none.1 (h i (by simpa using hi))).2⟩
    obtain ⟨i, hi, rfl⟩ := List.getElem_of_mem hr
    have := (mkR_none.1 (h i hi)).1
    rwa [List.getD_eq_getElem?_getD, List.getElem?_eq_getElem hi] at this
  · rintro ⟨h1, h2⟩ i hi
    refine mkR_none.2 ⟨?_, rise_dupB h2 (by simpa using hi)⟩
    rw [List.getD_eq_getElem?_getD, List.getElem?_eq_getElem hi]
    exact h1 _ (List.getElem_mem hi)
theorem RowsOk.keep {fr en : Int} {rows : List Rw} (h : RowsOk fr en rows) : RowsOk fr en (keepR rows) :=
  ⟨fun r hr => h.1 r (List.mem_filter.1 hr).1, List.Pairwise.sublist (List.filter_sublist.map _) h.2⟩
theorem keep_len (rows : List Rw) : (keepR rows).length ≤ rows.length := List.length_filter_le _ _
def encR (rows : List Rw) : List (Bs × List Nat) := rows.map fun r => (r.1, chunkL r.2)
theorem makeR_ok {fr sp : Int} {rows : List Rw} (h1 : bndB fr sp = true) (h2 : rows.length ≤ 60) (h3 : RowsOk fr (fr + sp) rows) : makeR fr sp rows = ((0, -1), encR (keepR rows)) := by
  unfold makeR
  rw [if_neg (by rw [h1]; decide), if_neg (by omega), RowsOk_iff.2 h3]
  rfl
theorem makeR_inv {fr sp : Int} {rows : List Rw} (h : (makeR fr sp rows).1.1 = 0) : bndB fr sp = true ∧ rows.length ≤ 60 ∧ RowsOk fr (fr + sp) rows ∧ makeR fr sp rows = ((0, -1), encR (keepR rows)) := by
  have h' := h
  unfold makeR at h
  split at h
  · cases h
  rename_i h1
  split at h
  · cases h
  rename_i h2
  split at h
  · exact absurd h (Nat.succ_ne_zero _)
  rename_i h3
  have h1' : bndB fr sp = true := by simpa using h1
  exact ⟨h1', by omega, RowsOk_iff.1 h3, makeR_ok h1' (by omega) (RowsOk_iff.1 h3)⟩
theorem makeR_err {fr sp : Int} {rows : List Rw} (h : (makeR fr sp rows).1.1 ≠ 0) : (makeR fr sp rows).2 = [] := by
  unfold makeR at h ⊢
  split
  · rfl
  rename_i h1
  rw [if_neg h1] at h
  split
  · rfl
  rename_i h2
  rw [if_neg h2] at h
  split
  · rfl
  · rename_i h3
    rw [h3] at h
    exact absurd rfl h
end Go.Proofs.YtpbgonpmpjpljaaGreatDoor
