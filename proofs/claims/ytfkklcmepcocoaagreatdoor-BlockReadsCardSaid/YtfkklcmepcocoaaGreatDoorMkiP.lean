/- A head as a list of lines, series rising: plain facts. -/
import Derived.Test.YtfkklcmepcocoaaGreatDoorMkeP
import Derived.Test.YtfkklcmepcocoaaGreatDoorMkcP
import Derived.Test.YtfkklcmepcocoaaGreatDoorMkaP
import Derived.Test.YtfkklcmepcocoaaGreatDoorMkbP
import Derived.Deep.RegionHeld3
import Derived.Test.YtfkklcmepcocoaaGreatDoorCodeP
import Derived.BigQuiet
import Derived.Test.YtfkklcmepcocoaaGreatDoorChunkDecQP
import Derived.Test.YtfkklcmepcocoaaGreatDoorMkgP
import Derived.Test.YtfkklcmepcocoaaGreatDoorMkhP
namespace Go.Proofs.YtfkklcmepcocoaaGreatDoor
open Go.RowKit
set_option linter.unusedVariables false

/-- A line: its series, its points, its last tick ever. -/
abbrev HA := Bs × List (Int × Int) × Int
def tickB (t : Int) : Bool := decide (-1099511627776 ≤ t ∧ t ≤ 1099511627776)
end Go.Proofs.YtfkklcmepcocoaaGreatDoor

namespace Go.Proofs.YtfkklcmepcocoaaGreatDoor
open Go.RowKit
set_option linter.unusedVariables false

theorem txt_inj {a b : List Bool} (h : (txt a).toList = (txt b).toList) : a = b := by
  unfold txt at h
  rw [B8_toList, B8_toList] at h
  have : ∀ (a b : List Bool), a.map chB = b.map chB → a = b := by
    intro a
    induction a with
    | nil => intro b h; cases b with
      | nil => rfl
      | cons => simp at h
    | cons x a ih => intro b h; cases b with
      | nil => simp at h
      | cons y b =>
        simp only [List.map_cons, List.cons.injEq] at h
        obtain ⟨h1, h2⟩ := h
        rw [ih b h2]
        cases x <;> cases y <;> simp [chB] at h1 ⊢
  exact this a b h
theorem txt_ne {a b : List Bool} (h : a ≠ b) : ((txt a).toList == (txt b).toList) = false := by
  rw [beq_eq_false_iff_ne]; exact fun e => h (txt_inj e)
theorem txt_h0 : (⟨#[48]⟩ : ByteArray) = txt [false] := rfl
theorem txt_h1 : (⟨#[49, 48]⟩ : ByteArray) = txt [true, false] := rfl
theorem txt_h2 : (⟨#[49, 49, 48]⟩ : ByteArray) = txt [true, true, false] := rfl
theorem txt_h3 : (⟨#[49, 49, 49, 48]⟩ : ByteArray) = txt [true, true, true, false] := rfl
theorem txt_h4 : (⟨#[49, 49, 49, 49]⟩ : ByteArray) = txt [true, true, true, true] := rfl
theorem ofK_cases (n : Int) : (n = 0 ∧ ofK n = 0) ∨ (n ≠ 0 ∧ -64 < n ∧ n ≤ 64 ∧ ofK n = 1) ∨ (¬ (-64 < n ∧ n ≤ 64) ∧ -256 < n ∧ n ≤ 256 ∧ ofK n = 2) ∨ (¬ (-256 < n ∧ n ≤ 256) ∧ -2048 < n ∧ n ≤ 2048 ∧ ofK n = 3) ∨ (¬ (-2048 < n ∧ n ≤ 2048) ∧ ofK n = 4) := by
  unfold ofK
  repeat' split
  all_goals omega

set_option maxRecDepth 100000 in
set_option maxHeartbeats 1000000 in
theorem waveOf_any (n : Int) (hn : -9223372036854775808 ≤ n ∧ n ≤ 9223372036854775807) (w : World) : Calls Tryz.prog 207 #[.int .i64 n] w fun e w' => e = .returned (.string (txt (waveBits n))) ∧ Below w.heap.size w w' := by
  have hwb := waveBits_eq n
  obtain ⟨hn0, hn1⟩ := hn
  rcases ofK_cases n with ⟨h, hk⟩ | ⟨h0, h1, h2, hk⟩ | ⟨h0, h1, h2, hk⟩ | ⟨h0, h1, h2, hk⟩ | ⟨h0, hk⟩
  · subst h
    have hfin : txt (waveBits 0) = ⟨#[48]⟩ := by rw [hwb, hk, txt_h0]; rfl
    have Hfin := Lib.hid hfin
    clear hwb hk hfin
    go_enter Tryz.func207, Tryz.ntmps207
    go_wp2
    go_ret
    exact ⟨by rw [Hfin.out]; rfl, Below.refl _ _⟩
  · obtain ⟨v, rfl⟩ : ∃ v : Nat, n = (v : Int) - 63 := ⟨(n + 63).toNat, by omega⟩
    have hv : v < 128 := by omega
    have hfin : (⟨#[49, 48]⟩ : ByteArray) ++ txt (bitsN v 7) = txt (waveBits ((v : Int) - 63)) := by
      have hvn : (waveV ((v : Int) - 63)).toNat = v := by
        unfold waveV; rw [hk, if_neg (by omega)]; simp [mostW, wideK]
      rw [hwb, hk, hvn, txt_h1, txt_append]; rfl
    have htb : (txt (bitsN v 7)).size = 7 := by rw [txt_size, bitsN_len]
    generalize htx : txt (bitsN v 7) = tx at hfin htb
    have Hfin := Lib.hid hfin; have Htx := Lib.hid htx
    have hb0 : (((v : Int) - 63) == 0) = false := by rw [beq_eq_false_iff_ne]; omega
    clear hwb hk hfin htx
    clear h0
    go_enter Tryz.func207, Tryz.ntmps207
    go_wp2_with fail
    refine (bits_any v 7 (by omega) (by omega) _).mono ?_
    rintro e w1 ⟨rfl, hb⟩
    rw [Htx.out]
    have Hb := Lib.hid hb; clear hb
    go_wp2
    go_ret
    exact ⟨by rw [← Hfin.out]; rfl, Hb.out⟩
  · obtain ⟨v, rfl⟩ : ∃ v : Nat, n = (v : Int) - 255 := ⟨(n + 255).toNat, by omega⟩
    have hv : v < 512 := by omega
    have hfin : (⟨#[49, 49, 48]⟩ : ByteArray) ++ txt (bitsN v 9) = txt (waveBits ((v : Int) - 255)) := by
      have hvn : (waveV ((v : Int) - 255)).toNat = v := by
        unfold waveV; rw [hk, if_neg (by omega)]; simp [mostW, wideK]
      rw [hwb, hk, hvn, txt_h2, txt_append]; rfl
    have htb : (txt (bitsN v 9)).size = 9 := by rw [txt_size, bitsN_len]
    generalize htx : txt (bitsN v 9) = tx at hfin htb
    have Hfin := Lib.hid hfin; have Htx := Lib.hid htx
    have hb0 : (((v : Int) - 255) == 0) = false := by rw [beq_eq_false_iff_ne]; omega
    clear hwb hk hfin htx
    have h3 : (v : Int) - 255 ≤ -64 ∨ 64 < (v : Int) - 255 := by omega
    clear h0
    rcases h3 with h3 | h3
    all_goals
      go_enter Tryz.func207, Tryz.ntmps207
      go_wp2_with fail
      refine (bits_any v 9 (by omega) (by omega) _).mono ?_
      rintro e w1 ⟨rfl, hb⟩
      rw [Htx.out]
      have Hb := Lib.hid hb; clear hb
      go_wp2
      go_ret
      exact ⟨by rw [← Hfin.out]; rfl, Hb.out⟩
  · obtain ⟨v, rfl⟩ : ∃ v : Nat, n = (v : Int) - 2047 := ⟨(n + 2047).toNat, by omega⟩
    have hv : v < 4096 := by omega
    have hfin : (⟨#[49, 49, 49, 48]⟩ : ByteArray) ++ txt (bitsN v 12) = txt (waveBits ((v : Int) - 2047)) := by
      have hvn : (waveV ((v : Int) - 2047)).toNat = v := by
        unfold waveV; rw [hk, if_neg (by omega)]; simp [mostW, wideK]
      rw [hwb, hk, hvn, txt_h3, txt_append]; rfl
    have htb : (txt (bitsN v 12)).size = 12 := by rw [txt_size, bitsN_len]
    generalize htx : txt (bitsN v 12) = tx at hfin htb
    have Hfin := Lib.hid hfin; have Htx := Lib.hid htx
    have hb0 : (((v : Int) - 2047) == 0) = false := by rw [beq_eq_false_iff_ne]; omega
    clear hwb hk hfin htx
    have h3 : (v : Int) - 2047 ≤ -256 ∨ 256 < (v : Int) - 2047 := by omega
    clear h0
    rcases h3 with h3 | h3
    all_goals
      go_enter Tryz.func207, Tryz.ntmps207
      go_wp2_with fail
      refine (bits_any v 12 (by omega) (by omega) _).mono ?_
      rintro e w1 ⟨rfl, hb⟩
      rw [Htx.out]
      have Hb := Lib.hid hb; clear hb
      go_wp2
      go_ret
      exact ⟨by rw [← Hfin.out]; rfl, Hb.out⟩
  · obtain ⟨v, hv⟩ : ∃ v : Nat, n % 18446744073709551616 = (v : Int) := ⟨(n % 18446744073709551616).toNat, by omega⟩
    have hv2 : v < 18446744073709551616 := by omega
    have hvw : IntKind.u64.wrap n = (v : Int) := by rw [IntKind.wrap_u64]; exact hv
    have hfin : (⟨#[49, 49, 49, 49]⟩ : ByteArray) ++ txt (bitsN v 64) = txt (waveBits n) := by
      have hvn : (waveV n).toNat = v := by
        unfold waveV; rw [hk, if_pos (Or.inr rfl)]; omega
      rw [hwb, hk, hvn, txt_h4, txt_append]; rfl
    have htb : (txt (bitsN v 64)).size = 64 := by rw [txt_size, bitsN_len]
    generalize htx : txt (bitsN v 64) = tx at hfin htb
    have Hfin := Lib.hid hfin; have Htx := Lib.hid htx
    have hb0 : (n == 0) = false := by rw [beq_eq_false_iff_ne]; omega
    have h3 : n ≤ -2048 ∨ 2048 < n := by omega
    clear hwb hk hfin htx h0
    rcases h3 with h3 | h3
    all_goals
      go_enter Tryz.func207, Tryz.ntmps207
      go_wp2_with fail
      refine (bits_any v 64 hv2 (by omega) _).mono ?_
      rintro e w1 ⟨rfl, hb⟩
      rw [Htx.out]
      have Hb := Lib.hid hb; clear hb
      go_wp2
      go_ret
      exact ⟨by rw [← Hfin.out]; rfl, Hb.out⟩
end Go.Proofs.YtfkklcmepcocoaaGreatDoor

namespace Go.Proofs.YtfkklcmepcocoaaGreatDoor
open Go.RowKit
set_option linter.unusedVariables false

theorem stepsL_take (l : List Int) {k : Nat} (hk : k < l.length) : wavesL ((stepsL l).take (k + 1)) = wavesL ((stepsL l).take k) ++ waveBits (stepAt l k) := wavesL_next (stepsL_get l k hk)
theorem stepAt_range (l : List Int) (hl : ∀ t ∈ l, Tick t) (k : Nat) : -4398046511104 ≤ stepAt l k ∧ stepAt l k ≤ 4398046511104 := by
  have h : ∀ i, -1099511627776 ≤ l.getD i 0 ∧ l.getD i 0 ≤ 1099511627776 := by
    intro i
    rw [List.getD_eq_getElem?_getD]
    cases he : l[i]? with
    | none => simp
    | some t => obtain ⟨a, b⟩ := hl t (List.mem_of_getElem? he); simpa using ⟨a, b⟩
  have h0 := h k
  have h1 := h (k - 1)
  have h2 := h (k - 2)
  have h3 := h 0
  have h4 := h 1
  unfold stepAt
  split
  · omega
  · split <;> omega

set_option maxRecDepth 100000 in
set_option maxHeartbeats 2000000 in
theorem ticksOf_any (A : Option Addr) (n c : Nat) (l : List Int) (w : World) (hA : Rd w w.heap.size 1 A n (l.map (Value.int .i64))) (hn : n ≤ 1000) (hl : ∀ t ∈ l, Tick t) :
    Calls Tryz.prog 163 #[.slice A n c] w fun e w' => e = .returned (.string (txt (ticksBits l))) ∧ Below w.heap.size w w' := by
  have hlen : l.length = n := by have := hA.1; simp at this; omega
  have HA := Lib.hid hA; have Hl := Lib.hid hl; have Hlen := Lib.hid hlen
  clear hA hl hlen
  go_enter Tryz.func163, Tryz.ntmps163
  go_wp2
  go_loopw [3, 4] (fun m i wr => ∃ (k : Nat) (st : ByteArray) (L : List Bool), k ≤ n ∧ i = .int .i64 k ∧ m = .string st ∧ st = txt L ∧ st.size = L.length ∧ L = wavesL ((stepsL l).take k) ∧ L.length ≤ 68 * k ∧ Below w.heap.size w wr) (fun _ i _ => n - (intOf i).toNat)
  case atStart => exact ⟨0, ByteArray.empty, [], by omega, rfl, rfl, rfl, rfl, rfl, by simp, Below.refl _ _⟩
  case round =>
    obtain ⟨k, st, L, hk, rfl, rfl, hst, hsz, hL, hLk, hbel⟩ := hrel
    have Hst := Lib.hid hst; have Hsz := Lib.hid hsz; have HL := Lib.hid hL; have Hbel := Lib.hid hbel
    clear hst hsz hL hbel
    by_cases hkn : k < n
    · have hsr := stepAt_range l Hl.out k
      have hnx := stepsL_take l (k := k) (by rw [Hlen.out]; exact hkn)
      rw [← HL.out] at hnx
      have hwl := waveBits_len (stepAt l k)
      have hsb := sizeN_bd (stepAt l k)
      have htx : st ++ txt (waveBits (stepAt l k)) = txt (L ++ waveBits (stepAt l k)) := by rw [Hst.out, txt_append]
      have hl2 : (L ++ waveBits (stepAt l k)).length ≤ 68 * (k + 1) := by rw [List.length_append]; omega
      have htb : (txt (waveBits (stepAt l k))).size ≤ 68 := by rw [txt_size]; omega
      have hss : st.size ≤ 68 * k := by rw [Hsz.out]; exact hLk
      have fin : ∀ (W W' : World), Below w.heap.size w W → Below W.heap.size W W' → Below w.heap.size w W' := fun W W' h1 h2 => Below.call h1 h2 h1.size
      generalize htt : txt (waveBits (stepAt l k)) = tb at htx htb
      have Hnx := Lib.hid hnx; have Htx := Lib.hid htx; have Hl2 := Lib.hid hl2; have Htt := Lib.hid htt; have Hsr := Lib.hid hsr; have Hfin := Lib.hid fin
      clear hnx htx hl2 htt hwl hsb hsr fin
      obtain ⟨bb, off, t, hAe, had, hy, e0⟩ := HA.out.at1 hkn
      subst hAe
      have e0' := (Hbel.out.cell (p := ⟨bb, off + k, none⟩) had).trans e0
      obtain ⟨ht0, ht1⟩ := Hl.out t (List.mem_of_getElem? hy)
      have hg := getD_of hy
      clear e0
      have hc : k = 0 ∨ k = 1 ∨ 2 ≤ k := by omega
      rcases hc with hc | hc | hc
      · have hx : stepAt l k = t := by unfold stepAt; rw [if_pos hc, ← hg, hc]
        have hc' : (k : Int) ≤ 0 := by omega
        rw [hx] at Htt Hsr
        have Hc := Lib.hid hc; have Hx := Lib.hid hx
        clear hy hg hc hx
        go_wp2_with fail
        refine (waveOf_any t (by have := Hsr.out; omega) _).mono ?_
        rintro e w3 ⟨rfl, hb3⟩
        rw [Htt.out]
        have Hb3 := Lib.hid (Hfin.out _ _ Hbel.out hb3)
        clear hb3
        go_wp2
        go_roundw
        case rel => exact ⟨k + 1, _, L ++ waveBits (stepAt l k), by omega, by go_num, rfl, Htx.out, by rw [Htx.out, txt_size], Hnx.out.symm, Hl2.out, Hb3.out⟩
        case measure => simp [intOf]; omega
      · obtain ⟨b1, o1, t1, hAe1, had1, hy1, e1⟩ := HA.out.at1 (k := k - 1) (by omega)
        injection hAe1 with hAe1
        injection hAe1 with hA1 hA2
        subst hA1; subst hA2
        have e1' := (Hbel.out.cell (p := ⟨bb, off + (k - 1), none⟩) had1).trans e1
        obtain ⟨ht2, ht3⟩ := Hl.out t1 (List.mem_of_getElem? hy1)
        have hg1 := getD_of hy1
        subst hc
        simp only [Nat.sub_self, Nat.add_zero] at e1' hg1
        have hx : stepAt l 1 = t - t1 := by unfold stepAt; rw [if_neg (by omega), if_pos rfl, ← hg, ← hg1]
        rw [hx] at Htt Hsr
        have Hx := Lib.hid hx
        clear hy hg hx hy1 hg1 e1
        go_wp2_with fail
        refine (waveOf_any (t - t1) (by have := Hsr.out; omega) _).mono ?_
        rintro e w3 ⟨rfl, hb3⟩
        rw [Htt.out]
        have Hb3 := Lib.hid (Hfin.out _ _ Hbel.out hb3)
        clear hb3
        go_wp2
        go_roundw
        case rel => exact ⟨2, _, L ++ waveBits (stepAt l 1), by omega, by go_num, rfl, Htx.out, by rw [Htx.out, txt_size], Hnx.out.symm, Hl2.out, Hb3.out⟩
        case measure => simp [intOf]; omega
      · obtain ⟨j, rfl⟩ : ∃ j, k = j + 2 := ⟨k - 2, by omega⟩
        obtain ⟨b1, o1, t1, hAe1, had1, hy1, e1⟩ := HA.out.at1 (k := j + 1) (by omega)
        injection hAe1 with hAe1
        injection hAe1 with hA1 hA2
        subst hA1; subst hA2
        obtain ⟨b2, o2, t2, hAe2, had2, hy2, e2⟩ := HA.out.at1 (k := j) (by omega)
        injection hAe2 with hAe2
        injection hAe2 with hA1 hA2
        subst hA1; subst hA2
        have e1' := (Hbel.out.cell (p := ⟨bb, off + (j + 1), none⟩) had1).trans e1
        have e2' := (Hbel.out.cell (p := ⟨bb, off + j, none⟩) had2).trans e2
        obtain ⟨ht2, ht3⟩ := Hl.out t1 (List.mem_of_getElem? hy1)
        obtain ⟨ht4, ht5⟩ := Hl.out t2 (List.mem_of_getElem? hy2)
        have hg1 := getD_of hy1
        have hg2 := getD_of hy2
        have hx : stepAt l (j + 2) = t - t1 - (t1 - t2) := by
          unfold stepAt
          rw [if_neg (by omega), if_neg (by omega), show j + 2 - 1 = j + 1 by omega, show j + 2 - 2 = j by omega, hg, hg1, hg2]
        rw [hx] at Htt Hsr
        have Hx := Lib.hid hx
        have n1 : IntKind.i64.wrap ((j : Int) + 2 - 1) = ((j + 1 : Nat) : Int) := by rw [IntKind.wrap_i64]; omega
        have n2 : IntKind.i64.wrap ((j : Int) + 2 - 2) = ((j : Nat) : Int) := by rw [IntKind.wrap_i64]; omega
        have n3 : IntKind.i64.wrap (t1 - t2) = t1 - t2 := by rw [IntKind.wrap_i64]; omega
        have n4 : IntKind.i64.wrap (t - t1 - (t1 - t2)) = t - t1 - (t1 - t2) := by rw [IntKind.wrap_i64]; omega
        clear hy hg hx hy1 hg1 e1 hy2 hg2 e2
        go_wp2
        go_quiet (fail)
        go_wp2_with fail
        refine (waveOf_any (t - t1 - (t1 - t2)) (by have := Hsr.out; omega) _).mono ?_
        rintro e w3 ⟨rfl, hb3⟩
        rw [Htt.out]
        have Hb3 := Lib.hid (Hfin.out _ _ (Below.drewN Hbel.out _) hb3)
        clear hb3
        go_wp2
        go_roundw
        case rel => exact ⟨j + 2 + 1, _, L ++ waveBits (stepAt l (j + 2)), by omega, by go_num, rfl, Htx.out, by rw [Htx.out, txt_size], Hnx.out.symm, Hl2.out, Hb3.out⟩
        case measure => simp [intOf]; omega
    · obtain rfl : k = n := by omega
      have e : L = ticksBits l := by rw [HL.out, List.take_of_length_le (by rw [stepsL_len, Hlen.out]; exact Nat.le_refl _)]; rfl
      have He := Lib.hid e
      clear e
      go_wp2
      go_ret
      exact ⟨by rw [Hst.out, He.out]; rfl, Hbel.out⟩

end Go.Proofs.YtfkklcmepcocoaaGreatDoor

namespace Go.Proofs.YtfkklcmepcocoaaGreatDoor
open Go.RowKit
set_option linter.unusedVariables false

theorem seal_len (xs : List Nat) : (sealL xs).length = xs.length + 4 := by unfold sealL; rw [List.length_append, fourL_len]
theorem seal_take (xs : List Nat) : (sealL xs).take ((sealL xs).length - 4) = xs := by
  rw [seal_len, Nat.add_sub_cancel]; unfold sealL; exact List.take_left
end Go.Proofs.YtfkklcmepcocoaaGreatDoor

namespace Go.Proofs.YtfkklcmepcocoaaGreatDoor
open Go.RowKit
set_option linter.unusedVariables false

abbrev Rw := Bs × List (Int × Int)
/-- A row that is right by itself. -/
def RowOk (fr en : Int) (r : Rw) : Prop := (rdF r.1).1 = 0 ∧ (ptF r.2).1 = 0 ∧ allIn fr en r.2 = true
/-- Rows that are right: each by itself, names rising. -/
def RowsOk (fr en : Int) (rows : List Rw) : Prop := (∀ r ∈ rows, RowOk fr en r) ∧ (rows.map Prod.fst).Pairwise (· < ·)
theorem RowsOk.keep {fr en : Int} {rows : List Rw} (h : RowsOk fr en rows) : RowsOk fr en (keepR rows) :=
  ⟨fun r hr => h.1 r (List.mem_filter.1 hr).1, List.Pairwise.sublist (List.filter_sublist.map _) h.2⟩
end Go.Proofs.YtfkklcmepcocoaaGreatDoor
