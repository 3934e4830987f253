/- mask.parts by its contract. -/
import Derived.Test.YthgefobcohlegaaGreatDoorMkkX
import Derived.OwnWalk
import Derived.Deep.RegionHeld3
import Derived.Laws.Bits64
import Derived.Test.YthgefobcohlegaaGreatDoorMkeX
namespace Go.Proofs.YthgefobcohlegaaGreatDoor
open Go.RowKit
set_option linter.unusedVariables false

def ptW (p : Nat × Nat) : List Value := [.int .u64 (p.1 : Int), .int .i64 (p.2 : Int)]
theorem infoPart : (Tryz.prog.info? 290).map (fun i => (i.zero, i.size, i.bytes)) = some (some (.agg #[.int .u64 0, .int .i64 0]), 2, 16) := by kernel_rfl
theorem ptW_one (ps : List (Nat × Nat)) : ∀ u ∈ ps.flatMap ptW, u.oneCell' = true := by
  intro u hu
  obtain ⟨p, _, hp⟩ := List.mem_flatMap.1 hu
  simp [ptW] at hp
  rcases hp with rfl | rfl <;> rfl
theorem getD_get {l : List Nat} {k y : Nat} (h : l[k]? = some y) : l.getD k 0 = y := by rw [List.getD_eq_getElem?_getD, h]; rfl

theorem mof_w (x : Nat) (kw : Win) (hk : kw = winOf x) (w : World) (h : x < 18446744073709551616) (h0 : x ≠ 0) (hT : TabAt w) :
    Calls Tryz.prog 211 #[.int .u64 (x : Int)] w fun e w' => e = .returned (.agg #[.int .i64 kw.a, .int .i64 kw.t, .int .i64 kw.d]) ∧ Below w.heap.size w w' := by
  subst hk; exact mof_any x w h h0 hT
theorem mhas_w (w k : Win) (W : World) : Calls Tryz.prog 212 #[.agg #[.int .i64 w.a, .int .i64 w.t, .int .i64 w.d], .agg #[.int .i64 k.a, .int .i64 k.t, .int .i64 k.d]] W fun e w' => e = .returned (.bool (decide (hasW w k))) ∧ Below W.heap.size W w' := mhas_win w k W
theorem Blk.three {w : World} {b : Nat} {t : TypeId} {v1 v2 v3 : Value} (h : Blk w b t #[v1, v2, v3]) : w.cell? ⟨b, 0, none⟩ = some v1 ∧ w.cell? ⟨b, 1, none⟩ = some v2 ∧ w.cell? ⟨b, 2, none⟩ = some v3 := ⟨h.cell 0, h.cell 1, h.cell 2⟩

set_option maxRecDepth 100000 in
set_option maxHeartbeats 4000000 in
theorem parts_any (A : Option Addr) (n c : Nat) (xs : List Nat) (w : World) (hT : TabAt w) (hA : Rd w w.heap.size 1 A n (xs.map fun x : Nat => Value.int .u64 (x : Int))) (hn : n ≤ 10000) (hxs : ∀ x ∈ xs, x < 18446744073709551616) :
    Calls Tryz.prog 193 #[.slice A n c] w fun e w' => ∃ v, e = .returned v ∧ w'.ownsRow w.heap.size 290 2 v (mP xs n).length ((mP xs n).flatMap ptW) ∧ Below w.heap.size w w' := by
  obtain ⟨i0, hi, hz0, hz1, hz2⟩ := info_parts infoPart
  have hlen : xs.length = n := by have := hA.1; simp at this; omega
  have Hi := Lib.hid hi; have Hz0 := Lib.hid hz0; have Hz1 := Lib.hid hz1; have Hz2 := Lib.hid hz2
  have HT := Lib.hid hT; have HA := Lib.hid hA; have Hlen := Lib.hid hlen; have Hxs := Lib.hid hxs
  clear hi hz0 hz1 hz2 hT hA hlen hxs
  go_enter Tryz.func193, Tryz.ntmps193
  go_wp2
  go_loopw [3, 11] (fun o iv wr => ∃ k : Nat, k ≤ n ∧ iv = .int .i64 k ∧ wr.ownsRow (w.heap.size + 1) 290 2 o (mP xs k).length ((mP xs k).flatMap ptW) ∧ Blk wr w.heap.size 316 #[.int .i64 (mW xs k).a, .int .i64 (mW xs k).t, .int .i64 (mW xs k).d] ∧ Below w.heap.size w wr) (fun _ iv _ => n - (intOf iv).toNat)
  case atStart => exact ⟨0, Nat.zero_le _, rfl, World.ownsRow_nil _ _ _ _, Blk.new w _ _, Below.alloc (Below.refl _ _) (Nat.le_refl _) _⟩
  case round =>
    obtain ⟨k, hk, rfl, hown, hblk, hbel⟩ := hrel
    have Hown := Lib.hid hown; have Hblk := Lib.hid hblk; have Hbel := Lib.hid hbel
    have hg1 : w.heap.size < wr.heap.size := hblk.lt
    have hpl := mP_len xs k
    clear hown hblk hbel
    by_cases hkn : k < n
    · obtain ⟨b, o, y, hAe, had, hy, e0⟩ := (HA.out.below Hbel.out).at1 hkn
      subst hAe
      have hylt := Hxs.out y (List.mem_of_getElem? hy)
      have Hy := Lib.hid hy
      clear hy
      by_cases hk0 : k = 0
      · subst hk0
        simp only [Nat.add_zero] at e0
        have hmp : mP xs (0 + 1) = mP xs 0 ++ [(y, 64)] := by
          have := Hy.out
          simp [mP, this]
        have hmw : mW xs (0 + 1) = mW xs 0 := rfl
        have Hmp := Lib.hid hmp; have Hmw := Lib.hid hmw
        have hk63 : (mP xs 0).length + 1 ≤ maxLen := by unfold maxLen; omega
        have hk8 : ((mP xs 0).length + 1) * 16 ≤ 140737488355328 := by omega
        have hsz : w.heap.size + 1 ≤ (wr.alloc (.cells #[.int .u64 (y : Int), .int .i64 64] 290)).heap.size := by simp; omega
        have Hrdq := Lib.hid (show Rd (wr.alloc (.cells #[.int .u64 (y : Int), .int .i64 64] 290)) (wr.alloc (.cells #[.int .u64 (y : Int), .int .i64 64] 290)).heap.size 2 (some ⟨wr.heap.size, 0, none⟩) 1 ([(y, 64)].flatMap ptW) from ⟨rfl, fun _ => ⟨_, _, rfl, by simp, fun j v hv => by rw [Nat.zero_add, (Blk.new wr _ _).cell]; simpa [ptW] using hv⟩⟩)
        have Hsz := Lib.hid hsz
        clear hmp hmw hsz
        go_wp2_with (at_builtin; refine wpList_append_rd _ rfl (.tmp 18) (.tmp 21) _ rfl (w.heap.size + 1) 290 i0 (.agg #[.int .u64 0, .int .i64 0]) 2 16 Tryz.underlying287 Hi.out Hz0.out Hz1.out Hz2.out rfl (by decide) _ (mP xs 0).length _ rfl (Hown.out.alloc _) _ _ 1 1 ([(y, 64)].flatMap ptW) rfl Hrdq.out (ptW_one [(y, 64)]) hk63 hk8 Hsz.out ?_; intro v' wa hown' hgr hat; have Hown' := Lib.hid hown'; have Hblk' := Lib.hid ((Hblk.out.alloc _).grown hgr (fun e => by have := (own_lt Hown.out _ e.symm).1; omega)); have Hba := Lib.hid (Below.grown (Below.alloc Hbel.out (by omega) _) hgr (by simp; omega) (fun g hg => (by have := (own_lt Hown.out g hg).1; omega))); clear hown' hgr hat)
        go_roundw
        case rel => exact ⟨0 + 1, by omega, by go_num, by rw [Hmp.out, List.flatMap_append, List.length_append]; exact Hown'.out, by rw [Hmw.out]; exact Hblk'.out, Hba.out⟩
        case measure => simp [intOf]; omega
      · obtain ⟨b2, o2, z, hA2, had2, hz, e2⟩ := (HA.out.below Hbel.out).at1 (k := k - 1) (by omega)
        injection hA2 with hA2
        injection hA2 with hA3 hA4
        subst hA3; subst hA4
        have hzlt := Hxs.out z (List.mem_of_getElem? hz)
        have n1 : IntKind.i64.wrap ((k : Int) - 1) = ((k - 1 : Nat) : Int) := by rw [IntKind.wrap_i64]; omega
        obtain ⟨X, hX⟩ : ∃ X, X = y ^^^ z := ⟨_, rfl⟩
        have hxr : bits BinOp.xor IntKind.u64 (y : Int) (z : Int) = (X : Int) := by rw [bits_xor_u64_nat y z hylt hzlt, hX]
        have hXl : X < 18446744073709551616 := by rw [hX]; exact Nat.xor_lt_two_pow (n := 64) hylt hzlt
        have hxa : xAt xs k = X := by unfold xAt; rw [getD_get Hy.out, getD_get hz, hX]
        have Hxa := Lib.hid hxa; have HX := Lib.hid hX
        have hk1 : ((k : Int) == 0) = false := by rw [beq_eq_false_iff_ne]; omega
        clear hxa hX hz
        by_cases hX0 : X = 0
        · have hX : ((X : Int) == 0) = true := by simp [hX0]
          have hxr0 : bits BinOp.xor IntKind.u64 (y : Int) (z : Int) = 0 := by rw [hxr, hX0]; rfl
          have hxp : mParts (mW xs k) X = [(0, 1)] := by unfold mParts; rw [if_pos hX0]
          have hwp : mWin (mW xs k) X = mW xs k := by unfold mWin; rw [if_pos hX0]
          have Hmp := Lib.hid (show mP xs (k + 1) = mP xs k ++ [(0, 1)] by rw [mP_succ xs hk0, Hxa.out, hxp])
          have Hmw := Lib.hid (show mW xs (k + 1) = mW xs k by rw [mW_succ xs hk0, Hxa.out, hwp])
          have hk63 : (mP xs k).length + 1 ≤ maxLen := by unfold maxLen; omega
          have hk8 : ((mP xs k).length + 1) * 16 ≤ 140737488355328 := by omega
          have Hsz := Lib.hid (show w.heap.size + 1 ≤ (wr.alloc (.cells #[.int .u64 0, .int .i64 1] 290)).heap.size by simp; omega)
          have Hrdq := Lib.hid (show Rd (wr.alloc (.cells #[.int .u64 0, .int .i64 1] 290)) (wr.alloc (.cells #[.int .u64 0, .int .i64 1] 290)).heap.size 2 (some ⟨wr.heap.size, 0, none⟩) 1 ([(0, 1)].flatMap ptW) from ⟨rfl, fun _ => ⟨_, _, rfl, by simp, fun j v hv => by rw [Nat.zero_add, (Blk.new wr _ _).cell]; simpa [ptW] using hv⟩⟩)
          clear hX hxp hwp hX0 hxr hXl HX Hxa
          go_wp2_with (at_builtin; refine wpList_append_rd _ rfl (.tmp 32) (.tmp 34) _ rfl (w.heap.size + 1) 290 i0 (.agg #[.int .u64 0, .int .i64 0]) 2 16 Tryz.underlying287 Hi.out Hz0.out Hz1.out Hz2.out rfl (by decide) _ (mP xs k).length _ rfl (Hown.out.alloc _) _ _ 1 1 ([(0, 1)].flatMap ptW) rfl Hrdq.out (ptW_one [(0, 1)]) hk63 hk8 Hsz.out ?_; intro v' wa hown' hgr hat; have Hown' := Lib.hid hown'; have Hblk' := Lib.hid ((Hblk.out.alloc _).grown hgr (fun e => by have := (own_lt Hown.out _ e.symm).1; omega)); have Hba := Lib.hid (Below.grown (Below.alloc Hbel.out (by omega) _) hgr (by simp; omega) (fun g hg => (by have := (own_lt Hown.out g hg).1; omega))); clear hown' hgr hat)
          go_roundw
          case rel => exact ⟨k + 1, by omega, by go_num, by rw [Hmp.out, List.flatMap_append, List.length_append]; exact Hown'.out, by rw [Hmw.out]; exact Hblk'.out, Hba.out⟩
          case measure => simp [intOf]; omega
        · have hx0 : ((X : Int) == 0) = false := by rw [beq_eq_false_iff_ne]; omega
          obtain ⟨ww, hww⟩ : ∃ ww, ww = mW xs k := ⟨_, rfl⟩
          obtain ⟨kw, hkw⟩ : ∃ kw, kw = winOf X := ⟨_, rfl⟩
          rw [← hww] at Hblk
          have Hww := Lib.hid hww; have Hkw := Lib.hid hkw
          clear hww hkw
          go_wp2_with fail
          refine (mof_w X kw Hkw.out _ hXl hX0 (HT.out.call Hbel.out (Nat.le_refl _))).mono ?_
          rintro e w1 ⟨rfl, hb1⟩
          have Hown1 := Lib.hid (own_below Hown.out hb1 (Nat.le_refl _))
          have Hblk1 := Lib.hid (Hblk.out.below hb1 hg1)
          have Hbel1 := Lib.hid (Below.call Hbel.out hb1 (by omega))
          have hz1 : wr.heap.size ≤ w1.heap.size := hb1.size
          obtain ⟨z0, z1, z2⟩ := Hblk1.out.three
          have hg1' : w.heap.size < w1.heap.size := by omega
          clear hb1
          go_wp2_with fail
          refine (mhas_w ww kw _).mono ?_
          rintro e w2 ⟨rfl, hb2⟩
          have Hown2 := Lib.hid (own_below (Hown1.out.alloc _) hb2 (Nat.le_refl _))
          have Hblk2 := Lib.hid ((Hblk1.out.alloc _).below hb2 (by simp; omega))
          have HK2 := Lib.hid ((Blk.new w1 316 #[.int .i64 kw.a, .int .i64 kw.t, .int .i64 kw.d]).below hb2 (by simp))
          have Hbel2 := Lib.hid (Below.call (Below.alloc Hbel1.out (by omega) _) hb2 (by simp; omega))
          have hz2 : w1.heap.size + 1 ≤ w2.heap.size := by have := hb2.size; simpa using this
          clear hb2 z0 z1 z2
          obtain ⟨z0, z1, z2⟩ := Hblk2.out.three
          by_cases hh : hasW ww kw
          · rw [decide_eq_true hh]
            have hw63 : ww.t ≤ 63 := by have := has_ok (by rw [Hww.out]; exact mW_ok Hxs.out k) hh; have h1 := this.2.1; have h2 := this.2.2; omega
            have hxp : mParts ww X = [(2, 2), (X / 2 ^ ww.t, ww.d)] := by unfold mParts; rw [if_neg hX0, if_pos (by rw [← Hkw.out]; exact hh)]
            have hwp : mWin ww X = ww := by unfold mWin; rw [if_neg hX0, if_pos (by rw [← Hkw.out]; exact hh)]
            have hmp : mP xs (k + 1) = (mP xs k ++ [(2, 2)]) ++ [(X / 2 ^ ww.t, ww.d)] := by
              rw [mP_succ xs hk0, ← Hww.out, Hxa.out, hxp, List.append_assoc]; rfl
            have hmw : mW xs (k + 1) = ww := by rw [mW_succ xs hk0, ← Hww.out, Hxa.out, hwp]
            have Hmp := Lib.hid hmp; have Hmw := Lib.hid hmw; have Hh := Lib.hid hh
            have hk63 : (mP xs k).length + 1 ≤ maxLen := by unfold maxLen; omega
            have hk8 : ((mP xs k).length + 1) * 16 ≤ 140737488355328 := by omega
            have Hsz := Lib.hid (show w.heap.size + 1 ≤ (w2.alloc (.cells #[.int .u64 2, .int .i64 2] 290)).heap.size by simp; omega)
            have Hrdq := Lib.hid (show Rd (w2.alloc (.cells #[.int .u64 2, .int .i64 2] 290)) (w2.alloc (.cells #[.int .u64 2, .int .i64 2] 290)).heap.size 2 (some ⟨w2.heap.size, 0, none⟩) 1 ([(2, 2)].flatMap ptW) from ⟨rfl, fun _ => ⟨_, _, rfl, by simp, fun j v hv => by rw [Nat.zero_add, (Blk.new w2 _ _).cell]; simpa [ptW] using hv⟩⟩)
            clear hxp hwp hmp hmw hh
            go_wp2_with (at_builtin; refine wpList_append_rd _ rfl (.tmp 55) (.tmp 57) _ rfl (w.heap.size + 1) 290 i0 (.agg #[.int .u64 0, .int .i64 0]) 2 16 Tryz.underlying287 Hi.out Hz0.out Hz1.out Hz2.out rfl (by decide) _ (mP xs k).length _ rfl (Hown2.out.alloc _) _ _ 1 1 ([(2, 2)].flatMap ptW) rfl Hrdq.out (ptW_one [(2, 2)]) hk63 hk8 Hsz.out ?_; intro v' wa hown' hgr hat; have Hown' := Lib.hid hown'; have Hblk' := Lib.hid ((Hblk2.out.alloc _).grown hgr (fun e => by have := (own_lt Hown2.out _ e.symm).1; omega)); have Hba := Lib.hid (Below.grown (Below.alloc Hbel2.out (by omega) _) hgr (by simp; omega) (fun g hg => (by have := (own_lt Hown2.out g hg).1; omega))); clear hown' hgr hat z0 z1 z2)
            obtain ⟨z0, z1, z2⟩ := Hblk'.out.three
            have HS := Lib.hid (show wa.drew.cell? ⟨w.heap.size, 1, none⟩ = some (.int .i64 ww.t) ∧ wa.drew.cell? ⟨w.heap.size, 2, none⟩ = some (.int .i64 ww.d) from ⟨z1, z2⟩)
            have hwa : w.heap.size < wa.heap.size := Hblk'.out.lt
            have Hblk3 := Lib.hid (show Blk (wa.alloc (.cells #[.int .u64 ((X : Int) / 2 ^ ww.t), .int .i64 ww.d] 290)).drew w.heap.size 316 #[.int .i64 ww.a, .int .i64 ww.t, .int .i64 ww.d] from (Hblk'.out.alloc _).drew)
            have HS2 := Lib.hid (And.intro Hblk3.out.three.2.1 Hblk3.out.three.2.2)
            have Hown3 := Lib.hid (show (wa.alloc (.cells #[.int .u64 ((X : Int) / 2 ^ ww.t), .int .i64 ww.d] 290)).drew.ownsRow (w.heap.size + 1) 290 2 v' ((mP xs k).length + 1) ((mP xs k).flatMap ptW ++ [(2, 2)].flatMap ptW) from own_drew (Hown'.out.alloc _))
            have Hsh := Lib.hid (show (X : Int) / 2 ^ ww.t = ((X / 2 ^ ww.t : Nat) : Int) by simp)
            have Hrdq2 := Lib.hid (show Rd (wa.alloc (.cells #[.int .u64 ((X : Int) / 2 ^ ww.t), .int .i64 ww.d] 290)).drew (wa.alloc (.cells #[.int .u64 ((X : Int) / 2 ^ ww.t), .int .i64 ww.d] 290)).drew.heap.size 2 (some ⟨wa.heap.size, 0, none⟩) 1 ([(X / 2 ^ ww.t, ww.d)].flatMap ptW) by rw [Hsh.out]; exact ⟨rfl, fun _ => ⟨_, _, rfl, by simp, fun j v hv => by rw [Nat.zero_add]; refine Eq.trans ((Blk.new wa 290 _).cell j) ?_; simpa [ptW] using hv⟩⟩)
            have hk63' : (mP xs k).length + 1 + 1 ≤ maxLen := by unfold maxLen; omega
            have hk8' : ((mP xs k).length + 1 + 1) * 16 ≤ 140737488355328 := by omega
            have Hsz3 := Lib.hid (show w.heap.size + 1 ≤ (wa.alloc (.cells #[.int .u64 ((X : Int) / 2 ^ ww.t), .int .i64 ww.d] 290)).drew.heap.size by simp; omega)
            have Hbe3 := Lib.hid (show Below w.heap.size w (wa.alloc (.cells #[.int .u64 ((X : Int) / 2 ^ ww.t), .int .i64 ww.d] 290)).drew from (Below.alloc Hba.out (by omega) _).drew)
            clear z0 z1 z2
            go_region_held3 (fun w' => w'.cell? ⟨w.heap.size, 1, none⟩ = some (.int .i64 ww.t) ∧ w'.cell? ⟨w.heap.size, 2, none⟩ = some (.int .i64 ww.d))
              (first | with_reducible exact HS.out | with_reducible exact HS2.out | with_reducible exact HS4.out)
              (first | (refine step_append_rd _ rfl (.tmp 59) (.tmp 67) _ rfl (w.heap.size + 1) 290 i0 (.agg #[.int .u64 0, .int .i64 0]) 2 16 Tryz.underlying287 Hi.out Hz0.out Hz1.out Hz2.out rfl (by decide) v' ((mP xs k).length + 1) _ rfl Hown3.out _ _ 1 1 ([(X / 2 ^ ww.t, ww.d)].flatMap ptW) rfl Hrdq2.out (ptW_one [(X / 2 ^ ww.t, ww.d)]) hk63' hk8' Hsz3.out ?_; intro v4 w4 hown' hgr hat; have Hown4 := Lib.hid hown'; have Hblk4 := Lib.hid (Hblk3.out.grown hgr (fun e => by have := (own_lt Hown3.out _ e.symm).1; omega)); have HS4 := Lib.hid (And.intro Hblk4.out.three.2.1 Hblk4.out.three.2.2); have Hbe4 := Lib.hid (Below.grown Hbe3.out hgr (Nat.le_trans (Nat.le_succ _) Hsz3.out) (fun g hg => (by have := (own_lt Hown3.out g hg).1; omega))); clear hown' hgr hat))
            go_wp2
            go_roundw
            case rel => exact ⟨k + 1, by omega, by go_num, by rw [Hmp.out, List.flatMap_append, List.flatMap_append, List.length_append, List.length_append]; exact Hown4.out, by rw [Hmw.out]; exact Hblk4.out, Hbe4.out⟩
            case measure => simp [intOf]; omega
          · rw [decide_eq_false hh]
            have hkok : kw.Ok := by rw [Hkw.out]; exact winOf_ok X hX0 hXl
            obtain ⟨q1, q2, q3⟩ := hkok
            have hw63 : kw.t ≤ 63 := by omega
            have hwa : IntKind.u64.wrap (kw.a : Int) = (kw.a : Int) := by rw [IntKind.wrap_u64]; omega
            have hwd : IntKind.u64.wrap (kw.d : Int) = (kw.d : Int) := by rw [IntKind.wrap_u64]; omega
            have hxp : mParts ww X = [(3, 2), (kw.a, 5), (kw.d, 6)] ++ [(X / 2 ^ kw.t, kw.d)] := by unfold mParts; rw [if_neg hX0, ← Hkw.out, if_neg hh]; rfl
            have hwp : mWin ww X = kw := by unfold mWin; rw [if_neg hX0, ← Hkw.out, if_neg hh]
            have Hmp := Lib.hid (show mP xs (k + 1) = (mP xs k ++ [(3, 2), (kw.a, 5), (kw.d, 6)]) ++ [(X / 2 ^ kw.t, kw.d)] by rw [mP_succ xs hk0, ← Hww.out, Hxa.out, hxp, List.append_assoc])
            have Hmw := Lib.hid (show mW xs (k + 1) = kw by rw [mW_succ xs hk0, ← Hww.out, Hxa.out, hwp])
            have hk63 : (mP xs k).length + 3 ≤ maxLen := by unfold maxLen; omega
            have hk8 : ((mP xs k).length + 3) * 16 ≤ 140737488355328 := by omega
            have ho : ∀ v : Value, v = u3 → some w.heap.size ≠ v.ownBlock := fun v e h => by subst e; have := (own_lt Hown2.out _ h.symm).1; omega
            have Hown5 := Lib.hid (show (((w2.setCell ⟨w.heap.size, 0, none⟩ (.int .i64 kw.a)).setCell ⟨w.heap.size, 1, none⟩ (.int .i64 kw.t)).setCell ⟨w.heap.size, 2, none⟩ (.int .i64 kw.d)).ownsRow (w.heap.size + 1) 290 2 u3 (mP xs k).length ((mP xs k).flatMap ptW) from own_set (own_set (own_set Hown2.out (ho _ rfl) _) (ho _ rfl) _) (ho _ rfl) _)
            have Hblk5 := Lib.hid (show Blk (((w2.setCell ⟨w.heap.size, 0, none⟩ (.int .i64 kw.a)).setCell ⟨w.heap.size, 1, none⟩ (.int .i64 kw.t)).setCell ⟨w.heap.size, 2, none⟩ (.int .i64 kw.d)) w.heap.size 316 #[.int .i64 kw.a, .int .i64 kw.t, .int .i64 kw.d] from ((Hblk2.out.set_ 0 (.int .i64 kw.a)).set_ 1 (.int .i64 kw.t)).set_ 2 (.int .i64 kw.d))
            have Hbel5 := Lib.hid (show Below w.heap.size w (((w2.setCell ⟨w.heap.size, 0, none⟩ (.int .i64 kw.a)).setCell ⟨w.heap.size, 1, none⟩ (.int .i64 kw.t)).setCell ⟨w.heap.size, 2, none⟩ (.int .i64 kw.d)) from (((Hbel2.out.setCell (Nat.le_refl _) _).setCell (Nat.le_refl _) _).setCell (Nat.le_refl _) _))
            have Hsz := Lib.hid (show w.heap.size + 1 ≤ ((((w2.setCell ⟨w.heap.size, 0, none⟩ (.int .i64 kw.a)).setCell ⟨w.heap.size, 1, none⟩ (.int .i64 kw.t)).setCell ⟨w.heap.size, 2, none⟩ (.int .i64 kw.d)).alloc (.cells #[.int .u64 3, .int .i64 2, .int .u64 kw.a, .int .i64 5, .int .u64 kw.d, .int .i64 6] 290)).heap.size by simp; omega)
            have Hrdq := Lib.hid (show Rd ((((w2.setCell ⟨w.heap.size, 0, none⟩ (.int .i64 kw.a)).setCell ⟨w.heap.size, 1, none⟩ (.int .i64 kw.t)).setCell ⟨w.heap.size, 2, none⟩ (.int .i64 kw.d)).alloc (.cells #[.int .u64 3, .int .i64 2, .int .u64 kw.a, .int .i64 5, .int .u64 kw.d, .int .i64 6] 290)) ((((w2.setCell ⟨w.heap.size, 0, none⟩ (.int .i64 kw.a)).setCell ⟨w.heap.size, 1, none⟩ (.int .i64 kw.t)).setCell ⟨w.heap.size, 2, none⟩ (.int .i64 kw.d)).alloc (.cells #[.int .u64 3, .int .i64 2, .int .u64 kw.a, .int .i64 5, .int .u64 kw.d, .int .i64 6] 290)).heap.size 2 (some ⟨w2.heap.size, 0, none⟩) 3 ([(3, 2), (kw.a, 5), (kw.d, 6)].flatMap ptW) from ⟨rfl, fun _ => ⟨_, _, rfl, by simp, fun j v hv => by have e := (Blk.new (((w2.setCell ⟨w.heap.size, 0, none⟩ (.int .i64 kw.a)).setCell ⟨w.heap.size, 1, none⟩ (.int .i64 kw.t)).setCell ⟨w.heap.size, 2, none⟩ (.int .i64 kw.d)) 290 #[.int .u64 3, .int .i64 2, .int .u64 kw.a, .int .i64 5, .int .u64 kw.d, .int .i64 6]).cell j; simp only [World.size_setCell] at e; rw [Nat.zero_add, e]; simpa [ptW] using hv⟩⟩)
            have f0 : w2.frozen? ⟨w.heap.size, 0, none⟩ = false := Hblk2.out.frozen 0
            have f1 : w2.frozen? ⟨w.heap.size, 1, none⟩ = false := Hblk2.out.frozen 1
            have f2 : w2.frozen? ⟨w.heap.size, 2, none⟩ = false := Hblk2.out.frozen 2
            obtain ⟨y0, y1, y2⟩ := HK2.out.three
            clear hxp hwp hh q1 q2 q3 ho
            go_wp2_with (at_builtin; refine wpList_append_rd _ rfl (.tmp 43) (.tmp 53) _ rfl (w.heap.size + 1) 290 i0 (.agg #[.int .u64 0, .int .i64 0]) 2 16 Tryz.underlying287 Hi.out Hz0.out Hz1.out Hz2.out rfl (by decide) _ (mP xs k).length _ rfl (Hown5.out.alloc _) _ _ 3 3 ([(3, 2), (kw.a, 5), (kw.d, 6)].flatMap ptW) rfl Hrdq.out (ptW_one [(3, 2), (kw.a, 5), (kw.d, 6)]) hk63 hk8 Hsz.out ?_; intro v' wa hown' hgr hat; have Hown' := Lib.hid hown'; have Hblk' := Lib.hid ((Hblk5.out.alloc _).grown hgr (fun e => by have := (own_lt Hown5.out _ e.symm).1; omega)); have Hba := Lib.hid (Below.grown (Below.alloc Hbel5.out (by simp; omega) _) hgr (by simp; omega) (fun g hg => (by have := (own_lt Hown5.out g hg).1; omega))); clear hown' hgr hat z0 z1 z2)
            obtain ⟨z0, z1, z2⟩ := Hblk'.out.three
            have HS := Lib.hid (show wa.drew.cell? ⟨w.heap.size, 1, none⟩ = some (.int .i64 kw.t) ∧ wa.drew.cell? ⟨w.heap.size, 2, none⟩ = some (.int .i64 kw.d) from ⟨z1, z2⟩)
            have hwa : w.heap.size < wa.heap.size := Hblk'.out.lt
            have Hblk3 := Lib.hid (show Blk (wa.alloc (.cells #[.int .u64 ((X : Int) / 2 ^ kw.t), .int .i64 kw.d] 290)).drew w.heap.size 316 #[.int .i64 kw.a, .int .i64 kw.t, .int .i64 kw.d] from (Hblk'.out.alloc _).drew)
            have HS2 := Lib.hid (And.intro Hblk3.out.three.2.1 Hblk3.out.three.2.2)
            have Hown3 := Lib.hid (show (wa.alloc (.cells #[.int .u64 ((X : Int) / 2 ^ kw.t), .int .i64 kw.d] 290)).drew.ownsRow (w.heap.size + 1) 290 2 v' ((mP xs k).length + 3) ((mP xs k).flatMap ptW ++ [(3, 2), (kw.a, 5), (kw.d, 6)].flatMap ptW) from own_drew (Hown'.out.alloc _))
            have Hsh := Lib.hid (show (X : Int) / 2 ^ kw.t = ((X / 2 ^ kw.t : Nat) : Int) by simp)
            have Hrdq2 := Lib.hid (show Rd (wa.alloc (.cells #[.int .u64 ((X : Int) / 2 ^ kw.t), .int .i64 kw.d] 290)).drew (wa.alloc (.cells #[.int .u64 ((X : Int) / 2 ^ kw.t), .int .i64 kw.d] 290)).drew.heap.size 2 (some ⟨wa.heap.size, 0, none⟩) 1 ([(X / 2 ^ kw.t, kw.d)].flatMap ptW) by rw [Hsh.out]; exact ⟨rfl, fun _ => ⟨_, _, rfl, by simp, fun j v hv => by rw [Nat.zero_add]; refine Eq.trans ((Blk.new wa 290 _).cell j) ?_; simpa [ptW] using hv⟩⟩)
            have hk63' : (mP xs k).length + 3 + 1 ≤ maxLen := by unfold maxLen; omega
            have hk8' : ((mP xs k).length + 3 + 1) * 16 ≤ 140737488355328 := by omega
            have Hsz3 := Lib.hid (show w.heap.size + 1 ≤ (wa.alloc (.cells #[.int .u64 ((X : Int) / 2 ^ kw.t), .int .i64 kw.d] 290)).drew.heap.size by simp; omega)
            have Hbe3 := Lib.hid (show Below w.heap.size w (wa.alloc (.cells #[.int .u64 ((X : Int) / 2 ^ kw.t), .int .i64 kw.d] 290)).drew from (Below.alloc Hba.out (by omega) _).drew)
            clear z0 z1 z2
            go_region_held3 (fun w' => w'.cell? ⟨w.heap.size, 1, none⟩ = some (.int .i64 kw.t) ∧ w'.cell? ⟨w.heap.size, 2, none⟩ = some (.int .i64 kw.d))
              (first | with_reducible exact HS.out | with_reducible exact HS2.out | with_reducible exact HS4.out)
              (first | (refine step_append_rd _ rfl (.tmp 59) (.tmp 67) _ rfl (w.heap.size + 1) 290 i0 (.agg #[.int .u64 0, .int .i64 0]) 2 16 Tryz.underlying287 Hi.out Hz0.out Hz1.out Hz2.out rfl (by decide) v' ((mP xs k).length + 3) _ rfl Hown3.out _ _ 1 1 ([(X / 2 ^ kw.t, kw.d)].flatMap ptW) rfl Hrdq2.out (ptW_one [(X / 2 ^ kw.t, kw.d)]) hk63' hk8' Hsz3.out ?_; intro v4 w4 hown' hgr hat; have Hown4 := Lib.hid hown'; have Hblk4 := Lib.hid (Hblk3.out.grown hgr (fun e => by have := (own_lt Hown3.out _ e.symm).1; omega)); have HS4 := Lib.hid (And.intro Hblk4.out.three.2.1 Hblk4.out.three.2.2); have Hbe4 := Lib.hid (Below.grown Hbe3.out hgr (Nat.le_trans (Nat.le_succ _) Hsz3.out) (fun g hg => (by have := (own_lt Hown3.out g hg).1; omega))); clear hown' hgr hat))
            go_wp2
            go_roundw
            case rel => exact ⟨k + 1, by omega, by go_num, by rw [Hmp.out, List.flatMap_append, List.flatMap_append, List.length_append, List.length_append]; exact Hown4.out, by rw [Hmw.out]; exact Hblk4.out, Hbe4.out⟩
            case measure => simp [intOf]; omega
    · obtain rfl : k = n := by omega
      have Hown2 := Lib.hid (own_base Hown.out (Nat.le_succ _))
      go_wp2
      go_ret
      exact ⟨_, rfl, Hown2.out, Hbel.out⟩
end Go.Proofs.YthgefobcohlegaaGreatDoor

namespace Go.Proofs.YthgefobcohlegaaGreatDoor
open Go.RowKit
set_option linter.unusedVariables false

theorem sumN_take {ps : List (Nat × Nat)} {k : Nat} {p : Nat × Nat} (h : ps[k]? = some p) : sumN (ps.take (k + 1)) = sumN (ps.take k) + p.2 := by rw [take_snoc h, sumN_snoc]
theorem pBits_take {ps : List (Nat × Nat)} {k : Nat} {p : Nat × Nat} (h : ps[k]? = some p) : pBits (ps.take (k + 1)) = pBits (ps.take k) ++ bitsN p.1 p.2 := by rw [take_snoc h, pBits_append]; simp [pBits]
theorem sumN_take_le (ps : List (Nat × Nat)) (k : Nat) : sumN (ps.take k) ≤ sumN ps := by
  have : pBits ps = pBits (ps.take k) ++ pBits (ps.drop k) := by rw [← pBits_append, List.take_append_drop]
  unfold sumN; rw [this, List.length_append]; omega
theorem sumN_mP (xs : List Nat) (n : Nat) (hxs : ∀ x ∈ xs, x < 18446744073709551616) (hn : n ≤ xs.length) : sumN (mP xs n) ≤ 256 * n := by
  have h1 := sumN_le (mP xs n) (fun p hp => (mP_ok hxs n hn p hp).2)
  have h2 := mP_len xs n
  omega

theorem msize_any (A : Option Addr) (n c : Nat) (xs : List Nat) (w : World) (hT : TabAt w) (hA : Rd w w.heap.size 1 A n (xs.map fun x : Nat => Value.int .u64 (x : Int))) (hn : n ≤ 10000) (hxs : ∀ x ∈ xs, x < 18446744073709551616) :
    Calls Tryz.prog 192 #[.slice A n c] w fun e w' => e = .returned (.int .i64 (sumN (mP xs n))) ∧ Below w.heap.size w w' := by
  have hlen : xs.length = n := by have := hA.1; simp at this; omega
  have hsum := sumN_mP xs n hxs (by omega)
  have hok := mP_ok hxs n (by omega)
  have Hp := Lib.hid (parts_any A n c xs w hT hA hn hxs)
  have Hok := Lib.hid hok
  have hml := mP_len xs n
  generalize mP xs n = ps at hsum Hok Hp hml ⊢
  clear hT hA hxs hok hlen
  go_enter Tryz.func192, Tryz.ntmps192
  go_wp2_with fail
  refine Hp.out.mono ?_
  rintro e w1 ⟨v, rfl, hown, hb⟩
  obtain ⟨A1, c1, rfl, _, _, hrd⟩ := own_form hown
  have Hb := Lib.hid hb; have Hrd := Lib.hid hrd
  clear hown hb hrd
  go_wp2
  go_loopw [3, 9] (fun o iv wr => ∃ k s : Nat, k ≤ ps.length ∧ iv = .int .i64 k ∧ o = .int .i64 s ∧ s = sumN (ps.take k) ∧ Below w1.heap.size w1 wr) (fun _ iv _ => ps.length - (intOf iv).toNat)
  case atStart => exact ⟨0, 0, Nat.zero_le _, rfl, rfl, rfl, Below.refl _ _⟩
  case round =>
    obtain ⟨k, s, hk, rfl, rfl, hs, hbel⟩ := hrel
    have Hs := Lib.hid hs; have Hbel := Lib.hid hbel
    have hwr := hbel.size
    clear hs hbel
    by_cases hkn : k < ps.length
    · obtain ⟨bb, off, y, hAe, had, hy, e0, e1⟩ := (Hrd.out.below Hbel.out).at2 hkn
      subst hAe
      have h64 := (Hok.out y (List.mem_of_getElem? hy)).2
      have hnx := sumN_take hy
      have hle := sumN_take_le ps k
      have hss := Hs.out
      have hs0 : s ≤ 256 * n := by omega
      have Hnx := Lib.hid hnx
      clear hnx hle hss hy
      go_wp2
      go_roundw
      case rel => exact ⟨k + 1, s + y.2, by omega, by go_num, by go_num, by rw [Hnx.out, Hs.out], Below.alloc Hbel.out hwr _⟩
      case measure => simp [intOf]; omega
    · obtain rfl : k = ps.length := by omega
      have he : s = sumN ps := by rw [Hs.out, List.take_length]
      have He := Lib.hid he
      clear he
      go_wp2
      go_ret
      exact ⟨by rw [He.out]; rfl, Below.call Hb.out Hbel.out Hb.out.size⟩

set_option maxRecDepth 100000 in
set_option maxHeartbeats 4000000 in
theorem mput_ok (g : Nat) (bv : Value) (l : List Bool) (A : Option Addr) (n c : Nat) (xs : List Nat) (w : World) (hr : RowAt w g bv l) (hT : TabAt w) (hA : Rd w w.heap.size 1 A n (xs.map fun x : Nat => Value.int .u64 (x : Int))) (hn : n ≤ 10000) (hxs : ∀ x ∈ xs, x < 18446744073709551616)
    (hroom : l.length + (maskB xs).length ≤ 1048576) :
    Calls Tryz.prog 159 #[.pointer (some ⟨g, 0, none⟩), .slice A n c] w fun e w' => e = .returned .nilIface ∧ RowStep w w' g bv (l ++ maskB xs) := by
  have hlen : xs.length = n := by have := hA.1; simp at this; omega
  have hmb : maskB xs = pBits (mP xs n) := by unfold maskB; rw [hlen]
  have hfit : ((sumN (mP xs n) : Nat) : Int) ≤ 1048576 - (l.length : Int) := by
    rw [hmb] at hroom; unfold sumN; omega
  have hok := mP_ok hxs n (by omega)
  have hl : l.length ≤ 1048576 := by omega
  have Hz := Lib.hid (msize_any A n c xs w hT hA hn hxs)
  have Hp := Lib.hid (fun W (hb : Below w.heap.size w W) => parts_any A n c xs W (hT.call hb (Nat.le_refl _)) ((hA.below hb).more hb.size) hn hxs)
  have Hok := Lib.hid hok; have Hr := Lib.hid hr
  rw [hmb] at hroom ⊢
  have hml := mP_len xs n
  generalize mP xs n = ps at hfit Hok Hz Hp hroom hml ⊢
  have Hroom := Lib.hid hroom
  clear hT hA hxs hok hlen hmb hr hroom
  go_enter Tryz.func159, Tryz.ntmps159
  go_wp2_with fail
  refine Hz.out.mono ?_
  rintro e w1 ⟨rfl, hb⟩
  have Hb1 := Lib.hid hb; clear hb
  go_wp2_with fail
  refine (room_any g bv l _ w1 (Hr.out.below Hb1.out (Nat.le_refl _)) hl).mono ?_
  rintro e w' ⟨rfl, rfl⟩
  go_wp2_with fail
  refine (Hp.out _ Hb1.out).mono ?_
  rintro e w2 ⟨v2, rfl, hown, hb⟩
  obtain ⟨A1, c1, rfl, _, _, hrd⟩ := own_form hown
  have Hb2 := Lib.hid (Below.call Hb1.out hb Hb1.out.size); have Hown2 := Lib.hid hown
  have Hr2 := Lib.hid (Hr.out.below Hb2.out (Nat.le_refl _))
  clear hown hb hrd
  go_wp2
  go_loopw [20] (fun iv wr => ∃ (k : Nat) (bv1 : Value), k ≤ ps.length ∧ iv = .int .i64 k ∧ RowAt wr g bv1 (l ++ pBits (ps.take k)) ∧ Fr (RowS g bv) w2 wr ∧ Mv w2 bv bv1 ∧ wr.ownsRow w1.heap.size 290 2 (.slice A1 ps.length c1) ps.length (ps.flatMap ptW)) (fun iv _ => ps.length - (intOf iv).toNat)
  case atStart => exact ⟨0, bv, Nat.zero_le _, rfl, by simpa [pBits] using Hr2.out, Fr.refl _ _, Mv.refl _ _, Hown2.out⟩
  case round =>
    obtain ⟨k, bv1, hk, rfl, hrow, hfr, hmv, hown⟩ := hrel
    have Hrow := Lib.hid hrow; have Hfr := Lib.hid hfr; have Hmv := Lib.hid hmv; have Hown := Lib.hid hown
    have Hrd := Lib.hid (Rd.of_own hown)
    clear hrow hfr hmv hown
    by_cases hkn : k < ps.length
    · obtain ⟨bb, off, y, hAe, had, hy, e0, e1⟩ := Hrd.out.at2 hkn
      subst hAe
      obtain ⟨hy0, h64⟩ := Hok.out y (List.mem_of_getElem? hy)
      have hnx := pBits_take hy
      have hsn := sumN_take hy
      have hle := sumN_take_le ps (k + 1)
      have hro := Hroom.out
      have hfit2 : ((l ++ pBits (ps.take k)).length : Int) + ((y.2 : Nat) : Int) ≤ 1048576 := by
        unfold sumN at hsn hle
        rw [List.length_append]; omega
      have Hnx := Lib.hid hnx
      have Hro2 := Lib.hid (Hrow.out.alloc (.cells #[.int .u64 (y.1 : Int), .int .i64 (y.2 : Int)] 290))
      have Hown3 := Lib.hid (Hown.out.alloc (.cells #[.int .u64 (y.1 : Int), .int .i64 (y.2 : Int)] 290))
      clear hnx hsn hle hro hy
      go_wp2_with fail
      refine (put_any g bv1 _ (y.1 : Int) (y.2 : Int) _ Hro2.out (by omega) (by omega) hfit2 (by omega) (by omega)).mono ?_
      rintro e w5 ⟨rfl, hst⟩
      rw [Int.toNat_natCast, Int.toNat_natCast, List.append_assoc, ← Hnx.out] at hst
      have hown5 := hst.own Hro2.out Hown3.out (by decide) (by decide)
      obtain ⟨bv5, hr5, hf5, hm5⟩ := RowStep.trans Hro2.out (Hfr.out.alloc _) Hmv.out hst
      have Hown5 := Lib.hid hown5; have Hr5 := Lib.hid hr5; have Hf5 := Lib.hid hf5; have Hm5 := Lib.hid hm5
      clear hst hown5 hr5 hf5 hm5
      go_wp2
      go_roundw
      case rel => exact ⟨k + 1, bv5, by omega, by go_num, Hr5.out, Hf5.out, Hm5.out, Hown5.out⟩
      case measure => simp [intOf]; omega
    · obtain rfl : k = ps.length := by omega
      have hrow := Hrow.out
      rw [List.take_length] at hrow
      have Hrow2 := Lib.hid hrow
      clear hrow
      go_wp2
      go_ret
      exact ⟨rfl, RowStep.behind Hr.out Hb2.out (Nat.le_refl _) ⟨bv1, Hrow2.out, Hfr.out, Hmv.out⟩⟩
end Go.Proofs.YthgefobcohlegaaGreatDoor
