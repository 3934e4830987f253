/- WalTwice by its contract: it returns true. -/
import Derived.Test.YtfkklcmepcocoaaDoorMhah
import Derived.Deep.RegionHeld3
namespace Go.Proofs.YtfkklcmepcocoaaDoor
open Go.RowKit
set_option linter.unusedVariables false

theorem cell_keep {W W' : World} {g i : Nat} {v : Value} (h : W.cell? ⟨g, i, none⟩ = some v) (hb : Below W.heap.size W W') : W'.cell? ⟨g, i, none⟩ = some v := by
  rcases Nat.lt_or_ge g W.heap.size with hl | hl
  · exact (hb.cell (p := ⟨g, i, none⟩) hl).trans h
  · simp [World.cell?, Array.getElem?_eq_none hl] at h
set_option maxHeartbeats 8000000 in
set_option maxRecDepth 100000 in
theorem walTwice_law {es : Nat → Addr} {B : Nat} (b : Bs) (w : World) (hW : WalW es B w) (hB : B ≤ w.heap.size) :
    Calls Tryd.prog 3 #[.string (B8 b)] w fun e w' => e = .returned (.bool true) ∧ Below w.heap.size w w' := by
  have HW := Lib.hid (fun W (hb : Below w.heap.size w W) => hW.below hb hB)
  have HB := Lib.hid hB
  have Hlg := Lib.hid (logged_any w hW hB)
  clear hW hB
  have hsz : (B8 b).size = b.length := B8_size b
  by_cases h3 : 3000 < b.length
  · have h3' : (3000 : Int) < ((B8 b).size : Int) := by omega
    generalize B8 b = st at h3' ⊢
    clear hsz
    go_enter Tryd.func3, Tryd.ntmps3
    go_wp2_with fail
    refine Hlg.out.mono ?_
    rintro e w1 ⟨rfl, hb⟩
    have HB1 := Lib.hid hb
    clear hb
    go_wp2
    go_ret
    exact ⟨rfl, HB1.out⟩
  have h3' : ¬ (3000 : Int) < ((B8 b).size : Int) := by omega
  have Hnew := Lib.hid (fun W => dnew_any b (by omega) W)
  have Hex := Lib.hid (fun k => show (B8 b).extract 0 k = B8 (b.take k) by rw [B8_extract]; rfl)
  generalize hst : B8 b = st at h3' Hnew Hex ⊢
  rw [hst] at hsz
  have hsz2 : b.length = st.size := hsz.symm
  have hbl : b.length ≤ 3000 := by omega
  clear hsz hst
  go_enter Tryd.func3, Tryd.ntmps3
  go_wp2_with fail
  refine Hlg.out.mono ?_
  rintro e w1 ⟨rfl, hb⟩
  have HB1 := Lib.hid hb
  clear hb
  go_wp2_with fail
  refine (Hnew.out _).mono ?_
  rintro e w2 ⟨q, v, rfl, hD, hlo, hb⟩
  have HB2 := Lib.hid (Below.call HB1.out hb HB1.out.size)
  have Hlo := Lib.hid (show DkLo w.heap.size q v from fun k hk => Nat.le_trans HB1.out.size (hlo k hk))
  have Hrc := Lib.hid (drecover_any w2 (HW.out _ HB2.out) (Nat.le_trans HB.out HB2.out.size) hD (fun k hk => Nat.le_trans HB.out (Hlo.out k hk)) (by dsimp only; omega))
  clear hD hlo hb
  go_wp2_with fail
  refine Hrc.out.mono ?_
  rintro e w3 ⟨l, k, u, v3, rfl, hir, hown, hst⟩
  have HI := Lib.hid hir
  have hkl := hir.le
  have HB3 := Lib.hid (HB2.out.trans (hst.below Hlo.out HB2.out.size))
  have Hlo3 := Lib.hid (hst.lo Hlo.out HB2.out.size)
  have HD3 := Lib.hid hst.at_
  have HO3 := Lib.hid (own_base hown (Nat.zero_le _))
  have Hby := Lib.hid (dbytes_any w3 hst.at_)
  have htl : (b.take k).length = k := by rw [List.length_take]; omega
  have Hrc2 := Lib.hid (drecover_any w3 (HW.out _ HB3.out) (Nat.le_trans HB.out HB3.out.size) hst.at_ (fun k hk => Nat.le_trans HB.out (Hlo3.out k hk)) (by dsimp only; rw [htl]; omega))
  obtain ⟨Ax, cx, rfl, _, _, _⟩ := own_form hown
  have hss : (B8 (b.take k)).size = k := by rw [B8_size, htl]
  have hex := Hex.out k
  have Hll := Lib.hid hir.len
  have hln : l.length * 6 ≤ k := RdTo.len ⟨hir.ok, hir.pre, hir.le⟩
  generalize hse : B8 (b.take k) = ss at hss hex Hby
  have Hse := Lib.hid hse
  have hkn : (k : Int) ≤ (st.size : Int) := by omega
  clear hir hown hst htl hse Hrc Hnew hsz2
  go_wp2_with fail
  refine Hby.out.mono ?_
  rintro e w4 ⟨rfl, rfl⟩
  have hkn2 : ¬ (st.size : Int) < (k : Int) := by omega
  go_wp2_with fail
  refine Hrc2.out.mono ?_
  rintro e w4 ⟨l2, k2, u2, v4, rfl, hir, hown, hst⟩
  obtain ⟨rfl, hkk⟩ := hir.uniq HI.out.twice
  have htk : (b.take k).take k2 = b.take k := by rw [hkk, List.take_take, Nat.min_self]
  rw [htk] at hst
  have HB4 := Lib.hid (HB3.out.trans (hst.below Hlo3.out HB3.out.size))
  obtain ⟨Ay, cy, rfl, _, _, hry⟩ := own_form hown
  have HRy := Lib.hid hry
  have HRx := Lib.hid (Rd.of_own (hst.own HD3.out HO3.out (by decide) (by decide)))
  have Hby2 := Lib.hid (dbytes_any w4 hst.at_)
  dsimp only at Hby2
  rw [Hse.out] at Hby2
  have HI := Lib.hid (show b.take k = l2.flatMap recL from HI.out.pre)
  have Hok := Lib.hid (fun j (e : En) (h : l2[j]? = some e) => hir.ok e (List.mem_of_getElem? h))
  have Hlk := Lib.hid (fun j (h : j ≤ l2.length) => show ((l2.take j).flatMap recL).length ≤ 3000 from by
    have e1 : (l2.flatMap recL).length ≤ 3000 := by rw [Hll.out]; omega
    have e2 : l2.flatMap recL = (l2.take j).flatMap recL ++ (l2.drop j).flatMap recL := by rw [← List.flatMap_append, List.take_append_drop]
    rw [e2, List.length_append] at e1
    omega)
  obtain ⟨n, hn⟩ : ∃ n, n = l2.length := ⟨_, rfl⟩
  rw [← hn] at HRx HRy hln Hlk ⊢
  have Hn := Lib.hid hn
  clear hir hown hst hry htk hkk hn
  go_wp2_with fail
  refine Hby2.out.mono ?_
  rintro e w5 ⟨rfl, rfl⟩
  go_wp2
  go_loopw [9, 10] (fun sv iv wr => ∃ j : Nat, j ≤ n ∧ iv = .int .i64 j ∧ sv = .string (B8 ((l2.take j).flatMap recL)) ∧ Below w4.heap.size w4 wr) (fun _ iv _ => n - (intOf iv).toNat)
  case atStart => exact ⟨0, Nat.zero_le _, rfl, rfl, Below.refl _ _⟩
  case round =>
    obtain ⟨j, hj, rfl, rfl, hb⟩ := hrel
    have HBr := Lib.hid hb
    by_cases hjn : j < n
    · have hjn' : (j : Int) < n := by omega
      obtain ⟨bx, ox, e, hAx, hbx, hge, x0, x1, x2⟩ := en_at (HRx.out.below hb) hjn
      obtain ⟨by_, oy, e', hAy, hby, hge', y0, y1, y2⟩ := en_at (HRy.out.below hb) hjn
      obtain rfl : e = e' := Option.some.inj (hge.symm.trans hge')
      subst hAx; subst hAy
      have hok := Hok.out j e hge
      have Hre := Lib.hid (fun W => rrecord_any e.nm e.tick e.bit (Nat.le_trans (nm_len hok.1) (by decide)) (tick_abs hok.2.1) hok.2.2 W)
      have hsl : (B8 ((l2.take j).flatMap recL)).size ≤ 3000 := by rw [B8_size]; exact Hlk.out j hj
      have hrl : (B8 (recL ⟨e.nm, e.tick, e.bit⟩)).size ≤ 198 := by rw [B8_size]; exact recL_le hok
      have Hcat := Lib.hid (show B8 ((l2.take j).flatMap recL) ++ B8 (recL ⟨e.nm, e.tick, e.bit⟩) = B8 ((l2.take (j + 1)).flatMap recL) by
        rw [B8_append, take_snoc hge, List.flatMap_append, List.flatMap_singleton])
      generalize hs2 : B8 ((l2.take (j + 1)).flatMap recL) = s2 at Hcat
      have Hs2 := Lib.hid hs2
      generalize B8 ((l2.take j).flatMap recL) = s1 at hsl Hcat
      generalize B8 (recL ⟨e.nm, e.tick, e.bit⟩) = sr at hrl Hcat Hre
      generalize B8 e.nm = sn at x0 y0 Hre
      generalize e.tick = tk at x1 y1 Hre
      generalize e.bit = bt at x2 y2 Hre
      have n1 : ¬ 9223372036854775807 < s1.size + sr.size := by omega
      clear hge hge' hok hs2 hb
      go_wp2
      go_quiet (fail)
      go_wp2
      have hbd := Below.drewN HBr.out nq
      replace x0 : (wr.drewN nq).cell? ⟨bx, ox + j * 3, none⟩ = some (.string sn) := x0
      replace x1 : (wr.drewN nq).cell? ⟨bx, ox + j * 3 + 1, none⟩ = some (.int .i64 tk) := x1
      replace x2 : (wr.drewN nq).cell? ⟨bx, ox + j * 3 + 2, none⟩ = some (.int .u64 (bt : Int)) := x2
      generalize wr.drewN nq = wq at hbd x0 x1 x2 ⊢
      have HBq := Lib.hid hbd
      have HKd := Lib.hid (show (fun w' : World => w'.cell? ⟨bx, ox + j * 3, none⟩ = some (.string sn) ∧ w'.cell? ⟨bx, ox + j * 3 + 1, none⟩ = some (.int .i64 tk) ∧ w'.cell? ⟨bx, ox + j * 3 + 2, none⟩ = some (.int .u64 (bt : Int))) wq.drew from ⟨x0, x1, x2⟩)
      have HKb := Lib.hid (fun w6 (hb : Below wq.drew.heap.size wq.drew w6) => show (fun w' : World => w'.cell? ⟨bx, ox + j * 3, none⟩ = some (.string sn) ∧ w'.cell? ⟨bx, ox + j * 3 + 1, none⟩ = some (.int .i64 tk) ∧ w'.cell? ⟨bx, ox + j * 3 + 2, none⟩ = some (.int .u64 (bt : Int))) w6 from
        ⟨cell_keep HKd.out.1 hb, cell_keep HKd.out.2.1 hb, cell_keep HKd.out.2.2 hb⟩)
      clear hbd
      go_region_held3 (fun w' => w'.cell? ⟨bx, ox + j * 3, none⟩ = some (.string sn) ∧ w'.cell? ⟨bx, ox + j * 3 + 1, none⟩ = some (.int .i64 tk) ∧ w'.cell? ⟨bx, ox + j * 3 + 2, none⟩ = some (.int .u64 (bt : Int)))
        (first | with_reducible exact HKd.out | with_reducible exact HKb.out _ B6.out)
        (first | (go_at_call 9; refine (Hre.out _).mono ?_; rintro e w6 ⟨rfl, hb⟩; have B6 := Lib.hid hb; clear hb))
      all_goals
        go_wp2
        go_roundw
        case rel => exact ⟨j + 1, by omega, by go_num, by rw [Hs2.out, ← Hcat.out], Below.call HBq.out.drew B6.out HBq.out.size⟩
        case measure => simp [intOf]; omega
    · obtain rfl : j = n := by omega
      have htk : l2.take j = l2 := List.take_of_length_le (by rw [Hn.out]; exact Nat.le_refl _)
      rw [htk, ← HI.out, Hse.out]
      clear htk hb
      go_wp2
      go_ret
      exact ⟨rfl, HB4.out.trans (HBr.out.mono HB4.out.size)⟩
end Go.Proofs.YtfkklcmepcocoaaDoor
