/- WalCuts by its contract: it returns true. -/
import Derived.Test.YtfkklcmepcocoaaDoorMhah
import Derived.Test.YtfkklcmepcocoaaDoorSameEnQ
import Derived.Deep.RegionHeld3
namespace Go.Proofs.YtfkklcmepcocoaaDoor
open Go.RowKit
set_option linter.unusedVariables false

theorem infoREn : (Tryd.prog.info? 41).map (fun i => (i.zero, i.size, i.bytes)) = some (some (.agg #[.string ⟨#[]⟩, .int .i64 0, .int .u64 0]), 3, 32) := by kernel_rfl
theorem cell_keepB {W W' : World} {B g i : Nat} {v : Value} (h : W.cell? ⟨g, i, none⟩ = some v) (hg : g < B) (hb : Below B W W') : W'.cell? ⟨g, i, none⟩ = some v :=
  (hb.cell (p := ⟨g, i, none⟩) hg).trans h
/-- A disk behind an append onto entries. -/
theorem app_fr {w wa : World} {base n q : Nat} {o : Obj} {u v : Value} {xs : List Value} {d : Dk} (h : (w.alloc o).ownsRow base 41 3 u n xs) (hgr : (w.alloc o).grownBy wa u.ownBlock) (hD : DiskAt w q v d) : DiskAt wa q v d := by
  have h1 : DiskAt (w.alloc o) q v d := hD.below (Below.alloc (Below.refl w.heap.size w) (Nat.le_refl _) o) (Nat.le_refl _)
  refine h1.fr (S := fun k => u.ownBlock = some k) ((Fr.refl _ _).grown hgr (fun k hk => .inr hk)) (fun k hk e => ?_)
  rcases hk with rfl | hk
  · exact own_ne_blk h h1.hd (by decide) e.symm
  · exact (h1.buf.row k hk).ne_own h (by decide) e
set_option maxHeartbeats 8000000 in
set_option maxRecDepth 100000 in
theorem walCuts_law {es : Nat → Addr} {B : Nat} (A : Option Addr) (n c : Nat) (ps : List En) (cut : Int) (w : World) (hW : WalW es B w) (hB : B ≤ w.heap.size) (hA : Rd w w.heap.size 3 A n (enC ps)) (hn : n ≤ 140737488351232) (hps : ∀ e ∈ ps, e.bit < 18446744073709551616) (hc64 : -9223372036854775808 ≤ cut ∧ cut ≤ 9223372036854775807) :
    Calls Tryd.prog 4 #[.slice A n c, .int .i64 cut] w fun e w' => e = .returned (.bool true) ∧ Below w.heap.size w w' := by
  have HW := Lib.hid (fun W (hb : Below w.heap.size w W) => hW.below hb hB)
  have HB := Lib.hid hB
  have Hlg := Lib.hid (logged_any w hW hB)
  have HA := Lib.hid hA
  have Hps := Lib.hid hps
  obtain ⟨i0, hi, hz0, hz1, hz2⟩ := info_parts infoREn
  have Hi := Lib.hid hi; have Hz0 := Lib.hid hz0; have Hz1 := Lib.hid hz1; have Hz2 := Lib.hid hz2
  clear hW hB hA hps hi hz0 hz1 hz2
  by_cases h60 : 60 < n
  · have h60' : (60 : Int) < (n : Int) := by omega
    go_enter Tryd.func4, Tryd.ntmps4
    go_wp2_with fail
    refine Hlg.out.mono ?_
    rintro e w1 ⟨rfl, hb⟩
    have HB1 := Lib.hid hb
    clear hb
    go_wp2
    go_ret
    exact ⟨rfl, HB1.out⟩
  have h60' : ¬ (60 : Int) < (n : Int) := by omega
  by_cases hcn : cut < 0
  · go_enter Tryd.func4, Tryd.ntmps4
    go_wp2_with fail
    refine Hlg.out.mono ?_
    rintro e w1 ⟨rfl, hb⟩
    have HB1 := Lib.hid hb
    clear hb
    go_wp2
    go_ret
    exact ⟨rfl, HB1.out⟩
  go_enter Tryd.func4, Tryd.ntmps4
  go_wp2_with fail
  refine Hlg.out.mono ?_
  rintro e w1 ⟨rfl, hb⟩
  have HB1 := Lib.hid hb
  clear hb
  go_wp2_with fail
  refine (dnew_any [] (by decide) _).mono ?_
  rintro e w2 ⟨q, v, rfl, hD, hlo, hb⟩
  have HB2 := Lib.hid (Below.call HB1.out hb HB1.out.size)
  have Hlo := Lib.hid (show DkLo w.heap.size q v from fun k hk => Nat.le_trans HB1.out.size (hlo k hk))
  have Hct := Lib.hid (dcut_ok w2 hD cut (by omega) (by have := hc64.2; omega) rfl)
  clear hD hlo hb
  go_wp2_with fail
  refine Hct.out.mono ?_
  rintro e w3 ⟨rfl, hst⟩
  have HS3 := Lib.hid hst
  have HB3 := Lib.hid (HB2.out.trans (hst.below Hlo.out HB2.out.size))
  have Hlo3 := Lib.hid (hst.lo Hlo.out HB2.out.size)
  clear hst Hct
  go_wp2
  go_loopw [8, 9] (fun dv iv wr => ∃ (j : Nat) (done : List En) (d : Dk) (v1 : Value), j ≤ n ∧ iv = .int .i64 j ∧ done.length ≤ j ∧ wr.ownsRow w.heap.size 41 3 dv done.length (enC done) ∧ DiskAt wr q v1 d ∧ DkLo w.heap.size q v1 ∧ CutInv d done ∧ Below w.heap.size w wr) (fun _ iv _ => n - (intOf iv).toNat)
  case atStart => exact ⟨0, [], _, v, Nat.zero_le _, rfl, Nat.le_refl _, World.ownsRow_nil _ _ _ _, HS3.out.at_, Hlo3.out, CutInv.start cut, HB3.out⟩
  case round =>
    obtain ⟨j, done, d, v1, hj, rfl, hdj, hown, hD, hlo, hinv, hb⟩ := hrel
    obtain ⟨Ad, cd, rfl, _, _, hrdd⟩ := own_form hown
    have HO := Lib.hid hown; have HD := Lib.hid hD; have HL := Lib.hid hlo; have HI := Lib.hid hinv; have HBr := Lib.hid hb
    have hdl := hinv.len
    have hszr := hb.size
    by_cases hjn : j < n
    · have hjn' : (j : Int) < n := by omega
      obtain ⟨bx, ox, e, hAx, hbx, hge, x0, x1, x2⟩ := en_at (HA.out.below hb) hjn
      subst hAx
      have hbit := Hps.out e (List.mem_of_getElem? hge)
      have hsz : (B8 e.nm).size = e.nm.length := B8_size _
      clear hown hD hlo hinv hge hrdd
      by_cases hl : 200 < e.nm.length
      · have hl' : (200 : Int) < ((B8 e.nm).size : Int) := by omega
        generalize B8 e.nm = sn at x0 hl'
        clear hb hsz
        go_wp2
        go_ret
        exact ⟨rfl, HBr.out⟩
      · have hl' : ¬ (200 : Int) < ((B8 e.nm).size : Int) := by omega
        have Hap := Lib.hid (dappend_any e wr.drew (HW.out _ HBr.out.drew) (Nat.le_trans HB.out hszr) (HD.out.below (Below.drew (Below.refl _ _)) (Nat.le_refl _)) (fun k hk => Nat.le_trans HB.out (HL.out k hk)) hdl (by omega) hbit)
        have Hst := Lib.hid (HI.out.step e hbit)
        generalize hsn : B8 e.nm = sn at x0 hl' Hap
        have Hsn := Lib.hid hsn
        have HKd := Lib.hid (show (fun w' : World => w'.cell? ⟨bx, ox + j * 3, none⟩ = some (.string sn) ∧ w'.cell? ⟨bx, ox + j * 3 + 1, none⟩ = some (.int .i64 e.tick) ∧ w'.cell? ⟨bx, ox + j * 3 + 2, none⟩ = some (.int .u64 (e.bit : Int))) wr.drew from ⟨x0, x1, x2⟩)
        have HKb := Lib.hid (fun w6 (hb : Below w.heap.size wr.drew w6) => show (fun w' : World => w'.cell? ⟨bx, ox + j * 3, none⟩ = some (.string sn) ∧ w'.cell? ⟨bx, ox + j * 3 + 1, none⟩ = some (.int .i64 e.tick) ∧ w'.cell? ⟨bx, ox + j * 3 + 2, none⟩ = some (.int .u64 (e.bit : Int))) w6 from
          ⟨cell_keepB HKd.out.1 hbx hb, cell_keepB HKd.out.2.1 hbx hb, cell_keepB HKd.out.2.2 hbx hb⟩)
        clear hb hsz hsn
        by_cases h0 : (apF d e).1 = 0
        · have H0 := Lib.hid h0
          clear h0
          go_wp2
          go_region_held3 (fun w' => w'.cell? ⟨bx, ox + j * 3, none⟩ = some (.string sn) ∧ w'.cell? ⟨bx, ox + j * 3 + 1, none⟩ = some (.int .i64 e.tick) ∧ w'.cell? ⟨bx, ox + j * 3 + 2, none⟩ = some (.int .u64 (e.bit : Int)))
            (first | with_reducible exact HKd.out | with_reducible exact HKb.out _ B6.out)
            (first | (go_at_call 11; refine Hap.out.mono ?_; rintro e6 w6 ⟨ev, rfl, hev, v6, hst⟩; obtain rfl := hev.zero H0.out; have B6 := Lib.hid (show Below w.heap.size wr.drew w6 from hst.below HL.out hszr); have S6 := Lib.hid hst; clear hst hev))
          all_goals
            have hs6 := B6.out.size
            have Ho6 := Lib.hid (DStep.own (HD.out.below (Below.drew (Below.refl _ _)) (Nat.le_refl _)) S6.out (own_drew HO.out) (by decide) (by decide))
            have HoA := Lib.hid (show (w6.alloc (.cells #[.string sn, .int .i64 e.tick, .int .u64 (e.bit : Int)] 41)).ownsRow w.heap.size 41 3 (.slice Ad done.length cd) done.length (enC done) from Ho6.out.alloc _)
            have HrA := Lib.hid (rd_en w6 41 (.string sn) (.int .i64 e.tick) (.int .u64 (e.bit : Int)))
            have HzA := Lib.hid (show w.heap.size ≤ (w6.alloc (.cells #[.string sn, .int .i64 e.tick, .int .u64 (e.bit : Int)] 41)).heap.size by simp; have : wr.heap.size ≤ w6.heap.size := S6.out.fr.size; omega)
            have HbA := Lib.hid (show Below w.heap.size w (w6.alloc (.cells #[.string sn, .int .i64 e.tick, .int .u64 (e.bit : Int)] 41)) from Below.alloc (HBr.out.drew.trans B6.out) (Nat.le_trans hszr S6.out.fr.size) _)
            have Hone := Lib.hid (by rw [← Hsn.out]; exact en_one e.nm e.tick e.bit : ∀ u ∈ [Value.string sn, Value.int .i64 e.tick, Value.int .u64 (e.bit : Int)], u.oneCell' = true)
            have hk63 : done.length + 1 ≤ maxLen := by unfold maxLen; omega
            have hk8 : (done.length + 1) * 32 ≤ 140737488355328 := by omega
            go_wp2_with (at_builtin; refine wpList_append_rd _ rfl (.tmp 67) (.tmp 72) _ rfl w.heap.size 41 i0 (.agg #[.string ⟨#[]⟩, .int .i64 0, .int .u64 0]) 3 32 Tryd.underlying39 Hi.out Hz0.out Hz1.out Hz2.out rfl (by decide) (.slice Ad done.length cd) done.length _ rfl HoA.out _ _ 1 1 [.string sn, .int .i64 e.tick, .int .u64 (e.bit : Int)] rfl HrA.out Hone.out hk63 hk8 HzA.out ?_; intro v' wa hown' hgr hat; have Hv := Lib.hid hown'; have HBb := Lib.hid (Below.grown HbA.out hgr HzA.out (fun g hg => (own_lt HoA.out g hg).1)); have Hfr := Lib.hid (app_fr HoA.out hgr S6.out.at_); clear hown' hgr hat)
            go_roundw
            case rel =>
              refine ⟨j + 1, done ++ [e], _, v6, by omega, by go_num, by rw [List.length_append]; simp; omega, ?_, Hfr.out, S6.out.lo HL.out hszr, Hst.out.1 H0.out, HBb.out⟩
              rw [List.length_append, enC_snoc]
              have := Hv.out
              rw [← Hsn.out] at this
              exact this
            case measure => simp [intOf]; omega
        · have H0 := Lib.hid h0
          clear h0
          go_wp2
          go_region_held3 (fun w' => w'.cell? ⟨bx, ox + j * 3, none⟩ = some (.string sn) ∧ w'.cell? ⟨bx, ox + j * 3 + 1, none⟩ = some (.int .i64 e.tick) ∧ w'.cell? ⟨bx, ox + j * 3 + 2, none⟩ = some (.int .u64 (e.bit : Int)))
            (first | with_reducible exact HKd.out | with_reducible exact HKb.out _ B6.out)
            (first | (go_at_call 11; refine Hap.out.mono ?_; rintro e6 w6 ⟨ev, rfl, hev, v6, hst⟩; obtain ⟨t5, p5, rfl⟩ := hev.pos H0.out; have B6 := Lib.hid (show Below w.heap.size wr.drew w6 from hst.below HL.out hszr); have S6 := Lib.hid hst; clear hst hev))
          all_goals
            go_wp2
            go_roundw
            case rel => exact ⟨j + 1, done, _, v6, by omega, by go_num, by omega, DStep.own (HD.out.below (Below.drew (Below.refl _ _)) (Nat.le_refl _)) S6.out (own_drew HO.out) (by decide) (by decide), S6.out.at_, S6.out.lo HL.out hszr, Hst.out.2 H0.out, HBr.out.drew.trans B6.out⟩
            case measure => simp [intOf]; omega
    · obtain rfl : j = n := by omega
      have Hrc := Lib.hid (drecover_any wr (HW.out _ HBr.out) (Nat.le_trans HB.out hszr) HD.out (fun k hk => Nat.le_trans HB.out (HL.out k hk)) hdl)
      clear hown hD hlo hinv hrdd hb
      go_wp2_with fail
      refine Hrc.out.mono ?_
      rintro e w4 ⟨l, k, u, v4, rfl, hir, hown4, hst⟩
      obtain ⟨rfl, htk⟩ := HI.out.read hir
      rw [htk] at hst
      have HB4 := Lib.hid (HBr.out.trans (hst.below HL.out hszr))
      have HL4 := Lib.hid (hst.lo HL.out hszr)
      have HO4 := Lib.hid (DStep.own HD.out hst HO.out (by decide) (by decide))
      have HD4 := Lib.hid hst.at_
      obtain ⟨Ax, cx, rfl, _, _, hrx⟩ := own_form hown4
      obtain ⟨_, _, e1, _, _, hry⟩ := own_form HO4.out
      injection e1 with e1 e2 e3
      subst e1
      have HRx := Lib.hid hrx; have HRy := Lib.hid hry
      have hszz := HB4.out.size
      have Hlast := Lib.hid (last_ap HI.out.ok (by omega))
      obtain ⟨m, hm⟩ : ∃ m, m = l.length := ⟨_, rfl⟩
      have hm60 : m ≤ 60 := by omega
      rw [← hm] at HRx HRy ⊢
      have Hm := Lib.hid hm
      clear hir hown4 hst hrx hry htk e2 e3 Hrc hm
      go_wp2_with fail
      refine (sameEntries_eq Ax m cx Ad cd l _ HRx.out HRy.out (by omega)).mono ?_
      rintro e w5 ⟨rfl, hb⟩
      have HB5 := Lib.hid (Below.call HB4.out hb HB4.out.size)
      have HD5 := Lib.hid (HD4.out.below hb (Nat.le_refl _))
      clear hb
      go_wp2_with fail
      refine (dpower_any _ HD5.out).mono ?_
      rintro e w6 ⟨rfl, rfl⟩
      have hle := flat_len_le l HI.out.ok
      have Hap := Lib.hid (dappend_any z9 w5 (HW.out _ HB5.out) (Nat.le_trans HB.out HB5.out.size) HD5.out (fun k hk => Nat.le_trans HB.out (HL4.out k hk)) (by have := Hm.out; show (l.flatMap recL).length ≤ 65536; omega) (by decide) (by decide))
      have hsz5 := HB5.out.size
      clear hle
      go_wp2_with fail
      refine Hap.out.mono ?_
      rintro e w7 ⟨ev, rfl, hev, v7, hst⟩
      rw [Hlast.out.1] at hev
      obtain rfl := hev.zero rfl
      have HB7 := Lib.hid (HB5.out.trans (hst.below HL4.out hsz5))
      have Hby := Lib.hid (dbytes_any w7 hst.at_)
      rw [Hlast.out.2] at Hby
      have hbl : ((l ++ [z9]).flatMap recL).length ≤ 65536 := by
        rw [← Hlast.out.2]; exact (apD_len (d := ⟨l.flatMap recL, false, -1⟩) (by
          have h1 := flat_len_le l HI.out.ok
          have := Hm.out; show (l.flatMap recL).length ≤ 65536; omega) z9)
      have Hrd := Lib.hid (wread_any ((l ++ [z9]).flatMap recL) (by omega) w7 (HW.out _ HB7.out) (Nat.le_trans HB.out HB7.out.size))
      have hsb : (B8 ((l ++ [z9]).flatMap recL)).size = ((l ++ [z9]).flatMap recL).length := B8_size _
      have Hra := Lib.hid (fun l' n' (h : IsRead ((l ++ [z9]).flatMap recL) l' n') => read_all (fun e he => by
        rcases List.mem_append.1 he with he | he
        · exact HI.out.ok e he
        · rw [List.mem_singleton.1 he]; exact z9_ok) h)
      have hbb := Hlast.out.2
      generalize (l ++ [z9]).flatMap recL = bb at Hby Hrd Hra hsb hbl hbb
      have Hbb := Lib.hid hbb
      obtain ⟨bn, hbn⟩ : ∃ bn, bn = bb.length := ⟨_, rfl⟩
      have Hbn := Lib.hid hbn
      rw [← hbn] at hsb
      generalize hsbe : B8 bb = sb at Hby Hrd hsb
      have Hsb := Lib.hid hsbe
      have HD7 := Lib.hid hst.at_
      clear hev hst Hap hbl hbn hbb hsbe
      go_wp2_with fail
      refine Hby.out.mono ?_
      rintro e w8 ⟨rfl, rfl⟩
      go_wp2_with fail
      refine Hrd.out.mono ?_
      rintro e w8 ⟨l8, k8, u8, rfl, hir, hown8, hb⟩
      obtain ⟨rfl, hk8⟩ := Hra.out l8 k8 hir
      rw [← Hbn.out] at hk8
      subst hk8
      have hl8 : (l ++ [z9]).length = m + 1 := by rw [List.length_append, ← Hm.out]; rfl
      rw [hl8] at hown8
      obtain ⟨A8, c8, rfl, _, _, hr8⟩ := own_form hown8
      obtain ⟨b8, o8, y8, rfl, _, hy8, z0, z1, z2⟩ := en_at hr8 (k := m) (by omega)
      have e8 : y8 = z9 := by
        have h1 : (l ++ [z9])[m]? = some z9 := by rw [Hm.out, List.getElem?_append_right (Nat.le_refl _), Nat.sub_self]; rfl
        exact Option.some.inj (hy8.symm.trans h1)
      rw [e8] at z0
      replace z0 : w8.cell? ⟨b8, o8 + m * 3, none⟩ = some (.string ⟨#[122, 61, 57]⟩) := z0
      have HB8 := Lib.hid (Below.call HB7.out hb HB7.out.size)
      have Hby8 := Lib.hid (dbytes_any w8 (HD7.out.below hb (Nat.le_refl _)))
      rw [Hbb.out, Hsb.out] at Hby8
      clear hir hown8 hb hl8 hr8 hy8 z1 z2 e8
      go_wp2_with fail
      refine Hby8.out.mono ?_
      rintro e w9 ⟨rfl, rfl⟩
      go_wp2
      go_ret
      exact ⟨rfl, HB8.out⟩
end Go.Proofs.YtfkklcmepcocoaaDoor
