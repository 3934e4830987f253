/- The reference's BlockOf: it answers as block.Read does. -/
import Derived.Test.YtfkklcmepcocoaaGreatDoorRSetQP
import Derived.Test.YtfkklcmepcocoaaGreatDoorMkpP
import Derived.Test.YtfkklcmepcocoaaGreatDoorMkoP
import Derived.Test.YtfkklcmepcocoaaGreatDoorMkkP
import Derived.Test.YtfkklcmepcocoaaGreatDoorMknP
import Derived.Test.YtfkklcmepcocoaaGreatDoorBoIQP
namespace Go.Proofs.YtfkklcmepcocoaaGreatDoor
open Go.RowKit
set_option linter.unusedVariables false

set_option maxRecDepth 100000 in
set_option maxHeartbeats 8000000 in
theorem blockOf_any (s : Bs) (hl : s.length ≤ 20000) (w : World) : Calls Tryz.prog 37 #[.string (B8 s)] w fun e w' => RBPost (readB s) w e w' := by
  have hsz : (B8 s).size = s.length := B8_size s
  have hb1 : Below w.heap.size w ((w.alloc (.cells #[.int .i64 0, .int .i64 0, .slice none 0 0, .slice none 0 0] 39)).alloc (.cells #[.int .i64 0, .int .i64 0] 57)) := Below.alloc (Below.alloc (Below.refl _ _) (Nat.le_refl _) _) (by simp) _
  have hf1 := Blk.new (w.alloc (.cells #[.int .i64 0, .int .i64 0, .slice none 0 0, .slice none 0 0] 39)) 57 #[.int .i64 0, .int .i64 0]
  rw [World.size_alloc] at hf1
  have HI1 := Lib.hid (show BoI w ((w.alloc (.cells #[.int .i64 0, .int .i64 0, .slice none 0 0, .slice none 0 0] 39)).alloc (.cells #[.int .i64 0, .int .i64 0] 57)) from
    ⟨(Blk.new w 39 #[.int .i64 0, .int .i64 0, .slice none 0 0, .slice none 0 0]).alloc _, hf1, hb1⟩)
  have Hlg := Lib.hid (show ¬ 20000 < s.length by omega)
  have Hcut := Lib.hid (fun W => rcut_t 10 s (by omega) W)
  obtain ⟨n, hn⟩ : ∃ n, n = s.length := ⟨_, rfl⟩
  have Hn := Lib.hid hn
  rw [← hn] at hsz hl
  have hl' : ¬ (20000 : Int) < (n : Int) := by omega
  obtain ⟨N, hN⟩ : ∃ N, N = (pcs 10 s).length := ⟨_, rfl⟩
  have HN := Lib.hid hN
  have hN1 : 1 ≤ N := by have := List.length_pos_iff.2 (pcs_ne 10 s); omega
  have hNm : N ≤ n + 1 := by rw [hN, hn]; exact pcs_max 10 s
  rw [← hN] at Hcut
  have Hml := Lib.hid (fun p (hp : p ∈ pcs 10 s) => show p.length ≤ 20000 from Nat.le_trans (pcs_mem 10 s p hp) (by rw [← Hn.out]; exact hl))
  generalize hst : B8 s = st at Hcut hsz ⊢
  clear hb1 hf1 hN hn hst
  obtain ⟨i1, hi1, hy0, hy1, hy2⟩ := info_parts infoTx
  have Hi1 := Lib.hid hi1; have Hy0 := Lib.hid hy0; have Hy1 := Lib.hid hy1; have Hy2 := Lib.hid hy2
  clear hi1 hy0 hy1 hy2
  go_enter Tryz.func37, Tryz.ntmps37
  go_wp2_with fail
  refine (Hcut.out _).mono ?_
  rintro e w2 ⟨v, rfl, hown, hb⟩
  obtain ⟨A2, c2, rfl, _, _, hrd⟩ := own_form hown
  have HI2 := Lib.hid (HI1.out.below hb)
  have HP2 := Lib.hid (own_base hown HI1.out.bl.size)
  have HR2 := Lib.hid hrd
  clear hown hb hrd Hcut
  obtain ⟨bp, op, p0, hA2, hbp, hp0, x0⟩ := HR2.out.str (i := 0) (by omega)
  subst hA2
  rw [Nat.add_zero] at x0
  have HRd := Lib.hid (fun W (hb : Below w2.heap.size w2 W) (i : Nat) (p : Bs) (hp : (pcs 10 s)[i]? = some p) => show W.cell? ⟨bp, op + i, none⟩ = some (.string (B8 p)) from by
    obtain ⟨b, o, p', e, _, hp', hx⟩ := (HR2.out.below hb).str (i := i) (by rw [HN.out]; exact (List.getElem?_eq_some_iff.1 hp).1)
    injection e with e
    injection e with e e2
    subst e; subst e2
    rw [hp] at hp'
    obtain rfl := Option.some.inj hp'
    exact hx)
  have Hh0 := Lib.hid (show (pcs 10 s).headD [] = p0 by
    have := hp0
    match hh : pcs 10 s, this with
    | a :: l, h => simpa using h)
  have Hcut2 := Lib.hid (fun W => rcut_t 32 p0 (Nat.le_trans (Hml.out p0 (List.mem_of_getElem? hp0)) (by decide)) W)
  obtain ⟨M, hM⟩ : ∃ M, M = (pcs 32 p0).length := ⟨_, rfl⟩
  have HM := Lib.hid hM
  rw [← hM] at Hcut2
  have Hpl := Lib.hid (fun p (hp : p ∈ pcs 32 p0) => show p.length ≤ 100000 from Nat.le_trans (Nat.le_trans (pcs_mem 32 p0 p hp) (Hml.out p0 (List.mem_of_getElem? hp0))) (by decide))
  generalize hs0 : B8 p0 = s0 at x0 Hcut2
  clear hM hs0 hp0 HR2
  have hN1' : (0 : Int) < (N : Int) := by omega
  go_wp2_with fail
  refine (Hcut2.out _).mono ?_
  rintro e w3 ⟨v, rfl, hown, hb⟩
  obtain ⟨A3, c3, rfl, _, _, hrd⟩ := own_form hown
  have HI3 := Lib.hid (HI2.out.below hb)
  have HP3 := Lib.hid (own_below HP2.out hb (Nat.le_refl _))
  have HR3 := Lib.hid hrd
  have Hb23 := Lib.hid hb
  clear hown hb hrd Hcut2 x0
  by_cases h4 : M = 4
  case neg =>
    have h4' : ((M : Int) == 4) = false := by rw [beq_eq_false_iff_ne]; omega
    have Hr := Lib.hid (readB_head Hlg.out (by rw [Hh0.out]; exact hedB_len (by rw [← HM.out]; exact h4)))
    -- slow
    go_wp2_with fail
    refine (bare_any 1 _).mono ?_
    rintro e wb ⟨rfl, hb⟩
    have HX := Lib.hid (bo_set HI3.out hb (.int .i64 0) (.int .i64 0) (.slice none 0 0) (.slice none 0 0) (.int .i64 1) (.int .i64 (-1)))
    obtain ⟨⟨q0, q1, q2, q3⟩, ⟨r0, r1, r2, r3⟩⟩ := cells4 (HI3.out.bq.below hb HI3.out.bq.lt)
    obtain ⟨⟨_, _⟩, ⟨k0, k1⟩⟩ := cells2 (HI3.out.bf.below hb HI3.out.bf.lt)
    clear hb
    go_wp2
    refine bodyPost_ret (res_bo _ _ w.heap.size (w.heap.size + 1) _ _ _ _ _ _ rfl rfl (by with_reducible exact HX.out.1) (by with_reducible exact HX.out.2.1)) rfl ?_
    exact RB.bad Hr.out rfl HX.out.2.2
    -- end
  subst h4
  obtain ⟨wa, wb, wc, wd, hw4⟩ := len4 HM.out.symm
  obtain ⟨b3, o3, p3, hA3, hb3, hp3, y0⟩ := HR3.out.str (i := 0) (by decide)
  subst hA3
  have HRw := Lib.hid (fun W (hb : Below w3.heap.size w3 W) (i : Nat) (p : Bs) (hp : [wa, wb, wc, wd][i]? = some p) => show W.cell? ⟨b3, o3 + i, none⟩ = some (.string (B8 p)) from by
    obtain ⟨b, o, p', e, _, hp', hx⟩ := (HR3.out.below hb).str (i := i) (by have := (List.getElem?_eq_some_iff.1 hp).1; simpa using this)
    injection e with e
    injection e with e e2
    subst e; subst e2
    rw [hw4, hp] at hp'
    obtain rfl := Option.some.inj hp'
    exact hx)
  have Hw4 := Lib.hid hw4
  have Hll := Lib.hid (show wb.length ≤ 100000 ∧ wc.length ≤ 100000 ∧ wd.length ≤ 100000 from ⟨Hpl.out wb (by rw [hw4]; simp), Hpl.out wc (by rw [hw4]; simp), Hpl.out wd (by rw [hw4]; simp)⟩)
  clear hp3 y0 hw4 HR3 HM Hpl
  have y0 := HRw.out w3 (Below.refl _ _) 0 wa rfl
  rw [Nat.add_zero] at y0
  have Hsa := Lib.hid (B8_toList wa)
  generalize B8 wa = sa at y0 Hsa
  by_cases ha : wa = wBlk
  case neg =>
    have e0 : (sa.toList == [98, 108, 111, 99, 107]) = false := by rw [Hsa.out, beq_eq_false_iff_ne]; exact ha
    have Hr := Lib.hid (readB_head Hlg.out (by rw [Hh0.out]; exact hedB_word Hw4.out ha))
    clear ha
    -- slow
    go_wp2_with fail
    refine (bare_any 1 _).mono ?_
    rintro e wb ⟨rfl, hb⟩
    have HX := Lib.hid (bo_set HI3.out hb (.int .i64 0) (.int .i64 0) (.slice none 0 0) (.slice none 0 0) (.int .i64 1) (.int .i64 (-1)))
    obtain ⟨⟨q0, q1, q2, q3⟩, ⟨r0, r1, r2, r3⟩⟩ := cells4 (HI3.out.bq.below hb HI3.out.bq.lt)
    obtain ⟨⟨_, _⟩, ⟨k0, k1⟩⟩ := cells2 (HI3.out.bf.below hb HI3.out.bf.lt)
    clear hb
    go_wp2
    refine bodyPost_ret (res_bo _ _ w.heap.size (w.heap.size + 1) _ _ _ _ _ _ rfl rfl (by with_reducible exact HX.out.1) (by with_reducible exact HX.out.2.1)) rfl ?_
    exact RB.bad Hr.out rfl HX.out.2.2
    -- end
  have e0 : (sa.toList == [98, 108, 111, 99, 107]) = true := by rw [Hsa.out, ha]; rfl
  have Hhd := Lib.hid (hedB_four Hw4.out ha)
  have Hwa := Lib.hid (fun (h : wa ≠ wBlk) => h ha)
  clear ha
  by_cases hN2 : N < 2
  · have hN2' : (N : Int) < 2 := by omega
    have Hr := Lib.hid (show readB s = ((1, -1), (0, 0), []) from by
      cases hh : hedB p0 with
      | none => exact readB_head Hlg.out (by rw [Hh0.out]; exact hh)
      | some x =>
        obtain ⟨f, sp, m⟩ := x
        refine readB_ends Hlg.out (by rw [Hh0.out]; exact hh) (fun h => ?_)
        have := two_of (s := s) (by rw [Hh0.out]; exact hh) h.1
        rw [← HN.out] at this
        omega)
    clear hN2
    -- slow
    go_wp2_with fail
    refine (bare_any 1 _).mono ?_
    rintro e wb ⟨rfl, hb⟩
    have HX := Lib.hid (bo_set HI3.out hb (.int .i64 0) (.int .i64 0) (.slice none 0 0) (.slice none 0 0) (.int .i64 1) (.int .i64 (-1)))
    obtain ⟨⟨q0, q1, q2, q3⟩, ⟨r0, r1, r2, r3⟩⟩ := cells4 (HI3.out.bq.below hb HI3.out.bq.lt)
    obtain ⟨⟨_, _⟩, ⟨k0, k1⟩⟩ := cells2 (HI3.out.bf.below hb HI3.out.bf.lt)
    clear hb
    go_wp2
    refine bodyPost_ret (res_bo _ _ w.heap.size (w.heap.size + 1) _ _ _ _ _ _ rfl rfl (by with_reducible exact HX.out.1) (by with_reducible exact HX.out.2.1)) rfl ?_
    exact RB.bad Hr.out rfl HX.out.2.2
    -- end
  have hN2' : ¬ (N : Int) < 2 := by omega
  obtain ⟨pl, hpl⟩ : ∃ pl, (pcs 10 s)[N - 1]? = some pl := ⟨_, List.getElem?_eq_getElem (by rw [← HN.out]; omega)⟩
  have Hlast := Lib.hid (show (pcs 10 s).getLast? = some pl by rw [List.getLast?_eq_getElem?, ← HN.out]; exact hpl)
  have xl := HRd.out _ Hb23.out (N - 1) pl hpl
  have Hsl := Lib.hid (B8_toList pl)
  generalize B8 pl = sl at xl Hsl
  clear hpl
  have t1 : ((N : Int) - 1).toNat = N - 1 := by omega
  have t2 : IntKind.i64.wrap ((N : Int) - 1) = (N : Int) - 1 := by rw [IntKind.wrap_i64]; omega
  have t4 : (0 : Int) ≤ (N : Int) - 1 := by omega
  have t5 : (N : Int) - 1 < (N : Int) := by omega
  by_cases hle : pl = []
  case neg =>
    have e1 : (sl.toList == []) = false := by rw [Hsl.out, beq_eq_false_iff_ne]; exact hle
    have Hr := Lib.hid (show readB s = ((1, -1), (0, 0), []) from by
      cases hh : hedB p0 with
      | none => exact readB_head Hlg.out (by rw [Hh0.out]; exact hh)
      | some x =>
        obtain ⟨f, sp, m⟩ := x
        exact readB_ends Hlg.out (by rw [Hh0.out]; exact hh) (fun h => hle (by have := h.1; rw [Hlast.out] at this; injection this)))
    clear hle
    -- slow
    go_wp2_with fail
    refine (bare_any 1 _).mono ?_
    rintro e wb ⟨rfl, hb⟩
    have HX := Lib.hid (bo_set HI3.out hb (.int .i64 0) (.int .i64 0) (.slice none 0 0) (.slice none 0 0) (.int .i64 1) (.int .i64 (-1)))
    obtain ⟨⟨q0, q1, q2, q3⟩, ⟨r0, r1, r2, r3⟩⟩ := cells4 (HI3.out.bq.below hb HI3.out.bq.lt)
    obtain ⟨⟨_, _⟩, ⟨k0, k1⟩⟩ := cells2 (HI3.out.bf.below hb HI3.out.bf.lt)
    clear hb
    go_wp2
    refine bodyPost_ret (res_bo _ _ w.heap.size (w.heap.size + 1) _ _ _ _ _ _ rfl rfl (by with_reducible exact HX.out.1) (by with_reducible exact HX.out.2.1)) rfl ?_
    exact RB.bad Hr.out rfl HX.out.2.2
    -- end
  have e1 : (sl.toList == []) = true := by rw [Hsl.out, hle]; rfl
  have Hla := Lib.hid (show (pcs 10 s).getLast? = some [] by rw [Hlast.out, hle])
  obtain ⟨y1, y2, y3⟩ : w3.cell? ⟨b3, o3 + 1, none⟩ = some (.string (B8 wb)) ∧ w3.cell? ⟨b3, o3 + 2, none⟩ = some (.string (B8 wc)) ∧ w3.cell? ⟨b3, o3 + 3, none⟩ = some (.string (B8 wd)) := ⟨HRw.out w3 (Below.refl _ _) 1 wb rfl, HRw.out w3 (Below.refl _ _) 2 wc rfl, HRw.out w3 (Below.refl _ _) 3 wd rfl⟩
  have Hn1 := Lib.hid (fun W => rnum_any wb Hll.out.1 W)
  generalize hsb : B8 wb = sb at y1 Hn1
  clear hle Hlast hN2
  go_wp2_with fail
  refine (Hn1.out _).mono ?_
  rintro e w4 ⟨v1, b1, rfl, y, no, ⟨j1, j2⟩, hb⟩
  have HI4 := Lib.hid (HI3.out.below hb)
  have Hb34 := Lib.hid hb
  have Y1 := Lib.hid y; have N1 := Lib.hid no
  have y2' := HRw.out _ hb 2 wc rfl
  have Hn2 := Lib.hid (fun W => rnum_any wc Hll.out.2.1 W)
  generalize hsc : B8 wc = sc at y2' Hn2
  clear y no hb y0 y1 y2 y3 xl hsc hsb Hn1
  go_wp2_with fail
  refine (Hn2.out _).mono ?_
  rintro e w5 ⟨v2, b2, rfl, y, no, ⟨j3, j4⟩, hb⟩
  have HI5 := Lib.hid (HI4.out.below hb)
  have Hb35 := Lib.hid (Below.call Hb34.out hb Hb34.out.size)
  have Y2 := Lib.hid y; have N2 := Lib.hid no
  have y3' := HRw.out _ Hb35.out 3 wd rfl
  have Hn3 := Lib.hid (fun W => rnum_any wd Hll.out.2.2 W)
  generalize hsd : B8 wd = sd at y3' Hn3
  clear y no hb y2' hsd Hn2
  go_wp2_with fail
  refine (Hn3.out _).mono ?_
  rintro e w6 ⟨v3, b3', rfl, y, no, ⟨j5, j6⟩, hb⟩
  have HI6 := Lib.hid (HI5.out.below hb)
  have Hb36 := Lib.hid (Below.call Hb35.out hb Hb35.out.size)
  have Y3 := Lib.hid y; have N3 := Lib.hid no
  clear y no hb y3' Hn3 HRw
  have Hhok := Lib.hid (head_ok Hw4.out (by
    by_cases ha : wa = wBlk
    · exact ha
    · exfalso; exact Hwa.out ha) ⟨Y1.out, N1.out⟩ ⟨Y2.out, N2.out⟩ ⟨Y3.out, N3.out⟩)
  have t3 : IntKind.i64.wrap ((N : Int) - 2) = (N : Int) - 2 := by rw [IntKind.wrap_i64]; omega
  by_cases hall : (b1 && b2 && b3') = true
  case neg =>
    have Hr := Lib.hid (readB_head Hlg.out (by rw [Hh0.out]; exact Hhok.out.2 (by simpa using hall)))
    cases b1
    case' true =>
      cases b2
      case' true =>
        cases b3'
        case' true => exact absurd rfl hall
    all_goals
      clear hall
      -- slow
      go_wp2_with fail
      refine (bare_any 1 _).mono ?_
      rintro e wb ⟨rfl, hb⟩
      have HX := Lib.hid (bo_set HI6.out hb (.int .i64 0) (.int .i64 0) (.slice none 0 0) (.slice none 0 0) (.int .i64 1) (.int .i64 (-1)))
      obtain ⟨⟨q0, q1, q2, q3⟩, ⟨r0, r1, r2, r3⟩⟩ := cells4 (HI6.out.bq.below hb HI6.out.bq.lt)
      obtain ⟨⟨_, _⟩, ⟨k0, k1⟩⟩ := cells2 (HI6.out.bf.below hb HI6.out.bf.lt)
      clear hb
      go_wp2
      refine bodyPost_ret (res_bo _ _ w.heap.size (w.heap.size + 1) _ _ _ _ _ _ rfl rfl (by with_reducible exact HX.out.1) (by with_reducible exact HX.out.2.1)) rfl ?_
      exact RB.bad Hr.out rfl HX.out.2.2
      -- end
  obtain ⟨⟨rfl, rfl⟩, rfl⟩ : (b1 = true ∧ b2 = true) ∧ b3' = true := by simpa using hall
  have Hhed := Lib.hid (show hedB ((pcs 10 s).headD []) = some (v1, v2, v3) by rw [Hh0.out]; exact Hhok.out.1 rfl)
  clear hall Hhok Y1 N1 Y2 N2 Y3 N3 Hw4 Hwa Hhd
  by_cases hv3 : v3 = (N : Int) - 2
  case neg =>
    have hv3' : (v3 == (N : Int) - 2) = false := by rw [beq_eq_false_iff_ne]; exact hv3
    have Hr := Lib.hid (readB_ends Hlg.out Hhed.out (fun h => hv3 (by have := h.2; rw [← HN.out] at this; exact this.symm)))
    clear hv3
    -- slow
    go_wp2_with fail
    refine (bare_any 1 _).mono ?_
    rintro e wb ⟨rfl, hb⟩
    have HX := Lib.hid (bo_set HI6.out hb (.int .i64 0) (.int .i64 0) (.slice none 0 0) (.slice none 0 0) (.int .i64 1) (.int .i64 (-1)))
    obtain ⟨⟨q0, q1, q2, q3⟩, ⟨r0, r1, r2, r3⟩⟩ := cells4 (HI6.out.bq.below hb HI6.out.bq.lt)
    obtain ⟨⟨_, _⟩, ⟨k0, k1⟩⟩ := cells2 (HI6.out.bf.below hb HI6.out.bf.lt)
    clear hb
    go_wp2
    refine bodyPost_ret (res_bo _ _ w.heap.size (w.heap.size + 1) _ _ _ _ _ _ rfl rfl (by with_reducible exact HX.out.1) (by with_reducible exact HX.out.2.1)) rfl ?_
    exact RB.bad Hr.out rfl HX.out.2.2
    -- end
  have hv3' : (v3 != (N : Int) - 2) = false := by rw [hv3, bne, beq_self_eq_true]; rfl
  obtain ⟨M, hM⟩ : ∃ M, M = N - 2 := ⟨_, rfl⟩
  have Htw := Lib.hid (show (pcs 10 s).getLast? = some [] ∧ ((pcs 10 s).length : Int) - 2 = v3 from ⟨Hla.out, by rw [← HN.out]; exact hv3.symm⟩)
  have hMN : M + 2 = N := by omega
  have Hlm := Lib.hid (show (midR s).length = M by rw [midR_len, hM, HN.out])
  have Hmid := Lib.hid (fun k (h : k < M) => show (midR s)[k]? = (pcs 10 s)[k + 1]? from midR_at (by rw [Hlm.out]; exact h))
  have Hml2 := Lib.hid (fun t (ht : t ∈ midR s) => (Nat.le_trans (midR_mem t ht) (by rw [← Hn.out]; exact hl) : t.length ≤ 20000))
  have HM0 := Lib.hid (show RM w (w6.alloc (.cells #[.int .i64 v1, .int .i64 v2, .slice none 0 0, .slice none 0 0] 39)) w6.heap.size #[.int .i64 v1, .int .i64 v2, .slice none 0 0, .slice none 0 0] (.slice (some ⟨bp, op, none⟩) N c2) N (pcs 10 s) (.slice none 0 0) 0 [] (.slice none 0 0) 0 [] from
    ⟨HI6.out.below (Below.alloc (Below.refl _ _) (Nat.le_refl _) _), Blk.new _ _ _, Pair.nil _ _ _, (own_below (own_below HP3.out Hb36.out (Nat.le_refl _)) (Below.alloc (Below.refl _ _) (Nat.le_refl _) _) (Nat.le_refl _)), fun k h => (by cases h), fun k h => (by cases h), HI6.out.bl.size, Nat.lt_of_lt_of_le HI6.out.bf.lt (Nat.le_refl _)⟩)
  clear hM hv3 hN2' t1 t2 t4 t5 e0 e1 HI1 HI2 HI3 HI4 HI5 HP2 HP3 Hb23 Hb34 Hb35 Hla Hh0 Hll Hsa Hsl
  obtain ⟨g, hg⟩ : ∃ g, g = w6.heap.size := ⟨_, rfl⟩
  go_wp2
  rw [← hg] at HM0 ⊢
  clear hg
  go_loopw [14] (fun kv wr => ∃ (k : Nat) (z1 z2 : Value) (K : List (Bs × List Nat)), k ≤ M ∧ kv = .int .i64 ((k : Int) + 1) ∧ RM w wr g #[.int .i64 v1, .int .i64 v2, z1, z2] (.slice (some ⟨bp, op, none⟩) N c2) N (pcs 10 s) z1 K.length (txS K) z2 K.length (chS K) ∧ K.length = k ∧ linesR ((midR s).take k) = some K) (fun kv _ => N - (intOf kv).toNat)
  case atStart => exact ⟨0, _, _, [], Nat.zero_le _, rfl, HM0.out, rfl, rfl⟩
  case round =>
    rename World => wo
    obtain ⟨k, z1, z2, K, hk, rfl, hrm, hKk, hKe⟩ := hrel
    obtain ⟨B1, d1, rfl, _, _, _⟩ := own_form hrm.pr.l
    obtain ⟨B2, d2, rfl, _, _, _⟩ := own_form hrm.pr.r
    have HR := Lib.hid hrm; have HKe := Lib.hid hKe; have HKk := Lib.hid hKk
    have hk63 : K.length + 1 ≤ maxLen := by unfold maxLen; omega
    have hk8 : (K.length + 1) * 16 ≤ 140737488355328 := by omega
    clear hKk hKe
    by_cases hkM : k < M
    case neg =>
      -- slow
      obtain rfl : k = M := by omega
      have hkM' : ¬ (k : Int) + 1 < (N : Int) - 1 := by omega
      have hke : linesR (midR s) = some K := by
        have := HKe.out
        rwa [List.take_of_length_le (by rw [Hlm.out]; exact Nat.le_refl _)] at this
      have hlim := linesR_lim (m := 20000) Hml2.out hke
      have Hrr := Lib.hid (show ∀ c, rowsR v1 v2 (K.map Prod.fst) (K.map Prod.snd) = c → (c.1.1 ≠ 0 → readB s = (c.1, (0, 0), [])) ∧ (c.1.1 = 0 → c.1 = (0, -1) ∧ readB s = ((0, -1), (v1, v2), K)) from fun c hc => by
        subst hc
        exact ⟨fun h => readB_bad Hlg.out Hhed.out Htw.out hke h, fun h => ⟨rowsR_zero h, readB_ok Hlg.out Hhed.out Htw.out hke h⟩⟩)
      have Hso := Lib.hid (setOf_any v1 v2 B1 B2 K.length d1 K.length d2 (K.map Prod.fst) (K.map Prod.snd) wo (by rw [← txS_fst]; exact Rd.of_own hrm.pr.l) (by rw [← chS_snd]; exact Rd.of_own hrm.pr.r)
        (fun s hs => by obtain ⟨x, hx, rfl⟩ := List.mem_map.1 hs; exact Nat.le_trans (hlim x hx).1 (by decide))
        (fun z hz => by obtain ⟨x, hx, rfl⟩ := List.mem_map.1 hz; exact ⟨Nat.le_trans (hlim x hx).2.1 (by decide), (hlim x hx).2.2⟩))
      obtain ⟨⟨⟨c1, c2'⟩, rws⟩, hR2⟩ : ∃ R2, R2 = rowsR v1 v2 (K.map Prod.fst) (K.map Prod.snd) := ⟨_, rfl⟩
      rw [← hR2] at Hso
      obtain ⟨hrb, hrg⟩ := Hrr.out _ hR2.symm
      have Hrb := Lib.hid hrb; have Hrg := Lib.hid hrg
      obtain ⟨⟨q0, q1, q2, q3⟩, _⟩ := cells4 hrm.ob
      clear hrm hlim hke hR2 Hrr hrb hrg
      go_wp2_with fail
      refine Hso.out.mono ?_
      rintro e w7 ⟨u, rfl, hub, hug, hb⟩
      rw [show fV ((c1, c2'), rws).1 = .agg #[.int .i64 (c1 : Int), .int .i64 c2'] from rfl]
      have HR7 := Lib.hid ((HR.out.below hb).below (Below.alloc (Below.refl _ _) (Nat.le_refl _) (.cells #[.int .i64 (c1 : Int), .int .i64 c2'] 57)))
      have HF7 := Lib.hid (Blk.new w7 57 #[.int .i64 (c1 : Int), .int .i64 c2'])
      have Hn7 := Lib.hid (show w7.heap.size ≠ w.heap.size from Nat.ne_of_gt (HR.out.below hb).iv.bq.lt)
      clear hb q0 q1 q2 q3
      obtain ⟨⟨o0, o1, o2, o3⟩, _⟩ := cells4 HR7.out.ob
      obtain ⟨⟨q0, q1, q2, q3⟩, ⟨r0, r1, r2, r3⟩⟩ := cells4 HR7.out.iv.bq
      obtain ⟨⟨_, _⟩, ⟨k0, k1⟩⟩ := cells2 HR7.out.iv.bf
      obtain ⟨⟨f0, f1⟩, _⟩ := cells2 HF7.out
      by_cases hc1 : c1 = 0
      case neg =>
        have hc1' : (0 : Int) < (c1 : Int) := by omega
        obtain rfl := hub hc1
        have Hrd := Lib.hid (Hrb.out hc1)
        have HX0 := Lib.hid (bo_set HR7.out.iv (Below.refl _ _) (.int .i64 0) (.int .i64 0) (.slice none 0 0) (.slice none 0 0) (.int .i64 (c1 : Int)) (.int .i64 c2'))
        have HXB := Lib.hid (bo_setB HR7.out.iv (.int .i64 0) (.int .i64 0) (.slice none 0 0) (.slice none 0 0) (.int .i64 (c1 : Int)) (.int .i64 c2'))
        obtain ⟨⟨f2, f3⟩, ⟨f4, f5⟩⟩ := bo_far (w := w) HF7.out Hn7.out (.int .i64 0) (.int .i64 0) (.slice none 0 0) (.slice none 0 0)
        clear hc1 hub hug o0 o1 o2 o3
        go_wp2
        go_region
        all_goals
          go_wp2
          refine bodyPost_ret (res_bo _ _ w.heap.size (w.heap.size + 1) _ _ _ _ _ _ rfl rfl (by first | with_reducible exact HX0.out.1.drew | with_reducible exact HXB.out.1.drew | with_reducible exact HX0.out.1 | with_reducible exact HXB.out.1) (by first | with_reducible exact HX0.out.2.1.drew | with_reducible exact HXB.out.2.1.drew | with_reducible exact HX0.out.2.1 | with_reducible exact HXB.out.2.1)) rfl ?_
          rw [Hrd.out]
          exact ⟨_, _, rfl, Pair.nil _ _ _, by first | with_reducible exact HX0.out.2.2.drew | with_reducible exact HXB.out.2.2.drew | with_reducible exact HX0.out.2.2 | with_reducible exact HXB.out.2.2⟩
      subst hc1
      obtain ⟨qs, _, _, _, _, rfl, _⟩ := hug rfl
      obtain ⟨hc2, hrd⟩ := Hrg.out rfl
      obtain rfl : c2' = -1 := congrArg Prod.snd hc2
      have Hrd := Lib.hid hrd
      clear hc2 hrd hub hug
      have HR7 := Lib.hid (show RM w (w7.alloc (.cells #[.int .i64 0, .int .i64 (-1)] 57)) g #[.int .i64 v1, .int .i64 v2, .slice B1 K.length d1, .slice B2 K.length d2] (.slice (some ⟨bp, op, none⟩) N c2) N (pcs 10 s) (.slice B1 K.length d1) K.length (txS K) (.slice B2 K.length d2) K.length (chS K) from HR7.out)
      have HX0 := Lib.hid (bo_set HR7.out.iv (Below.refl _ _) (.int .i64 v1) (.int .i64 v2) (.slice B1 K.length d1) (.slice B2 K.length d2) (.int .i64 0) (.int .i64 (-1)))
      have HXB := Lib.hid (bo_setB HR7.out.iv (.int .i64 v1) (.int .i64 v2) (.slice B1 K.length d1) (.slice B2 K.length d2) (.int .i64 0) (.int .i64 (-1)))
      have HY0 := Lib.hid (HR7.out.set6 (.int .i64 v1) (.int .i64 v2) (.slice B1 K.length d1) (.slice B2 K.length d2) (.int .i64 0) (.int .i64 (-1)))
      have HYB := Lib.hid (HR7.out.set6B (.int .i64 v1) (.int .i64 v2) (.slice B1 K.length d1) (.slice B2 K.length d2) (.int .i64 0) (.int .i64 (-1)))
      have HF7 := Lib.hid (show Blk (w7.alloc (.cells #[.int .i64 0, .int .i64 (-1)] 57)) w7.heap.size 57 #[.int .i64 0, .int .i64 (-1)] from HF7.out)
      obtain ⟨⟨f0, f1⟩, _⟩ := cells2 HF7.out
      obtain ⟨⟨f2, f3⟩, ⟨f4, f5⟩⟩ := bo_far (w := w) HF7.out Hn7.out (.int .i64 v1) (.int .i64 v2) (.slice B1 K.length d1) (.slice B2 K.length d2)
      obtain ⟨⟨o0, o1, o2, o3⟩, _⟩ := cells4 HR7.out.ob
      obtain ⟨⟨o4, o5, o6, o7⟩, ⟨o8, o9, oa, o_b⟩⟩ := bo_far4 (w := w) HR7.out.ob (Nat.ne_of_gt HR7.out.g1) (.int .i64 0) (.int .i64 (-1))
      obtain ⟨⟨q0, q1, q2, q3⟩, ⟨r0, r1, r2, r3⟩⟩ := cells4 HR7.out.iv.bq
      obtain ⟨⟨_, _⟩, ⟨k0, k1⟩⟩ := cells2 HR7.out.iv.bf
      go_wp2
      go_region
      all_goals
        go_wp2
        refine bodyPost_ret (res_bo _ _ w.heap.size (w.heap.size + 1) _ _ _ _ _ _ rfl rfl (by first | with_reducible exact HX0.out.1.drew | with_reducible exact HXB.out.1.drew | with_reducible exact HX0.out.1 | with_reducible exact HXB.out.1) (by first | with_reducible exact HX0.out.2.1.drew | with_reducible exact HXB.out.2.1.drew | with_reducible exact HX0.out.2.1 | with_reducible exact HXB.out.2.1)) rfl ?_
        rw [Hrd.out]
        exact ⟨_, _, rfl, (by first | with_reducible exact HY0.out | with_reducible exact HYB.out | exact HY0.out.fr (Fr.refl _ _).drew | exact HYB.out.fr (Fr.refl _ _).drew), by first | with_reducible exact HX0.out.2.2.drew | with_reducible exact HXB.out.2.2.drew | with_reducible exact HX0.out.2.2 | with_reducible exact HXB.out.2.2⟩
      -- end
    have hkM' : (k : Int) + 1 < (N : Int) - 1 := by omega
    have hkN : (k : Int) + 1 < (N : Int) := by omega
    obtain ⟨t, ht⟩ : ∃ t, (midR s)[k]? = some t := ⟨_, List.getElem?_eq_getElem (by rw [Hlm.out]; exact hkM)⟩
    have ht2 : (pcs 10 s)[k + 1]? = some t := by rw [← Hmid.out k hkM]; exact ht
    have x0 := hrm.cell ht2
    have htl : t.length ≤ 20000 := Hml2.out t (List.mem_of_getElem? ht)
    have Ht := Lib.hid ht
    have Hx := Lib.hid (fun W (hb : Below wo.heap.size wo W) => (HR.out.below hb).cell ht2)
    have hts : (B8 t).size = t.length := B8_size t
    have Hta := Lib.hid (fun i (h : i < (B8 t).size) => show ((B8 t)[i]).toNat = (t.getD i 0).toNat from B8_at t i h)
    have Hte := Lib.hid (fun j => show (B8 t).extract 0 j = B8 (t.take j) by rw [B8_extract, List.drop_zero])
    obtain ⟨tn, htn⟩ : ∃ tn, tn = t.length := ⟨_, rfl⟩
    rw [← htn] at hts htl
    have Htn := Lib.hid htn
    generalize B8 t = stt at x0 Hx hts Hta Hte
    clear hrm ht ht2 htn
    go_wp2
    go_loopw [15] (fun jv wq => ∃ j : Nat, j ≤ tn ∧ jv = .int .i64 j ∧ (32 : UInt8) ∉ t.take j ∧ wq = wo) (fun jv _ => tn - (intOf jv).toNat)
    case atStart => exact ⟨0, Nat.zero_le _, rfl, by simp, rfl⟩
    case round =>
      obtain ⟨j, hj, rfl, hno, rfl⟩ := hrel
      have Hno := Lib.hid hno
      clear hno
      by_cases hjt : j < tn
      case neg =>
        obtain rfl : j = tn := by omega
        have hjj : ¬ (j : Int) < (j : Int) := by omega
        have hje : ((j : Int) == (j : Int)) = true := beq_self_eq_true _
        have Hr := Lib.hid (readB_lines Hlg.out Hhed.out Htw.out (linesR_stop Ht.out (lineR_none1 (by have := Hno.out; rwa [List.take_of_length_le (by rw [← Htn.out]; exact Nat.le_refl _)] at this))))
        have HI7 := Lib.hid HR.out.iv
        -- slow
        go_wp2_with fail
        refine (bare_any 1 _).mono ?_
        rintro e wb ⟨rfl, hb⟩
        have HX := Lib.hid (bo_set HI7.out hb (.int .i64 0) (.int .i64 0) (.slice none 0 0) (.slice none 0 0) (.int .i64 1) (.int .i64 (-1)))
        obtain ⟨⟨q0, q1, q2, q3⟩, ⟨r0, r1, r2, r3⟩⟩ := cells4 (HI7.out.bq.below hb HI7.out.bq.lt)
        obtain ⟨⟨_, _⟩, ⟨k0, k1⟩⟩ := cells2 (HI7.out.bf.below hb HI7.out.bf.lt)
        clear hb
        go_wp2
        refine bodyPost_ret (res_bo _ _ w.heap.size (w.heap.size + 1) _ _ _ _ _ _ rfl rfl (by with_reducible exact HX.out.1) (by with_reducible exact HX.out.2.1)) rfl ?_
        exact RB.bad Hr.out rfl HX.out.2.2
        -- end
      have hj1 : j < stt.size := by rw [hts]; exact hjt
      have w0 := Hta.out j hj1
      obtain ⟨c, hc⟩ : ∃ c, t[j]? = some c := ⟨_, List.getElem?_eq_getElem (by rw [← Htn.out]; exact hjt)⟩
      rw [show t.getD j 0 = c by rw [List.getD_eq_getElem?_getD, hc]; rfl] at w0
      have hjt' := nlt_i hjt
      have hcl := c.toNat_lt
      by_cases h32 : c.toNat = 32
      case neg =>
        have hne : ((c.toNat : Int) == 32) = false := by rw [beq_eq_false_iff_ne]; omega
        have Hno2 := Lib.hid (show (32 : UInt8) ∉ t.take (j + 1) by
          rw [take_snoc hc]
          intro h
          rcases List.mem_append.1 h with h | h
          · exact Hno.out h
          · exact h32 (by rw [← List.mem_singleton.1 h]; rfl))
        clear hc
        go_wp2
        go_roundw
        case rel => exact ⟨j + 1, hjt, by go_num, Hno2.out, by first | rfl | trivial⟩
        case measure => simp [intOf]; omega
      have hceq : c = 32 := UInt8.toNat_inj.1 (by rw [h32]; rfl)
      rw [h32] at w0
      have Hlr := Lib.hid (lineR_cut (t := t) (j := j) (by rw [hc, hceq]) Hno.out)
      clear hc hceq h32 hcl
      obtain ⟨hx, hhx⟩ : ∃ hx, hx = t.drop (j + 1) := ⟨_, rfl⟩
      obtain ⟨m, hmt, hm, hje, hmod, hmod2⟩ := ar_line hjt
      have Hhl := Lib.hid (show hx.length = m by rw [hhx, List.length_drop, ← Htn.out, hm])
      have Hhg := Lib.hid (fun i => show t.getD (j + 1 + i) 0 = hx.getD i 0 by rw [hhx, List.getD_eq_getElem?_getD, List.getD_eq_getElem?_getD, List.getElem?_drop])
      rw [← hhx] at Hlr
      clear hhx hm
      rcases Nat.mod_two_eq_zero_or_one m with hev | hev
      case' inr =>
        rw [hev] at hmod hmod2
        have Hr := Lib.hid (readB_lines Hlg.out Hhed.out Htw.out (linesR_stop Ht.out (by rw [Hlr.out, unhex_odd (m / 2) hx (by rw [Hhl.out]; exact ar_odd hev)]; rfl)))
        have HI7 := Lib.hid HR.out.iv
        clear hev
        -- slow
        go_wp2_with fail
        refine (bare_any 1 _).mono ?_
        rintro e wb ⟨rfl, hb⟩
        have HX := Lib.hid (bo_set HI7.out hb (.int .i64 0) (.int .i64 0) (.slice none 0 0) (.slice none 0 0) (.int .i64 1) (.int .i64 (-1)))
        obtain ⟨⟨q0, q1, q2, q3⟩, ⟨r0, r1, r2, r3⟩⟩ := cells4 (HI7.out.bq.below hb HI7.out.bq.lt)
        obtain ⟨⟨_, _⟩, ⟨k0, k1⟩⟩ := cells2 (HI7.out.bf.below hb HI7.out.bf.lt)
        clear hb
        go_wp2
        refine bodyPost_ret (res_bo _ _ w.heap.size (w.heap.size + 1) _ _ _ _ _ _ rfl rfl (by with_reducible exact HX.out.1) (by with_reducible exact HX.out.2.1)) rfl ?_
        exact RB.bad Hr.out rfl HX.out.2.2
        -- end
      rw [hev] at hmod hmod2
      obtain ⟨q, hq, hjq⟩ := ar_even hev hmt
      have Hq := Lib.hid hq
      clear hev hq hmt
      rename World => wo
      go_wp2
      go_loopw [16, 17] (fun sv jv wq => ∃ (x a : Nat) (o : Bs), x ≤ q ∧ a = j + 1 + 2 * x ∧ jv = .int .i64 (a : Int) ∧ sv = .string (B8 o) ∧ o.length = x ∧ unhexB (hx.take (2 * x)) = some o ∧ Below wo.heap.size wo wq) (fun _ jv _ => tn + 2 - (intOf jv).toNat)
      case atStart => exact ⟨0, j + 1, [], Nat.zero_le _, rfl, by first | rfl | go_num, rfl, rfl, by rw [Nat.mul_zero, List.take_zero, unhexB], Below.refl _ _⟩
      case round =>
        rename World => wi
        obtain ⟨x, a, o, hxq, ha, rfl, rfl, hol, hun, hbw⟩ := hrel
        have HBw := Lib.hid hbw; have Hun := Lib.hid hun
        have x0 := Hx.out _ hbw
        have Hol := Lib.hid hol
        clear hbw hun hol
        by_cases hxl : x < q
        case neg =>
          obtain ⟨rfl, hatn⟩ := ar_end ha hxq hxl hjq
          clear ha hjq hxl hxq
          have Hun2 := Lib.hid (show unhexB hx = some o by
            have := Hun.out
            rwa [List.take_of_length_le (by rw [Hhl.out, Hq.out]; exact Nat.le_refl _)] at this)
          have Hke2 := Lib.hid (show linesR ((midR s).take (k + 1)) = some (K ++ [(t.take j, o.map UInt8.toNat)]) by
            rw [take_snoc Ht.out]
            exact linesR_snoc (by rw [Hlr.out, Hun2.out]; rfl) HKe.out)
          have HRi := Lib.hid (HR.out.below HBw.out)
          have xe := Hte.out j
          generalize hsn : B8 (t.take j) = sn at xe
          have Hsn := Lib.hid hsn
          generalize hso : B8 o = so
          have Hso := Lib.hid (show so = bytesOf (o.map UInt8.toNat) by rw [bytesOf_nat, ← hso])
          have hjs : j ≤ stt.size := by rw [hts]; exact Nat.le_of_lt hjt
          have hjt' : (j : Int) ≤ (tn : Int) := Int.le_of_lt (nlt_i hjt)
          obtain ⟨⟨o0, o1, o2, o3⟩, _⟩ := cells4 HRi.out.ob
          have hgi : g < wi.heap.size := HRi.out.ob.lt
          have HqF := Lib.hid (fun W (hf : Fr (fun _ => False) wi W) => Nat.le_trans HRi.out.iv.bl.size hf.size)
          have HS := Lib.hid (fun W (hf : Fr (fun _ => False) wi W) => hf.own HRi.out.pr.l (fun _ _ h => h))
          have HNx := Lib.hid (fun W wa v' (hf : Fr (fun _ => False) wi W) (hgr : W.grownBy wa (Value.slice B1 K.length d1).ownBlock) (hown : wa.ownsRow w.heap.size 9 1 v' (K.length + 1) (txS K ++ [.string sn])) (hat : v'.ownBlock = (Value.slice B1 K.length d1).ownBlock ∨ v'.ownBlock = some W.heap.size) => HRi.out.left hf hgr hown hat)
          have hcs1 := str_one1 sn
          clear hsn hso
          have hk0 : (0 : Int) ≤ (k : Int) + 1 := Int.le_trans (Int.natCast_nonneg k) (Int.le_of_lt (Int.lt_succ _))
          go_upto_region 31 with fail
          go_cut [] (fun wx => ∃ z1', RM w wx g #[.int .i64 v1, .int .i64 v2, z1', .slice B2 K.length d2] (.slice (some ⟨bp, op, none⟩) N c2) N (pcs 10 s) z1' (K.length + 1) (txS K ++ [.string sn]) (.slice B2 K.length d2) K.length (chS K))
          case first =>
            go_region_law ((refine step_append_rd _ (by rfl) (.tmp 187) (.tmp 194) _ (by rfl) w.heap.size 9 i1 (.string ⟨#[]⟩) 1 16 Tryz.underlying25 Hi1.out Hy0.out Hy1.out Hy2.out (by rfl) (by decide) (.slice B1 K.length d1) K.length (txS K) (by rfl) (HS.out _ (by repeat (first | exact Fr.refl _ _ | refine Fr.drew ?_ | refine Fr.alloc ?_ _))) _ (some ⟨wi.heap.size, 0, none⟩) 1 1 [.string sn] (by rfl) (one_cell wi 9 (.string sn)) hcs1 hk63 hk8 (HqF.out _ (by repeat (first | exact Fr.refl _ _ | refine Fr.drew ?_ | refine Fr.alloc ?_ _))) ?_; intro v' wa hown hgr hat; obtain ⟨A9, c9, rfl, _, _, _⟩ := own_form hown; have HQ := Lib.hid (HNx.out _ wa _ (by repeat (first | exact Fr.refl _ _ | refine Fr.drew ?_ | refine Fr.alloc ?_ _)) hgr hown hat); clear hown hat hgr; obtain ⟨⟨y0, y1⟩, _⟩ := HQ.out))
            all_goals (go_wp2_with fail; go_meet; exact ⟨_, HQ.out.2⟩)
          case rest =>
            obtain ⟨z1', hR7⟩ := hcut
            have HR7 := Lib.hid hR7
            rename World => w7
            apply_assumption
            obtain ⟨B1', d1', rfl, _, _, _⟩ := own_form hR7.pr.l
            obtain ⟨⟨o0, o1, o2, o3⟩, _⟩ := cells4 hR7.ob
            have HoA := Lib.hid (show (w7.alloc (.cells #[.string so] 9)).ownsRow w.heap.size 9 1 (.slice B2 K.length d2) K.length (chS K) from hR7.pr.r.alloc _)
            have HrA := Lib.hid (one_cell w7 9 (.string so))
            have HzA := Lib.hid (show w.heap.size ≤ (w7.alloc (.cells #[.string so] 9)).heap.size from Nat.le_trans hR7.iv.bl.size (by rw [World.size_alloc]; exact Nat.le_succ _))
            have hcs2 := str_one1 so
            have HNr := Lib.hid (fun wa v' (hgr : (w7.alloc (.cells #[.string so] 9)).grownBy wa (Value.slice B2 K.length d2).ownBlock) (hown : wa.ownsRow w.heap.size 9 1 v' (K.length + 1) (chS K ++ [.string so])) (hat : v'.ownBlock = (Value.slice B2 K.length d2).ownBlock ∨ v'.ownBlock = some (w7.alloc (.cells #[.string so] 9)).heap.size) => HR7.out.right ((Fr.refl _ w7).alloc _) hgr hown hat)
            have hgi7 : g < w7.heap.size := hR7.ob.lt
            clear hR7 HS HNx HRi
            go_wp2_with (at_builtin; refine wpList_append_rd _ rfl (.tmp 198) (.tmp 200) _ rfl w.heap.size 9 i1 (.string ⟨#[]⟩) 1 16 Tryz.underlying25 Hi1.out Hy0.out Hy1.out Hy2.out rfl (by decide) (.slice B2 K.length d2) K.length _ rfl HoA.out _ _ 1 1 [.string so] rfl HrA.out hcs2 hk63 hk8 HzA.out ?_; intro v' wa hown hgr hat; obtain ⟨A9, c9, rfl, _, _, _⟩ := own_form hown; have HQ := Lib.hid (HNr.out wa _ hgr hown hat); clear hown hat hgr; obtain ⟨⟨y0, y1⟩, _⟩ := HQ.out)
            go_roundw
            case rel =>
              go_light
              have h1 := HQ.out.2
              rw [Hso.out, ← Hsn.out] at h1
              have e1 : txS K ++ [.string (B8 (t.take j))] = txS (K ++ [(t.take j, o.map UInt8.toNat)]) := (txS_snoc K (t.take j, o.map UInt8.toNat)).symm
              have e2 : chS K ++ [.string (bytesOf (o.map UInt8.toNat))] = chS (K ++ [(t.take j, o.map UInt8.toNat)]) := (chS_snoc K (t.take j, o.map UInt8.toNat)).symm
              have e3 : K.length + 1 = (K ++ [(t.take j, o.map UInt8.toNat)]).length := by rw [List.length_append]; rfl
              rw [e1, e2] at h1
              have h2 : RM w (wa.setCell ⟨g, 3, none⟩ (.slice A9 (K.length + 1) c9)) g #[.int .i64 v1, .int .i64 v2, .slice B1' (K.length + 1) d1', .slice A9 (K.length + 1) c9] (.slice (some ⟨bp, op, none⟩) N c2) N (pcs 10 s) (.slice B1' (K.length + 1) d1') (K ++ [(t.take j, o.map UInt8.toNat)]).length (txS (K ++ [(t.take j, o.map UInt8.toNat)])) (.slice A9 (K.length + 1) c9) (K ++ [(t.take j, o.map UInt8.toNat)]).length (chS (K ++ [(t.take j, o.map UInt8.toNat)])) := by rw [← e3]; exact h1
              have e4 : (K ++ [(t.take j, o.map UInt8.toNat)]).length = k + 1 := by rw [← e3, HKk.out]
              exact ⟨k + 1, .slice B1' (K.length + 1) d1', .slice A9 (K.length + 1) c9, K ++ [(t.take j, o.map UInt8.toNat)], hkM, ki2 k, h2, e4, Hke2.out⟩
            case measure =>
              go_light
              simp [intOf]; omega
        have Ha := Lib.hid ha
        obtain ⟨a1, a2, a3, a4, a5, a6, a7, a8, a9, a10⟩ := ar_hex ha hxl hjq
        have Hxx := Lib.hid (ar_str hxl hjq htl)
        clear hjq
        have h1 : a < stt.size := by rw [hts]; exact a1
        have h2 : a + 1 < stt.size := by rw [hts]; exact a2
        obtain ⟨c5, hc5⟩ : ∃ c5, hx[2 * x]? = some c5 := ⟨_, List.getElem?_eq_getElem (by rw [Hhl.out, Hq.out]; exact a6)⟩
        obtain ⟨c6, hc6⟩ : ∃ c6, hx[2 * x + 1]? = some c6 := ⟨_, List.getElem?_eq_getElem (by rw [Hhl.out, Hq.out]; exact a7)⟩
        have g5 : t.getD a 0 = c5 := by rw [Ha.out, Hhg.out, List.getD_eq_getElem?_getD, hc5]; rfl
        have g6 : t.getD (a + 1) 0 = c6 := by rw [a9, Hhg.out, List.getD_eq_getElem?_getD, hc6]; rfl
        have w1 := Hta.out a h1
        have w2' := Hta.out (a + 1) h2
        rw [g5] at w1
        rw [g6] at w2'
        have Hc5 := Lib.hid hc5; have Hc6 := Lib.hid hc6; have H8 := Lib.hid a8
        clear hc5 hc6 g5 g6 ha a6 a7 a8 a9 hje hmod hmod2
        go_wp2_with fail
        refine (hexDigit_any c5.toNat (lt256 c5) _).mono ?_
        rintro e w8 ⟨rfl, rfl⟩
        go_wp2_with fail
        refine (hexDigit_any c6.toNat (lt256 c6) _).mono ?_
        rintro e w9 ⟨rfl, rfl⟩
        rename World => wi
        rcases hexZ_or c5 with ⟨v5, z5⟩ | ⟨d5, d5l, v5, z5⟩
        · rw [z5]
          have Hr := Lib.hid (readB_lines Hlg.out Hhed.out Htw.out (linesR_stop Ht.out (by rw [Hlr.out, unhex_stop Hc5.out Hc6.out (.inl v5)]; rfl)))
          have HI7 := Lib.hid (HR.out.iv.below HBw.out)
          clear v5 z5
          -- slow
          go_wp2_with fail
          refine (bare_any 1 _).mono ?_
          rintro e wb ⟨rfl, hb⟩
          have HX := Lib.hid (bo_set HI7.out hb (.int .i64 0) (.int .i64 0) (.slice none 0 0) (.slice none 0 0) (.int .i64 1) (.int .i64 (-1)))
          obtain ⟨⟨q0, q1, q2, q3⟩, ⟨r0, r1, r2, r3⟩⟩ := cells4 (HI7.out.bq.below hb HI7.out.bq.lt)
          obtain ⟨⟨_, _⟩, ⟨k0, k1⟩⟩ := cells2 (HI7.out.bf.below hb HI7.out.bf.lt)
          clear hb
          go_wp2
          refine bodyPost_ret (res_bo _ _ w.heap.size (w.heap.size + 1) _ _ _ _ _ _ rfl rfl (by with_reducible exact HX.out.1) (by with_reducible exact HX.out.2.1)) rfl ?_
          exact RB.bad Hr.out rfl HX.out.2.2
          -- end
        rcases hexZ_or c6 with ⟨v6, z6⟩ | ⟨d6, d6l, v6, z6⟩
        · rw [z5, z6]
          have Hr := Lib.hid (readB_lines Hlg.out Hhed.out Htw.out (linesR_stop Ht.out (by rw [Hlr.out, unhex_stop Hc5.out Hc6.out (.inr v6)]; rfl)))
          have HI7 := Lib.hid (HR.out.iv.below HBw.out)
          have nn5 := nat_nn d5
          clear v5 z5 v6 z6
          -- slow
          go_wp2_with fail
          refine (bare_any 1 _).mono ?_
          rintro e wb ⟨rfl, hb⟩
          have HX := Lib.hid (bo_set HI7.out hb (.int .i64 0) (.int .i64 0) (.slice none 0 0) (.slice none 0 0) (.int .i64 1) (.int .i64 (-1)))
          obtain ⟨⟨q0, q1, q2, q3⟩, ⟨r0, r1, r2, r3⟩⟩ := cells4 (HI7.out.bq.below hb HI7.out.bq.lt)
          obtain ⟨⟨_, _⟩, ⟨k0, k1⟩⟩ := cells2 (HI7.out.bf.below hb HI7.out.bf.lt)
          clear hb
          go_wp2
          refine bodyPost_ret (res_bo _ _ w.heap.size (w.heap.size + 1) _ _ _ _ _ _ rfl rfl (by with_reducible exact HX.out.1) (by with_reducible exact HX.out.2.1)) rfl ?_
          exact RB.bad Hr.out rfl HX.out.2.2
          -- end
        rw [z5, z6]
        have Hmore := Lib.hid (unhex_more Hun.out Hc5.out Hc6.out v5 v6)
        have nn5 := nat_nn d5
        have nn6 := nat_nn d6
        clear v5 z5 v6 z6
        go_wp2_with fail
        refine (byte_two d5 d6 d5l d6l _).mono ?_
        rintro e w8 ⟨rfl, hb⟩
        have HBw8 := Lib.hid (Below.call HBw.out hb HBw.out.size)
        have Hcat := Lib.hid (show B8 o ++ B8 [UInt8.ofNat (16 * d5 + d6)] = B8 (o ++ [UInt8.ofNat (16 * d5 + d6)]) from B8_append _ _)
        have hs1 : (B8 o).size = x := by rw [B8_size, Hol.out]
        have hs2 : (B8 [UInt8.ofNat (16 * d5 + d6)]).size = 1 := B8_size _
        have Hlen := Lib.hid (show (o ++ [UInt8.ofNat (16 * d5 + d6)]).length = x + 1 by rw [List.length_append, Hol.out]; rfl)
        generalize B8 o = so at hs1 Hcat ⊢
        generalize B8 [UInt8.ofNat (16 * d5 + d6)] = sb' at hs2 Hcat ⊢
        have n1 : ¬ 9223372036854775807 < so.size + sb'.size := by rw [hs1, hs2]; exact Hxx.out
        have n2 := Hxx.out
        have Hs1 := Lib.hid hs1; have Hs2 := Lib.hid hs2
        clear hb hs1 hs2 w1 w2' h1 h2 a2 a3 a4 a5 a10 nn5 nn6 x0
        go_wp2
        go_roundw
        case rel =>
          go_light
          exact ⟨x + 1, a + 2, o ++ [UInt8.ofNat (16 * d5 + d6)], hxl, H8.out, by go_num, by rw [Hcat.out], Hlen.out, Hmore.out, HBw8.out⟩
        case measure =>
          go_light
          simp [intOf]; omega
end Go.Proofs.YtfkklcmepcocoaaGreatDoor
