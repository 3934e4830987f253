/- block.Read by its contract. -/
import Derived.Test.YtfkklcmepcocoaaGreatDoorMkoX
import Derived.Test.YtfkklcmepcocoaaGreatDoorMkgX
namespace Go.Proofs.YtfkklcmepcocoaaGreatDoor
open Go.RowKit
set_option linter.unusedVariables false
set_option linter.unusedSimpArgs false
attribute [local go_sem ↓] Go.wp_at_zero Go.wp_at_succ

theorem str_cell {W : World} {b : Nat} {l : List Bs} (h : Blk W b 9 (strL l).toArray) {j : Nat} {p : Bs} (hj : l[j]? = some p) : W.cell? ⟨b, j, none⟩ = some (.string (B8 p)) := by
  rw [h.cell j]
  unfold strL
  simp [hj]
set_option maxRecDepth 100000 in
set_option maxHeartbeats 4000000 in
theorem bread_any {es : Nat → Addr} {B : Nat} (s : Bs) (hl : s.length ≤ 1000000) (w : World) (hS : SBk es B w) (hWl : WalW es B w) (hT : TabAt w) (hTB : 18 < B) (hB0 : B ≤ w.heap.size) (hm : MaxAt w) (hmB : 12 < B) :
    Calls Tryz.prog 36 #[.string (B8 s)] w fun e w' => RdPost es (readB s) w e w' := by
  have hsz : (B8 s).size = s.length := B8_size s
  have HB1 := Lib.hid (Below.alloc (Below.refl w.heap.size w) (Nat.le_refl _) (.cells #[.int .i64 0, .int .i64 0, .slice none 0 0, .slice none 0 0] 27))
  have HK1 := Lib.hid (Blk.new w 27 #[.int .i64 0, .int .i64 0, .slice none 0 0, .slice none 0 0])
  have Hg := Lib.hid (fun W (hb : Below w.heap.size w W) => show W.cell? ⟨0, 0, none⟩ = some (sentV (es 1)) ∧ W.cell? ⟨4, 0, none⟩ = some (sentV (es 0)) from ⟨(hS.below hb hB0).var 1 (by decide), (hS.below hb hB0).var 0 (by decide)⟩)
  have Hsp := Lib.hid (fun W (hb : Below w.heap.size w W) => spl_any 10 s hl W (hm.below hb (Nat.lt_of_lt_of_le hmB hB0)))
  have Hhd := Lib.hid (fun W (hb : Below w.heap.size w W) (p : Bs) (hp : p.length ≤ 100000) => bhead_any p hp W (hWl.below hb hB0) (Nat.le_trans hB0 hb.size) (hm.below hb (Nat.lt_of_lt_of_le hmB hB0)) hmB)
  have Hck := Lib.hid (fun W (hb : Below w.heap.size w W) fr sp A A' n c n' c' ser ch hA hC hsl hcl => bcheck_any (es := es) (B := B) fr sp A A' n c n' c' ser ch W (hS.below hb hB0) (hT.call hb (Nat.le_refl _)) hTB (Nat.le_trans hB0 hb.size) hA hC hsl hcl)
  obtain ⟨n, hn⟩ : ∃ n, n = s.length := ⟨_, rfl⟩
  have Hn := Lib.hid hn
  rw [← hn] at hsz hl
  obtain ⟨N, hN⟩ : ∃ N, N = (pcs 10 s).length := ⟨_, rfl⟩
  have HN := Lib.hid hN
  have hN1 : 1 ≤ N := by have := List.length_pos_iff.2 (pcs_ne 10 s); omega
  have hNm : N ≤ n + 1 := by rw [hN, hn]; exact pcs_max 10 s
  rw [← hN] at Hsp
  generalize hst : B8 s = st at Hsp hsz ⊢
  clear hS hWl hT hTB hB0 hm hmB hN hst hn
  obtain ⟨⟨q0, q1, q2, q3⟩, ⟨r0, r1, r2, r3⟩⟩ := cells4 HK1.out
  by_cases hlong : 20000 < n
  · have hlong' : (20000 : Int) < (n : Int) := by omega
    have Hr := Lib.hid (readB_long (s := s) (by rw [← Hn.out]; exact hlong))
    have e1 := (Hg.out _ HB1.out).1
    have Hz := Lib.hid (set4 (Nat.le_refl _) HB1.out.drew HK1.out.drew (.int .i64 0) (.int .i64 0) (.slice none 0 0) (.slice none 0 0))
    have Hz0 := Lib.hid (set4 (Nat.le_refl _) HB1.out HK1.out (.int .i64 0) (.int .i64 0) (.slice none 0 0) (.slice none 0 0))
    have e2 := (Hg.out _ Hz0.out.2.drew).1
    have e3 := (Hg.out _ Hz.out.2).1
    clear hlong
    go_enter Tryz.func36, Tryz.ntmps36
    go_wp2
    go_region
    all_goals
      go_wp2
      refine bodyPost_ret (res_rb _ _ w.heap.size _ _ _ _ _ rfl rfl (by first | with_reducible exact Hz.out.1 | with_reducible exact Hz0.out.1.drew | with_reducible exact HK1.out.drew | with_reducible exact Hz0.out.1)) rfl ?_
      rw [Hr.out]
      exact RdPost.sent (by decide) rfl (by first | with_reducible exact Hz.out.2 | with_reducible exact Hz0.out.2.drew | with_reducible exact HB1.out.drew | with_reducible exact Hz0.out.2)
  have hlong' : ¬ (20000 : Int) < (n : Int) := by omega
  have Hlg := Lib.hid (show ¬ 20000 < s.length by rw [← Hn.out]; exact hlong)
  have hn2 : n ≤ 20000 := by omega
  obtain ⟨p0, hp0⟩ : ∃ p0, (pcs 10 s)[0]? = some p0 := ⟨_, List.getElem?_eq_getElem (by rw [← HN.out]; exact hN1)⟩
  have Hp0 := Lib.hid hp0
  have Hh0 := Lib.hid (show (pcs 10 s).headD [] = p0 by
    have := hp0
    match hh : pcs 10 s, this with
    | a :: l, h => simpa using h)
  have hpl0 : p0.length ≤ 100000 := by have := pcs_mem 10 s p0 (List.mem_of_getElem? hp0); rw [← Hn.out] at this; omega
  have Hh1 := Lib.hid (fun W hb => Hhd.out W hb p0 hpl0)
  clear hp0 hpl0 Hhd q0 q1 q2 q3 r0 r1 r2 r3 hlong
  go_enter Tryz.func36, Tryz.ntmps36
  go_wp2_with fail
  refine (Hsp.out _ HB1.out).mono ?_
  rintro e w2 ⟨b, rfl, hk, hlt, hb⟩
  have HB2 := Lib.hid (Below.call HB1.out hb HB1.out.size)
  have HK2 := Lib.hid (HK1.out.below hb HK1.out.lt)
  have HP2 := Lib.hid hk
  have hwb : w.heap.size < b := Nat.lt_of_lt_of_le HK1.out.lt hlt
  have Hwb := Lib.hid hwb
  have x0 := str_cell hk Hp0.out
  generalize hs0 : B8 p0 = s0 at x0 Hh1
  clear hk hb hlt hs0 hwb
  have hN1' : (0 : Int) < (N : Int) := by omega
  go_wp2_with fail
  refine (Hh1.out _ HB2.out).mono ?_
  rintro e w3 ⟨f, sp, m, ok, rfl, y, no, ⟨i1, i2, i3⟩, hb⟩
  have HB3 := Lib.hid (Below.call HB2.out hb HB2.out.size)
  have HK3 := Lib.hid (HK2.out.below hb HK2.out.lt)
  have HP3 := Lib.hid (HP2.out.below hb HP2.out.lt)
  have HB4 := Lib.hid (Below.alloc HB3.out HB3.out.size (.cells #[.int .i64 f, .int .i64 sp, .slice none 0 0, .slice none 0 0] 27))
  have HK4 := Lib.hid (HK3.out.alloc (.cells #[.int .i64 f, .int .i64 sp, .slice none 0 0, .slice none 0 0] 27))
  have HP4 := Lib.hid (HP3.out.alloc (.cells #[.int .i64 f, .int .i64 sp, .slice none 0 0, .slice none 0 0] 27))
  have HL4 := Lib.hid (Blk.new w3 27 #[.int .i64 f, .int .i64 sp, .slice none 0 0, .slice none 0 0])
  have Hy := Lib.hid y; have Hno := Lib.hid no; have Hi := Lib.hid (And.intro i1 (And.intro i2 i3))
  clear hb x0 y no i1 i2
  have Hbad := Lib.hid (fun (hr : readB s = ((1, -1), (0, 0), [])) => hr)
  cases ok with
  | false =>
    have Hr := Lib.hid (readB_head Hlg.out (by rw [Hh0.out]; exact Hno.out rfl))
    have e1 := (Hg.out _ HB4.out).2
    obtain ⟨⟨q0, q1, q2, q3⟩, ⟨r0, r1, r2, r3⟩⟩ := cells4 HK4.out
    have Hz := Lib.hid (set4 (Nat.le_refl _) HB4.out.drew HK4.out.drew (.int .i64 0) (.int .i64 0) (.slice none 0 0) (.slice none 0 0))
    have Hz0 := Lib.hid (set4 (Nat.le_refl _) HB4.out HK4.out (.int .i64 0) (.int .i64 0) (.slice none 0 0) (.slice none 0 0))
    have e2 := (Hg.out _ Hz0.out.2.drew).2
    have e3 := (Hg.out _ Hz.out.2).2
    go_wp2
    go_region
    all_goals
      go_wp2
      refine bodyPost_ret (res_rb _ _ w.heap.size _ _ _ _ _ rfl rfl (by first | with_reducible exact Hz.out.1 | with_reducible exact Hz0.out.1.drew | with_reducible exact HK1.out.drew | with_reducible exact Hz0.out.1)) rfl ?_
      rw [Hr.out]
      exact RdPost.sent (by decide) rfl (by first | with_reducible exact Hz.out.2 | with_reducible exact Hz0.out.2.drew | with_reducible exact HB1.out.drew | with_reducible exact Hz0.out.2)
  | true =>
    have Hhed := Lib.hid (show hedB ((pcs 10 s).headD []) = some (f, sp, m) by rw [Hh0.out]; exact Hy.out rfl)
    clear Hy Hno Hbad
    obtain ⟨pl, hpl⟩ : ∃ pl, (pcs 10 s)[N - 1]? = some pl := ⟨_, List.getElem?_eq_getElem (by rw [← HN.out]; omega)⟩
    have Hlast := Lib.hid (show (pcs 10 s).getLast? = some pl by rw [List.getLast?_eq_getElem?, ← HN.out]; exact hpl)
    have xl := str_cell HP4.out hpl
    have Hsl := Lib.hid (B8_toList pl)
    generalize hsl : B8 pl = sl at xl Hsl
    clear hpl hsl
    have t1 : ((N : Int) - 1).toNat = N - 1 := by omega
    have t2 : IntKind.i64.wrap ((N : Int) - 1) = (N : Int) - 1 := by rw [IntKind.wrap_i64]; omega
    have t3 : IntKind.i64.wrap ((N : Int) - 2) = (N : Int) - 2 := by rw [IntKind.wrap_i64]; omega
    have t4 : (0 : Int) ≤ (N : Int) - 1 := by omega
    by_cases hle : pl = []
    case neg =>
      have e0 : (sl.toList == []) = false := by rw [Hsl.out, beq_eq_false_iff_ne]; exact hle
      have Hr := Lib.hid (readB_ends Hlg.out Hhed.out (fun h => hle (by have := h.1; rw [Hlast.out] at this; injection this)))
      have e1 := (Hg.out _ HB4.out).2
      obtain ⟨⟨q0, q1, q2, q3⟩, ⟨r0, r1, r2, r3⟩⟩ := cells4 HK4.out
      have Hz := Lib.hid (set4 (Nat.le_refl _) HB4.out.drew HK4.out.drew (.int .i64 0) (.int .i64 0) (.slice none 0 0) (.slice none 0 0))
      have Hz0 := Lib.hid (set4 (Nat.le_refl _) HB4.out HK4.out (.int .i64 0) (.int .i64 0) (.slice none 0 0) (.slice none 0 0))
      have e2 := (Hg.out _ Hz0.out.2.drew).2
      have e3 := (Hg.out _ Hz.out.2).2
      clear hle
      go_wp2
      go_region
      all_goals
        go_wp2
        refine bodyPost_ret (res_rb _ _ w.heap.size _ _ _ _ _ rfl rfl (by first | with_reducible exact Hz.out.1 | with_reducible exact Hz0.out.1.drew | with_reducible exact HK1.out.drew | with_reducible exact Hz0.out.1)) rfl ?_
        rw [Hr.out]
        exact RdPost.sent (by decide) rfl (by first | with_reducible exact Hz.out.2 | with_reducible exact Hz0.out.2.drew | with_reducible exact HB1.out.drew | with_reducible exact Hz0.out.2)
    have e0 : (sl.toList == []) = true := by rw [Hsl.out, hle]; rfl
    have Hla := Lib.hid (show (pcs 10 s).getLast? = some [] by rw [Hlast.out, hle])
    clear hle
    by_cases hmn : (N : Int) - 2 = m
    case neg =>
      have em : ((N : Int) - 2 == m) = false := by rw [beq_eq_false_iff_ne]; exact hmn
      have Hr := Lib.hid (readB_ends Hlg.out Hhed.out (fun h => hmn (by rw [HN.out]; exact h.2)))
      have e1 := (Hg.out _ HB4.out).2
      obtain ⟨⟨q0, q1, q2, q3⟩, ⟨r0, r1, r2, r3⟩⟩ := cells4 HK4.out
      have Hz := Lib.hid (set4 (Nat.le_refl _) HB4.out.drew HK4.out.drew (.int .i64 0) (.int .i64 0) (.slice none 0 0) (.slice none 0 0))
      have Hz0 := Lib.hid (set4 (Nat.le_refl _) HB4.out HK4.out (.int .i64 0) (.int .i64 0) (.slice none 0 0) (.slice none 0 0))
      have e2 := (Hg.out _ Hz0.out.2.drew).2
      have e3 := (Hg.out _ Hz.out.2).2
      go_wp2
      go_region
      all_goals
        go_wp2
        refine bodyPost_ret (res_rb _ _ w.heap.size _ _ _ _ _ rfl rfl (by first | with_reducible exact Hz.out.1 | with_reducible exact Hz0.out.1.drew | with_reducible exact HK1.out.drew | with_reducible exact Hz0.out.1)) rfl ?_
        rw [Hr.out]
        exact RdPost.sent (by decide) rfl (by first | with_reducible exact Hz.out.2 | with_reducible exact Hz0.out.2.drew | with_reducible exact HB1.out.drew | with_reducible exact Hz0.out.2)
    have em : ((N : Int) - 2 == m) = true := by rw [beq_iff_eq]; exact hmn
    have em2 : ((N : Int) - 2 != m) = false := by rw [bne, em]; rfl
    have Hmn := Lib.hid hmn
    have hN2 : 2 ≤ N := by rw [HN.out]; exact two_of Hhed.out Hla.out
    obtain ⟨M, hM⟩ : ∃ M, M = N - 2 := ⟨_, rfl⟩
    have HMe := Lib.hid hM
    have t5 : (1 : Int) ≤ (N : Int) - 1 := by omega
    have t6 : (N : Int) - 1 ≤ (N : Int) := by omega
    have e7 : N - 1 - 1 = M := by omega
    have hMn : M ≤ 20000 := by omega
    clear hmn hM
    go_wp2
    obtain ⟨i0, hi, hz0, hz1, hz2⟩ := info_parts infoSt
    have Hi1 := Lib.hid hi; have Hz0 := Lib.hid hz0; have Hz1 := Lib.hid hz1; have Hz2 := Lib.hid hz2
    clear hi hz0 hz1 hz2
    have HM4 := Lib.hid (show MR w (w3.alloc (.cells #[.int .i64 f, .int .i64 sp, .slice none 0 0, .slice none 0 0] 27)) w.heap.size w3.heap.size b #[.int .i64 f, .int .i64 sp, .slice none 0 0, .slice none 0 0] (strL (pcs 10 s)).toArray (.slice none 0 0) 0 [] (.slice none 0 0) 0 [] from ⟨HL4.out, HK4.out, Pair.nil _ _ _, HP4.out, fun k h => (by cases h), fun k h => (by cases h), HB4.out⟩)
    have HqH := Lib.hid (show w.heap.size ≠ w3.heap.size ∧ b ≠ w3.heap.size ∧ w.heap.size ≤ w3.heap.size from ⟨Nat.ne_of_lt HK3.out.lt, Nat.ne_of_lt HP3.out.lt, HB3.out.size⟩)
    generalize w3.alloc (.cells #[.int .i64 f, .int .i64 sp, .slice none 0 0, .slice none 0 0] 27) = wx at HM4 ⊢
    clear HB1 HK1 HB2 HK2 HP2 HB3 HK3 HP3 HB4 HK4 HP4 HL4 xl e0 t1 t2 t3 t4 t5 t6 em em2
    generalize w3.heap.size = H at HM4 HqH ⊢
    have Htw := Lib.hid (show (pcs 10 s).getLast? = some [] ∧ ((pcs 10 s).length : Int) - 2 = m from ⟨Hla.out, by rw [← HN.out]; exact Hmn.out⟩)
    have Hlm := Lib.hid (show (midR s).length = M by rw [midR_len, HMe.out, HN.out])
    have Hml := Lib.hid (fun t (ht : t ∈ midR s) => (Nat.le_trans (midR_mem t ht) (by rw [← Hn.out]; exact hn2) : t.length ≤ 20000))
    clear Hsp Hh1 Hla Hlast Hsl hN1' hN2 Hh0 Hp0
    go_loopw [57] (fun kv wr => ∃ (k : Nat) (v1 v2 : Value) (K : List (Bs × List Nat)), k ≤ M ∧ kv = .int .i64 k ∧ MR w wr w.heap.size H b #[.int .i64 f, .int .i64 sp, v1, v2] (strL (pcs 10 s)).toArray v1 K.length (txS K) v2 K.length (chS K) ∧ K.length = k ∧ linesR ((midR s).take k) = some K) (fun kv _ => M - (intOf kv).toNat)
    case atStart => exact ⟨0, _, _, [], Nat.zero_le _, rfl, HM4.out, rfl, rfl⟩
    case round =>
      obtain ⟨k, v1, v2, K, hk, rfl, hmr, hKk, hKe⟩ := hrel
      obtain ⟨A1, c1, rfl, _, _, _⟩ := own_form hmr.pr.l
      obtain ⟨A2, c2, rfl, _, _, _⟩ := own_form hmr.pr.r
      have HM := Lib.hid hmr; have HKe := Lib.hid hKe; have HKk := Lib.hid hKk
      have hk63 : K.length + 1 ≤ maxLen := by unfold maxLen; omega
      have hk8 : (K.length + 1) * 16 ≤ 140737488355328 := by omega
      clear hKk
      by_cases hkM : k < M
      · have hkM' : (k : Int) < M := by omega
        obtain ⟨t, ht⟩ : ∃ t, (midR s)[k]? = some t := ⟨_, List.getElem?_eq_getElem (by rw [Hlm.out]; exact hkM)⟩
        have ht2 : (pcs 10 s)[k + 1]? = some t := by rw [← midR_at (by rw [Hlm.out]; exact hkM)]; exact ht
        have x0 := str_cell hmr.pb ht2
        have x0' : wr.cell? ⟨b, 1 + k, none⟩ = some (.string (B8 t)) := by rw [Nat.add_comm]; exact x0
        have Ht := Lib.hid ht
        have htl : t.length ≤ 20000 := Hml.out t (List.mem_of_getElem? ht)
        clear hmr hKe ht ht2
        cases hc : cutG 32 t with
        | none =>
          have Hcu := Lib.hid (cutg_none 32 t hc wr)
          have Hun := Lib.hid (fun W => (unhex_any [] (Nat.zero_le _) W).mono (fun e w' (h : UnPost [] W e w') => (⟨h.1 [] (by rw [unhexB]), h.2.2⟩ : e = .returned (.tuple #[.string ⟨#[]⟩, .bool true]) ∧ Below W.heap.size W w')))
          have Hr := Lib.hid (readB_lines Hlg.out Hhed.out Htw.out (linesR_stop Ht.out (show lineR t = none by unfold lineR; rw [hc])))
          generalize B8 t = stt at x0 x0' Hcu
          clear hc
          go_wp2_with fail
          refine Hcu.out.mono ?_
          rintro e w5 ⟨rfl, hb⟩
          have HM5 := Lib.hid (HM.out.below hb)
          clear hb x0 x0'
          go_wp2_with fail
          refine (Hun.out _).mono ?_
          rintro e w6 ⟨rfl, hb⟩
          have HM6 := Lib.hid (HM5.out.below hb)
          clear hb
          have e1 := (Hg.out _ HM6.out.bl).2
          obtain ⟨⟨q0, q1, q2, q3⟩, ⟨r0, r1, r2, r3⟩⟩ := cells4 HM6.out.zb
          have Hz := Lib.hid (set4 (Nat.le_refl _) HM6.out.bl.drew HM6.out.zb.drew (.int .i64 0) (.int .i64 0) (.slice none 0 0) (.slice none 0 0))
          have Hz0 := Lib.hid (set4 (Nat.le_refl _) HM6.out.bl HM6.out.zb (.int .i64 0) (.int .i64 0) (.slice none 0 0) (.slice none 0 0))
          have e2 := (Hg.out _ Hz0.out.2.drew).2
          have e3 := (Hg.out _ Hz.out.2).2
          go_wp2
          go_region
          all_goals
            go_wp2
            refine bodyPost_ret (res_rb _ _ w.heap.size _ _ _ _ _ rfl rfl (by first | with_reducible exact Hz.out.1 | with_reducible exact Hz0.out.1.drew | with_reducible exact Hz0.out.1)) rfl ?_
            rw [Hr.out]
            exact RdPost.sent (by decide) rfl (by first | with_reducible exact Hz.out.2 | with_reducible exact Hz0.out.2.drew | with_reducible exact Hz0.out.2)
        | some q =>
          have hql : q.2.length ≤ 20000 := by
            have := (cutG_some hc).1
            have h2 : t.length = q.1.length + (q.2.length + 1) := by rw [this, List.length_append, List.length_cons]
            omega
          have Hcu := Lib.hid (cutg_some 32 t q hc (by omega) wr)
          have Hun := Lib.hid (fun W => unhex_any q.2 (by omega) W)
          have Hc := Lib.hid hc
          generalize B8 t = stt at x0 x0' Hcu
          generalize hdg : B8 q.2 = dg at Hcu Hun
          generalize hsn : B8 q.1 = sn at Hcu
          have Hsn := Lib.hid hsn
          clear hc hql hdg hsn
          go_wp2_with fail
          refine Hcu.out.mono ?_
          rintro e w5 ⟨rfl, hb⟩
          have HM5 := Lib.hid (HM.out.below hb)
          clear hb x0 x0'
          cases hu : unhexB q.2 with
          | none =>
            have Hr := Lib.hid (readB_lines Hlg.out Hhed.out Htw.out (linesR_stop Ht.out (show lineR t = none by unfold lineR; rw [Hc.out]; simp only; rw [hu]; rfl)))
            go_wp2_with fail
            refine (Hun.out _).mono ?_
            rintro e w6 ⟨_, hno, hb⟩
            obtain rfl := hno hu
            have HM6 := Lib.hid (HM5.out.below hb)
            clear hb hno hu
            have e1 := (Hg.out _ HM6.out.bl).2
            obtain ⟨⟨q0, q1, q2, q3⟩, ⟨r0, r1, r2, r3⟩⟩ := cells4 HM6.out.zb
            have Hz := Lib.hid (set4 (Nat.le_refl _) HM6.out.bl.drew HM6.out.zb.drew (.int .i64 0) (.int .i64 0) (.slice none 0 0) (.slice none 0 0))
            have Hz0 := Lib.hid (set4 (Nat.le_refl _) HM6.out.bl HM6.out.zb (.int .i64 0) (.int .i64 0) (.slice none 0 0) (.slice none 0 0))
            have e2 := (Hg.out _ Hz0.out.2.drew).2
            have e3 := (Hg.out _ Hz.out.2).2
            go_wp2
            go_region
            all_goals
              go_wp2
              refine bodyPost_ret (res_rb _ _ w.heap.size _ _ _ _ _ rfl rfl (by first | with_reducible exact Hz.out.1 | with_reducible exact Hz0.out.1.drew | with_reducible exact Hz0.out.1)) rfl ?_
              rw [Hr.out]
              exact RdPost.sent (by decide) rfl (by first | with_reducible exact Hz.out.2 | with_reducible exact Hz0.out.2.drew | with_reducible exact Hz0.out.2)
          | some o =>
            have Hke := Lib.hid (show linesR ((midR s).take (k + 1)) = some (K ++ [(q.1, o.map UInt8.toNat)]) by
              rw [take_snoc Ht.out]
              exact linesR_snoc (show lineR t = some (q.1, o.map UInt8.toNat) by unfold lineR; rw [Hc.out]; simp only; rw [hu]; rfl) HKe.out)
            generalize hcst : B8 o = cst
            have Hcst := Lib.hid hcst
            have Hun2 := Lib.hid (fun W => (Hun.out W).mono (fun e w' (h : UnPost q.2 W e w') => (⟨by rw [← hcst]; exact h.1 o hu, h.2.2⟩ : e = .returned (.tuple #[.string cst, .bool true]) ∧ Below W.heap.size W w')))
            clear hcst hu
            go_wp2_with fail
            refine (Hun2.out _).mono ?_
            rintro e w6 ⟨rfl, hb⟩
            have HM6 := Lib.hid (HM5.out.below hb)
            clear hb
            go_wp2
            refine wp_region_heldG (S := fun w' => w'.cell? ⟨H, 2, none⟩ = some (.slice A1 K.length c1) ∧ w'.cell? ⟨H, 3, none⟩ = some (.slice A2 K.length c2)) (gs := [11, 13]) (by kernel_rfl) ?_
            have HM0 := Lib.hid HM6.out.drew
            have hHeld := HM0.out.held
            generalize w6.drew = W0 at HM0 hHeld ⊢
            refine wpAnyG_takeW (i := 0) (v := ?_) rfl (by kernel_rfl) (by kernel_rfl) (by kernel_rfl) (by kernel_rfl) (fun _ _ _ h => h) (Or.inl ⟨by rfl, ?_⟩) (fun _ => hHeld) ?_
            rotate_left
            focus (intro wx hSw; go_simp; try with_reducible rfl)
            try simp only [Act.put, List.setIfInBounds_toArray, List.set_cons_zero, List.set_cons_succ]
            refine wpAnyG_takeW (i := 2) (v := ?_) rfl (by kernel_rfl) (by kernel_rfl) (by kernel_rfl) (by kernel_rfl) (fun _ _ _ h => h) (Or.inl ⟨by rfl, ?_⟩) (fun _ => hHeld) ?_
            rotate_left
            focus (intro wx hSw; go_simp; try with_reducible rfl)
            try simp only [Act.put, List.setIfInBounds_toArray, List.set_cons_zero, List.set_cons_succ]
            refine wpAnyG_takeW (i := 5) (v := ?_) rfl (by kernel_rfl) (by kernel_rfl) (by kernel_rfl) (by kernel_rfl) (fun _ _ _ h => h) (Or.inl ⟨by rfl, ?_⟩) (fun _ => hHeld) ?_
            rotate_left
            focus (intro wx hSw; go_simp; try with_reducible rfl)
            try simp only [Act.put, List.setIfInBounds_toArray, List.set_cons_zero, List.set_cons_succ]
            refine wpAnyG_takeW (i := 7) (v := ?_) rfl (by kernel_rfl) (by kernel_rfl) (by kernel_rfl) (by kernel_rfl) (fun _ _ _ h => h) (Or.inl ⟨by rfl, ?_⟩) (fun _ => hHeld) ?_
            rotate_left
            focus (intro wx hSw; go_simp; try with_reducible rfl)
            try simp only [Act.put, List.setIfInBounds_toArray, List.set_cons_zero, List.set_cons_succ]
            refine wpAnyG_take (i := 1) (v := .slice A1 K.length c1) rfl (by kernel_rfl) (by kernel_rfl) (by kernel_rfl) (by kernel_rfl) (fun _ _ _ h => h) (Or.inl ⟨by rfl, ?_⟩) hHeld ?_
            focus (intro wx hSw; (try dsimp only at hSw); go_simp; try with_reducible rfl)
            try simp only [Act.put, List.setIfInBounds_toArray, List.set_cons_zero, List.set_cons_succ]
            refine wpAnyG_take (i := 6) (v := .slice A2 K.length c2) rfl (by kernel_rfl) (by kernel_rfl) (by kernel_rfl) (by kernel_rfl) (fun _ _ _ h => h) (Or.inl ⟨by rfl, ?_⟩) hHeld ?_
            focus (intro wx hSw; (try dsimp only at hSw); go_simp; try with_reducible rfl)
            try simp only [Act.put, List.setIfInBounds_toArray, List.set_cons_zero, List.set_cons_succ]
            clear hHeld
            refine wpAnyG_ready (rs := [3, 8]) (by kernel_rfl) (by simp) ?_
            refine AllReadyG.cons rfl (fun KK hKK => ?_) (AllReadyG.cons rfl (fun KK hKK => ?_) AllReadyG.nil)
            · -- 4
              go_simp
              have HM1 := Lib.hid (HM0.out.alloc (.cells #[.string sn] 9))
              have HU1 := Lib.hid (Blk.new W0 9 #[.string sn])
              refine hKK.out _ _ (fun _ => HM1.out.held) (fun _ => ?_)
              clear hKK KK
              have hz1 : W0.heap.size < (W0.alloc (.cells #[.string sn] 9)).heap.size := by simp
              generalize W0.alloc (.cells #[.string sn] 9) = W1 at HM1 HU1  hz1 ⊢
              try simp only [Act.put, List.setIfInBounds_toArray, List.set_cons_zero, List.set_cons_succ]
              refine wpAnyG_ready (rs := [4, 8]) (by kernel_rfl) (by simp) ?_
              refine AllReadyG.cons rfl (fun KK hKK => ?_) (AllReadyG.cons rfl (fun KK hKK => ?_) AllReadyG.nil)
              · -- 4 5 9 10
                refine step_append_rd _ (by rfl) (.tmp 81) (.tmp 83) _ (by rfl) w.heap.size 9 i0 (.string ⟨#[]⟩) 1 16 Tryz.underlying25 Hi1.out Hz0.out Hz1.out Hz2.out (by rfl) (by decide) (.slice A1 K.length c1) K.length _ (by rfl) HM1.out.pr.l _ _ 1 1 [.string sn] (by rfl) (Rd.of_blk1 HU1.out) (str_one1 sn) hk63 hk8 HM1.out.bl.size ?_
                intro v' W2 hown hgr hat
                have HM2 := Lib.hid (HM1.out.left hown hgr hat)
                obtain ⟨An, cn, rfl, _, _, _⟩ := own_form hown
                clear hown hgr hat
                refine hKK.out _ _ (fun _ => HM2.out.held) (fun _ => ?_)
                clear hKK KK
                try simp only [Act.put, List.setIfInBounds_toArray, List.set_cons_zero, List.set_cons_succ]
                refine wpAnyG_takeW (i := 10) (v := ?_) rfl (by kernel_rfl) (by kernel_rfl) (by kernel_rfl) (by kernel_rfl) (fun _ _ _ h => h) (Or.inl ⟨by rfl, ?_⟩) (fun _ => HM2.out.held) ?_
                rotate_left
                focus (intro wx hSw; go_simp; try with_reducible rfl)
                try simp only [Act.put, List.setIfInBounds_toArray, List.set_cons_zero, List.set_cons_succ]
                refine wpAnyG_ready (rs := [8]) (by kernel_rfl) (by simp) ?_
                refine AllReadyG.cons rfl (fun KK hKK => ?_) AllReadyG.nil
                go_simp
                have HM3 := Lib.hid (HM2.out.alloc (.cells #[.string cst] 9))
                have HU2 := Lib.hid (Blk.new W2 9 #[.string cst])
                refine hKK.out _ _ (fun _ => HM3.out.held) (fun _ => ?_)
                clear hKK KK
                have hz3 : W2.heap.size < (W2.alloc (.cells #[.string cst] 9)).heap.size := by simp
                generalize W2.alloc (.cells #[.string cst] 9) = W3 at HM3 HU2  hz3 ⊢
                try simp only [Act.put, List.setIfInBounds_toArray, List.set_cons_zero, List.set_cons_succ]
                refine wpAnyG_ready (rs := [9]) (by kernel_rfl) (by simp) ?_
                refine AllReadyG.cons rfl (fun KK hKK => ?_) AllReadyG.nil
                refine step_append_rd _ (by rfl) (.tmp 86) (.tmp 88) _ (by rfl) w.heap.size 9 i0 (.string ⟨#[]⟩) 1 16 Tryz.underlying25 Hi1.out Hz0.out Hz1.out Hz2.out (by rfl) (by decide) (.slice A2 K.length c2) K.length _ (by rfl) HM3.out.pr.r _ _ 1 1 [.string cst] (by rfl) (Rd.of_blk1 HU2.out) (str_one1 cst) hk63 hk8 HM3.out.bl.size ?_
                intro v' W4 hown hgr hat
                have HM4 := Lib.hid (HM3.out.right hown hgr hat)
                obtain ⟨Am, cm, rfl, _, _, _⟩ := own_form hown
                clear hown hgr hat
                refine hKK.out _ _ (fun _ => HM4.out.held) (fun _ => ?_)
                clear hKK KK
                try simp only [Act.put, List.setIfInBounds_toArray, List.set_cons_zero, List.set_cons_succ]
                refine wpAnyG_ready (rs := [11]) (by kernel_rfl) (by simp) ?_
                refine AllReadyG.cons rfl (fun KK hKK => ?_) AllReadyG.nil
                obtain ⟨⟨z0, z1, z2, z3⟩, ⟨r0, r1, r2, r3⟩⟩ := cells4 HM4.out.hd
                go_simp
                refine hKK.out _ _ (fun h => nomatch (show false = true from h)) (fun _ => ?_)
                clear hKK KK
                try simp only [Act.put, List.setIfInBounds_toArray, List.set_cons_zero, List.set_cons_succ]
                refine wpAnyG_takeW (i := 12) (v := ?_) rfl (by kernel_rfl) (by kernel_rfl) (by kernel_rfl) (by kernel_rfl) (fun _ _ _ h => h) (Or.inl ⟨by rfl, ?_⟩) (fun h => nomatch (show false = true from h)) ?_
                rotate_left
                focus (intro wx hSw; go_simp; try with_reducible rfl)
                try simp only [Act.put, List.setIfInBounds_toArray, List.set_cons_zero, List.set_cons_succ]
                refine wpAnyG_ready (rs := [13]) (by kernel_rfl) (by simp) ?_
                refine AllReadyG.cons rfl (fun KK hKK => ?_) AllReadyG.nil
                have s2 := (HM4.out.hd.set_ 2 (.slice An (K.length + 1) cn)).cell 3
                have s3 := (HM4.out.hd.set_ 2 (.slice An (K.length + 1) cn)).frozen 3
                simp only [List.setIfInBounds_toArray, List.set_cons_zero, List.set_cons_succ, List.getElem?_toArray, List.getElem?_cons_zero, List.getElem?_cons_succ] at s2
                go_simp
                refine hKK.out _ _ (fun h => nomatch (show false = true from h)) (fun _ => ?_)
                clear hKK KK z0 z1 z2 z3 r0 r1 r2 r3 s2 s3
                try simp only [Act.put, List.setIfInBounds_toArray, List.set_cons_zero, List.set_cons_succ]
                refine wpAnyG_done (by kernel_rfl) ?_ _
                have HMF := Lib.hid (HM4.out.stored HqH.out.1 HqH.out.2.1 HqH.out.2.2)
                clear HM0 HM1 HM2 HM3 HM4
                generalize (W4.setCell ⟨H, 2, none⟩ (.slice An (K.length + 1) cn)).setCell ⟨H, 3, none⟩ (.slice Am (K.length + 1) cm) = WF at HMF ⊢
                go_wp2
                go_roundw
                case rel =>
                  refine ⟨k + 1, .slice An (K.length + 1) cn, .slice Am (K.length + 1) cm, K ++ [(q.1, o.map UInt8.toNat)], by omega, by go_num, ?_, by rw [List.length_append, HKk.out]; rfl, ?_⟩
                  · have hp := HMF.out
                    rw [← Hsn.out, ← Hcst.out] at hp
                    rw [show txS (K ++ [(q.1, o.map UInt8.toNat)]) = txS K ++ [.string (B8 q.1)] by unfold txS; rw [List.map_append]; rfl, show chS (K ++ [(q.1, o.map UInt8.toNat)]) = chS K ++ [.string (B8 o)] by unfold chS; rw [List.map_append]; show _ ++ [Value.string (bytesOf (o.map UInt8.toNat))] = _; rw [bytesOf_nat], List.length_append]
                    exact hp
                  · exact Hke.out
                case measure => simp [intOf]; omega
              · -- 4 9 5 10
                go_simp
                have HM2 := Lib.hid (HM1.out.alloc (.cells #[.string cst] 9))
                have HU2 := Lib.hid (Blk.new W1 9 #[.string cst])
                refine hKK.out _ _ (fun _ => HM2.out.held) (fun _ => ?_)
                clear hKK KK
                have HU1' := Lib.hid (HU1.out.alloc (.cells #[.string cst] 9))
                have hz2 : W1.heap.size < (W1.alloc (.cells #[.string cst] 9)).heap.size := by simp
                generalize W1.alloc (.cells #[.string cst] 9) = W2 at HM2 HU2 HU1' hz2 ⊢
                clear HU1
                have HU1 := HU1'
                clear HU1'
                try simp only [Act.put, List.setIfInBounds_toArray, List.set_cons_zero, List.set_cons_succ]
                refine wpAnyG_ready (rs := [4]) (by kernel_rfl) (by simp) ?_
                refine AllReadyG.cons rfl (fun KK hKK => ?_) AllReadyG.nil
                refine step_append_rd _ (by rfl) (.tmp 81) (.tmp 83) _ (by rfl) w.heap.size 9 i0 (.string ⟨#[]⟩) 1 16 Tryz.underlying25 Hi1.out Hz0.out Hz1.out Hz2.out (by rfl) (by decide) (.slice A1 K.length c1) K.length _ (by rfl) HM2.out.pr.l _ _ 1 1 [.string sn] (by rfl) (Rd.of_blk1 HU1.out) (str_one1 sn) hk63 hk8 HM2.out.bl.size ?_
                intro v' W3 hown hgr hat
                have HM3 := Lib.hid (HM2.out.left hown hgr hat)
                have HV2 := Lib.hid (HM1.out.far (Nat.le_of_eq rfl) HU2.out hgr)
                obtain ⟨An, cn, rfl, _, _, _⟩ := own_form hown
                clear hown hgr hat
                refine hKK.out _ _ (fun _ => HM3.out.held) (fun _ => ?_)
                clear hKK KK
                try simp only [Act.put, List.setIfInBounds_toArray, List.set_cons_zero, List.set_cons_succ]
                refine wpAnyG_takeW (i := 10) (v := ?_) rfl (by kernel_rfl) (by kernel_rfl) (by kernel_rfl) (by kernel_rfl) (fun _ _ _ h => h) (Or.inl ⟨by rfl, ?_⟩) (fun _ => HM3.out.held) ?_
                rotate_left
                focus (intro wx hSw; go_simp; try with_reducible rfl)
                try simp only [Act.put, List.setIfInBounds_toArray, List.set_cons_zero, List.set_cons_succ]
                refine wpAnyG_ready (rs := [9]) (by kernel_rfl) (by simp) ?_
                refine AllReadyG.cons rfl (fun KK hKK => ?_) AllReadyG.nil
                refine step_append_rd _ (by rfl) (.tmp 86) (.tmp 88) _ (by rfl) w.heap.size 9 i0 (.string ⟨#[]⟩) 1 16 Tryz.underlying25 Hi1.out Hz0.out Hz1.out Hz2.out (by rfl) (by decide) (.slice A2 K.length c2) K.length _ (by rfl) HM3.out.pr.r _ _ 1 1 [.string cst] (by rfl) (Rd.of_blk1 HV2.out) (str_one1 cst) hk63 hk8 HM3.out.bl.size ?_
                intro v' W4 hown hgr hat
                have HM4 := Lib.hid (HM3.out.right hown hgr hat)
                obtain ⟨Am, cm, rfl, _, _, _⟩ := own_form hown
                clear hown hgr hat
                refine hKK.out _ _ (fun _ => HM4.out.held) (fun _ => ?_)
                clear hKK KK
                try simp only [Act.put, List.setIfInBounds_toArray, List.set_cons_zero, List.set_cons_succ]
                refine wpAnyG_ready (rs := [11]) (by kernel_rfl) (by simp) ?_
                refine AllReadyG.cons rfl (fun KK hKK => ?_) AllReadyG.nil
                obtain ⟨⟨z0, z1, z2, z3⟩, ⟨r0, r1, r2, r3⟩⟩ := cells4 HM4.out.hd
                go_simp
                refine hKK.out _ _ (fun h => nomatch (show false = true from h)) (fun _ => ?_)
                clear hKK KK
                try simp only [Act.put, List.setIfInBounds_toArray, List.set_cons_zero, List.set_cons_succ]
                refine wpAnyG_takeW (i := 12) (v := ?_) rfl (by kernel_rfl) (by kernel_rfl) (by kernel_rfl) (by kernel_rfl) (fun _ _ _ h => h) (Or.inl ⟨by rfl, ?_⟩) (fun h => nomatch (show false = true from h)) ?_
                rotate_left
                focus (intro wx hSw; go_simp; try with_reducible rfl)
                try simp only [Act.put, List.setIfInBounds_toArray, List.set_cons_zero, List.set_cons_succ]
                refine wpAnyG_ready (rs := [13]) (by kernel_rfl) (by simp) ?_
                refine AllReadyG.cons rfl (fun KK hKK => ?_) AllReadyG.nil
                have s2 := (HM4.out.hd.set_ 2 (.slice An (K.length + 1) cn)).cell 3
                have s3 := (HM4.out.hd.set_ 2 (.slice An (K.length + 1) cn)).frozen 3
                simp only [List.setIfInBounds_toArray, List.set_cons_zero, List.set_cons_succ, List.getElem?_toArray, List.getElem?_cons_zero, List.getElem?_cons_succ] at s2
                go_simp
                refine hKK.out _ _ (fun h => nomatch (show false = true from h)) (fun _ => ?_)
                clear hKK KK z0 z1 z2 z3 r0 r1 r2 r3 s2 s3
                try simp only [Act.put, List.setIfInBounds_toArray, List.set_cons_zero, List.set_cons_succ]
                refine wpAnyG_done (by kernel_rfl) ?_ _
                have HMF := Lib.hid (HM4.out.stored HqH.out.1 HqH.out.2.1 HqH.out.2.2)
                clear HM0 HM1 HM2 HM3 HM4
                generalize (W4.setCell ⟨H, 2, none⟩ (.slice An (K.length + 1) cn)).setCell ⟨H, 3, none⟩ (.slice Am (K.length + 1) cm) = WF at HMF ⊢
                go_wp2
                go_roundw
                case rel =>
                  refine ⟨k + 1, .slice An (K.length + 1) cn, .slice Am (K.length + 1) cm, K ++ [(q.1, o.map UInt8.toNat)], by omega, by go_num, ?_, by rw [List.length_append, HKk.out]; rfl, ?_⟩
                  · have hp := HMF.out
                    rw [← Hsn.out, ← Hcst.out] at hp
                    rw [show txS (K ++ [(q.1, o.map UInt8.toNat)]) = txS K ++ [.string (B8 q.1)] by unfold txS; rw [List.map_append]; rfl, show chS (K ++ [(q.1, o.map UInt8.toNat)]) = chS K ++ [.string (B8 o)] by unfold chS; rw [List.map_append]; show _ ++ [Value.string (bytesOf (o.map UInt8.toNat))] = _; rw [bytesOf_nat], List.length_append]
                    exact hp
                  · exact Hke.out
                case measure => simp [intOf]; omega
            · -- 9 4 5 10
              go_simp
              have HM1 := Lib.hid (HM0.out.alloc (.cells #[.string cst] 9))
              have HU2 := Lib.hid (Blk.new W0 9 #[.string cst])
              refine hKK.out _ _ (fun _ => HM1.out.held) (fun _ => ?_)
              clear hKK KK
              have hz1 : W0.heap.size < (W0.alloc (.cells #[.string cst] 9)).heap.size := by simp
              generalize W0.alloc (.cells #[.string cst] 9) = W1 at HM1 HU2  hz1 ⊢
              try simp only [Act.put, List.setIfInBounds_toArray, List.set_cons_zero, List.set_cons_succ]
              refine wpAnyG_ready (rs := [3]) (by kernel_rfl) (by simp) ?_
              refine AllReadyG.cons rfl (fun KK hKK => ?_) AllReadyG.nil
              go_simp
              have HM2 := Lib.hid (HM1.out.alloc (.cells #[.string sn] 9))
              have HU1 := Lib.hid (Blk.new W1 9 #[.string sn])
              refine hKK.out _ _ (fun _ => HM2.out.held) (fun _ => ?_)
              clear hKK KK
              have HU2' := Lib.hid (HU2.out.alloc (.cells #[.string sn] 9))
              have hz2 : W1.heap.size < (W1.alloc (.cells #[.string sn] 9)).heap.size := by simp
              generalize W1.alloc (.cells #[.string sn] 9) = W2 at HM2 HU1 HU2' hz2 ⊢
              clear HU2
              have HU2 := HU2'
              clear HU2'
              try simp only [Act.put, List.setIfInBounds_toArray, List.set_cons_zero, List.set_cons_succ]
              refine wpAnyG_ready (rs := [4]) (by kernel_rfl) (by simp) ?_
              refine AllReadyG.cons rfl (fun KK hKK => ?_) AllReadyG.nil
              refine step_append_rd _ (by rfl) (.tmp 81) (.tmp 83) _ (by rfl) w.heap.size 9 i0 (.string ⟨#[]⟩) 1 16 Tryz.underlying25 Hi1.out Hz0.out Hz1.out Hz2.out (by rfl) (by decide) (.slice A1 K.length c1) K.length _ (by rfl) HM2.out.pr.l _ _ 1 1 [.string sn] (by rfl) (Rd.of_blk1 HU1.out) (str_one1 sn) hk63 hk8 HM2.out.bl.size ?_
              intro v' W3 hown hgr hat
              have HM3 := Lib.hid (HM2.out.left hown hgr hat)
              have HV2 := Lib.hid (HM0.out.far (Nat.le_of_eq rfl) HU2.out hgr)
              obtain ⟨An, cn, rfl, _, _, _⟩ := own_form hown
              clear hown hgr hat
              refine hKK.out _ _ (fun _ => HM3.out.held) (fun _ => ?_)
              clear hKK KK
              try simp only [Act.put, List.setIfInBounds_toArray, List.set_cons_zero, List.set_cons_succ]
              refine wpAnyG_takeW (i := 10) (v := ?_) rfl (by kernel_rfl) (by kernel_rfl) (by kernel_rfl) (by kernel_rfl) (fun _ _ _ h => h) (Or.inl ⟨by rfl, ?_⟩) (fun _ => HM3.out.held) ?_
              rotate_left
              focus (intro wx hSw; go_simp; try with_reducible rfl)
              try simp only [Act.put, List.setIfInBounds_toArray, List.set_cons_zero, List.set_cons_succ]
              refine wpAnyG_ready (rs := [9]) (by kernel_rfl) (by simp) ?_
              refine AllReadyG.cons rfl (fun KK hKK => ?_) AllReadyG.nil
              refine step_append_rd _ (by rfl) (.tmp 86) (.tmp 88) _ (by rfl) w.heap.size 9 i0 (.string ⟨#[]⟩) 1 16 Tryz.underlying25 Hi1.out Hz0.out Hz1.out Hz2.out (by rfl) (by decide) (.slice A2 K.length c2) K.length _ (by rfl) HM3.out.pr.r _ _ 1 1 [.string cst] (by rfl) (Rd.of_blk1 HV2.out) (str_one1 cst) hk63 hk8 HM3.out.bl.size ?_
              intro v' W4 hown hgr hat
              have HM4 := Lib.hid (HM3.out.right hown hgr hat)
              obtain ⟨Am, cm, rfl, _, _, _⟩ := own_form hown
              clear hown hgr hat
              refine hKK.out _ _ (fun _ => HM4.out.held) (fun _ => ?_)
              clear hKK KK
              try simp only [Act.put, List.setIfInBounds_toArray, List.set_cons_zero, List.set_cons_succ]
              refine wpAnyG_ready (rs := [11]) (by kernel_rfl) (by simp) ?_
              refine AllReadyG.cons rfl (fun KK hKK => ?_) AllReadyG.nil
              obtain ⟨⟨z0, z1, z2, z3⟩, ⟨r0, r1, r2, r3⟩⟩ := cells4 HM4.out.hd
              go_simp
              refine hKK.out _ _ (fun h => nomatch (show false = true from h)) (fun _ => ?_)
              clear hKK KK
              try simp only [Act.put, List.setIfInBounds_toArray, List.set_cons_zero, List.set_cons_succ]
              refine wpAnyG_takeW (i := 12) (v := ?_) rfl (by kernel_rfl) (by kernel_rfl) (by kernel_rfl) (by kernel_rfl) (fun _ _ _ h => h) (Or.inl ⟨by rfl, ?_⟩) (fun h => nomatch (show false = true from h)) ?_
              rotate_left
              focus (intro wx hSw; go_simp; try with_reducible rfl)
              try simp only [Act.put, List.setIfInBounds_toArray, List.set_cons_zero, List.set_cons_succ]
              refine wpAnyG_ready (rs := [13]) (by kernel_rfl) (by simp) ?_
              refine AllReadyG.cons rfl (fun KK hKK => ?_) AllReadyG.nil
              have s2 := (HM4.out.hd.set_ 2 (.slice An (K.length + 1) cn)).cell 3
              have s3 := (HM4.out.hd.set_ 2 (.slice An (K.length + 1) cn)).frozen 3
              simp only [List.setIfInBounds_toArray, List.set_cons_zero, List.set_cons_succ, List.getElem?_toArray, List.getElem?_cons_zero, List.getElem?_cons_succ] at s2
              go_simp
              refine hKK.out _ _ (fun h => nomatch (show false = true from h)) (fun _ => ?_)
              clear hKK KK z0 z1 z2 z3 r0 r1 r2 r3 s2 s3
              try simp only [Act.put, List.setIfInBounds_toArray, List.set_cons_zero, List.set_cons_succ]
              refine wpAnyG_done (by kernel_rfl) ?_ _
              have HMF := Lib.hid (HM4.out.stored HqH.out.1 HqH.out.2.1 HqH.out.2.2)
              clear HM0 HM1 HM2 HM3 HM4
              generalize (W4.setCell ⟨H, 2, none⟩ (.slice An (K.length + 1) cn)).setCell ⟨H, 3, none⟩ (.slice Am (K.length + 1) cm) = WF at HMF ⊢
              go_wp2
              go_roundw
              case rel =>
                refine ⟨k + 1, .slice An (K.length + 1) cn, .slice Am (K.length + 1) cm, K ++ [(q.1, o.map UInt8.toNat)], by omega, by go_num, ?_, by rw [List.length_append, HKk.out]; rfl, ?_⟩
                · have hp := HMF.out
                  rw [← Hsn.out, ← Hcst.out] at hp
                  rw [show txS (K ++ [(q.1, o.map UInt8.toNat)]) = txS K ++ [.string (B8 q.1)] by unfold txS; rw [List.map_append]; rfl, show chS (K ++ [(q.1, o.map UInt8.toNat)]) = chS K ++ [.string (B8 o)] by unfold chS; rw [List.map_append]; show _ ++ [Value.string (bytesOf (o.map UInt8.toNat))] = _; rw [bytesOf_nat], List.length_append]
                  exact hp
                · exact Hke.out
              case measure => simp [intOf]; omega
      · obtain rfl : k = M := by omega
        have hkk : ¬ (k : Int) < (k : Int) := by omega
        have hLn : linesR (midR s) = some K := by
          have := HKe.out
          rw [List.take_of_length_le (by rw [Hlm.out]; exact Nat.le_refl _)] at this
          exact this
        have hlim := linesR_lim Hml.out hLn
        have HL := Lib.hid hLn
        have Hchk := Lib.hid (Hck.out wr hmr.bl f sp A1 A2 K.length c1 K.length c2 (K.map Prod.fst) (K.map Prod.snd) (by rw [List.map_map]; exact Rd.of_own hmr.pr.l) (by rw [List.map_map]; exact Rd.of_own hmr.pr.r)
          (fun x hx => by obtain ⟨y, hy, rfl⟩ := List.mem_map.1 hx; have := (hlim y hy).1; omega) (fun x hx => by obtain ⟨y, hy, rfl⟩ := List.mem_map.1 hx; exact ⟨by have := (hlim y hy).2.1; omega, (hlim y hy).2.2⟩))
        obtain ⟨Rf, hRf⟩ : ∃ Rf, Rf = (rowsR f sp (K.map Prod.fst) (K.map Prod.snd)).1 := ⟨_, rfl⟩
        have HRf := Lib.hid hRf
        rw [← hRf] at Hchk
        obtain ⟨⟨z0, z1, z2, z3⟩, _⟩ := cells4 hmr.hd
        have Hzl := Lib.hid (And.intro hmr.zb.lt hmr.bl.size)
        clear hRf hlim hLn hmr hKe
        go_wp2_with fail
        refine Hchk.out.mono ?_
        rintro e w7 ⟨v, rfl, hev, hb⟩
        have HM7 := Lib.hid (HM.out.below hb)
        have HV := Lib.hid hev
        clear hb z0 z1 z2 z3 hev
        by_cases h0 : Rf.1 = 0
        case neg =>
          obtain ⟨t, p, rfl⟩ := HV.out.pos h0
          have Hr := Lib.hid (show readB s = (Rf, (0, 0), []) by rw [readB_bad Hlg.out Hhed.out Htw.out HL.out (by rw [← HRf.out]; exact h0), ← HRf.out])
          have HE := Lib.hid ((HV.out.fr4b Hzl.out.1 (.int .i64 0) (.int .i64 0) (.slice none 0 0) (.slice none 0 0)).base Hzl.out.2)
          have Hz := Lib.hid (set4 (Nat.le_refl _) HM7.out.bl HM7.out.zb (.int .i64 0) (.int .i64 0) (.slice none 0 0) (.slice none 0 0))
          obtain ⟨⟨q0, q1, q2, q3⟩, ⟨r0, r1, r2, r3⟩⟩ := cells4 HM7.out.zb
          clear h0
          go_wp2
          refine bodyPost_ret (res_rb _ _ w.heap.size _ _ _ _ _ rfl rfl Hz.out.1) rfl ?_
          rw [Hr.out]
          exact ⟨_, _, _, rfl, HE.out, Pair.nil _ _ _, Hz.out.2⟩
        obtain rfl := HV.out.zero h0
        have Hr := Lib.hid (show readB s = ((0, -1), (f, sp), K) from readB_ok Hlg.out Hhed.out Htw.out HL.out (by rw [← HRf.out]; exact h0))
        obtain ⟨⟨q0, q1, q2, q3⟩, ⟨r0, r1, r2, r3⟩⟩ := cells4 HM7.out.zb
        obtain ⟨⟨z0, z1, z2, z3⟩, _⟩ := cells4 HM7.out.hd
        have Hn1 := Lib.hid (own_ne_blk HM7.out.pr.l HM7.out.zb (by decide))
        have Hn2 := Lib.hid (own_ne_blk HM7.out.pr.r HM7.out.zb (by decide))
        clear h0
        go_wp2
        refine bodyPost_ret (res_rb _ _ w.heap.size _ _ _ _ _ rfl rfl (set4 (Nat.le_refl _) HM7.out.bl HM7.out.zb _ _ _ _).1) rfl ?_
        rw [Hr.out]
        refine ⟨_, _, _, rfl, .inl ⟨rfl, rfl⟩, ?_, (set4 (Nat.le_refl _) HM7.out.bl HM7.out.zb _ _ _ _).2⟩
        exact (((HM7.out.pr.set (p := ⟨w.heap.size, 0, none⟩) Hn1.out Hn2.out _).set (p := ⟨w.heap.size, 1, none⟩) Hn1.out Hn2.out _).set (p := ⟨w.heap.size, 2, none⟩) Hn1.out Hn2.out _).set (p := ⟨w.heap.size, 3, none⟩) Hn1.out Hn2.out _
end Go.Proofs.YtfkklcmepcocoaaGreatDoor
