/- BlockReads by its contract: it returns true. -/
import Derived.Test.YtfkklcmepcocoaaGreatDoorReadQP
import Derived.Test.YtfkklcmepcocoaaGreatDoorRBlkOfQP
import Derived.Test.YtfkklcmepcocoaaGreatDoorMkqP
import Derived.Test.YtfkklcmepcocoaaGreatDoorMkmP
import Derived.ChangeMaps5
namespace Go.Proofs.YtfkklcmepcocoaaGreatDoor
open Go.RowKit
set_option linter.unusedVariables false

theorem zip_maps {α β : Type} : ∀ l : List (α × β), (l.map Prod.fst).zip (l.map Prod.snd) = l
  | [] => rfl
  | (a, b) :: l => by rw [List.map_cons, List.map_cons, List.zip_cons_cons, zip_maps l]
theorem txS_map (L : List (Bs × List Nat)) : txS L = (L.map fun r => B8 r.1).map Value.string := by unfold txS; rw [List.map_map]; rfl
theorem chS_map (L : List (Bs × List Nat)) : chS L = (L.map fun r => bytesOf r.2).map Value.string := by unfold chS; rw [List.map_map]; rfl
theorem readB_bad2 {s : Bs} (h : (readB s).1.1 ≠ 0) : readB s = ((readB s).1, (0, 0), []) := by
  unfold readB at h ⊢
  split
  · rfl
  · rename_i hl
    rw [if_neg hl] at h
    split
    · rfl
    · rename_i x hh
      rw [hh] at h
      simp only at h
      split
      · rename_i he
        rw [if_pos he] at h
        split
        · rfl
        · rename_i y hL
          rw [hL] at h
          simp only at h
          split
          · rename_i h0
            rw [if_pos h0] at h
            exact absurd rfl h
          · rfl
      · rfl
set_option maxHeartbeats 8000000 in
set_option maxRecDepth 100000 in
theorem blockReads_law {es : Nat → Addr} {B : Nat} (s : Bs) (w : World) (hS : Sents es B w) (hW : BlkW es B w) (hWl : WalW es B w) (hm : MaxAt w) (hmB : 12 < B) :
    Calls Tryz.prog 6 #[.string (B8 s)] w fun e w' => e = .returned (.bool true) ∧ Below w.heap.size w w' := by
  have hsz : (B8 s).size = s.length := B8_size s
  have HW := Lib.hid (fun W (hb : Below w.heap.size w W) => hW.below hb hW.b0)
  have HS := Lib.hid (fun W (hb : Below w.heap.size w W) => hS.below hb hW.b0)
  have HWl := Lib.hid (fun W (hb : Below w.heap.size w W) => hWl.below hb hW.b0)
  have HM := Lib.hid (fun W (hb : Below w.heap.size w W) => hm.below hb (Nat.lt_of_lt_of_le hmB hW.b0))
  have HmB := Lib.hid hmB
  have Hbl := Lib.hid (blocked_any w hW)
  obtain ⟨n, hn⟩ : ∃ n, n = s.length := ⟨_, rfl⟩
  have Hn := Lib.hid hn
  rw [← hn] at hsz
  have Hrd := Lib.hid (fun (h : n ≤ 2000) W (hb : Below w.heap.size w W) => bread_any s (by omega) W (HW.out W hb).s (HWl.out W hb) (HW.out W hb).t (HW.out W hb).tb (HW.out W hb).b0 (HM.out W hb) hmB)
  have Hbo := Lib.hid (fun (h : n ≤ 2000) W => blockOf_any s (by omega) W)
  have Hst := Lib.hid (show (B8 s).toList = s from B8_toList s)
  generalize hst : B8 s = st at hsz Hrd Hbo Hst ⊢
  clear hW hS hWl hm hmB hn hst
  go_enter Tryz.func6, Tryz.ntmps6
  go_wp2_with fail
  refine Hbl.out.mono ?_
  rintro e w1 ⟨rfl, hb⟩
  have HB1 := Lib.hid hb
  clear hb
  by_cases h2000 : 2000 < n
  · have h2000' : (2000 : Int) < (n : Int) := by omega
    go_wp2
    go_ret
    exact ⟨rfl, HB1.out⟩
  have h2000' : ¬ (2000 : Int) < (n : Int) := by omega
  have Hr1 := Lib.hid (Hrd.out (by omega) w1 HB1.out)
  have Hb1 := Lib.hid (fun W => Hbo.out (by omega) W)
  clear Hrd Hbo
  obtain ⟨⟨⟨c1, c2⟩, ⟨f, sp⟩, L⟩, hR⟩ : ∃ R, R = readB s := ⟨_, rfl⟩
  rw [← hR] at Hr1 Hb1
  have Hinv := Lib.hid (fun (h : c1 = 0) => show c2 = -1 ∧ (rowsR f sp (L.map Prod.fst) (L.map Prod.snd)).1.1 = 0 ∧ textB f sp L = s ∧ L.length ≤ 2000 ∧ ∀ x ∈ L, x.1.length ≤ 20000 ∧ x.2.length ≤ 20000 ∧ ∀ b ∈ x.2, b < 256 from by
    obtain ⟨f', sp', L', h1, h2, h3, h4, _, h6⟩ := readB_inv (s := s) (by rw [← hR]; exact h)
    rw [← hR] at h1
    injection h1 with e1 e2
    injection e1 with e3 e4
    injection e2 with e5 e6
    injection e5 with e7 e8
    subst e4; subst e6; subst e7; subst e8
    have hl := lines_text h6
    have hm := midR_len s
    have hp := pcs_max 10 s
    have hnn := Hn.out
    refine ⟨rfl, h2, h3, by rw [hl.2, hm]; omega, linesR_lim (m := 20000) (fun t ht => Nat.le_trans (midR_mem t ht) (by omega)) h6⟩)
  have HL := Lib.hid (show L.length ≤ 100000 from by
    by_cases h : c1 = 0
    · exact Nat.le_trans (Hinv.out h).2.2.2.1 (by decide)
    · have := readB_bad2 (s := s) (by rw [← hR]; exact h)
      rw [← hR] at this
      rw [show L = [] from congrArg (fun q : RdB => q.2.2) this]
      exact Nat.zero_le _)
  clear hR
  go_wp2_with fail
  refine Hr1.out.mono ?_
  rintro e w2 ⟨v, u1, u2, rfl, hev, hpr, hb⟩
  obtain ⟨A1, a1, rfl, _, _, _⟩ := own_form hpr.l
  obtain ⟨A2, a2, rfl, _, _, _⟩ := own_form hpr.r
  have HB2 := Lib.hid (Below.call HB1.out hb HB1.out.size)
  have HE2 := Lib.hid hev
  have HP2 := Lib.hid hpr
  have HK3 := Lib.hid (Blk.new w2 27 #[.int .i64 f, .int .i64 sp, .slice A1 L.length a1, .slice A2 L.length a2])
  have HB3 := Lib.hid (Below.alloc HB2.out HB2.out.size (.cells #[.int .i64 f, .int .i64 sp, .slice A1 L.length a1, .slice A2 L.length a2] 27))
  have Hb23 := Lib.hid (Below.alloc (Below.refl w2.heap.size w2) (Nat.le_refl _) (.cells #[.int .i64 f, .int .i64 sp, .slice A1 L.length a1, .slice A2 L.length a2] 27))
  clear hev hpr hb Hr1
  dsimp only
  go_wp2_with fail
  refine (Hb1.out _).mono ?_
  rintro e w4 ⟨u3, u4, rfl, hpr, hb⟩
  rw [show fV ((c1, c2), (f, sp), L).1 = .agg #[.int .i64 (c1 : Int), .int .i64 c2] from rfl]
  obtain ⟨A3, a3, rfl, _, _, _⟩ := own_form hpr.l
  obtain ⟨A4, a4, rfl, _, _, _⟩ := own_form hpr.r
  dsimp only
  have HB4 := Lib.hid (Below.call HB3.out hb HB3.out.size)
  have Hb24 := Lib.hid (Below.call Hb23.out hb Hb23.out.size)
  have HP4 := Lib.hid hpr
  have HK4 := Lib.hid (HK3.out.below hb HK3.out.lt)
  have Hb45 := Lib.hid (Below.alloc (Below.alloc (Below.refl w4.heap.size w4) (Nat.le_refl _) (.cells #[.int .i64 f, .int .i64 sp, .slice A3 L.length a3, .slice A4 L.length a4] 39)) (by simp) (.cells #[.int .i64 (c1 : Int), .int .i64 c2] 57))
  have hk5 := (Blk.new w4 39 #[.int .i64 f, .int .i64 sp, .slice A3 L.length a3, .slice A4 L.length a4]).alloc (.cells #[.int .i64 (c1 : Int), .int .i64 c2] 57)
  have hf5 := Blk.new (w4.alloc (.cells #[.int .i64 f, .int .i64 sp, .slice A3 L.length a3, .slice A4 L.length a4] 39)) 57 #[.int .i64 (c1 : Int), .int .i64 c2]
  rw [World.size_alloc] at hf5
  obtain ⟨w5, hw5⟩ : ∃ w5, w5 = (w4.alloc (.cells #[.int .i64 f, .int .i64 sp, .slice A3 L.length a3, .slice A4 L.length a4] 39)).alloc (.cells #[.int .i64 (c1 : Int), .int .i64 c2] 57) := ⟨_, rfl⟩
  have Hw5 := Lib.hid hw5
  have Hb5 := Lib.hid (show Below w4.heap.size w4 w5 by rw [hw5]; exact Hb45.out)
  have HK5 := Lib.hid (show Blk w5 w4.heap.size 39 #[.int .i64 f, .int .i64 sp, .slice A3 L.length a3, .slice A4 L.length a4] by rw [hw5]; exact hk5)
  have HF5 := Lib.hid (show Blk w5 (w4.heap.size + 1) 57 #[.int .i64 (c1 : Int), .int .i64 c2] by rw [hw5]; exact hf5)
  have HG5 := Lib.hid (HK4.out.below Hb5.out HK4.out.lt)
  have HB5 := Lib.hid (Below.call HB4.out Hb5.out HB4.out.size)
  have HE5 := Lib.hid (HE2.out.below (Below.call Hb24.out Hb5.out Hb24.out.size) (Nat.le_refl _))
  have HP5 := Lib.hid (HP2.out.fr (Fr.ofBel (Below.call Hb24.out Hb5.out Hb24.out.size)))
  have HQ5 := Lib.hid (HP4.out.fr (Fr.ofBel Hb5.out))
  have HC := Lib.hid (fun W (hb : Below w5.heap.size w5 W) => show (W.cell? ⟨w2.heap.size, 0, none⟩ = some (.int .i64 f) ∧ W.cell? ⟨w2.heap.size, 1, none⟩ = some (.int .i64 sp) ∧ W.cell? ⟨w2.heap.size, 2, none⟩ = some (.slice A1 L.length a1) ∧ W.cell? ⟨w2.heap.size, 3, none⟩ = some (.slice A2 L.length a2)) ∧
      (W.cell? ⟨w4.heap.size, 0, none⟩ = some (.int .i64 f) ∧ W.cell? ⟨w4.heap.size, 1, none⟩ = some (.int .i64 sp) ∧ W.cell? ⟨w4.heap.size, 2, none⟩ = some (.slice A3 L.length a3) ∧ W.cell? ⟨w4.heap.size, 3, none⟩ = some (.slice A4 L.length a4)) ∧
      (W.cell? ⟨w4.heap.size + 1, 0, none⟩ = some (.int .i64 (c1 : Int)) ∧ W.cell? ⟨w4.heap.size + 1, 1, none⟩ = some (.int .i64 c2)) from
    ⟨(cells4 (HG5.out.below hb HG5.out.lt)).1, (cells4 (HK5.out.below hb HK5.out.lt)).1, (HF5.out.below hb HF5.out.lt).duo2⟩)
  have HC5 := Lib.hid (HC.out w5.drew (Below.drew (Below.refl _ _)))
  clear hpr hb hk5 hf5 hw5
  have HB5d := Lib.hid HB5.out.drew
  have HE5d := Lib.hid (HE5.out.below (Below.drew (Below.refl w5.heap.size w5)) (Nat.le_refl _))
  have Hfa := Lib.hid (faulted2_any v (c1 : Int) c2 (c1 : Int) c2 w5.drew (HS.out _ HB5d.out) (HW.out _ HB5d.out).b0 (HE5d.out.is (HS.out _ HB5d.out)) rfl (.inr rfl))
  have Ham := Lib.hid (fun W => asModel_any f sp A1 A2 L.length a1 L.length a2 W)
  have Hsb := Lib.hid (fun W (hb : Below w5.heap.size w5 W) => sameBlock_eq f sp A1 A2 A3 A4 L.length a1 a2 L.length a3 a4 (L.map fun r => B8 r.1) (L.map fun r => bytesOf r.2) W
    (by rw [← txS_map]; exact ((Rd.of_own HP5.out.l).below hb).more hb.size) (by rw [← chS_map]; exact ((Rd.of_own HP5.out.r).below hb).more hb.size)
    (by rw [← txS_map]; exact ((Rd.of_own HQ5.out.l).below hb).more hb.size) (by rw [← chS_map]; exact ((Rd.of_own HQ5.out.r).below hb).more hb.size) HL.out HL.out)
  have hrd := Lib.hid (Below.drew (Below.refl w5.heap.size w5))
  go_wp2_with fail
  rw [← Hw5.out]
  go_region_held3 (fun w' => (w'.cell? ⟨w2.heap.size, 0, none⟩ = some (.int .i64 f) ∧ w'.cell? ⟨w2.heap.size, 1, none⟩ = some (.int .i64 sp) ∧ w'.cell? ⟨w2.heap.size, 2, none⟩ = some (.slice A1 L.length a1) ∧ w'.cell? ⟨w2.heap.size, 3, none⟩ = some (.slice A2 L.length a2)) ∧
      (w'.cell? ⟨w4.heap.size, 0, none⟩ = some (.int .i64 f) ∧ w'.cell? ⟨w4.heap.size, 1, none⟩ = some (.int .i64 sp) ∧ w'.cell? ⟨w4.heap.size, 2, none⟩ = some (.slice A3 L.length a3) ∧ w'.cell? ⟨w4.heap.size, 3, none⟩ = some (.slice A4 L.length a4)) ∧
      (w'.cell? ⟨w4.heap.size + 1, 0, none⟩ = some (.int .i64 (c1 : Int)) ∧ w'.cell? ⟨w4.heap.size + 1, 1, none⟩ = some (.int .i64 c2)))
    (first | with_reducible exact HC5.out | with_reducible exact HC6.out | with_reducible exact HC7.out | with_reducible exact HC8.out)
    (first
      | (go_at_call 18; refine Hfa.out.mono ?_; rintro e6 w6 ⟨rfl, hb6⟩; have Hb6 := Lib.hid (Below.call hrd.out hb6 hrd.out.size); have HC6 := Lib.hid (HC.out _ Hb6.out); clear hb6)
      | (go_at_call 15; refine (Ham.out _).mono ?_; rintro e7 w7 ⟨rfl, hb7⟩; have Hb7 := Lib.hid (Below.call Hb6.out hb7 Hb6.out.size); have HC7 := Lib.hid (HC.out _ Hb7.out); clear hb7)
      | (go_at_call 14; refine (Hsb.out _ Hb7.out).mono ?_; rintro e8 w8 ⟨rfl, hb8⟩; have Hb8 := Lib.hid (Below.call Hb7.out hb8 Hb7.out.size); have HC8 := Lib.hid (HC.out _ Hb8.out); clear hb8))
  all_goals
    by_cases h0 : c1 = 0
    case neg =>
      have h0' : (0 : Int) < (c1 : Int) := by omega
      obtain ⟨⟨p0, p1, p2, p3⟩, ⟨q0, q1, q2, q3⟩, ⟨r0, r1⟩⟩ := HC8.out
      clear h0
      go_wp2
      go_ret
      exact ⟨rfl, Below.call HB5.out Hb8.out HB5.out.size⟩
    obtain ⟨hc2, hrw, htx, hl2, hlim⟩ := Hinv.out h0
    subst h0
    subst hc2
    have HB8 := Lib.hid (Below.call HB5.out Hb8.out HB5.out.size)
    have Htxt := Lib.hid (btext_any f sp A1 A2 L.length a1 L.length a2 (L.map Prod.fst) (L.map Prod.snd) w8 (HW.out _ HB8.out).s (HW.out _ HB8.out).t (HW.out _ HB8.out).tb (HW.out _ HB8.out).b0 ⟨(HWl.out _ HB8.out).p10, (HWl.out _ HB8.out).p10lt⟩
      (by rw [← txS_fst]; exact ((Rd.of_own HP5.out.l).below Hb8.out).more Hb8.out.size) (by rw [← chS_snd]; exact ((Rd.of_own HP5.out.r).below Hb8.out).more Hb8.out.size)
      (fun s hs => by obtain ⟨x, hx, rfl⟩ := List.mem_map.1 hs; exact Nat.le_trans (hlim x hx).1 (by decide))
      (fun z hz => by obtain ⟨x, hx, rfl⟩ := List.mem_map.1 hz; exact ⟨Nat.le_trans (hlim x hx).2.1 (by decide), (hlim x hx).2.2⟩))
    rw [zip_maps, htx] at Htxt
    have Hrw := Lib.hid hrw
    obtain ⟨⟨p0, p1, p2, p3⟩, ⟨q0, q1, q2, q3⟩, ⟨r0, r1⟩⟩ := HC8.out
    clear hrw htx hl2 hlim
    go_wp2_with fail
    refine Htxt.out.mono ?_
    rintro e w9 ⟨v9, s9, rfl, hev9, hs9, hb9⟩
    obtain rfl := hev9.zero Hrw.out
    obtain rfl := hs9 Hrw.out
    have HB9 := Lib.hid (Below.call HB8.out hb9 HB8.out.size)
    have e1 : ((B8 s).toList == st.toList) = true := by rw [Hst.out, B8_toList]; exact beq_self_eq_true s
    clear hev9 hs9 hb9
    go_wp2
    go_ret
    exact ⟨rfl, HB9.out⟩
end Go.Proofs.YtfkklcmepcocoaaGreatDoor

namespace Go.Proofs.YtfkklcmepcocoaaGreatDoor
open Go.RowKit Go.ChangeShapes Go.WideShapes Go.ChangeAt
set_option linter.unusedVariables false

theorem blockReads_met (os : Os) (args : Array Value) : laidMetH Tryz.prog Rows.blockReadsRow.laid ((witW os Rows.blockReadsRow.laid).forCall (fun _ _ => 0) ⟨#[], args, []⟩).memory :=
  laidMetH_of_parts3 (fuel := 8) (met_wit args (by kernel_rfl) (by kernel_rfl)) (by kernel_rfl) (by kernel_rfl)

set_option maxRecDepth 100000 in
theorem blockReads_lifted (os : Os) (started : os.Started) (H : Type) (enc : TypeId × Value → H) :
    ReturnsInHanded {} Tryz.checked os 6 .any (fun w args => (Rows.blockReadsSpec.pre enc Tryz.prog Tryz.f6 [] false w args ∧ laidMetH Tryz.prog Rows.blockReadsRow.laid w) ∧ sizedMet enc Tryz.prog Tryz.f6 (OpenSpec.ofChange Rows.blockReadsSpec) false w args)
      (Rows.blockReadsSpec.post enc Tryz.prog Tryz.f6 false true false false) := by
  refine handed_and_shaped (C := Tryz.checked) (X := fun w _ => laidMetH Tryz.prog Rows.blockReadsRow.laid w) (fun _ _ _ hh h => h.of_heap hh) own_knob started (by kernel_rfl) Tryz.func6
    (ChangeSpec.witness_shaped (enc := enc) (C := Tryz.checked) (os := os) (X := fun w _ => laidMetH Tryz.prog Rows.blockReadsRow.laid w) false (witW os Rows.blockReadsRow.laid) #[.string default] 8 (witW_os _ _) (World.shaped_of_ZipB (by kernel_rfl) (by kernel_rfl)) (by kernel_rfl) (by kernel_rfl) (by kernel_rfl) (blockReads_met os _)) ?_
  intro W base args ds gs before hsh0 hval0 hW _ hsz0 hL _
  have hsz : (DataW.weightsEach Tryz.prog (Tryz.f6.params.toList ++ Rows.blockReadsSpec.plain.varTypes Tryz.prog) (ds ++ gs)).all (· ≤ reachBytes) = true := hsz0
  have hW' := hW
  obtain ⟨p, q, hA0, hV, rfl, _, _⟩ := hW
  have hA : DataW.TrodAll enc Tryz.prog W 0 (fun _ => true) true Tryz.f6.params.toList args.toList ds p := hA0
  have hval : ∀ (j : Nat) t v, Tryz.f6.params[j]? = some t → args[j]? = some v → Value.okWide Tryz.prog W .any base t v := hval0
  rw [Tryz.params6] at hA hval hsz
  obtain ⟨rfl, rfl⟩ := trodVars_none hV
  simp only [List.append_nil] at hW'
  have hlt : ∀ x ∈ p, x.block < W.heap.size := fun x hx => by simpa using hW'.lt x hx
  have hAk := hA
  obtain ⟨v0, vs0, d0, ds0, p0, q0, hargs, rfl, rfl, h0, r0⟩ := trodAll_cons hA
  obtain ⟨rfl, rfl, rfl⟩ := trodAll_nil r0
  obtain rfl : args = #[v0] := by cases args; simp_all
  obtain ⟨s0, rfl, rfl, rfl, hs0⟩ := Go.ChangeMaps.open_string Tryz.underlying9 (hval 0 9 v0 rfl rfl) h0
  have hM := max_shaped hsh0
  obtain ⟨es, hS⟩ : ∃ es, WalW es W.heap.size W ∧ Sents es W.heap.size W := walA_of_met hL
  clear hA0 hval0 hval hA hsz hsz0
  obtain ⟨l0, rfl⟩ := b8_of s0
  refine (blockReads_law l0 W hS.2 ⟨hS.2.bk, hS.1.tab, hS.1.tablt, Nat.le_refl _⟩ hS.1 hM.1 hM.2).mono fun e W' ⟨he, hb⟩ => ?_
  subst he
  have hAz := trodAll_below hb (by kernel_rfl) hAk hlt
  exact ⟨_, rfl, _, _, _, [], _, [], hW', trodAll_mk1 (shut_bool Tryz.underlying4 true), hAz, rfl, hb.frame _, fun h => by cases h⟩

theorem blockReads_facts : joinedFacts Tryz.pinned.checked.prog 6 Tryz.f6 Rows.blockReadsSpec Rows.blockReadsRow = true := by kernel_rfl
theorem blockReads_said : Rows.BlockReadsSaid :=
  OpenClaim.holds_of_wide 6 Tryz.f6 rfl rfl rfl rfl rfl rfl rfl ⟨rfl, rfl, rfl, rfl, rfl⟩ rfl rfl rfl rfl rfl (by kernel_rfl) Tryz.func6 blockReads_facts
    (of_decide_eq_true (by kernel_rfl)) (by unfold Func.isWrapper; first | (rw [if_pos (by decide +kernel)]; kernel_rfl) | (rw [if_neg (by decide +kernel)]; exact ⟨rfl, rfl⟩))
    (fun os started H enc _ => blockReads_lifted os started H enc)

theorem blockReads_plain (f : FuncId) (fn : Func) (hf : Tryz.pinned.checked.prog.funcNamed "tidegauge/tidegaugelaw2.BlockReads" = some f) (hfn : Tryz.pinned.checked.prog.funcs[f]? = some fn) :
    true = Tryz.pinned.checked.prog.looks [] ∧ ∀ (j : Nat) t, fn.params[j]? = some t → Tryz.pinned.checked.prog.wantsStandIn t = false := by
  obtain rfl : f = 6 := Option.some.inj ((show Tryz.prog.funcNamed "tidegauge/tidegaugelaw2.BlockReads" = some 6 by kernel_rfl).symm.trans hf) |>.symm
  obtain rfl : fn = Tryz.f6 := (Option.some.inj (Tryz.func6.symm.trans hfn)).symm
  refine ⟨by kernel_rfl, fun j t ht => ?_⟩
  rw [Tryz.params6] at ht
  match j, ht with
  | 0, ht =>
    obtain rfl : 9 = t := by simpa using ht
    exact (show Tryz.prog.wantsStandIn 9 = false by kernel_rfl)
  | j + 1, ht => simp at ht

theorem blockReads_card : Rows.BlockReadsCardSaid :=
  Claim7.holds_tied_plain_at .later [] _ _ _ _ blockReads_said (fun _ h => by cases h) (by kernel_rfl) (fun _ h => by cases h) blockReads_row_tie rfl ⟨rfl, rfl⟩ (by kernel_rfl) rfl blockReads_plain (by kernel_rfl)
end Go.Proofs.YtfkklcmepcocoaaGreatDoor
