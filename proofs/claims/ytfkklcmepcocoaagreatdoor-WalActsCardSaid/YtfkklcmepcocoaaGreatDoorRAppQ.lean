/- The reference's disk: Append by its contract. -/
import Derived.Test.YtfkklcmepcocoaaGreatDoorMkf
import Derived.BigRegion
namespace Go.Proofs.YtfkklcmepcocoaaGreatDoor
open Go.RowKit
set_option linter.unusedVariables false

theorem res_rap (tmps : Array Value) (W : World) (b : Nat) (v0 v1 : Value) (ha : tmps.getD 6 undef = .pointer (some ⟨b, 0, none⟩)) (hB : Blk W b 57 #[v0, v1]) :
    (results Tryz.f20 tmps).run Tryz.prog W = .ok (.agg #[v0, v1]) W := by
  obtain ⟨z0, z1⟩ := hB.duo2
  simp only [Array.getD_eq_getD_getElem?] at ha
  simp [results, Tryz.results20, go_sem, ha, z0, z1]
theorem rdF_zeroL {s : Bs} (h : (rdF s).1 = 0) : rdF s = (0, -1) := by
  cases hp : parseL s with
  | none => rw [rdF_none hp] at h; cases h
  | some l =>
    rw [rdF_some hp] at h ⊢
    rcases lbF_cases l with ⟨_, e⟩ | ⟨_, e⟩ | ⟨i, _, _, _, _, _, e⟩ | ⟨_, _, _, e⟩
    · rw [e] at h; simp at h
    · rw [e] at h; simp at h
    · rw [e] at h; simp at h
    · exact e
def RAP (rb : Nat) (m : Dk) (en : En) (w : World) (e : Ending) (w' : World) : Prop := e = .returned (fV (apF m en)) ∧ RStep w w' rb (rapD m en)
/-- The fault is stored and answered. -/
theorem rap_end {w w4 : World} {f rb : Nat} {m m' : Dk} {en : En} (hf : f = w.heap.size) (hq : Blk w4 (f + 1) 57 #[.int .i64 0, .int .i64 0]) (hr : RDAt w4 rb m') (hfr : Fr (fun k => k = rb) w w4) (n : Nat) (z : Int) (hF : apF m en = (n, z)) (hD : rapD m en = m') (a : Act) (hd : a.defers = []) (ha : a.tmps.getD 6 undef = .pointer (some ⟨f + 1, 0, none⟩)) :
    bodyPost Tryz.prog Tryz.f20 (RAP rb m en w) .ret a ((w4.setCell ⟨f + 1, 0, none⟩ (.int .i64 (n : Int))).setCell ⟨f + 1, 1, none⟩ (.int .i64 z)) := by
  have HB4 := ((hq.set_ 0 (.int .i64 (n : Int))).set_ 1 (.int .i64 z))
  have hne : f + 1 ≠ rb := Blk.ne_ hq hr (by decide)
  refine bodyPost_ret (res_rap _ _ (f + 1) _ _ ha HB4) hd ?_
  refine ⟨by rw [hF]; rfl, ⟨?_, ?_⟩⟩
  · rw [hD]
    exact ((Blk.far hr (p := ⟨f + 1, 0, none⟩) (fun e => hne e.symm) _).far (p := ⟨f + 1, 1, none⟩) (fun e => hne e.symm) _)
  · exact (hfr.setCell (p := ⟨f + 1, 0, none⟩) (.inl (by rw [hf]; exact Nat.le_succ _)) _).setCell (p := ⟨f + 1, 1, none⟩) (.inl (by rw [hf]; exact Nat.le_succ _)) _
/-- The same, a row more behind it. -/
theorem rap_end2 {w w4 : World} {f rb : Nat} {m m' : Dk} {en : En} (hf : f = w.heap.size) (hq : Blk w4 (f + 1) 57 #[.int .i64 0, .int .i64 0]) (hr : RDAt w4 rb m') (hfr : Fr (fun k => k = rb) w w4) (n : Nat) (z : Int) (hF : apF m en = (n, z)) (hD : rapD m en = m') (a : Act) (hd : a.defers = []) (o : Obj) (ha : a.tmps.getD 6 undef = .pointer (some ⟨f + 1, 0, none⟩)) :
    bodyPost Tryz.prog Tryz.f20 (RAP rb m en w) .ret a (((w4.setCell ⟨f + 1, 0, none⟩ (.int .i64 (n : Int))).setCell ⟨f + 1, 1, none⟩ (.int .i64 z)).alloc o) := by
  have HB4 := ((hq.set_ 0 (.int .i64 (n : Int))).set_ 1 (.int .i64 z)).alloc o
  have hne : f + 1 ≠ rb := Blk.ne_ hq hr (by decide)
  refine bodyPost_ret (res_rap _ _ (f + 1) _ _ ha HB4) hd ?_
  refine ⟨by rw [hF]; rfl, ⟨?_, ?_⟩⟩
  · rw [hD]
    exact Blk.alloc ((Blk.far hr (p := ⟨f + 1, 0, none⟩) (fun e => hne e.symm) _).far (p := ⟨f + 1, 1, none⟩) (fun e => hne e.symm) _) o
  · exact Fr.alloc ((hfr.setCell (p := ⟨f + 1, 0, none⟩) (.inl (by rw [hf]; exact Nat.le_succ _)) _).setCell (p := ⟨f + 1, 1, none⟩) (.inl (by rw [hf]; exact Nat.le_succ _)) _) o
theorem rdAt_mk {W : World} {rb : Nat} {b : Bs} {o : Bool} {c : Int} (h : Blk W rb 48 #[.string (B8 b), .bool o, .int .i64 c]) : RDAt W rb ⟨b, o, c⟩ := h
theorem Blk2.cells {W : World} {f : Nat} {t : TypeId} {v0 v1 : Value} (h : Blk W f t #[v0, v1]) : (W.cell? ⟨f, 0, none⟩ = some v0 ∧ W.cell? ⟨f, 1, none⟩ = some v1) ∧ (W.frozen? ⟨f, 0, none⟩ = false ∧ W.frozen? ⟨f, 1, none⟩ = false) := ⟨⟨h.cell 0, h.cell 1⟩, ⟨h.frozen 0, h.frozen 1⟩⟩
theorem Blk3.cells {W : World} {f : Nat} {t : TypeId} {v0 v1 v2 : Value} (h : Blk W f t #[v0, v1, v2]) : (W.cell? ⟨f, 0, none⟩ = some v0 ∧ W.cell? ⟨f, 1, none⟩ = some v1 ∧ W.cell? ⟨f, 2, none⟩ = some v2) ∧ (W.frozen? ⟨f, 0, none⟩ = false ∧ W.frozen? ⟨f, 1, none⟩ = false ∧ W.frozen? ⟨f, 2, none⟩ = false) := ⟨⟨h.cell 0, h.cell 1, h.cell 2⟩, ⟨h.frozen 0, h.frozen 1, h.frozen 2⟩⟩
theorem rapD_1 {m : Dk} {e : En} (h : (rdF e.nm).1 ≠ 0) : rapD m e = m := if_pos h
theorem rapD_2 {m : Dk} {e : En} (h : (rdF e.nm).1 = 0) (h2 : tickB e.tick = false) : rapD m e = m := by unfold rapD; rw [if_neg (fun x => x h), if_pos h2]
theorem rapD_3 {m : Dk} {e : En} (h : (rdF e.nm).1 = 0) (h2 : tickB e.tick = true) (h3 : 65536 < m.b.length + (recL e).length) : rapD m e = m := by unfold rapD; rw [if_neg (fun x => x h), if_neg (by rw [h2]; decide), if_pos h3]
theorem rapD_4 {m : Dk} {e : En} (h : (rdF e.nm).1 = 0) (h2 : tickB e.tick = true) (h3 : ¬ 65536 < m.b.length + (recL e).length) : rapD m e = if m.off = true then m else if 0 ≤ m.cut ∧ m.cut < (recL e).length then ⟨m.b ++ (recL e).take m.cut.toNat, true, m.cut⟩ else ⟨m.b ++ recL e, false, if 0 ≤ m.cut then m.cut - (recL e).length else m.cut⟩ := by
  unfold rapD; rw [if_neg (fun x => x h), if_neg (by rw [h2]; decide), if_neg h3]
theorem wrD_2 (m : Dk) (s : Bs) : (wrD m s).2 = true ↔ m.off = false ∧ ¬ (0 ≤ m.cut ∧ m.cut < s.length) := by
  unfold wrD
  by_cases h1 : m.off = true
  · rw [if_pos h1, h1]; simp
  · rw [if_neg h1]
    by_cases h2 : 0 ≤ m.cut ∧ m.cut < s.length
    · rw [if_pos h2]; simp [h2]
    · rw [if_neg h2]; exact ⟨fun _ => ⟨by simpa using h1, h2⟩, fun _ => rfl⟩
/-- Where the walk stands behind LabelsOf. -/
structure RapW (w wi : World) (f rb : Nat) (tick : Int) (bit : Nat) (m : Dk) : Prop where
  pt : Blk wi f 51 #[.int .i64 tick, .int .u64 (bit : Int)]
  res : Blk wi (f + 1) 57 #[.int .i64 0, .int .i64 0]
  disk : RDAt wi rb m
  fr : Fr (fun k => k = rb) w wi
theorem RapW.below {w wi wj : World} {f rb : Nat} {tick : Int} {bit : Nat} {m : Dk} (h : RapW w wi f rb tick bit m) (hb : Below wi.heap.size wi wj) : RapW w wj f rb tick bit m :=
  ⟨h.pt.below hb h.pt.lt, h.res.below hb h.res.lt, Blk.below h.disk hb (Blk.lt h.disk), Fr.trans h.fr ((Fr.ofB hb (Nat.le_refl _)).mono (fun _ _ h => h.elim)) (fun _ _ h => h)⟩
theorem RapW.turn {w wi wj : World} {f rb : Nat} {tick : Int} {bit : Nat} {m m' : Dk} (h : RapW w wi f rb tick bit m) (hfr : Fr (fun k => k = rb) wi wj) (hd : RDAt wj rb m') : RapW w wj f rb tick bit m' :=
  ⟨hfr.blk h.pt (fun e => Blk.ne_ h.pt h.disk (by decide) e), hfr.blk h.res (fun e => Blk.ne_ h.res h.disk (by decide) e), hd, Fr.trans h.fr hfr (fun _ _ h => h)⟩
set_option maxHeartbeats 8000000 in
set_option maxRecDepth 100000 in
theorem rappend_any (rb : Nat) (m : Dk) (en : En) (w : World) (hR : RDAt w rb m) (hm : m.b.length ≤ 65536) (hcut : CutOk m.cut) (hn : en.nm.length ≤ 100000) (hbit : en.bit < 18446744073709551616) :
    Calls Tryz.prog 20 #[.pointer (some ⟨rb, 0, none⟩), .string (B8 en.nm), .agg #[.int .i64 en.tick, .int .u64 (en.bit : Int)]] w (RAP rb m en w) := by
  obtain ⟨f, hf⟩ : ∃ f, f = w.heap.size := ⟨_, rfl⟩
  obtain ⟨nm, tick, bit⟩ := en
  dsimp only at hn hbit ⊢
  have Hf := Lib.hid hf
  have h0 : RapW w ((w.alloc (.cells #[.int .i64 tick, .int .u64 (bit : Int)] 51)).alloc (.cells #[.int .i64 0, .int .i64 0] 57)) f rb tick bit m := by
    have hb1 : Below w.heap.size w (w.alloc (.cells #[.int .i64 tick, .int .u64 (bit : Int)] 51)) := Below.alloc (Below.refl _ _) (Nat.le_refl _) _
    have hb2 : Below (w.alloc (.cells #[.int .i64 tick, .int .u64 (bit : Int)] 51)).heap.size (w.alloc (.cells #[.int .i64 tick, .int .u64 (bit : Int)] 51)) ((w.alloc (.cells #[.int .i64 tick, .int .u64 (bit : Int)] 51)).alloc (.cells #[.int .i64 0, .int .i64 0] 57)) := Below.alloc (Below.refl _ _) (Nat.le_refl _) _
    have q0 := Blk.new w 51 #[.int .i64 tick, .int .u64 (bit : Int)]
    have q1 := Blk.new (w.alloc (.cells #[.int .i64 tick, .int .u64 (bit : Int)] 51)) 57 #[.int .i64 0, .int .i64 0]
    rw [World.size_alloc, ← hf] at q1
    rw [← hf] at q0
    refine ⟨q0.alloc _, q1, Blk.alloc (Blk.alloc hR _) _, ?_⟩
    exact ((Fr.refl _ _).alloc _).alloc _
  have H0 := Lib.hid h0
  have Hlo := Lib.hid (fun W => labelsOf_u nm hn W)
  have Hrc := Lib.hid (fun (ht : tickB tick = true) W => rrecord_any nm tick bit hn (tick_abs ht) hbit W)
  generalize hsb : B8 nm = sb at Hlo Hrc ⊢
  clear hR hsb h0
  unfold CutOk at hcut
  go_enter Tryz.func20, Tryz.ntmps20
  go_wp2_with fail
  refine (Hlo.out _).mono ?_
  rintro e w1 ⟨u, l, rfl, ho, _, _, hb1⟩
  have h1 := H0.out.below hb1
  obtain ⟨Au, cu, rfl, _, _, _⟩ := own_form ho
  rw [← hf]
  clear ho hb1 hf
  by_cases hrd : (rdF nm).1 = 0
  · have hr0 := rdF_zeroL hrd
    rw [hr0]
    have Hrd := Lib.hid hrd
    clear hrd hr0
    unfold fV
    dsimp only
    have h2 := h1.below (Below.alloc (Below.refl w1.heap.size w1) (Nat.le_refl _) (.cells #[.int .i64 0, .int .i64 (-1)] 57))
    have H2 := Lib.hid h2
    have p0 : (w1.alloc (.cells #[.int .i64 0, .int .i64 (-1)] 57)).cell? ⟨f, 0, none⟩ = some (.int .i64 tick) := h2.pt.cell 0
    have p0' : w1.cell? ⟨f, 0, none⟩ = some (.int .i64 tick) := h1.pt.cell 0
    have hfl : f < w1.heap.size := h1.pt.lt
    clear h1 h2
    by_cases htk : -1099511627776 ≤ tick ∧ tick ≤ 1099511627776
    · have Hty := Lib.hid (tickB_yes htk.1 htk.2)
      go_wp2_with fail
      generalize w1.alloc (.cells #[.int .i64 0, .int .i64 (-1)] 57) = w2 at H2 p0 ⊢
      refine (isTick_in tick htk.1 htk.2 _).mono ?_
      rintro e w' ⟨rfl, rfl⟩
      clear p0' hfl htk
      have p1 : w2.cell? ⟨f, 1, none⟩ = some (.int .u64 (bit : Int)) := H2.out.pt.cell 1
      go_wp2_with fail
      refine (Hrc.out Hty.out _).mono ?_
      rintro e w3 ⟨rfl, hb3⟩
      have H3 := Lib.hid (H2.out.below hb3)
      obtain ⟨⟨c0, c1, c2⟩, ⟨f0, f1, f2⟩⟩ := Blk3.cells H3.out.disk
      have hsm : (B8 m.b).size = m.b.length := B8_size _
      have hsr : (B8 (recL ⟨nm, tick, bit⟩)).size = (recL ⟨nm, tick, bit⟩).length := B8_size _
      have hrl : (recL ⟨nm, tick, bit⟩).length ≤ 198 := recL_le ⟨Hrd.out, Hty.out, hbit⟩
      have hr6 : 6 ≤ (recL ⟨nm, tick, bit⟩).length := by unfold recL; rw [recB_len]; omega
      have Hex := Lib.hid (fun k => show (B8 (recL ⟨nm, tick, bit⟩)).extract 0 k = B8 ((recL ⟨nm, tick, bit⟩).take k) by rw [B8_extract]; rfl)
      have Hcat := Lib.hid (fun (x : Bs) => show B8 m.b ++ B8 x = B8 (m.b ++ x) from B8_append _ _)
      have H3f := Lib.hid (fun h3 => apF_3 (d := m) (e := ⟨nm, tick, bit⟩) Hrd.out Hty.out h3)
      have H4f := Lib.hid (fun h3 => (apF_4 (d := m) (e := ⟨nm, tick, bit⟩) Hrd.out Hty.out h3).1)
      have H4w := Lib.hid (wrD_2 m (recL ⟨nm, tick, bit⟩))
      have H3d := Lib.hid (fun h3 => rapD_3 (m := m) (e := ⟨nm, tick, bit⟩) Hrd.out Hty.out h3)
      have H4d := Lib.hid (fun h3 => rapD_4 (m := m) (e := ⟨nm, tick, bit⟩) Hrd.out Hty.out h3)
      obtain ⟨bl, hbl⟩ : ∃ bl, bl = m.b.length := ⟨_, rfl⟩
      obtain ⟨rl, hrle⟩ : ∃ rl, rl = (recL ⟨nm, tick, bit⟩).length := ⟨_, rfl⟩
      rw [← hbl] at hsm hm H3f H4f H3d H4d
      rw [← hrle] at hsr hrl hr6 H3f H4f H3d H4d H4w
      obtain ⟨off, hoff⟩ : ∃ off, off = m.off := ⟨_, rfl⟩
      obtain ⟨cut, hcu⟩ : ∃ cut, cut = m.cut := ⟨_, rfl⟩
      rw [← hoff] at c1 H4d H4w
      rw [← hcu] at c2 hcut H4d H4w
      have Hoff := Lib.hid hoff; have Hcu := Lib.hid hcu
      have hfr := H3.out.pt.lt
      generalize hsme : B8 m.b = sm at c0 hsm Hcat
      have Hsm := Lib.hid hsme
      generalize hsre : B8 (recL ⟨nm, tick, bit⟩) = sr at hsr Hex
      have Hsr := Lib.hid hsre
      have HD3 := Lib.hid (show Blk w3 rb 48 #[.string sm, .bool off, .int .i64 cut] by rw [← hsme, hoff, hcu]; exact H3.out.disk)
      clear hb3 hbl hrle hoff hcu hsme hsre p1
      by_cases h3 : 65536 < bl + rl
      · have h3' : (65536 : Int) < (bl : Int) + (rl : Int) := by omega
        have HF := Lib.hid (H3f.out h3).1
        have HD := Lib.hid (H3d.out h3)
        go_wp2_with fail
        refine (bare_any 7 _).mono ?_
        rintro e w4 ⟨rfl, hb4⟩
        have H4 := Lib.hid (H3.out.below hb4)
        obtain ⟨⟨z0, z1⟩, ⟨y0, y1⟩⟩ := Blk2.cells H4.out.res
        clear hb4
        go_wp2
        exact rap_end Hf.out H4.out.res H4.out.disk H4.out.fr 7 (-1) HF.out HD.out _ rfl rfl
      · have h3' : ¬ (65536 : Int) < (bl : Int) + (rl : Int) := by omega
        have HF := Lib.hid (H4f.out h3)
        have HD := Lib.hid (H4d.out h3)
        cases off with
        | true =>
          have HF2 := Lib.hid (show apF m ⟨nm, tick, bit⟩ = (10, -1) by
            rw [HF.out, if_neg]
            intro h; rw [H4w.out] at h; cases h.1)
          have HD2 := Lib.hid (show rapD m ⟨nm, tick, bit⟩ = m by rw [HD.out, if_pos rfl])
          go_wp2_with fail
          refine (bare_any 10 _).mono ?_
          rintro e w4 ⟨rfl, hb4⟩
          have H4 := Lib.hid (H3.out.below hb4)
          obtain ⟨⟨z0, z1⟩, ⟨y0, y1⟩⟩ := Blk2.cells H4.out.res
          clear hb4
          go_wp2
          exact rap_end Hf.out H4.out.res H4.out.disk H4.out.fr 10 (-1) HF2.out HD2.out _ rfl rfl
        | false =>
          by_cases hc : 0 ≤ cut ∧ cut < rl
          · obtain ⟨k, rfl⟩ : ∃ k : Nat, cut = (k : Int) := ⟨cut.toNat, by omega⟩
            have hk : k < rl := by omega
            have hk' : (k : Int) < (rl : Int) := by omega
            have hk2 : k ≤ sr.size := by omega
            have hex := Hex.out k
            have hsx : (B8 ((recL ⟨nm, tick, bit⟩).take k)).size ≤ 100000 := by rw [B8_size, List.length_take]; omega
            have hcat := Hcat.out ((recL ⟨nm, tick, bit⟩).take k)
            have HF2 := Lib.hid (show apF m ⟨nm, tick, bit⟩ = (10, -1) by
              rw [HF.out, if_neg]
              intro h; rw [H4w.out] at h; exact h.2 hc)
            have HD2 := Lib.hid (show rapD m ⟨nm, tick, bit⟩ = ⟨m.b ++ (recL ⟨nm, tick, bit⟩).take k, true, (k : Int)⟩ by rw [HD.out, if_neg (by decide), if_pos hc]; rfl)
            generalize B8 ((recL ⟨nm, tick, bit⟩).take k) = sx at hex hsx hcat
            have hnn : ¬ 9223372036854775807 < sm.size + sx.size := by omega
            generalize hsy : B8 (m.b ++ (recL ⟨nm, tick, bit⟩).take k) = sy at hcat
            have Hsy := Lib.hid hsy
            have Hcx := Lib.hid hcat
            clear hc hcat hsy
            go_wp2
            go_region
            all_goals
              have H5 := Lib.hid (show RapW w ((w3.setCell ⟨rb, 0, none⟩ (.string (sm ++ sx))).drew.setCell ⟨rb, 1, none⟩ (.bool true)) f rb tick bit ⟨m.b ++ (recL ⟨nm, tick, bit⟩).take k, true, (k : Int)⟩ from
                H3.out.turn ((fr_set w3 rb 0 _).drew.trans (fr_set _ rb 1 _) (fun _ _ h => h)) (rdAt_mk (by rw [Hsy.out, ← Hcx.out]; exact ((HD3.out.set_ 0 _).drew.set_ 1 _))))
              go_wp2_with fail
              refine (bare_any 10 _).mono ?_
              rintro e w4 ⟨rfl, hb4⟩
              have H4 := Lib.hid (H5.out.below hb4)
              obtain ⟨⟨z0, z1⟩, ⟨y0, y1⟩⟩ := Blk2.cells H4.out.res
              clear hb4
              go_wp2
              exact rap_end Hf.out H4.out.res H4.out.disk H4.out.fr 10 (-1) HF2.out HD2.out _ rfl rfl
          · have HF2 := Lib.hid (show apF m ⟨nm, tick, bit⟩ = (0, -1) by
              rw [HF.out, if_pos]
              rw [H4w.out]; exact ⟨rfl, hc⟩)
            have hnn : ¬ 9223372036854775807 < sm.size + sr.size := by omega
            have hcat := Hcat.out (recL ⟨nm, tick, bit⟩)
            rw [Hsr.out] at hcat
            have HD1 := Lib.hid (show rapD m ⟨nm, tick, bit⟩ = ⟨m.b ++ recL ⟨nm, tick, bit⟩, false, if 0 ≤ cut then cut - rl else cut⟩ by rw [HD.out, if_neg (by decide), if_neg hc])
            generalize hsy : B8 (m.b ++ recL ⟨nm, tick, bit⟩) = sy at hcat
            have Hsy := Lib.hid hsy
            have Hcx := Lib.hid hcat
            clear hcat hsy
            by_cases h0 : 0 ≤ cut
            · have hcr : ¬ cut < (rl : Int) := fun h => hc ⟨h0, h⟩
              have HD2 := Lib.hid (show rapD m ⟨nm, tick, bit⟩ = ⟨m.b ++ recL ⟨nm, tick, bit⟩, false, cut - rl⟩ by rw [HD1.out, if_pos h0])
              have H5 := Lib.hid (show RapW w ((w3.setCell ⟨rb, 2, none⟩ (.int .i64 (cut - rl))).setCell ⟨rb, 0, none⟩ (.string (sm ++ sr))) f rb tick bit ⟨m.b ++ recL ⟨nm, tick, bit⟩, false, cut - rl⟩ from
                H3.out.turn ((fr_set w3 rb 2 _).trans (fr_set _ rb 0 _) (fun _ _ h => h)) (rdAt_mk (by rw [Hsy.out, ← Hcx.out]; exact ((HD3.out.set_ 2 _).set_ 0 _))))
              clear hc
              go_wp2_with fail
              refine (fine_any _).mono ?_
              rintro e w4 ⟨rfl, hb4⟩
              have H4 := Lib.hid (H5.out.below hb4)
              obtain ⟨⟨z0, z1⟩, ⟨y0, y1⟩⟩ := Blk2.cells H4.out.res
              clear hb4
              go_wp2
              exact rap_end Hf.out H4.out.res H4.out.disk H4.out.fr 0 (-1) HF2.out HD2.out _ rfl rfl
            · have HD2 := Lib.hid (show rapD m ⟨nm, tick, bit⟩ = ⟨m.b ++ recL ⟨nm, tick, bit⟩, false, cut⟩ by rw [HD1.out, if_neg h0])
              have H5 := Lib.hid (show RapW w (w3.setCell ⟨rb, 0, none⟩ (.string (sm ++ sr))) f rb tick bit ⟨m.b ++ recL ⟨nm, tick, bit⟩, false, cut⟩ from
                H3.out.turn (fr_set w3 rb 0 _) (rdAt_mk (by rw [Hsy.out, ← Hcx.out]; exact HD3.out.set_ 0 _)))
              clear hc
              go_wp2_with fail
              refine (fine_any _).mono ?_
              rintro e w4 ⟨rfl, hb4⟩
              have H4 := Lib.hid (H5.out.below hb4)
              obtain ⟨⟨z0, z1⟩, ⟨y0, y1⟩⟩ := Blk2.cells H4.out.res
              clear hb4
              go_wp2
              exact rap_end Hf.out H4.out.res H4.out.disk H4.out.fr 0 (-1) HF2.out HD2.out _ rfl rfl
    · have H2f := Lib.hid (apF_2 (d := m) (e := ⟨nm, tick, bit⟩) Hrd.out (tickB_no (n := tick) htk)).1
      have H2d := Lib.hid (rapD_2 (m := m) (e := ⟨nm, tick, bit⟩) Hrd.out (tickB_no (n := tick) htk))
      go_wp2_with fail
      generalize w1.alloc (.cells #[.int .i64 0, .int .i64 (-1)] 57) = w2 at H2 p0 ⊢
      refine (isTick_out tick htk _).mono ?_
      rintro e w' ⟨rfl, rfl⟩
      clear p0' hfl htk
      go_wp2_with fail
      refine (bare_any 2 _).mono ?_
      rintro e w4 ⟨rfl, hb4⟩
      have H4 := Lib.hid (H2.out.below hb4)
      obtain ⟨⟨z0, z1⟩, ⟨y0, y1⟩⟩ := Blk2.cells H4.out.res
      clear hb4
      go_wp2
      exact rap_end Hf.out H4.out.res H4.out.disk H4.out.fr 2 (-1) H2f.out H2d.out _ rfl rfl
  · have H1f := Lib.hid (apF_1 (d := m) (e := ⟨nm, tick, bit⟩) hrd).1
    have H1d := Lib.hid (rapD_1 (m := m) (e := ⟨nm, tick, bit⟩) hrd)
    obtain ⟨cc, ca, hcc⟩ : ∃ cc ca, rdF nm = (cc, ca) := ⟨_, _, rfl⟩
    rw [hcc] at hrd H1f ⊢
    have hc0 : (0 : Int) < (cc : Int) := by
      have : cc ≠ 0 := hrd
      omega
    unfold fV
    dsimp only at hrd ⊢
    have h2 := h1.below (Below.alloc (Below.refl w1.heap.size w1) (Nat.le_refl _) (.cells #[.int .i64 (cc : Int), .int .i64 ca] 57))
    have H1 := Lib.hid h1
    obtain ⟨⟨z0, z1⟩, ⟨y0, y1⟩⟩ := Blk2.cells h1.res
    have hfl : f + 1 < w1.heap.size := h1.res.lt
    clear h1 h2 hcc hrd
    go_wp2
    exact rap_end2 Hf.out H1.out.res H1.out.disk H1.out.fr cc ca H1f.out H1d.out _ rfl _ rfl
end Go.Proofs.YtfkklcmepcocoaaGreatDoor
