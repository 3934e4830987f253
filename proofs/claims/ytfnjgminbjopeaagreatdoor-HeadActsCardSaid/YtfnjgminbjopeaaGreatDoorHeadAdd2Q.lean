/- head.Add of a series that is not known yet; Add whole. -/
import Derived.Test.YtfnjgminbjopeaaGreatDoorHeadAddQ
namespace Go.Proofs.YtfnjgminbjopeaaGreatDoor
open Go.RowKit Go.Maps
set_option linter.unusedVariables false

set_option maxRecDepth 100000 in
set_option maxHeartbeats 4000000 in
theorem hadd_new {es : Nat → Addr} {B : Nat} {F : Nat → Prop} {q mb : Nat} {D : DataW Unit} {L : List HLn} (s : Bs) (p : Int × Int) (w : World) (hs : s.length ≤ 100000) (hS : SVL es B w) (hB0 : B ≤ w.heap.size) (hH : HeadAt w F q mb D L) (hL : L.length ≤ 100000) (hN : ∀ x ∈ L, x.pts.length ≤ 100000)
    (hx : lnFind L s = none) (h0 : (hFault (absL L) s p).1 = 0) :
    Calls Tryz.prog 7 #[.pointer (some ⟨q, 0, none⟩), .string (B8 s), .agg #[.int .i64 p.1, .int .u64 p.2]] w (HAPost es F q mb D L s p w) := by
  have hb1 : Below w.heap.size w (w.alloc (.cells #[.int .i64 p.1, .int .u64 p.2] 32)) := Below.alloc (Below.refl _ _) (Nat.le_refl _) _
  have Hck := Lib.hid (hcheck_any s p _ hs (hS.below hb1 hB0) (Nat.le_trans hB0 hb1.size) (hH.below hb1) hL)
  have HP := Lib.hid (Blk.new w 32 #[.int .i64 p.1, .int .u64 p.2])
  have HH := Lib.hid (fun W (hb : Below w.heap.size w W) => hH.below hb)
  have Hb1 := Lib.hid hb1
  have Hlk := Lib.hid (fun W (hb : Below w.heap.size w W) => ((hH.below hb).look s (by omega)).2 hx)
  have Hx := Lib.hid hx
  have hsl := Lib.hid (keyStr (s := s) (by omega))
  have Hab := Lib.hid (fun bk v => show absL (turnL (insL L ⟨s, bk, .slice none 0 0, [], 0⟩) s v ([] ++ [p]) p.1) = hAdd (absL L) s p by
    have hsi : hSrt (absL (insL L ⟨s, bk, .slice none 0 0, [], 0⟩)) := by
      rw [absL_ins]
      refine hIns_srt hH.srt (fun y hy => ?_)
      obtain ⟨z, hz', rfl⟩ := List.mem_map.1 hy
      exact lnFind_none hx z hz'
    have e := absL_turn hsi (x := ⟨s, bk, .slice none 0 0, [], 0⟩) (insL_mem.2 (.inl rfl)) v p
    refine e.trans ?_
    rw [absL_ins]
    unfold hAdd
    rw [lnFind_abs, hx]
    exact hPut_ins (by rw [lnFind_abs, hx]; rfl) p 0)
  have hq := hH.hd.lt
  have hmb0 := hH.mp.lt
  have h0' := Lib.hid h0
  obtain ⟨i0, hi, hz0, hz1, hz2⟩ := info_parts infoPt
  have Hi := Lib.hid hi; have Hz0 := Lib.hid hz0; have Hz1 := Lib.hid hz1; have Hz2 := Lib.hid hz2
  have hLn : L.length < maxLen := by unfold maxLen; omega
  clear hS hH hb1 hL hN hx h0 hi hz0 hz1 hz2
  generalize hst : B8 s = st at Hck Hlk hsl ⊢
  clear hst
  obtain ⟨t, b⟩ := p
  dsimp only at Hck HP Hb1 Hab ⊢
  go_enter Tryz.func7, Tryz.ntmps7
  go_wp2_with fail
  refine Hck.out.mono ?_
  rintro e w1 ⟨v, rfl, hev, hb⟩
  obtain rfl := hev.zero h0'.out
  have HB := Lib.hid (Below.call Hb1.out hb (by simp))
  have hk := HP.out.below hb (by simp)
  have z0 := hk.cell 0
  have z00 := hk.cell 1
  have h1 := HH.out _ HB.out
  have z1 : w1.cell? ⟨q, 0, none⟩ = some (.map (some mb)) := h1.hd.cell 0
  have z2 := Hlk.out _ HB.out
  have HN := Lib.hid (Blk.new w1 69 #[.slice none 0 0, .int .i64 0])
  have HMp := Lib.hid (h1.mp.alloc (.cells #[.slice none 0 0, .int .i64 0] 69))
  have hbx : w.heap.size < w1.heap.size := hk.lt
  have HK := Lib.hid hk
  have hmbl : mb < w1.heap.size := h1.mp.lt
  have HMb := Lib.hid h1.mp
  have hqw : q < w1.heap.size := h1.hd.lt
  have hzal : w1.heap.size < (w1.alloc (.cells #[.slice none 0 0, .int .i64 0] 69)).heap.size := by simp
  clear hev hb hk h1
  go_wp2_with (at_mapUpdate; refine wpList_mapUpdate_own _ rfl _ _ _ 61 rfl 9 66 strKeyed Tryz.underlying61 ptrR mb L.length D rfl HMp.out hLn _ _ _ rfl rfl hsl.out (.lit (.int .i64 (w1.heap.size : Int))) [] (ptrR_mk _) ?_; intro w3 hown3 hgrow3; have HI := Lib.hid (HeadAt.ins (HH.out _ HB.out) Hx.out ((Fr.refl _ w1).alloc _) HN.out (Nat.le_refl _) hown3 hgrow3 HB.out.size); have HG3 := Lib.hid hgrow3; clear hown3 hgrow3)
  have hk3 : Blk w3 w.heap.size 32 #[.int .i64 t, .int .u64 b] := (HK.out.alloc _).grown HG3.out (by intro e; injection e with e; omega)
  have g1 := (HI.out.1.ln _ (insL_mem.2 (.inl rfl))).1
  have y0 := hk3.cell 0
  have y00 := hk3.cell 1
  have z3 : w3.cell? ⟨w1.heap.size, 0, none⟩ = some (.slice none 0 0) := g1.cell 0
  have z30 : w3.cell? ⟨w1.heap.size, 1, none⟩ = some (.int .i64 0) := g1.cell 1
  have z4 : w3.frozen? ⟨w1.heap.size, 0, none⟩ = false := g1.frozen 0
  have z5 : w3.frozen? ⟨w1.heap.size, 1, none⟩ = false := g1.frozen 1
  have hw3 : w1.heap.size < w3.heap.size := g1.lt
  have hN3 := Lib.hid (show w.heap.size ≤ w3.heap.size by omega)
  have HF := Lib.hid (fun W wa (hf : Fr (fun _ => False) w3 W) (hgr : W.grownBy wa (ownZB (.slice none 0 0))) => show wa.cell? ⟨w.heap.size, 0, none⟩ = some (.int .i64 t) ∧ wa.cell? ⟨w.heap.size, 1, none⟩ = some (.int .u64 b) ∧ wa.cell? ⟨w1.heap.size, 0, none⟩ = some (.slice none 0 0) ∧ wa.cell? ⟨w1.heap.size, 1, none⟩ = some (.int .i64 0) ∧ wa.frozen? ⟨w1.heap.size, 0, none⟩ = false ∧ wa.frozen? ⟨w1.heap.size, 1, none⟩ = false ∧ w1.heap.size < wa.heap.size from by
    have e1 : ∀ k, k < w3.heap.size → wa.heap[k]? = w3.heap[k]? := fun k hk1 => (hgr.block k (Nat.lt_of_lt_of_le hk1 hf.size) (by simp [ownZB, capOf])).trans (hf.block k hk1 (fun h => h))
    exact ⟨(World.cell?_of_block (e1 _ (by show w.heap.size < _; omega))).trans y0, (World.cell?_of_block (e1 _ (by show w.heap.size < _; omega))).trans y00, (World.cell?_of_block (e1 _ hw3)).trans z3, (World.cell?_of_block (e1 _ hw3)).trans z30, (World.frozen?_of_block (e1 _ hw3)).trans z4, (World.frozen?_of_block (e1 _ hw3)).trans z5, Nat.lt_of_lt_of_le hw3 (Nat.le_trans hf.size hgr.size)⟩)
  have hk63 : 0 + 1 ≤ maxLen := by unfold maxLen; omega
  have hk8 : (0 + 1) * 16 ≤ 140737488355328 := by omega
  have hz1 : w.heap.size < w3.heap.size := by omega
  have Hz := Lib.hid (fun W => show OwnZ W 32 2 (.slice none 0 0) 0 (ptsC []) from .inl ⟨rfl, rfl, none, rfl⟩)
  have hne : w1.heap.size ≠ w.heap.size := by omega
  clear hk3 g1 hq hmb0 hzal hmbl z0 z00 z1
  go_wp2
  go_region_law ((refine step_append_rz (by rfl) (.tmp 41) (.tmp 43) _ (by rfl) 32 i0 (.agg #[.int .i64 0, .int .u64 0]) 2 16 Tryz.underlying52 Hi.out Hz0.out Hz1.out Hz2.out (by rfl) (by decide) (.slice none 0 0) 0 (ptsC []) (by rfl) (Hz.out _) _ (some ⟨w3.heap.size, 0, none⟩) 1 1 [.int .i64 t, .int .u64 b] (by rfl) (rd_pt w3 (.int .i64 t) (.int .u64 b)) (pt_one _ _) (by decide) hk63 hk8 ?_; intro v' wa hown' hgr hat hcap; obtain ⟨A2, c2, rfl, _, _, _⟩ := own_form hown'; have HE := Lib.hid (hadd_done (x := ⟨s, w1.heap.size, .slice none 0 0, [], 0⟩) HI.out.1 (insL_mem.2 (.inl rfl)) rfl rfl (by repeat (first | exact Fr.refl _ _ | refine Fr.drew ?_ | refine Fr.alloc ?_ _)) hgr hown' hat hN3.out); obtain ⟨y1, y2, y3, y4, y5, y6, y7⟩ := HF.out _ wa (by repeat (first | exact Fr.refl _ _ | refine Fr.drew ?_ | refine Fr.alloc ?_ _)) hgr; clear hown' hat hcap hgr))
  all_goals
    go_wp2
    go_ret
    refine ⟨fun h => absurd h0'.out h, fun _ => ⟨rfl, _, _, HE.out.1.mono (fun k h => h.elim (fun h => h) .inr), Hab.out _ _, ?_⟩⟩
    exact Fr.trans (Fr.trans ((Fr.ofBelow HB.out).mono (fun _ _ h => h.elim)) HI.out.2 (fun _ _ h => h)) HE.out.2 (fun k hk h => h.elim (fun h => h) (fun h => absurd h (by omega)))
set_option maxRecDepth 100000 in
theorem hadd_bad {es : Nat → Addr} {B : Nat} {F : Nat → Prop} {q mb : Nat} {D : DataW Unit} {L : List HLn} (s : Bs) (p : Int × Int) (w : World) (hs : s.length ≤ 100000) (hS : SVL es B w) (hB0 : B ≤ w.heap.size) (hH : HeadAt w F q mb D L) (hL : L.length ≤ 100000)
    (h0 : (hFault (absL L) s p).1 ≠ 0) :
    Calls Tryz.prog 7 #[.pointer (some ⟨q, 0, none⟩), .string (B8 s), .agg #[.int .i64 p.1, .int .u64 p.2]] w (HAPost es F q mb D L s p w) := by
  have hb1 : Below w.heap.size w (w.alloc (.cells #[.int .i64 p.1, .int .u64 p.2] 32)) := Below.alloc (Below.refl _ _) (Nat.le_refl _) _
  have Hck := Lib.hid (hcheck_any s p _ hs (hS.below hb1 hB0) (Nat.le_trans hB0 hb1.size) (hH.below hb1) hL)
  have Hb1 := Lib.hid hb1
  have h0' := Lib.hid h0
  clear hS hH hb1 hL h0
  generalize B8 s = st at Hck ⊢
  obtain ⟨t, b⟩ := p
  dsimp only at Hck Hb1 ⊢
  go_enter Tryz.func7, Tryz.ntmps7
  go_wp2_with fail
  refine Hck.out.mono ?_
  rintro e w1 ⟨v, rfl, hev, hb⟩
  obtain ⟨ty, pv, rfl⟩ := hev.pos h0'.out
  have HE := Lib.hid hev
  have HB := Lib.hid (Below.call Hb1.out hb (by simp))
  clear hev hb
  go_wp2
  go_ret
  exact ⟨fun _ => ⟨_, rfl, HE.out.base (by simp), HB.out⟩, fun h => absurd h h0'.out⟩
theorem hadd_any {es : Nat → Addr} {B : Nat} {F : Nat → Prop} {q mb : Nat} {D : DataW Unit} {L : List HLn} (s : Bs) (p : Int × Int) (w : World) (hs : s.length ≤ 100000) (hS : SVL es B w) (hB0 : B ≤ w.heap.size) (hH : HeadAt w F q mb D L) (hL : L.length ≤ 100000) (hN : ∀ x ∈ L, x.pts.length ≤ 100000) :
    Calls Tryz.prog 7 #[.pointer (some ⟨q, 0, none⟩), .string (B8 s), .agg #[.int .i64 p.1, .int .u64 p.2]] w (HAPost es F q mb D L s p w) := by
  by_cases h0 : (hFault (absL L) s p).1 = 0
  · cases hx : lnFind L s with
    | some x => exact hadd_known s p w hs hS hB0 hH hL hN x hx h0
    | none => exact hadd_new s p w hs hS hB0 hH hL hN hx h0
  · exact hadd_bad s p w hs hS hB0 hH hL h0
end Go.Proofs.YtfnjgminbjopeaaGreatDoor
