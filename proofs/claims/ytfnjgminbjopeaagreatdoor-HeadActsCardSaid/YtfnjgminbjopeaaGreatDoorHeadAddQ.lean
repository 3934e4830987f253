/- head.Add by its contract. -/
import Derived.Test.YtfnjgminbjopeaaGreatDoorHeadChkQ
import Derived.Test.YtfnjgminbjopeaaGreatDoorHeadPutQ
import Derived.Test.YtfnjgminbjopeaaGreatDoorSums
import Derived.Deep.RegionHeld3
namespace Go.Proofs.YtfnjgminbjopeaaGreatDoor
open Go.RowKit Go.Maps
set_option linter.unusedVariables false

/-- What Add answers. -/
def HAPost (es : Nat → Addr) (F : Nat → Prop) (q mb : Nat) (D : DataW Unit) (L : List HLn) (s : Bs) (p : Int × Int) (w : World) (e : Ending) (w' : World) : Prop :=
  ((hFault (absL L) s p).1 ≠ 0 → ∃ v, e = .returned v ∧ EV es w.heap.size w' v (hFault (absL L) s p) ∧ Below w.heap.size w w') ∧
  ((hFault (absL L) s p).1 = 0 → e = .returned .nilIface ∧ ∃ D' L', HeadAt w' (fun k => F k ∨ w.heap.size ≤ k) q mb D' L' ∧ absL L' = hAdd (absL L) s p ∧ Fr F w w')

theorem rd_pt (W : World) (u0 u1 : Value) : Rd (W.alloc (.cells #[u0, u1] 32)) (W.alloc (.cells #[u0, u1] 32)).heap.size 2 (some ⟨W.heap.size, 0, none⟩) 1 [u0, u1] := by
  refine ⟨rfl, fun _ => ⟨W.heap.size, 0, rfl, by simp, fun j u hu => ?_⟩⟩
  rw [Nat.zero_add, (Blk.new W 32 #[u0, u1]).cell j]
  simpa using hu
theorem hadd_done {F : Nat → Prop} {q mb N n c : Nat} {D : DataW Unit} {L : List HLn} {w1 W wa : World} {x : HLn} {A : Option Addr} {v' : Value} {t b : Int} (h1 : HeadAt w1 F q mb D L) (hx : x ∈ L) (hv : x.v = .slice A x.pts.length c) (hn : n = x.pts.length)
    (hf : Fr (fun _ => False) w1 W) (hgr : W.grownBy wa (ownZB (.slice A n c))) (hown : wa.ownsRow 0 32 2 v' (n + 1) (ptsC x.pts ++ [.int .i64 t, .int .u64 b])) (hat : v'.ownBlock = ownZB (.slice A n c) ∨ v'.ownBlock = some W.heap.size) (hN : N ≤ w1.heap.size) :
    HeadAt ((wa.setCell ⟨x.bk, 0, none⟩ v').setCell ⟨x.bk, 1, none⟩ (.int .i64 t)) (fun k => F k ∨ N ≤ k) q mb D (turnL L x.nm v' (x.pts ++ [(t, b)]) t) ∧ Fr F w1 ((wa.setCell ⟨x.bk, 0, none⟩ v').setCell ⟨x.bk, 1, none⟩ (.int .i64 t)) := by
  rw [hn, ← hv] at hgr hat
  rw [hn] at hown
  obtain ⟨x1, x2, _, _⟩ := h1.ln x hx
  have hfa : Fr (fun k => ownZB x.v = some k) w1 wa := (hf.mono (fun _ _ h => h.elim)).grown hgr (fun k hk => .inr hk)
  have xa : Blk wa x.bk 69 #[x.v, .int .i64 x.last] := hfa.blk x1 (fun e => x2.ne_blk x1 (by decide) e)
  have hz : Fr (fun k => k = x.bk) wa ((wa.setCell ⟨x.bk, 0, none⟩ v').setCell ⟨x.bk, 1, none⟩ (.int .i64 t)) := Fr.setCell (S := fun k => k = x.bk) (Fr.setCell (S := fun k => k = x.bk) (Fr.refl _ _) (p := ⟨x.bk, 0, none⟩) (.inr rfl) v') (p := ⟨x.bk, 1, none⟩) (.inr rfl) _
  refine h1.turn (S := fun k => ownZB x.v = some k) hx hfa (fun k hk => hk) (OwnZ.of_own (base := 0) ?_) (fun g hg => ?_) hN _ hz ((xa.set_ 0 v').set_ 1 (.int .i64 t)) (fun g hg e => ?_)
  · rw [List.length_append, List.length_singleton]
    have : ptsC (x.pts ++ [(t, b)]) = ptsC x.pts ++ [.int .i64 t, .int .u64 b] := by simp [ptsC]
    rw [this]; exact hown
  · have := ownZB_le hg
    rcases hat with h | h
    · exact .inl (h ▸ this)
    · rw [h] at this
      injection this with this
      exact .inr (by rw [← this]; exact hf.size)
  · have := ownZB_le hg
    exact own_ne_blk hown xa (by decide) (by rw [this, e])
theorem pt_one (t b : Int) : ∀ u ∈ [Value.int .i64 t, Value.int .u64 b], u.oneCell' = true := by
  intro u hu; simp at hu; rcases hu with rfl | rfl <;> rfl
set_option maxRecDepth 100000 in
set_option maxHeartbeats 4000000 in
theorem hadd_known {es : Nat → Addr} {B : Nat} {F : Nat → Prop} {q mb : Nat} {D : DataW Unit} {L : List HLn} (s : Bs) (p : Int × Int) (w : World) (hs : s.length ≤ 100000) (hS : SVL es B w) (hB0 : B ≤ w.heap.size) (hH : HeadAt w F q mb D L) (hL : L.length ≤ 100000) (hN : ∀ x ∈ L, x.pts.length ≤ 100000)
    (x : HLn) (hx : lnFind L s = some x) (h0 : (hFault (absL L) s p).1 = 0) :
    Calls Tryz.prog 7 #[.pointer (some ⟨q, 0, none⟩), .string (B8 s), .agg #[.int .i64 p.1, .int .u64 p.2]] w (HAPost es F q mb D L s p w) := by
  have hb1 : Below w.heap.size w (w.alloc (.cells #[.int .i64 p.1, .int .u64 p.2] 32)) := Below.alloc (Below.refl _ _) (Nat.le_refl _) _
  have Hck := Lib.hid (hcheck_any s p _ hs (hS.below hb1 hB0) (Nat.le_trans hB0 hb1.size) (hH.below hb1) hL)
  have HP := Lib.hid (Blk.new w 32 #[.int .i64 p.1, .int .u64 p.2])
  have HH := Lib.hid (fun W (hb : Below w.heap.size w W) => hH.below hb)
  have Hb1 := Lib.hid hb1
  have Hlk := Lib.hid (fun W (hb : Below w.heap.size w W) => ((hH.below hb).look s (by omega)).1 x hx)
  obtain ⟨hxm, hxn⟩ := lnFind_mem hx
  have Hxm := Lib.hid hxm
  have Hab := Lib.hid (fun v => show absL (turnL L x.nm v (x.pts ++ [p]) p.1) = hAdd (absL L) s p by
    rw [absL_turn hH.srt hxm v p, hxn]
    unfold hAdd
    rw [lnFind_abs, hx]; rfl)
  obtain ⟨_, g2, _⟩ := hH.ln x hxm
  obtain ⟨A, c, hv, hnc, hcm, _⟩ := g2.form
  have Hv := Lib.hid hv
  obtain ⟨n, hn⟩ : ∃ n, n = x.pts.length := ⟨_, rfl⟩
  have Hn := Lib.hid hn
  have hn1 : n ≤ 100000 := by rw [hn]; exact hN x hxm
  rw [← hn] at hv hnc
  have hq := hH.hd.lt
  have h0' := Lib.hid h0
  have hlt0 : ∀ g, ownZB (.slice A n c) = some g → g < w.heap.size := by rw [← hv]; exact g2.lt
  obtain ⟨i0, hi, hz0, hz1, hz2⟩ := info_parts infoPt
  have Hi := Lib.hid hi; have Hz0 := Lib.hid hz0; have Hz1 := Lib.hid hz1; have Hz2 := Lib.hid hz2
  clear hS hH hb1 hL hN hx g2 hv hn h0 hi hz0 hz1 hz2 hxm
  generalize hst : B8 s = st at Hck Hlk ⊢
  clear hst
  obtain ⟨t, b⟩ := p
  dsimp only at Hck HP Hb1 Hab ⊢
  go_enter Tryz.func7, Tryz.ntmps7
  go_wp2_with fail
  refine Hck.out.mono ?_
  rintro e w1 ⟨v, rfl, hev, hb⟩
  obtain rfl := hev.zero h0'.out
  have HB := Lib.hid (Below.call Hb1.out hb (by simp))
  have hk := HP.out.below hb (by simp)
  have z0 := hk.cell 0
  have z00 := hk.cell 1
  have h1 := HH.out _ HB.out
  have z1 : w1.cell? ⟨q, 0, none⟩ = some (.map (some mb)) := h1.hd.cell 0
  have z2 := Hlk.out _ HB.out
  obtain ⟨g1, g2, g3, g4⟩ := h1.ln x Hxm.out
  have z3 : w1.cell? ⟨x.bk, 0, none⟩ = some (.slice A n c) := by rw [Hn.out, ← Hv.out]; exact g1.cell 0
  have z4 := g1.frozen 0; have z5 := g1.frozen 1
  have H4 := Lib.hid (fun W (hf : Fr (fun _ => False) w1 W) => show OwnZ W 32 2 (.slice A n c) n (ptsC x.pts) from by
    have h := g2.fr hf (fun _ _ h => h)
    rw [Hn.out, ← Hv.out]; exact h)
  have hbx : w.heap.size < w1.heap.size := hk.lt
  have hxb : x.bk < w1.heap.size := g1.lt
  have hk63 : n + 1 ≤ maxLen := by unfold maxLen; omega
  have hk8 : (n + 1) * 16 ≤ 140737488355328 := by omega
  have hne : x.bk ≠ w.heap.size := Blk.ne_ g1 hk (by decide)
  have Hlt0 := Lib.hid hlt0
  have HF := Lib.hid (fun W wa (hf : Fr (fun _ => False) w1 W) (hgr : W.grownBy wa (ownZB (.slice A n c))) => show wa.cell? ⟨w.heap.size, 0, none⟩ = some (.int .i64 t) ∧ wa.cell? ⟨w.heap.size, 1, none⟩ = some (.int .u64 b) ∧ wa.cell? ⟨x.bk, 0, none⟩ = some (.slice A n c) ∧ wa.cell? ⟨x.bk, 1, none⟩ = some (.int .i64 x.last) ∧ wa.frozen? ⟨x.bk, 0, none⟩ = false ∧ wa.frozen? ⟨x.bk, 1, none⟩ = false ∧ x.bk < wa.heap.size from by
    have e1 : ∀ k, k < w1.heap.size → some k ≠ ownZB (.slice A n c) → wa.heap[k]? = w1.heap[k]? := fun k hk1 hk2 => (hgr.block k (Nat.lt_of_lt_of_le hk1 hf.size) hk2).trans (hf.block k hk1 (fun h => h))
    have n1 : some w.heap.size ≠ ownZB (.slice A n c) := fun e => by have := hlt0 _ e.symm; omega
    have n2 : some x.bk ≠ ownZB (.slice A n c) := fun e => (H4.out w1 (Fr.refl _ _)).ne_blk g1 (by decide) e.symm
    exact ⟨(World.cell?_of_block (e1 _ hbx n1)).trans z0, (World.cell?_of_block (e1 _ hbx n1)).trans z00, (World.cell?_of_block (e1 _ hxb n2)).trans z3, (World.cell?_of_block (e1 _ hxb n2)).trans (g1.cell 1), (World.frozen?_of_block (e1 _ hxb n2)).trans z4, (World.frozen?_of_block (e1 _ hxb n2)).trans z5, Nat.lt_of_lt_of_le hxb (Nat.le_trans hf.size hgr.size)⟩)
  clear hev hb hk h1 g1 g2 g3 g4 hlt0
  go_wp2
  go_region_law ((refine step_append_rz (by rfl) (.tmp 41) (.tmp 43) _ (by rfl) 32 i0 (.agg #[.int .i64 0, .int .u64 0]) 2 16 Tryz.underlying52 Hi.out Hz0.out Hz1.out Hz2.out (by rfl) (by decide) (.slice A n c) n (ptsC x.pts) (by rfl) (H4.out _ (by repeat (first | exact Fr.refl _ _ | refine Fr.drew ?_ | refine Fr.alloc ?_ _))) _ (some ⟨w1.heap.size, 0, none⟩) 1 1 [.int .i64 t, .int .u64 b] (by rfl) (rd_pt w1 (.int .i64 t) (.int .u64 b)) (pt_one _ _) (by decide) hk63 hk8 ?_; intro v' wa hown' hgr hat hcap; obtain ⟨A2, c2, rfl, _, _, _⟩ := own_form hown'; have HE := Lib.hid (hadd_done (HH.out _ HB.out) Hxm.out Hv.out Hn.out (by repeat (first | exact Fr.refl _ _ | refine Fr.drew ?_ | refine Fr.alloc ?_ _)) hgr hown' hat HB.out.size); clear hown' hat hcap; obtain ⟨y1, y2, y3, y4, y5, y6, y7⟩ := HF.out _ wa (by repeat (first | exact Fr.refl _ _ | refine Fr.drew ?_ | refine Fr.alloc ?_ _)) hgr))
  all_goals
    go_wp2
    go_ret
    refine ⟨fun h => absurd h0'.out h, fun _ => ⟨rfl, D, _, HE.out.1, ?_, Fr.trans ((Fr.ofBelow HB.out).mono (fun _ _ h => h.elim)) HE.out.2 (fun _ _ h => h)⟩⟩
    exact Hab.out _
end Go.Proofs.YtfnjgminbjopeaaGreatDoor
