/- The reference's JoinOf: its exits ahead of the loop. -/
import Derived.Test.YtpbgonpmpjpljaaGreatDoorMkzX
import Derived.Test.YtpbgonpmpjpljaaGreatDoorRSetQX
import Derived.Deep.DeepCutAuto
import Derived.Deep.Light
import Derived.BigRegion
import Derived.BigQuiet
namespace Go.Proofs.YtpbgonpmpjpljaaGreatDoor
open Go.RowKit
set_option linter.unusedVariables false

theorem res_jo (tmps : Array Value) (W : World) (b b' : Nat) (v0 v1 v2 v3 c0 c1 : Value) (ha : tmps.getD 4 undef = .pointer (some ⟨b, 0, none⟩)) (hk : tmps.getD 5 undef = .pointer (some ⟨b', 0, none⟩)) (hB : Blk W b 24 #[v0, v1, v2, v3]) (hF : Blk W b' 29 #[c0, c1]) :
    (results Tryz.f17 tmps).run Tryz.prog W = .ok (.tuple #[.agg #[v0, v1, v2, v3], .agg #[c0, c1]]) W := by
  have z0 := hB.cell 0; have z1 := hB.cell 1; have z2 := hB.cell 2; have z3 := hB.cell 3
  obtain ⟨y0, y1⟩ := hF.duo2
  simp only [List.getElem?_toArray, List.getElem?_cons_zero, List.getElem?_cons_succ] at z0 z1 z2 z3
  simp only [Array.getD_eq_getD_getElem?] at ha hk
  simp [results, Tryz.results17, go_sem, ha, hk, z0, z1, z2, z3, y0, y1]
/-- What stands from the start on: the results' blocks, the arguments' boxes. -/
structure JB (w w0 W : World) (xv yv : Array Value) : Prop where
  iv : BoI w0 W
  ba : Blk W w.heap.size 24 xv
  bb : Blk W (w.heap.size + 1) 24 yv
  bl : Below w.heap.size w W
  lo : w.heap.size + 2 ≤ w0.heap.size
theorem JB.below {w w0 W W' : World} {xv yv : Array Value} (h : JB w w0 W xv yv) (hb : Below W.heap.size W W') : JB w w0 W' xv yv :=
  ⟨h.iv.below hb, h.ba.below hb h.ba.lt, h.bb.below hb h.bb.lt, Below.call h.bl hb h.bl.size, h.lo⟩
/-- A block behind the results' is written. -/
theorem JB.set {w w0 W : World} {xv yv : Array Value} (h : JB w w0 W xv yv) {p : Addr} (hp : w0.heap.size + 1 < p.block) (u : Value) : JB w w0 (W.setCell p u) xv yv := by
  have h1 := h.lo
  exact ⟨⟨h.iv.bq.far (by omega) u, h.iv.bf.far (by omega) u, Below.setCell h.iv.bl (by omega) u⟩, h.ba.far (by omega) u, h.bb.far (by omega) u, Below.setCell h.bl (by omega) u, h.lo⟩
theorem JB.fb {w w0 W : World} {xv yv : Array Value} (h : JB w w0 W xv yv) : w0.heap.size + 1 < W.heap.size := h.iv.bf.lt
/-- The end: six cells are written, in this order or the other. -/
theorem JB.out {w w0 W : World} {xv yv : Array Value} (h : JB w w0 W xv yv) {W' : World} (hb : Below w0.heap.size w0 W') (h0 : Below w.heap.size w w0) : Below w.heap.size w W' := Below.call h0 hb h0.size
theorem Pair.low {w : World} {base n1 n2 : Nat} {e : TypeId} {v1 v2 : Value} {xs1 xs2 : List Value} (h : Pair w base e v1 n1 xs1 v2 n2 xs2) {p : Addr} (hp : p.block < base) (u : Value) : Pair (w.setCell p u) base e v1 n1 xs1 v2 n2 xs2 :=
  h.set (fun e => by have := (own_lt h.l _ e.symm).1; omega) (fun e => by have := (own_lt h.r _ e.symm).1; omega) u
/-- Two blocks that may be joined. -/
def JnOk (x y : BArg) : Prop := (rowsR x.fr x.sp x.N x.K).1.1 = 0 ∧ (rowsR y.fr y.sp y.N y.K).1.1 = 0 ∧ x.fr + x.sp = y.fr ∧ ¬ 100000 < x.sp + y.sp
set_option maxRecDepth 100000 in
set_option maxHeartbeats 60000000 in
theorem rjoin_exits (x y : BArg) (w : World) (hx : x.Ok w) (hy : y.Ok w) (hM : ¬ JnOk x y) :
    Calls Tryz.prog 17 #[x.v, y.v] w fun e w' => RBPost (rjR x y) w e w' := by
  obtain ⟨R, hR⟩ : ∃ R, R = rjR x y := ⟨_, rfl⟩
  have HRx := Lib.hid (fun (c : Nat) (a : Int) (L : List Rw) (h : rowsR x.fr x.sp x.N x.K = ((c, a), L)) (hc : c ≠ 0) => hR.trans (rjR_x h hc))
  have HRy := Lib.hid (fun (h0 : (rowsR x.fr x.sp x.N x.K).1.1 = 0) (c : Nat) (a : Int) (L : List Rw) (h : rowsR y.fr y.sp y.N y.K = ((c, a), L)) (hc : c ≠ 0) => hR.trans (rjR_y h0 h hc))
  have HRs := Lib.hid (fun (h0 : (rowsR x.fr x.sp x.N x.K).1.1 = 0) (h1 : (rowsR y.fr y.sp y.N y.K).1.1 = 0) (hc : x.fr + x.sp ≠ y.fr) => hR.trans (rjR_s h0 h1 hc))
  have HRb := Lib.hid (fun (h0 : (rowsR x.fr x.sp x.N x.K).1.1 = 0) (h1 : (rowsR y.fr y.sp y.N y.K).1.1 = 0) (hc : x.fr + x.sp = y.fr) (hb : 100000 < x.sp + y.sp) => hR.trans (rjR_b h0 h1 hc hb))
  have HRm := Lib.hid (fun (X Y : List Rw) (hx : rowsR x.fr x.sp x.N x.K = ((0, -1), X)) (hy : rowsR y.fr y.sp y.N y.K = ((0, -1), Y)) (hX : Rise X) (hY : Rise Y) (hc : x.fr + x.sp = y.fr) (hb : ¬ 100000 < x.sp + y.sp) =>
    show ((makeR x.fr (x.sp + y.sp) (mrg X Y)).1.1 ≠ 0 → R = ((2, -1), (0, 0), [])) ∧ ((makeR x.fr (x.sp + y.sp) (mrg X Y)).1.1 = 0 → R = rmR x.fr (x.sp + y.sp) (mrg X Y)) from
    ⟨fun h => hR.trans (rjR_bad hx hy hX hY hc hb h), fun h => hR.trans (rjR_ok hx hy hX hY hc hb h)⟩)
  have HSx := Lib.hid (fun W (hb : Below w.heap.size w W) => setOf_any x.fr x.sp x.A x.C x.n x.c x.m x.d x.N x.K W (hx.below hb).a (hx.below hb).k hx.nl hx.kl)
  have HSy := Lib.hid (fun W (hb : Below w.heap.size w W) => setOf_any y.fr y.sp y.A y.C y.n y.c y.m y.d y.N y.K W (hy.below hb).a (hy.below hb).k hy.nl hy.kl)
  have HLx := Lib.hid (And.intro hx.nl hy.nl)
  rw [← hR]
  have HM := Lib.hid (show ¬ ((rowsR x.fr x.sp x.N x.K).1.1 = 0 ∧ (rowsR y.fr y.sp y.N y.K).1.1 = 0 ∧ x.fr + x.sp = y.fr ∧ ¬ 100000 < x.sp + y.sp) from hM)
  obtain ⟨fr, sp, A1, A2, n1, c1, n2, c2, N1, K1⟩ := x
  obtain ⟨gr, tp, A3, A4, n3, c3, n4, c4, N2, K2⟩ := y
  unfold BArg.v
  dsimp only at HRx HRy HRs HRb HRm HSx HSy HLx HM ⊢
  clear hR hx hy hM
  obtain ⟨RX, hRX⟩ : ∃ RX, RX = rowsR fr sp N1 K1 := ⟨_, rfl⟩
  obtain ⟨RY, hRY⟩ : ∃ RY, RY = rowsR gr tp N2 K2 := ⟨_, rfl⟩
  have Hxf := Lib.hid (show (RX.1.1 = 0 → Rise RX.2) ∧ RX.2.length ≤ 60 ∧ (∀ p ∈ RX.2, p.2.length ≤ 120) ∧ (∀ r ∈ RX.2, r.1.length ≤ 100000) ∧ (∀ r ∈ RX.2, ∀ p ∈ r.2, 0 ≤ p.2 ∧ p.2 < 18446744073709551616) ∧ (RX.1.1 = 0 → bndB fr sp = true) ∧ (RX.1.1 = 0 → RX.1 = (0, -1)) by
    rw [hRX]; exact ⟨rowsR_rise, rowsR_60, rowsR_le, rowsR_names HLx.out.1, rowsR_vals, rowsR_bnd, rowsR_zero⟩)
  have Hyf := Lib.hid (show (RY.1.1 = 0 → Rise RY.2) ∧ RY.2.length ≤ 60 ∧ (∀ p ∈ RY.2, p.2.length ≤ 120) ∧ (∀ r ∈ RY.2, r.1.length ≤ 100000) ∧ (∀ r ∈ RY.2, ∀ p ∈ r.2, 0 ≤ p.2 ∧ p.2 < 18446744073709551616) ∧ (RY.1.1 = 0 → bndB gr tp = true) ∧ (RY.1.1 = 0 → RY.1 = (0, -1)) by
    rw [hRY]; exact ⟨rowsR_rise, rowsR_60, rowsR_le, rowsR_names HLx.out.2, rowsR_vals, rowsR_bnd, rowsR_zero⟩)
  rw [← hRX] at HRx HRy HRs HRb HRm HSx HM
  rw [← hRY] at HRy HRs HRb HRm HSy HM
  clear hRX hRY HLx
  obtain ⟨⟨xc, xa⟩, X⟩ := RX
  obtain ⟨⟨yc, ya⟩, Y⟩ := RY
  dsimp only at Hxf Hyf HRx HRy HRs HRb HRm HSx HSy HM
  have hb0 : Below w.heap.size w ((w.alloc (.cells #[.int .i64 fr, .int .i64 sp, .slice A1 n1 c1, .slice A2 n2 c2] 24)).alloc (.cells #[.int .i64 gr, .int .i64 tp, .slice A3 n3 c3, .slice A4 n4 c4] 24)) := Below.alloc (Below.alloc (Below.refl _ _) (Nat.le_refl _) _) (by simp) _
  have ha0 := (Blk.new w 24 #[.int .i64 fr, .int .i64 sp, .slice A1 n1 c1, .slice A2 n2 c2]).alloc (.cells #[.int .i64 gr, .int .i64 tp, .slice A3 n3 c3, .slice A4 n4 c4] 24)
  have hbb := Blk.new (w.alloc (.cells #[.int .i64 fr, .int .i64 sp, .slice A1 n1 c1, .slice A2 n2 c2] 24)) 24 #[.int .i64 gr, .int .i64 tp, .slice A3 n3 c3, .slice A4 n4 c4]
  rw [World.size_alloc] at hbb
  have H0 := Lib.hid (show ∃ w0, w0.heap.size = w.heap.size + 1 + 1 ∧ Below w.heap.size w w0 ∧ JB w w0 ((((w.alloc (.cells #[.int .i64 fr, .int .i64 sp, .slice A1 n1 c1, .slice A2 n2 c2] 24)).alloc (.cells #[.int .i64 gr, .int .i64 tp, .slice A3 n3 c3, .slice A4 n4 c4] 24)).alloc (.cells #[.int .i64 0, .int .i64 0, .slice none 0 0, .slice none 0 0] 24)).alloc (.cells #[.int .i64 0, .int .i64 0] 29)) #[.int .i64 fr, .int .i64 sp, .slice A1 n1 c1, .slice A2 n2 c2] #[.int .i64 gr, .int .i64 tp, .slice A3 n3 c3, .slice A4 n4 c4] from by
    refine ⟨_, by simp, hb0, ?_⟩
    obtain ⟨w0, hw0⟩ : ∃ w0, w0 = (w.alloc (.cells #[.int .i64 fr, .int .i64 sp, .slice A1 n1 c1, .slice A2 n2 c2] 24)).alloc (.cells #[.int .i64 gr, .int .i64 tp, .slice A3 n3 c3, .slice A4 n4 c4] 24) := ⟨_, rfl⟩
    have hs : w0.heap.size = w.heap.size + 1 + 1 := by rw [hw0]; simp
    rw [← hw0] at hb0 ha0 hbb ⊢
    have hf1 := Blk.new (w0.alloc (.cells #[.int .i64 0, .int .i64 0, .slice none 0 0, .slice none 0 0] 24)) 29 #[.int .i64 0, .int .i64 0]
    rw [World.size_alloc] at hf1
    exact ⟨⟨(Blk.new w0 _ _).alloc _, hf1, Below.alloc (Below.alloc (Below.refl _ _) (Nat.le_refl _) _) (by simp) _⟩, (ha0.alloc _).alloc _, (hbb.alloc _).alloc _, Below.alloc (Below.alloc hb0 hb0.size _) (by rw [World.size_alloc]; omega) _, by omega⟩)
  obtain ⟨w0, hs0, hb00, hJ0⟩ := H0.out
  have HJ0 := Lib.hid hJ0; have HB00 := Lib.hid hb00; have HS0 := Lib.hid hs0
  clear H0 hb0 ha0 hbb hs0 hb00 hJ0
  go_enter Tryz.func17, Tryz.ntmps17
  go_upto_region 0 with fail
  go_cut [2, 3, 4, 5] (fun p2 p3 p4 p5 wx => p2 = .pointer (some ⟨w.heap.size, 0, none⟩) ∧ p3 = .pointer (some ⟨w.heap.size + 1, 0, none⟩) ∧ p4 = .pointer (some ⟨w0.heap.size, 0, none⟩) ∧ p5 = .pointer (some ⟨w0.heap.size + 1, 0, none⟩) ∧ JB w w0 wx #[.int .i64 fr, .int .i64 sp, .slice A1 n1 c1, .slice A2 n2 c2] #[.int .i64 gr, .int .i64 tp, .slice A3 n3 c3, .slice A4 n4 c4])
  case first =>
    go_wp2_with fail
    go_meet
    exact ⟨rfl, rfl, by rw [HS0.out], by rw [HS0.out], HJ0.out⟩
  case rest =>
    obtain ⟨rfl, rfl, rfl, rfl, hJ⟩ := hcut
    clear HJ0 HS0
    rename World => w1
    have HJ := Lib.hid hJ
    have HsX := Lib.hid (HSx.out _ hJ.bl)
    obtain ⟨⟨a0, a1, a2, a3⟩, _⟩ := cells4 hJ.ba
    clear hJ HSx
    apply_assumption
    go_wp2_with fail
    refine HsX.out.mono ?_
    rintro e w2 ⟨u, rfl, hbad, hgood, hb⟩
    rw [show fV ((xc, xa), X).1 = .agg #[.int .i64 (xc : Int), .int .i64 xa] from rfl]
    have HJ2 := Lib.hid (HJ.out.below hb)
    have HJ3 := Lib.hid (HJ2.out.below (Below.alloc (Below.refl w2.heap.size w2) (Nat.le_refl _) (.cells #[.int .i64 (xc : Int), .int .i64 xa] 29)))
    have HF3 := Lib.hid (Blk.new w2 29 #[.int .i64 (xc : Int), .int .i64 xa])
    have Hg0 := Lib.hid (show w0.heap.size + 1 < w2.heap.size from HJ2.out.fb)
    have Hb3 := Lib.hid (Below.alloc (Below.refl w2.heap.size w2) (Nat.le_refl _) (.cells #[.int .i64 (xc : Int), .int .i64 xa] 29))
    clear hb HsX a0 a1 a2 a3
    by_cases hxc : xc = 0
    case neg =>
      -- slow
      clear HM
      have Hfin := Lib.hid (HRx.out xc xa X rfl hxc)
      obtain rfl := hbad hxc
      have hpos : (0 : Int) < (xc : Int) := by omega
      have Hgn := Lib.hid (show w2.heap.size ≠ w0.heap.size by have := Hg0.out; omega)
      clear hxc hbad hgood
      have HX0 := Lib.hid (bo_set HJ3.out.iv (Below.refl _ _) (.int .i64 0) (.int .i64 0) (.slice none 0 0) (.slice none 0 0) (.int .i64 (xc : Int)) (.int .i64 xa))
      have HXB := Lib.hid (bo_setB HJ3.out.iv (.int .i64 0) (.int .i64 0) (.slice none 0 0) (.slice none 0 0) (.int .i64 (xc : Int)) (.int .i64 xa))
      obtain ⟨⟨q0, q1, q2, q3⟩, ⟨r0, r1, r2, r3⟩⟩ := cells4 HJ3.out.iv.bq
      obtain ⟨⟨_, _⟩, ⟨k0, k1⟩⟩ := cells2 HJ3.out.iv.bf
      obtain ⟨⟨f0, f1⟩, _⟩ := cells2 HF3.out
      obtain ⟨⟨f2, f3⟩, ⟨f4, f5⟩⟩ := bo_far (w := w0) HF3.out Hgn.out (.int .i64 0) (.int .i64 0) (.slice none 0 0) (.slice none 0 0)
      go_wp2
      go_region
      all_goals
        go_wp2
        refine bodyPost_ret (res_jo _ _ w0.heap.size (w0.heap.size + 1) _ _ _ _ _ _ rfl rfl (by first | with_reducible exact HX0.out.1.drew | with_reducible exact HXB.out.1.drew | with_reducible exact HX0.out.1 | with_reducible exact HXB.out.1) (by first | with_reducible exact HX0.out.2.1.drew | with_reducible exact HXB.out.2.1.drew | with_reducible exact HX0.out.2.1 | with_reducible exact HXB.out.2.1)) rfl ?_
        exact RB.err Hfin.out rfl (Below.call HB00.out (by first | with_reducible exact HX0.out.2.2.drew | with_reducible exact HXB.out.2.2.drew | with_reducible exact HX0.out.2.2 | with_reducible exact HXB.out.2.2) HB00.out.size)
      -- end
    obtain ⟨q1, sv1, lv1, NX, QX, rfl, hat, his⟩ := hgood hxc
    have hxz := Hxf.out.2.2.2.2.2.2 hxc
    injection hxz with hxz1 hxz2
    subst hxz1
    subst hxz2
    have HJ3 := Lib.hid (show JB w w0 (w2.alloc (.cells #[.int .i64 0, .int .i64 (-1)] 29)) #[.int .i64 fr, .int .i64 sp, .slice A1 n1 c1, .slice A2 n2 c2] #[.int .i64 gr, .int .i64 tp, .slice A3 n3 c3, .slice A4 n4 c4] from HJ3.out)
    have HF3 := Lib.hid (show Blk (w2.alloc (.cells #[.int .i64 0, .int .i64 (-1)] 29)) w2.heap.size 29 #[.int .i64 0, .int .i64 (-1)] from HF3.out)
    have Hb3 := Lib.hid (show Below w2.heap.size w2 (w2.alloc (.cells #[.int .i64 0, .int .i64 (-1)] 29)) from Hb3.out)
    have hsx := hat.rd his
    obtain ⟨w3, hw3⟩ : ∃ w3, w3 = w2.alloc (.cells #[.int .i64 0, .int .i64 (-1)] 29) := ⟨_, rfl⟩
    have Hw3 := Lib.hid hw3
    have Hz3 := Lib.hid (show w3.heap.size = w2.heap.size + 1 by rw [hw3, World.size_alloc])
    rw [← hw3] at HJ3 HF3 Hb3
    obtain ⟨g, hg⟩ : ∃ g, g = w2.heap.size := ⟨_, rfl⟩
    have HSX := Lib.hid hsx
    have HsY := Lib.hid (HSy.out _ HJ3.out.bl)
    rw [← hg] at HF3 Hg0 Hz3
    have Hgg := Lib.hid hg
    obtain ⟨⟨b0, b1, b2, b3⟩, _⟩ := cells4 HJ3.out.bb
    obtain ⟨⟨f0, f1⟩, _⟩ := cells2 HF3.out
    clear hbad hgood hat his hxc hw3 hsx hg HSy HJ2
    go_upto_region 2 with fail
    rw [← Hw3.out, ← Hgg.out]
    go_wp2_with fail
    refine HsY.out.mono ?_
    rintro e w4 ⟨u, rfl, hbad, hgood, hb⟩
    rw [show fV ((yc, ya), Y).1 = .agg #[.int .i64 (yc : Int), .int .i64 ya] from rfl]
    have HJ4 := Lib.hid (HJ3.out.below hb)
    have HF4 := Lib.hid (HF3.out.below hb HF3.out.lt)
    have HJ5 := Lib.hid ((HJ4.out.set (p := ⟨g, 0, none⟩) Hg0.out (.int .i64 (yc : Int))).set (p := ⟨g, 1, none⟩) Hg0.out (.int .i64 ya))
    have HF5 := Lib.hid ((HF4.out.set_ 0 (.int .i64 (yc : Int))).set_ 1 (.int .i64 ya))
    have Hgn := Lib.hid (show g ≠ w0.heap.size by have := Hg0.out; omega)
    obtain ⟨_, ⟨g0, g1⟩⟩ := cells2 HF4.out
    have HBX := Lib.hid (show Below w2.heap.size w2 ((w4.setCell ⟨g, 0, none⟩ (.int .i64 (yc : Int))).setCell ⟨g, 1, none⟩ (.int .i64 ya)) from
      Below.setCell (p := ⟨g, 1, none⟩) (Below.setCell (p := ⟨g, 0, none⟩) (Below.call Hb3.out hb Hb3.out.size) (Nat.le_of_eq Hgg.out.symm) _) (Nat.le_of_eq Hgg.out.symm) _)
    clear hb HsY b0 b1 b2 b3 f0 f1 HF3
    obtain ⟨w5, hw5⟩ : ∃ w5, w5 = (w4.setCell ⟨g, 0, none⟩ (.int .i64 (yc : Int))).setCell ⟨g, 1, none⟩ (.int .i64 ya) := ⟨_, rfl⟩
    have Hw5 := Lib.hid hw5
    rw [← hw5] at HJ5 HF5 HBX
    go_upto_region 5 with fail
    rw [← Hw5.out]
    obtain ⟨⟨f0, f1⟩, _⟩ := cells2 HF5.out
    clear hw5 g0 g1
    by_cases hyc : yc = 0
    case neg =>
      -- slow
      clear HM
      have Hfin := Lib.hid (HRy.out (by trivial) yc ya Y rfl hyc)
      obtain rfl := hbad hyc
      have hpos : (0 : Int) < (yc : Int) := by omega
      clear hyc hbad hgood
      have HX0 := Lib.hid (bo_set HJ5.out.iv (Below.refl _ _) (.int .i64 0) (.int .i64 0) (.slice none 0 0) (.slice none 0 0) (.int .i64 (yc : Int)) (.int .i64 ya))
      have HXB := Lib.hid (bo_setB HJ5.out.iv (.int .i64 0) (.int .i64 0) (.slice none 0 0) (.slice none 0 0) (.int .i64 (yc : Int)) (.int .i64 ya))
      obtain ⟨⟨q0, q1, q2, q3⟩, ⟨r0, r1, r2, r3⟩⟩ := cells4 HJ5.out.iv.bq
      obtain ⟨⟨_, _⟩, ⟨k0, k1⟩⟩ := cells2 HJ5.out.iv.bf
      obtain ⟨⟨f0, f1⟩, _⟩ := cells2 HF5.out
      obtain ⟨⟨f2, f3⟩, ⟨f4, f5⟩⟩ := bo_far (w := w0) HF5.out Hgn.out (.int .i64 0) (.int .i64 0) (.slice none 0 0) (.slice none 0 0)
      go_wp2
      go_region
      all_goals
        go_wp2
        refine bodyPost_ret (res_jo _ _ w0.heap.size (w0.heap.size + 1) _ _ _ _ _ _ rfl rfl (by first | with_reducible exact HX0.out.1.drew | with_reducible exact HXB.out.1.drew | with_reducible exact HX0.out.1 | with_reducible exact HXB.out.1) (by first | with_reducible exact HX0.out.2.1.drew | with_reducible exact HXB.out.2.1.drew | with_reducible exact HX0.out.2.1 | with_reducible exact HXB.out.2.1)) rfl ?_
        exact RB.err Hfin.out rfl (Below.call HB00.out (by first | with_reducible exact HX0.out.2.2.drew | with_reducible exact HXB.out.2.2.drew | with_reducible exact HX0.out.2.2 | with_reducible exact HXB.out.2.2) HB00.out.size)
      -- end
    obtain ⟨q2, sv2, lv2, NY, QY, rfl, hat, his⟩ := hgood hyc
    have hyz := Hyf.out.2.2.2.2.2.2 hyc
    injection hyz with hyz1 hyz2
    subst hyz1
    subst hyz2
    have hw5 : w5 = (w4.setCell ⟨g, 0, none⟩ (.int .i64 0)).setCell ⟨g, 1, none⟩ (.int .i64 (-1)) := Hw5.out
    have hS : Fr (fun k => k = g) w4 w5 := by rw [hw5]; exact ((Fr.refl (fun k => k = g) w4).setCell (p := ⟨g, 0, none⟩) (.inr rfl) (.int .i64 0)).setCell (p := ⟨g, 1, none⟩) (.inr rfl) (.int .i64 (-1))
    have hsy := (hat.fr hS (fun k hk e => by have := Hz3.out; omega)).rd his
    have HF5 := Lib.hid (show Blk w5 g 29 #[.int .i64 0, .int .i64 (-1)] from HF5.out)
    have hsx5 := SetRd.call HSX.out HBX.out
    have Hhx := Lib.hid hsx5.hold
    have Hhy := Lib.hid hsy.hold
    have hbx := Hxf.out.2.2.2.2.2.1 (by trivial)
    have hby := Hyf.out.2.2.2.2.2.1 (by trivial)
    have hbs : 1 ≤ sp ∧ sp ≤ 100000 ∧ -1099511627776 ≤ fr ∧ fr ≤ 1099511627776 := by simpa [bndB] using hbx
    have hbt : 1 ≤ tp ∧ tp ≤ 100000 ∧ -1099511627776 ≤ gr ∧ gr ≤ 1099511627776 := by simpa [bndB] using hby
    have HrX := Lib.hid (Hxf.out.1 (by trivial)); have HrY := Lib.hid (Hyf.out.1 (by trivial))
    obtain ⟨⟨a0, a1, a2, a3⟩, _⟩ := cells4 HJ5.out.ba
    obtain ⟨⟨b0, b1, b2, b3⟩, _⟩ := cells4 HJ5.out.bb
    clear f0 f1
    obtain ⟨⟨f0, f1⟩, _⟩ := cells2 HF5.out
    clear hbad hgood hat his hyc hw5 hsx5 hsy hS hbx hby HJ3 HJ4 HF4 HSX HBX Hb3 Hw3 Hz3 Hgg HRx HRy Hw5
    by_cases hjn : fr + sp = gr
    case neg =>
      -- slow
      clear HM
      have Hfin := Lib.hid (HRs.out (by trivial) (by trivial) hjn)
      have hne : (fr + sp != gr) = true := by simpa using hjn
      have hne' : (fr + sp == gr) = false := by simpa using hjn
      clear hjn
      go_wp2_with fail
      refine (bare_any 3 _).mono ?_
      rintro e w6 ⟨rfl, hb⟩
      have HX := Lib.hid (bo_set HJ5.out.iv hb (.int .i64 0) (.int .i64 0) (.slice none 0 0) (.slice none 0 0) (.int .i64 3) (.int .i64 (-1)))
      obtain ⟨⟨q0, q1, q2, q3⟩, ⟨r0, r1, r2, r3⟩⟩ := cells4 (HJ5.out.iv.bq.below hb HJ5.out.iv.bq.lt)
      obtain ⟨⟨_, _⟩, ⟨k0, k1⟩⟩ := cells2 (HJ5.out.iv.bf.below hb HJ5.out.iv.bf.lt)
      clear hb
      go_wp2
      refine bodyPost_ret (res_jo _ _ w0.heap.size (w0.heap.size + 1) _ _ _ _ _ _ rfl rfl (by with_reducible exact HX.out.1) (by with_reducible exact HX.out.2.1)) rfl ?_
      exact RB.err Hfin.out rfl (Below.call HB00.out HX.out.2.2 HB00.out.size)
      -- end
    have hne : (fr + sp != gr) = false := by simpa using hjn
    have hne' : (fr + sp == gr) = true := by simpa using hjn
    have Hjn := Lib.hid hjn
    clear hjn
    by_cases hsb : 100000 < sp + tp
    · -- slow
      clear HM
      have Hfin := Lib.hid (HRb.out (by trivial) (by trivial) Hjn.out hsb)
      go_wp2_with fail
      refine (bare_any 2 _).mono ?_
      rintro e w6 ⟨rfl, hb⟩
      have HX := Lib.hid (bo_set HJ5.out.iv hb (.int .i64 0) (.int .i64 0) (.slice none 0 0) (.slice none 0 0) (.int .i64 2) (.int .i64 (-1)))
      obtain ⟨⟨q0, q1, q2, q3⟩, ⟨r0, r1, r2, r3⟩⟩ := cells4 (HJ5.out.iv.bq.below hb HJ5.out.iv.bq.lt)
      obtain ⟨⟨_, _⟩, ⟨k0, k1⟩⟩ := cells2 (HJ5.out.iv.bf.below hb HJ5.out.iv.bf.lt)
      clear hb
      go_wp2
      refine bodyPost_ret (res_jo _ _ w0.heap.size (w0.heap.size + 1) _ _ _ _ _ _ rfl rfl (by with_reducible exact HX.out.1) (by with_reducible exact HX.out.2.1)) rfl ?_
      exact RB.err Hfin.out rfl (Below.call HB00.out HX.out.2.2 HB00.out.size)
      -- end
    first | exact (HM.out ⟨Hjn.out, by omega⟩).elim | exact (HM.out ⟨by trivial, by trivial, Hjn.out, by omega⟩).elim
end Go.Proofs.YtpbgonpmpjpljaaGreatDoor
