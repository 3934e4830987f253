/- The reference's JoinOf by its contract. -/
import Derived.Test.YtpbgonpmpjpljaaGreatDoorRJoinXQX
import Derived.Deep.DeepCutAuto
import Derived.Deep.Light
import Derived.BigRegion
import Derived.BigQuiet
namespace Go.Proofs.YtpbgonpmpjpljaaGreatDoor
open Go.RowKit
set_option linter.unusedVariables false

set_option maxRecDepth 100000 in
set_option maxHeartbeats 60000000 in
theorem rjoin_main (x y : BArg) (w : World) (hx : x.Ok w) (hy : y.Ok w) (hM : JnOk x y) :
    Calls Tryz.prog 17 #[x.v, y.v] w fun e w' => RBPost (rjR x y) w e w' := by
  obtain ⟨R, hR⟩ : ∃ R, R = rjR x y := ⟨_, rfl⟩
  have HRx := Lib.hid (fun (c : Nat) (a : Int) (L : List Rw) (h : rowsR x.fr x.sp x.N x.K = ((c, a), L)) (hc : c ≠ 0) => hR.trans (rjR_x h hc))
  have HRy := Lib.hid (fun (h0 : (rowsR x.fr x.sp x.N x.K).1.1 = 0) (c : Nat) (a : Int) (L : List Rw) (h : rowsR y.fr y.sp y.N y.K = ((c, a), L)) (hc : c ≠ 0) => hR.trans (rjR_y h0 h hc))
  have HRs := Lib.hid (fun (h0 : (rowsR x.fr x.sp x.N x.K).1.1 = 0) (h1 : (rowsR y.fr y.sp y.N y.K).1.1 = 0) (hc : x.fr + x.sp ≠ y.fr) => hR.trans (rjR_s h0 h1 hc))
  have HRb := Lib.hid (fun (h0 : (rowsR x.fr x.sp x.N x.K).1.1 = 0) (h1 : (rowsR y.fr y.sp y.N y.K).1.1 = 0) (hc : x.fr + x.sp = y.fr) (hb : 100000 < x.sp + y.sp) => hR.trans (rjR_b h0 h1 hc hb))
  have HRm := Lib.hid (fun (X Y : List Rw) (hx : rowsR x.fr x.sp x.N x.K = ((0, -1), X)) (hy : rowsR y.fr y.sp y.N y.K = ((0, -1), Y)) (hX : Rise X) (hY : Rise Y) (hc : x.fr + x.sp = y.fr) (hb : ¬ 100000 < x.sp + y.sp) =>
    show ((makeR x.fr (x.sp + y.sp) (mrg X Y)).1.1 ≠ 0 → R = ((2, -1), (0, 0), [])) ∧ ((makeR x.fr (x.sp + y.sp) (mrg X Y)).1.1 = 0 → R = rmR x.fr (x.sp + y.sp) (mrg X Y)) from
    ⟨fun h => hR.trans (rjR_bad hx hy hX hY hc hb h), fun h => hR.trans (rjR_ok hx hy hX hY hc hb h)⟩)
  have HSx := Lib.hid (fun W (hb : Below w.heap.size w W) => setOf_any x.fr x.sp x.A x.C x.n x.c x.m x.d x.N x.K W (hx.below hb).a (hx.below hb).k hx.nl hx.kl)
  have HSy := Lib.hid (fun W (hb : Below w.heap.size w W) => setOf_any y.fr y.sp y.A y.C y.n y.c y.m y.d y.N y.K W (hy.below hb).a (hy.below hb).k hy.nl hy.kl)
  have HLx := Lib.hid (And.intro hx.nl hy.nl)
  rw [← hR]
  have HM := Lib.hid (show (rowsR x.fr x.sp x.N x.K).1.1 = 0 ∧ (rowsR y.fr y.sp y.N y.K).1.1 = 0 ∧ x.fr + x.sp = y.fr ∧ ¬ 100000 < x.sp + y.sp from hM)
  obtain ⟨fr, sp, A1, A2, n1, c1, n2, c2, N1, K1⟩ := x
  obtain ⟨gr, tp, A3, A4, n3, c3, n4, c4, N2, K2⟩ := y
  unfold BArg.v
  dsimp only at HRx HRy HRs HRb HRm HSx HSy HLx HM ⊢
  clear hR hx hy hM
  obtain ⟨RX, hRX⟩ : ∃ RX, RX = rowsR fr sp N1 K1 := ⟨_, rfl⟩
  obtain ⟨RY, hRY⟩ : ∃ RY, RY = rowsR gr tp N2 K2 := ⟨_, rfl⟩
  have Hxf := Lib.hid (show (RX.1.1 = 0 → Rise RX.2) ∧ RX.2.length ≤ 60 ∧ (∀ p ∈ RX.2, p.2.length ≤ 120) ∧ (∀ r ∈ RX.2, r.1.length ≤ 100000) ∧ (∀ r ∈ RX.2, ∀ p ∈ r.2, 0 ≤ p.2 ∧ p.2 < 18446744073709551616) ∧ (RX.1.1 = 0 → bndB fr sp = true) ∧ (RX.1.1 = 0 → RX.1 = (0, -1)) by
    rw [hRX]; exact ⟨rowsR_rise, rowsR_60, rowsR_le, rowsR_names HLx.out.1, rowsR_vals, rowsR_bnd, rowsR_zero⟩)
  have Hyf := Lib.hid (show (RY.1.1 = 0 → Rise RY.2) ∧ RY.2.length ≤ 60 ∧ (∀ p ∈ RY.2, p.2.length ≤ 120) ∧ (∀ r ∈ RY.2, r.1.length ≤ 100000) ∧ (∀ r ∈ RY.2, ∀ p ∈ r.2, 0 ≤ p.2 ∧ p.2 < 18446744073709551616) ∧ (RY.1.1 = 0 → bndB gr tp = true) ∧ (RY.1.1 = 0 → RY.1 = (0, -1)) by
    rw [hRY]; exact ⟨rowsR_rise, rowsR_60, rowsR_le, rowsR_names HLx.out.2, rowsR_vals, rowsR_bnd, rowsR_zero⟩)
  rw [← hRX] at HRx HRy HRs HRb HRm HSx HM
  rw [← hRY] at HRy HRs HRb HRm HSy HM
  clear hRX hRY HLx
  obtain ⟨⟨xc, xa⟩, X⟩ := RX
  obtain ⟨⟨yc, ya⟩, Y⟩ := RY
  dsimp only at Hxf Hyf HRx HRy HRs HRb HRm HSx HSy HM
  have hb0 : Below w.heap.size w ((w.alloc (.cells #[.int .i64 fr, .int .i64 sp, .slice A1 n1 c1, .slice A2 n2 c2] 24)).alloc (.cells #[.int .i64 gr, .int .i64 tp, .slice A3 n3 c3, .slice A4 n4 c4] 24)) := Below.alloc (Below.alloc (Below.refl _ _) (Nat.le_refl _) _) (by simp) _
  have ha0 := (Blk.new w 24 #[.int .i64 fr, .int .i64 sp, .slice A1 n1 c1, .slice A2 n2 c2]).alloc (.cells #[.int .i64 gr, .int .i64 tp, .slice A3 n3 c3, .slice A4 n4 c4] 24)
  have hbb := Blk.new (w.alloc (.cells #[.int .i64 fr, .int .i64 sp, .slice A1 n1 c1, .slice A2 n2 c2] 24)) 24 #[.int .i64 gr, .int .i64 tp, .slice A3 n3 c3, .slice A4 n4 c4]
  rw [World.size_alloc] at hbb
  have H0 := Lib.hid (show ∃ w0, w0.heap.size = w.heap.size + 1 + 1 ∧ Below w.heap.size w w0 ∧ JB w w0 ((((w.alloc (.cells #[.int .i64 fr, .int .i64 sp, .slice A1 n1 c1, .slice A2 n2 c2] 24)).alloc (.cells #[.int .i64 gr, .int .i64 tp, .slice A3 n3 c3, .slice A4 n4 c4] 24)).alloc (.cells #[.int .i64 0, .int .i64 0, .slice none 0 0, .slice none 0 0] 24)).alloc (.cells #[.int .i64 0, .int .i64 0] 29)) #[.int .i64 fr, .int .i64 sp, .slice A1 n1 c1, .slice A2 n2 c2] #[.int .i64 gr, .int .i64 tp, .slice A3 n3 c3, .slice A4 n4 c4] from by
    refine ⟨_, by simp, hb0, ?_⟩
    obtain ⟨w0, hw0⟩ : ∃ w0, w0 = (w.alloc (.cells #[.int .i64 fr, .int .i64 sp, .slice A1 n1 c1, .slice A2 n2 c2] 24)).alloc (.cells #[.int .i64 gr, .int .i64 tp, .slice A3 n3 c3, .slice A4 n4 c4] 24) := ⟨_, rfl⟩
    have hs : w0.heap.size = w.heap.size + 1 + 1 := by rw [hw0]; simp
    rw [← hw0] at hb0 ha0 hbb ⊢
    have hf1 := Blk.new (w0.alloc (.cells #[.int .i64 0, .int .i64 0, .slice none 0 0, .slice none 0 0] 24)) 29 #[.int .i64 0, .int .i64 0]
    rw [World.size_alloc] at hf1
    exact ⟨⟨(Blk.new w0 _ _).alloc _, hf1, Below.alloc (Below.alloc (Below.refl _ _) (Nat.le_refl _) _) (by simp) _⟩, (ha0.alloc _).alloc _, (hbb.alloc _).alloc _, Below.alloc (Below.alloc hb0 hb0.size _) (by rw [World.size_alloc]; omega) _, by omega⟩)
  obtain ⟨w0, hs0, hb00, hJ0⟩ := H0.out
  have HJ0 := Lib.hid hJ0; have HB00 := Lib.hid hb00; have HS0 := Lib.hid hs0
  clear H0 hb0 ha0 hbb hs0 hb00 hJ0
  go_enter Tryz.func17, Tryz.ntmps17
  go_upto_region 0 with fail
  go_cut [2, 3, 4, 5] (fun p2 p3 p4 p5 wx => p2 = .pointer (some ⟨w.heap.size, 0, none⟩) ∧ p3 = .pointer (some ⟨w.heap.size + 1, 0, none⟩) ∧ p4 = .pointer (some ⟨w0.heap.size, 0, none⟩) ∧ p5 = .pointer (some ⟨w0.heap.size + 1, 0, none⟩) ∧ JB w w0 wx #[.int .i64 fr, .int .i64 sp, .slice A1 n1 c1, .slice A2 n2 c2] #[.int .i64 gr, .int .i64 tp, .slice A3 n3 c3, .slice A4 n4 c4])
  case first =>
    go_wp2_with fail
    go_meet
    exact ⟨rfl, rfl, by rw [HS0.out], by rw [HS0.out], HJ0.out⟩
  case rest =>
    obtain ⟨rfl, rfl, rfl, rfl, hJ⟩ := hcut
    clear HJ0 HS0
    rename World => w1
    have HJ := Lib.hid hJ
    have HsX := Lib.hid (HSx.out _ hJ.bl)
    obtain ⟨⟨a0, a1, a2, a3⟩, _⟩ := cells4 hJ.ba
    clear hJ HSx
    apply_assumption
    go_wp2_with fail
    refine HsX.out.mono ?_
    rintro e w2 ⟨u, rfl, hbad, hgood, hb⟩
    rw [show fV ((xc, xa), X).1 = .agg #[.int .i64 (xc : Int), .int .i64 xa] from rfl]
    have HJ2 := Lib.hid (HJ.out.below hb)
    have HJ3 := Lib.hid (HJ2.out.below (Below.alloc (Below.refl w2.heap.size w2) (Nat.le_refl _) (.cells #[.int .i64 (xc : Int), .int .i64 xa] 29)))
    have HF3 := Lib.hid (Blk.new w2 29 #[.int .i64 (xc : Int), .int .i64 xa])
    have Hg0 := Lib.hid (show w0.heap.size + 1 < w2.heap.size from HJ2.out.fb)
    have Hb3 := Lib.hid (Below.alloc (Below.refl w2.heap.size w2) (Nat.le_refl _) (.cells #[.int .i64 (xc : Int), .int .i64 xa] 29))
    clear hb HsX a0 a1 a2 a3
    by_cases hxc : xc = 0
    case neg =>
      exact absurd HM.out.1 hxc
    obtain ⟨q1, sv1, lv1, NX, QX, rfl, hat, his⟩ := hgood hxc
    have hxz := Hxf.out.2.2.2.2.2.2 hxc
    injection hxz with hxz1 hxz2
    subst hxz1
    subst hxz2
    have HJ3 := Lib.hid (show JB w w0 (w2.alloc (.cells #[.int .i64 0, .int .i64 (-1)] 29)) #[.int .i64 fr, .int .i64 sp, .slice A1 n1 c1, .slice A2 n2 c2] #[.int .i64 gr, .int .i64 tp, .slice A3 n3 c3, .slice A4 n4 c4] from HJ3.out)
    have HF3 := Lib.hid (show Blk (w2.alloc (.cells #[.int .i64 0, .int .i64 (-1)] 29)) w2.heap.size 29 #[.int .i64 0, .int .i64 (-1)] from HF3.out)
    have Hb3 := Lib.hid (show Below w2.heap.size w2 (w2.alloc (.cells #[.int .i64 0, .int .i64 (-1)] 29)) from Hb3.out)
    have hsx := hat.rd his
    obtain ⟨w3, hw3⟩ : ∃ w3, w3 = w2.alloc (.cells #[.int .i64 0, .int .i64 (-1)] 29) := ⟨_, rfl⟩
    have Hw3 := Lib.hid hw3
    have Hz3 := Lib.hid (show w3.heap.size = w2.heap.size + 1 by rw [hw3, World.size_alloc])
    rw [← hw3] at HJ3 HF3 Hb3
    obtain ⟨g, hg⟩ : ∃ g, g = w2.heap.size := ⟨_, rfl⟩
    have HSX := Lib.hid hsx
    have HsY := Lib.hid (HSy.out _ HJ3.out.bl)
    rw [← hg] at HF3 Hg0 Hz3
    have Hgg := Lib.hid hg
    obtain ⟨⟨b0, b1, b2, b3⟩, _⟩ := cells4 HJ3.out.bb
    obtain ⟨⟨f0, f1⟩, _⟩ := cells2 HF3.out
    clear hbad hgood hat his hxc hw3 hsx hg HSy HJ2
    go_upto_region 2 with fail
    rw [← Hw3.out, ← Hgg.out]
    go_wp2_with fail
    refine HsY.out.mono ?_
    rintro e w4 ⟨u, rfl, hbad, hgood, hb⟩
    rw [show fV ((yc, ya), Y).1 = .agg #[.int .i64 (yc : Int), .int .i64 ya] from rfl]
    have HJ4 := Lib.hid (HJ3.out.below hb)
    have HF4 := Lib.hid (HF3.out.below hb HF3.out.lt)
    have HJ5 := Lib.hid ((HJ4.out.set (p := ⟨g, 0, none⟩) Hg0.out (.int .i64 (yc : Int))).set (p := ⟨g, 1, none⟩) Hg0.out (.int .i64 ya))
    have HF5 := Lib.hid ((HF4.out.set_ 0 (.int .i64 (yc : Int))).set_ 1 (.int .i64 ya))
    have Hgn := Lib.hid (show g ≠ w0.heap.size by have := Hg0.out; omega)
    obtain ⟨_, ⟨g0, g1⟩⟩ := cells2 HF4.out
    have HBX := Lib.hid (show Below w2.heap.size w2 ((w4.setCell ⟨g, 0, none⟩ (.int .i64 (yc : Int))).setCell ⟨g, 1, none⟩ (.int .i64 ya)) from
      Below.setCell (p := ⟨g, 1, none⟩) (Below.setCell (p := ⟨g, 0, none⟩) (Below.call Hb3.out hb Hb3.out.size) (Nat.le_of_eq Hgg.out.symm) _) (Nat.le_of_eq Hgg.out.symm) _)
    clear hb HsY b0 b1 b2 b3 f0 f1 HF3
    obtain ⟨w5, hw5⟩ : ∃ w5, w5 = (w4.setCell ⟨g, 0, none⟩ (.int .i64 (yc : Int))).setCell ⟨g, 1, none⟩ (.int .i64 ya) := ⟨_, rfl⟩
    have Hw5 := Lib.hid hw5
    rw [← hw5] at HJ5 HF5 HBX
    go_upto_region 5 with fail
    rw [← Hw5.out]
    obtain ⟨⟨f0, f1⟩, _⟩ := cells2 HF5.out
    clear hw5 g0 g1
    by_cases hyc : yc = 0
    case neg =>
      exact absurd HM.out.2.1 hyc
    obtain ⟨q2, sv2, lv2, NY, QY, rfl, hat, his⟩ := hgood hyc
    have hyz := Hyf.out.2.2.2.2.2.2 hyc
    injection hyz with hyz1 hyz2
    subst hyz1
    subst hyz2
    have hw5 : w5 = (w4.setCell ⟨g, 0, none⟩ (.int .i64 0)).setCell ⟨g, 1, none⟩ (.int .i64 (-1)) := Hw5.out
    have hS : Fr (fun k => k = g) w4 w5 := by rw [hw5]; exact ((Fr.refl (fun k => k = g) w4).setCell (p := ⟨g, 0, none⟩) (.inr rfl) (.int .i64 0)).setCell (p := ⟨g, 1, none⟩) (.inr rfl) (.int .i64 (-1))
    have hsy := (hat.fr hS (fun k hk e => by have := Hz3.out; omega)).rd his
    have HF5 := Lib.hid (show Blk w5 g 29 #[.int .i64 0, .int .i64 (-1)] from HF5.out)
    have hsx5 := SetRd.call HSX.out HBX.out
    have Hhx := Lib.hid hsx5.hold
    have Hhy := Lib.hid hsy.hold
    have hbx := Hxf.out.2.2.2.2.2.1 (by trivial)
    have hby := Hyf.out.2.2.2.2.2.1 (by trivial)
    have hbs : 1 ≤ sp ∧ sp ≤ 100000 ∧ -1099511627776 ≤ fr ∧ fr ≤ 1099511627776 := by simpa [bndB] using hbx
    have hbt : 1 ≤ tp ∧ tp ≤ 100000 ∧ -1099511627776 ≤ gr ∧ gr ≤ 1099511627776 := by simpa [bndB] using hby
    have HrX := Lib.hid (Hxf.out.1 (by trivial)); have HrY := Lib.hid (Hyf.out.1 (by trivial))
    obtain ⟨⟨a0, a1, a2, a3⟩, _⟩ := cells4 HJ5.out.ba
    obtain ⟨⟨b0, b1, b2, b3⟩, _⟩ := cells4 HJ5.out.bb
    clear f0 f1
    obtain ⟨⟨f0, f1⟩, _⟩ := cells2 HF5.out
    clear hbad hgood hat his hyc hw5 hsx5 hsy hS hbx hby HJ3 HJ4 HF4 HSX HBX Hb3 Hw3 Hz3 Hgg HRx HRy Hw5
    by_cases hjn : fr + sp = gr
    case neg =>
      exact absurd HM.out.2.2.1 hjn
    have hne : (fr + sp != gr) = false := by simpa using hjn
    have hne' : (fr + sp == gr) = true := by simpa using hjn
    have Hjn := Lib.hid hjn
    clear hjn
    by_cases hsb : 100000 < sp + tp
    · exact absurd hsb (by have h := HM.out.2.2.2; omega)
    have HR := Lib.hid (HRm.out X Y rfl rfl HrX.out HrY.out Hjn.out (by omega))
    have HI0 := Lib.hid (show JI w5 (w5.alloc (.cells #[.slice none 0 0, .slice none 0 0] 65)) w5.heap.size (.slice none 0 0) (.slice none 0 0) [] [] from ⟨SetAt.new, Below.alloc (Below.refl _ _) (Nat.le_refl _) _⟩)
    obtain ⟨q, hq⟩ : ∃ q, q = w5.heap.size := ⟨_, rfl⟩
    rw [← hq] at HI0
    have Hq := Lib.hid hq
    clear hq
    go_upto_region 12 with fail
    rw [← Hq.out]
    obtain ⟨An, cn, Al, cl, hhx⟩ := Hhx.out
    obtain ⟨Bn, dn, Bl, dl, hhy⟩ := Hhy.out
    have HX := Lib.hid hhx; have HY := Lib.hid hhy
    obtain ⟨n, hn⟩ : ∃ n, n = X.length := ⟨_, rfl⟩
    obtain ⟨m, hm⟩ : ∃ m, m = Y.length := ⟨_, rfl⟩
    have hn60 : n ≤ 60 := by rw [hn]; exact Hxf.out.2.1
    have hm60 : m ≤ 60 := by rw [hm]; exact Hyf.out.2.1
    rw [← hn] at HX
    rw [← hm] at HY
    have Hn := Lib.hid hn; have Hm := Lib.hid hm
    have HFm := Lib.hid (mrg_facts HrX.out HrY.out Hxf.out.2.2.2.1 Hyf.out.2.2.2.1 Hxf.out.2.2.2.2.1 Hyf.out.2.2.2.2.1)
    have HLx := Lib.hid Hxf.out.2.2.1; have HLy := Lib.hid Hyf.out.2.2.1
    clear hn hm hhx hhy Hhx Hhy a0 a1 a2 a3 b0 b1 b2 b3 f0 f1 hne hne' HRs HRb HRm Hxf Hyf Hgn
    obtain ⟨i0, hi0, hz0, hz1, hz2⟩ := info_parts infoPt
    have Hi := Lib.hid hi0; have Hz0 := Lib.hid hz0; have Hz1 := Lib.hid hz1; have Hz2 := Lib.hid hz2
    obtain ⟨i1, hi1, hy0, hy1, hy2⟩ := info_parts infoTx
    have Hi1 := Lib.hid hi1; have Hy0 := Lib.hid hy0; have Hy1 := Lib.hid hy1; have Hy2 := Lib.hid hy2
    obtain ⟨i2, hi2, hx0, hx1, hx2⟩ := info_parts infoSl
    have Hi2 := Lib.hid hi2; have Hx0 := Lib.hid hx0; have Hx2 := Lib.hid hx1; have Hx3 := Lib.hid hx2
    clear hi0 hz0 hz1 hz2 hi1 hy0 hy1 hy2 hi2 hx0 hx1 hx2
    have hbf : w0.heap.size + 1 < g := Hg0.out
    go_wp2_with fail
    go_loopw [10, 11] (fun iv kv wr => ∃ (i k : Nat) (sv lv : Value) (N : List Bs) (Q : List PtV) (S : List Rw), i ≤ n ∧ k ≤ m ∧ iv = .int .i64 i ∧ kv = .int .i64 k ∧ JI w5 wr q sv lv N Q ∧ SetIs N Q S ∧ S ++ mrg (X.drop i) (Y.drop k) = mrg X Y ∧ S.length ≤ i + k) (fun iv kv _ => (n - (intOf iv).toNat) + (m - (intOf kv).toNat))
    case atStart => exact ⟨0, 0, _, _, [], [], [], Nat.zero_le _, Nat.zero_le _, rfl, rfl, HI0.out, ⟨rfl, rfl⟩, rfl, Nat.zero_le _⟩
    case round =>
      rename World => wo
      obtain ⟨i, k, sv, lv, N, Q, S, hi, hk, rfl, rfl, hI, his, hS, hSl⟩ := hrel
      clear HI0
      have HI := Lib.hid hI; have HIs := Lib.hid his; have HS := Lib.hid hS
      obtain ⟨⟨zx0, zx1⟩, _⟩ := HX.out _ hI.bl
      obtain ⟨⟨zy0, zy1⟩, _⟩ := HY.out _ hI.bl
      clear hI his hS
      obtain ⟨lc, hlc⟩ : ∃ b, b = decide (i < n ∨ k < m) := ⟨_, rfl⟩
      have Hlc := Lib.hid hlc
      clear hlc
      go_upto_region 14 with fail
      go_cut [70] (fun v wx => v = .bool lc ∧ JI w5 wx q sv lv N Q)
      case first =>
        as_aux_lemma =>
        by_cases hin : i < n
        · have hin' : (i : Int) < n := by omega
          have Hl := Lib.hid (show lc = true by rw [Hlc.out]; exact decide_eq_true (.inl hin))
          clear hin
          go_wp2
          go_meet
          exact ⟨by rw [Hl.out], HI.out⟩
        · have hin' : ¬ (i : Int) < n := by omega
          by_cases hkm : k < m
          · have hkm' : (k : Int) < m := by omega
            have Hl := Lib.hid (show lc = true by rw [Hlc.out]; exact decide_eq_true (.inr hkm))
            clear hin hkm
            go_wp2
            go_meet
            exact ⟨by rw [Hl.out], HI.out⟩
          · have hkm' : ¬ (k : Int) < m := by omega
            have Hl := Lib.hid (show lc = false by rw [Hlc.out]; exact decide_eq_false (fun h => h.elim hin hkm))
            clear hin hkm
            go_wp2
            go_meet
            exact ⟨by rw [Hl.out], HI.out⟩
      case rest =>
      obtain ⟨rfl, hI⟩ := hcut
      rename World => wo2
      obtain ⟨⟨zx0, zx1⟩, _⟩ := HX.out _ hI.bl
      obtain ⟨⟨zy0, zy1⟩, _⟩ := HY.out _ hI.bl
      have HIo := Lib.hid hI
      clear hI HI
      have HI := Lib.hid HIo.out
      clear HIo
      apply_assumption
      cases lc
      case false =>
        have hne : ¬ (i < n ∨ k < m) := of_decide_eq_false Hlc.out.symm
        as_aux_lemma =>
        have hin : ¬ (i : Int) < n := by omega
        have hkm : ¬ (k : Int) < m := by omega
        have hSm := mrg_end HS.out (by rw [← Hn.out]; omega) (by rw [← Hm.out]; omega)
        have HJo := Lib.hid (HJ5.out.below HI.out.bl)
        have HFo := Lib.hid (HF5.out.below HI.out.bl HF5.out.lt)
        have Hmk := Lib.hid (makeBlock_any fr (sp + tp) q S wo2 (HI.out.st.rd HIs.out).rw (by omega) (by rw [hSm]; exact HFm.out))
        rw [hSm] at Hmk
        obtain ⟨⟨⟨e1, e2⟩, ⟨F, P⟩, K⟩, hRm⟩ : ∃ T, T = rmR fr (sp + tp) (mrg X Y) := ⟨_, rfl⟩
        have HmB := Lib.hid (fun (h : e1 ≠ 0) => show R = ((2, -1), (0, 0), []) from HR.out.1 (by
          have : (rmR fr (sp + tp) (mrg X Y)).1.1 = e1 := by rw [← hRm]
          rw [show (makeR fr (sp + tp) (mrg X Y)).1.1 = e1 from this]; exact h))
        have HmG := Lib.hid (fun (h : e1 = 0) => show R = ((e1, e2), (F, P), K) from (HR.out.2 (by
          have : (rmR fr (sp + tp) (mrg X Y)).1.1 = e1 := by rw [← hRm]
          rw [show (makeR fr (sp + tp) (mrg X Y)).1.1 = e1 from this]; exact h)).trans hRm.symm)
        rw [← hRm] at Hmk
        obtain ⟨⟨a0, a1, a2, a3⟩, _⟩ := cells4 HJo.out.ba
        obtain ⟨⟨b0, b1, b2, b3⟩, _⟩ := cells4 HJo.out.bb
        have Hgo := Lib.hid (show g < wo2.heap.size from HFo.out.lt)
        clear hSm hRm hne
        go_wp2_with fail
        refine Hmk.out.mono ?_
        rintro e w7 ⟨u3, u4, rfl, hpr, hb⟩
        rw [show fV ((e1, e2), (F, P), K).1 = .agg #[.int .i64 (e1 : Int), .int .i64 e2] from rfl]
        obtain ⟨C1, d1, rfl, _, _, _⟩ := own_form hpr.l
        obtain ⟨C2, d2, rfl, _, _, _⟩ := own_form hpr.r
        dsimp only at hpr ⊢
        have HJ7 := Lib.hid (HJo.out.below hb)
        have HF7 := Lib.hid (HFo.out.below hb HFo.out.lt)
        have Hg7 := Lib.hid (show w7.heap.size ≠ g by have := HF7.out.lt; omega)
        have HJ8 := Lib.hid (HJ7.out.below (Below.alloc (Below.refl w7.heap.size w7) (Nat.le_refl _) (.cells #[.int .i64 F, .int .i64 P, .slice C1 K.length d1, .slice C2 K.length d2] 24)))
        have HF8 := Lib.hid (HF7.out.alloc (.cells #[.int .i64 F, .int .i64 P, .slice C1 K.length d1, .slice C2 K.length d2] 24))
        have HQ8 := Lib.hid (Blk.new w7 24 #[.int .i64 F, .int .i64 P, .slice C1 K.length d1, .slice C2 K.length d2])
        have HP8 := Lib.hid (hpr.fr ((Fr.refl _ w7).alloc (.cells #[.int .i64 F, .int .i64 P, .slice C1 K.length d1, .slice C2 K.length d2] 24)))
        have HJ9 := Lib.hid ((HJ8.out.set (p := ⟨g, 0, none⟩) Hg0.out (.int .i64 (e1 : Int))).set (p := ⟨g, 1, none⟩) Hg0.out (.int .i64 e2))
        have HF9 := Lib.hid ((HF8.out.set_ 0 (.int .i64 (e1 : Int))).set_ 1 (.int .i64 e2))
        have HQ9 := Lib.hid ((HQ8.out.far (p := ⟨g, 0, none⟩) Hg7.out (.int .i64 (e1 : Int))).far (p := ⟨g, 1, none⟩) Hg7.out (.int .i64 e2))
        have HP9 := Lib.hid ((HP8.out.low (p := ⟨g, 0, none⟩) Hgo.out (.int .i64 (e1 : Int))).low (p := ⟨g, 1, none⟩) Hgo.out (.int .i64 e2))
        obtain ⟨_, ⟨g0, g1⟩⟩ := cells2 HF8.out
        have Hgn := Lib.hid (show g ≠ w0.heap.size by have := Hg0.out; omega)
        have Hwq := Lib.hid (show w0.heap.size + 1 < wo2.heap.size ∧ w.heap.size ≤ wo2.heap.size by have := Hg0.out; have := HJo.out.bl.size; have := Hgo.out; omega)
        have Hq1 := Lib.hid (show w7.heap.size ≠ w0.heap.size + 1 by have := HJ7.out.fb; omega)
        clear hb hpr Hmk HF8 HJ8 HQ8 HP8
        obtain ⟨w9, hw9⟩ : ∃ w9, w9 = (((w7.alloc (.cells #[.int .i64 F, .int .i64 P, .slice C1 K.length d1, .slice C2 K.length d2] 24)).setCell ⟨g, 0, none⟩ (.int .i64 (e1 : Int))).setCell ⟨g, 1, none⟩ (.int .i64 e2)) := ⟨_, rfl⟩
        have Hw9 := Lib.hid hw9
        obtain ⟨t, ht⟩ : ∃ t, t = w7.heap.size := ⟨_, rfl⟩
        have Ht := Lib.hid ht
        rw [← hw9] at HJ9 HF9 HQ9 HP9
        rw [← ht] at HQ9 Hq1
        go_upto_region 29 with fail
        rw [← Hw9.out, ← Ht.out]
        obtain ⟨⟨f0, f1⟩, _⟩ := cells2 HF9.out
        clear hw9 ht g0 g1
        by_cases he : e1 = 0
        case neg =>
          have hpos : (0 : Int) < (e1 : Int) := by omega
          have Hfin := Lib.hid (HmB.out he)
          clear he
          go_wp2_with fail
          refine (bare_any 2 _).mono ?_
          rintro e w10 ⟨rfl, hb⟩
          have HX1 := Lib.hid (bo_set HJ9.out.iv hb (.int .i64 0) (.int .i64 0) (.slice none 0 0) (.slice none 0 0) (.int .i64 2) (.int .i64 (-1)))
          obtain ⟨⟨q0, q1, q2, q3⟩, ⟨r0, r1, r2, r3⟩⟩ := cells4 (HJ9.out.iv.bq.below hb HJ9.out.iv.bq.lt)
          obtain ⟨⟨_, _⟩, ⟨k0, k1⟩⟩ := cells2 (HJ9.out.iv.bf.below hb HJ9.out.iv.bf.lt)
          clear hb
          go_wp2
          refine bodyPost_ret (res_jo _ _ w0.heap.size (w0.heap.size + 1) _ _ _ _ _ _ rfl rfl (by with_reducible exact HX1.out.1) (by with_reducible exact HX1.out.2.1)) rfl ?_
          exact RB.err Hfin.out rfl (Below.call HB00.out HX1.out.2.2 HB00.out.size)
        have Hfin := Lib.hid (HmG.out he)
        subst he
        have HF9 := Lib.hid (show Blk w9 g 29 #[.int .i64 0, .int .i64 e2] from HF9.out)
        clear f0 f1
        obtain ⟨⟨f0, f1⟩, _⟩ := cells2 HF9.out
        have HX0 := Lib.hid (bo_set HJ9.out.iv (Below.refl _ _) (.int .i64 F) (.int .i64 P) (.slice C1 K.length d1) (.slice C2 K.length d2) (.int .i64 0) (.int .i64 e2))
        have HXB := Lib.hid (bo_setB HJ9.out.iv (.int .i64 F) (.int .i64 P) (.slice C1 K.length d1) (.slice C2 K.length d2) (.int .i64 0) (.int .i64 e2))
        have HY0 := Lib.hid ((((((HP9.out.low (p := ⟨w0.heap.size, 0, none⟩) (Nat.lt_of_succ_lt Hwq.out.1) (.int .i64 F)).low (p := ⟨w0.heap.size, 1, none⟩) (Nat.lt_of_succ_lt Hwq.out.1) (.int .i64 P)).low (p := ⟨w0.heap.size, 2, none⟩) (Nat.lt_of_succ_lt Hwq.out.1) (.slice C1 K.length d1)).low (p := ⟨w0.heap.size, 3, none⟩) (Nat.lt_of_succ_lt Hwq.out.1) (.slice C2 K.length d2)).low (p := ⟨w0.heap.size + 1, 0, none⟩) Hwq.out.1 (.int .i64 0)).low (p := ⟨w0.heap.size + 1, 1, none⟩) Hwq.out.1 (.int .i64 e2))
        have HYB := Lib.hid ((((((HP9.out.low (p := ⟨w0.heap.size + 1, 0, none⟩) Hwq.out.1 (.int .i64 0)).low (p := ⟨w0.heap.size + 1, 1, none⟩) Hwq.out.1 (.int .i64 e2)).low (p := ⟨w0.heap.size, 0, none⟩) (Nat.lt_of_succ_lt Hwq.out.1) (.int .i64 F)).low (p := ⟨w0.heap.size, 1, none⟩) (Nat.lt_of_succ_lt Hwq.out.1) (.int .i64 P)).low (p := ⟨w0.heap.size, 2, none⟩) (Nat.lt_of_succ_lt Hwq.out.1) (.slice C1 K.length d1)).low (p := ⟨w0.heap.size, 3, none⟩) (Nat.lt_of_succ_lt Hwq.out.1) (.slice C2 K.length d2))
        obtain ⟨⟨q0, q1, q2, q3⟩, ⟨r0, r1, r2, r3⟩⟩ := cells4 HJ9.out.iv.bq
        obtain ⟨⟨_, _⟩, ⟨k0, k1⟩⟩ := cells2 HJ9.out.iv.bf
        obtain ⟨⟨f2, f3⟩, ⟨f4, f5⟩⟩ := bo_far (w := w0) HF9.out Hgn.out (.int .i64 F) (.int .i64 P) (.slice C1 K.length d1) (.slice C2 K.length d2)
        obtain ⟨⟨o0, o1, o2, o3⟩, _⟩ := cells4 HQ9.out
        obtain ⟨⟨o4, o5, o6, o7⟩, ⟨o8, o9, oa, ob⟩⟩ := bo_far4 (w := w0) HQ9.out Hq1.out (.int .i64 0) (.int .i64 e2)
        go_wp2
        go_region
        all_goals
          go_wp2
          refine bodyPost_ret (res_jo _ _ w0.heap.size (w0.heap.size + 1) _ _ _ _ _ _ rfl rfl (by first | with_reducible exact HX0.out.1.drew | with_reducible exact HXB.out.1.drew | with_reducible exact HX0.out.1 | with_reducible exact HXB.out.1) (by first | with_reducible exact HX0.out.2.1.drew | with_reducible exact HXB.out.2.1.drew | with_reducible exact HX0.out.2.1 | with_reducible exact HXB.out.2.1)) rfl ?_
          rw [Hfin.out]
          exact ⟨_, _, rfl, (by first | with_reducible exact HY0.out | with_reducible exact HYB.out | exact HY0.out.fr (Fr.drew (Fr.refl _ _)) | exact HYB.out.fr (Fr.drew (Fr.refl _ _)) : Pair _ wo2.heap.size _ _ _ _ _ _ _).base Hwq.out.2, Below.call HB00.out (by first | with_reducible exact HX0.out.2.2.drew | with_reducible exact HXB.out.2.2.drew | with_reducible exact HX0.out.2.2 | with_reducible exact HXB.out.2.2) HB00.out.size⟩
      have hne : i < n ∨ k < m := of_decide_eq_true Hlc.out.symm
      obtain ⟨s, hs⟩ : ∃ s, s = nmJ X[i]? Y[k]? := ⟨_, rfl⟩
      obtain ⟨i', hi'⟩ : ∃ i', i' = i + tnJ X[i]? s := ⟨_, rfl⟩
      obtain ⟨k', hk'⟩ : ∃ k', k' = k + tnJ Y[k]? s := ⟨_, rfl⟩
      obtain ⟨lx, hlx⟩ : ∃ l, l = tkJ X[i]? s := ⟨_, rfl⟩
      obtain ⟨ly, hly⟩ : ∃ l, l = tkJ Y[k]? s := ⟨_, rfl⟩
      obtain ⟨pk, hpk⟩ : ∃ b, b = pkJ X[i]? Y[k]? := ⟨_, rfl⟩
      obtain ⟨tx, htx⟩ : ∃ b, b = decide (tnJ X[i]? s = 1) := ⟨_, rfl⟩
      obtain ⟨ty, hty⟩ : ∃ b, b = decide (tnJ Y[k]? s = 1) := ⟨_, rfl⟩
      have Hs := Lib.hid hs; have Hi' := Lib.hid hi'; have Hk' := Lib.hid hk'; have Hlx := Lib.hid hlx; have Hly := Lib.hid hly; have Hpk := Lib.hid hpk; have Htx := Lib.hid htx; have Hty := Lib.hid hty
      have Hxo := Lib.hid (optJ X i (by rw [← Hn.out]; exact hi))
      have Hyo := Lib.hid (optJ Y k (by rw [← Hm.out]; exact hk))
      rw [← Hn.out] at Hxo
      rw [← Hm.out] at Hyo
      have Hne := Lib.hid hne
      clear hs hi' hk' hlx hly hpk htx hty hne
      go_upto_region 16 with fail
      go_cut [103] (fun v wx => v = .bool pk ∧ JI w5 wx q sv lv N Q)
      case first =>
        as_aux_lemma =>
        rcases Hyo.out with ⟨hy, hkm⟩ | ⟨y, hy, hkm⟩
        · have Hp := Lib.hid (show pk = true by rw [Hpk.out, hy]; rfl)
          have hd0 : decide ((m : Int) ≤ (k : Int)) = true := decide_eq_true (by omega)
          have hd1 : decide (m ≤ k) = true := decide_eq_true (by omega)
          clear hkm hy
          go_quiet (fail)
          go_wp2
          go_meet
          exact ⟨by rw [Hp.out], HI.out.drewN nq⟩
        · have hd0 : decide ((m : Int) ≤ (k : Int)) = false := decide_eq_false (by omega)
          have hd1 : decide (m ≤ k) = false := decide_eq_false (by omega)
          have hkm' : (k : Int) < m := by omega
          have hd2 : decide ((k : Int) < (m : Int)) = true := decide_eq_true hkm'
          rcases Hxo.out with ⟨hx, hin⟩ | ⟨x, hx, hin⟩
          · have Hp := Lib.hid (show pk = false by rw [Hpk.out, hx, hy]; rfl)
            have hd3 : decide ((i : Int) < (n : Int)) = false := decide_eq_false (by omega)
            have hd4 : decide (i < n) = false := decide_eq_false (by omega)
            clear hx hin hy
            go_quiet (fail)
            go_wp2
            go_meet
            exact ⟨by rw [Hp.out], HI.out.drewN nq⟩
          · have Hp := Lib.hid (show pk = leS x.1 y.1 by rw [Hpk.out, hx, hy]; rfl)
            have hin' : (i : Int) < n := by omega
            have hd3 : decide ((i : Int) < (n : Int)) = true := decide_eq_true hin'
            have hd4 : decide (i < n) = true := decide_eq_true hin
            obtain ⟨b0, o0, b1, o1, _, _, rfl, rfl, x0, _, _⟩ := (HX.out _ HI.out.bl).2 i x hx
            obtain ⟨d0, p0, d1, p1, _, _, rfl, rfl, y0, _, _⟩ := (HY.out _ HI.out.bl).2 k y hy
            have hle := leS_B8 x.1 y.1
            clear hx hy
            cases hls : leS x.1 y.1
            all_goals
              rw [hls] at hle Hp
              clear hls
              go_quiet (fail)
              go_wp2
              go_meet
              exact ⟨by rw [Hp.out], HI.out.drewN nq⟩
      case rest =>
        obtain ⟨rfl, hI⟩ := hcut
        rename World => wa
        obtain ⟨⟨zx0, zx1⟩, _⟩ := HX.out _ hI.bl
        obtain ⟨⟨zy0, zy1⟩, _⟩ := HY.out _ hI.bl
        have HIa := Lib.hid hI
        clear hI HI
        apply_assumption
        go_upto_if 103 with fail
        go_cut [12] (fun v wx => v = .string (B8 s) ∧ JI w5 wx q sv lv N Q)
        case first =>
          as_aux_lemma =>
          cases pk with
          | true =>
            obtain ⟨x, hx, hin⟩ : ∃ x, X[i]? = some x ∧ i < n := by
              rcases Hxo.out with ⟨hx, hin⟩ | h
              · rcases Hyo.out with ⟨hy, hkm⟩ | ⟨y, hy, hkm⟩
                · have := Hne.out; omega
                · have := Hpk.out; rw [hx, hy] at this; cases this
              · exact h
            have hin' : (i : Int) < n := by omega
            obtain ⟨b0, o0, b1, o1, _, _, rfl, rfl, x0, _, _⟩ := (HX.out _ HIa.out.bl).2 i x hx
            have Hsx := Lib.hid (show s = x.1 by rw [Hs.out, hx]; rw [hx] at Hpk; exact nmJ_x Hpk.out.symm)
            clear hx hin
            go_wp2
            go_meet
            exact ⟨by rw [Hsx.out], HIa.out⟩
          | false =>
            obtain ⟨y, hy, hkm⟩ : ∃ y, Y[k]? = some y ∧ k < m := by
              rcases Hyo.out with ⟨hy, hkm⟩ | h
              · have := Hpk.out; rw [hy] at this; cases this
              · exact h
            have hkm' : (k : Int) < m := by omega
            obtain ⟨b0, o0, b1, o1, _, _, rfl, rfl, x0, _, _⟩ := (HY.out _ HIa.out.bl).2 k y hy
            have Hsy := Lib.hid (show s = y.1 by rw [Hs.out, hy]; rw [hy] at Hpk; exact nmJ_y Hpk.out.symm)
            clear hy hkm
            go_wp2
            go_meet
            exact ⟨by rw [Hsy.out], HIa.out⟩
        case rest =>
          obtain ⟨rfl, hI⟩ := hcut
          rename World => wb
          obtain ⟨⟨zx0, zx1⟩, _⟩ := HX.out _ hI.bl
          have HIb := Lib.hid hI
          clear hI HIa
          apply_assumption
          obtain ⟨st, hst⟩ : ∃ st, st = B8 s := ⟨_, rfl⟩
          have Hst := Lib.hid hst
          rw [← hst]
          clear hst
          go_upto_region 20 with fail
          go_cut [135] (fun v wx => v = .bool tx ∧ JI w5 wx q sv lv N Q)
          case first =>
            as_aux_lemma =>
            rcases Hxo.out with ⟨hx, hin⟩ | ⟨x, hx, hin⟩
            · have Ht := Lib.hid (show tx = false by rw [Htx.out, hx]; rfl)
              have hin' : ¬ (i : Int) < n := by omega
              clear hx hin
              go_wp2
              go_meet
              exact ⟨by rw [Ht.out], HIb.out⟩
            · have hin' : (i : Int) < n := by omega
              obtain ⟨b0, o0, b1, o1, _, _, rfl, rfl, x0, _, _⟩ := (HX.out _ HIb.out.bl).2 i x hx
              have heq : ((B8 x.1).toList == st.toList) = tx := by
                rw [Hst.out, B8_eqb, Htx.out, hx, tnJ_dec]
              clear hx hin
              generalize B8 x.1 = sx at x0 heq
              go_wp2
              go_meet
              exact ⟨rfl, HIb.out⟩
          case rest =>
            obtain ⟨rfl, hI⟩ := hcut
            rename World => wc
            obtain ⟨⟨zx0, zx1⟩, _⟩ := HX.out _ hI.bl
            have HIc := Lib.hid hI
            clear hI HIb
            apply_assumption
            go_upto_if 135 with fail
            go_cut [10, 13] (fun iv pv wx => iv = .int .i64 (i' : Int) ∧ JM w5 wx q sv lv N Q pv lx ∧ FreshJ Q pv)
            case first =>
              as_aux_lemma =>
              cases tx with
              | false =>
                obtain ⟨e1, e2⟩ : i' = i ∧ lx = [] := by
                  have := Htx.out
                  rcases tnJ_is X[i]? s with ⟨h1, h2⟩ | ⟨x, h1, h2, h3, h4⟩
                  · exact ⟨by rw [Hi'.out, h1]; rfl, by rw [Hlx.out, h2]⟩
                  · rw [h3] at this; cases this
                subst e1; subst e2
                go_wp2
                go_meet
                exact ⟨rfl, JM.new HIc.out, FreshJ.nil _⟩
              | true =>
                obtain ⟨x, hx, e1, e2⟩ : ∃ x, X[i]? = some x ∧ i' = i + 1 ∧ lx = x.2 := by
                  have := Htx.out
                  rcases tnJ_is X[i]? s with ⟨h1, h2⟩ | ⟨x, h1, h2, h3, h4⟩
                  · rw [h1] at this; cases this
                  · exact ⟨x, h1, by rw [Hi'.out, h3], by rw [Hlx.out, h4]⟩
                have hin : i < n := by rw [Hn.out]; exact (List.getElem?_eq_some_iff.1 hx).1
                have hin' : (i : Int) < n := by omega
                obtain ⟨b0, o0, b1, o1, A, c, rfl, rfl, _, x1, hrd⟩ := (HX.out _ HIc.out.bl).2 i x hx
                have hl := HLx.out x (List.mem_of_getElem? hx)
                have hk63 : 0 + x.2.length ≤ maxLen := by unfold maxLen; omega
                have hk8 : (0 + x.2.length) * 16 ≤ 140737488355328 := by omega
                have Hrd := Lib.hid hrd
                have He1 := Lib.hid (show (i' : Int) = (i : Int) + 1 by omega); have He2 := Lib.hid e2
                clear hx e1 e2 hrd hl
                go_wp2_with (at_builtin; refine wpList_append_rd _ rfl (.tmp 136) (.tmp 143) _ (by rfl) wc.heap.size 57 i0 (.agg #[.int .i64 0, .int .u64 0]) 2 16 Tryz.underlying32 Hi.out Hz0.out Hz1.out Hz2.out (by rfl) (by decide) (.slice none 0 0) 0 [] (by rfl) (World.ownsRow_nil _ _ _ _) _ A x.2.length c (ptsC x.2) (by rfl) Hrd.out (ptsC_one x.2) hk63 hk8 (Nat.le_refl _) ?_; intro v' wz hown hgr hat; have HQ := Lib.hid (HIc.out.firstA hgr hown); clear hown hgr hat)
                go_meet
                exact ⟨by rw [He1.out], by rw [He2.out]; exact HQ.out.1, HQ.out.2⟩
            case rest =>
              obtain ⟨rfl, hM, hfr⟩ := hcut
              rename World => wd
              obtain ⟨Ap, cp, rfl, _, _, _⟩ := own_form hM.pt
              obtain ⟨⟨zy0, zy1⟩, _⟩ := HY.out _ hM.iv.bl
              have HMd := Lib.hid hM; have Hfr := Lib.hid hfr
              clear hM hfr HIc
              apply_assumption
              go_upto_region 23 with fail
              go_cut [164] (fun v wx => v = .bool ty ∧ JM w5 wx q sv lv N Q (.slice Ap lx.length cp) lx)
              case first =>
                as_aux_lemma =>
                rcases Hyo.out with ⟨hy, hkm⟩ | ⟨y, hy, hkm⟩
                · have Ht := Lib.hid (show ty = false by rw [Hty.out, hy]; rfl)
                  have hkm' : ¬ (k : Int) < m := by omega
                  clear hy hkm
                  go_wp2
                  go_meet
                  exact ⟨by rw [Ht.out], HMd.out⟩
                · have hkm' : (k : Int) < m := by omega
                  obtain ⟨b0, o0, b1, o1, _, _, rfl, rfl, x0, _, _⟩ := (HY.out _ HMd.out.iv.bl).2 k y hy
                  have heq : ((B8 y.1).toList == st.toList) = ty := by
                    rw [Hst.out, B8_eqb, Hty.out, hy, tnJ_dec]
                  clear hy hkm
                  generalize B8 y.1 = sx at x0 heq
                  go_wp2
                  go_meet
                  exact ⟨rfl, HMd.out⟩
              case rest =>
                obtain ⟨rfl, hM⟩ := hcut
                rename World => we
                obtain ⟨⟨zy0, zy1⟩, _⟩ := HY.out _ hM.iv.bl
                have HMe := Lib.hid hM
                clear hM HMd
                apply_assumption
                go_upto_if 164 with fail
                go_cut [11, 13] (fun kv pv wx => kv = .int .i64 (k' : Int) ∧ JM w5 wx q sv lv N Q pv (lx ++ ly))
                case first =>
                  as_aux_lemma =>
                  cases ty with
                  | false =>
                    obtain ⟨e1, e2⟩ : k' = k ∧ ly = [] := by
                      have := Hty.out
                      rcases tnJ_is Y[k]? s with ⟨h1, h2⟩ | ⟨x, h1, h2, h3, h4⟩
                      · exact ⟨by rw [Hk'.out, h1]; rfl, by rw [Hly.out, h2]⟩
                      · rw [h3] at this; cases this
                    subst e1; subst e2
                    go_wp2
                    go_meet
                    exact ⟨rfl, by rw [List.append_nil]; exact HMe.out⟩
                  | true =>
                    obtain ⟨y, hy, e1, e2⟩ : ∃ y, Y[k]? = some y ∧ k' = k + 1 ∧ ly = y.2 := by
                      have := Hty.out
                      rcases tnJ_is Y[k]? s with ⟨h1, h2⟩ | ⟨x, h1, h2, h3, h4⟩
                      · rw [h1] at this; cases this
                      · exact ⟨x, h1, by rw [Hk'.out, h3], by rw [Hly.out, h4]⟩
                    have hkm : k < m := by rw [Hm.out]; exact (List.getElem?_eq_some_iff.1 hy).1
                    have hkm' : (k : Int) < m := by omega
                    obtain ⟨b0, o0, b1, o1, A, c, rfl, rfl, _, x1, hrd⟩ := (HY.out _ HMe.out.iv.bl).2 k y hy
                    have hl := HLy.out y (List.mem_of_getElem? hy)
                    have hl2 : lx.length ≤ 120 := by
                      rw [Hlx.out]
                      rcases tnJ_is X[i]? s with ⟨_, h2⟩ | ⟨x, h1, _, _, h4⟩
                      · rw [h2]; exact Nat.zero_le _
                      · rw [h4]; exact HLx.out x (List.mem_of_getElem? h1)
                    have hk63 : lx.length + y.2.length ≤ maxLen := by unfold maxLen; omega
                    have hk8 : (lx.length + y.2.length) * 16 ≤ 140737488355328 := by omega
                    have Hrd := Lib.hid hrd
                    have He1 := Lib.hid (show (k' : Int) = (k : Int) + 1 by omega); have He2 := Lib.hid e2
                    have hroom := HMe.out.iv.room.1
                    clear hy e1 e2 hrd hl hl2
                    go_wp2_with (at_builtin; refine wpList_append_rd _ rfl (.tmp 165) (.tmp 172) _ (by rfl) w5.heap.size 57 i0 (.agg #[.int .i64 0, .int .u64 0]) 2 16 Tryz.underlying32 Hi.out Hz0.out Hz1.out Hz2.out (by rfl) (by decide) (.slice Ap lx.length cp) lx.length (ptsC lx) (by rfl) HMe.out.pt _ A y.2.length c (ptsC y.2) (by rfl) Hrd.out (ptsC_one y.2) hk63 hk8 hroom ?_; intro v' wz hown hgr hat; have HQ := Lib.hid (HMe.out.moreA Hfr.out hgr hown); clear hown hgr hat)
                    go_meet
                    exact ⟨by rw [He1.out], by rw [He2.out]; exact HQ.out⟩
                case rest =>
                  obtain ⟨rfl, hM⟩ := hcut
                  rename World => wf
                  obtain ⟨Ar, cr, rfl, _, _, _⟩ := own_form hM.pt
                  obtain ⟨ml, hml⟩ : ∃ ml, ml = (lx ++ ly).length := ⟨_, rfl⟩
                  obtain ⟨As, cs, rfl, _, _, _⟩ := own_form hM.iv.st.nms
                  have z0 : wf.cell? ⟨q, 0, none⟩ = some (.slice As N.length cs) := hM.iv.st.hd.cell 0
                  obtain ⟨l1, l2⟩ := HIs.out.len
                  have hN : N.length ≤ 120 := by omega
                  have hQ : Q.length ≤ 120 := by omega
                  have hk63 : N.length + 1 ≤ maxLen := by unfold maxLen; omega
                  have hk8 : (N.length + 1) * 16 ≤ 140737488355328 := by omega
                  have hr63 : Q.length + 1 ≤ maxLen := by unfold maxLen; omega
                  have hr8 : (Q.length + 1) * 24 ≤ 140737488355328 := by omega
                  have HoA := Lib.hid (show (wf.alloc (.cells #[.string st] 9)).ownsRow w5.heap.size 9 1 (.slice As N.length cs) N.length (txC N) from (own_hiB hM.iv.st.nms hM.iv.st.gs).alloc _)
                  have HrA := Lib.hid (one_cell wf 9 (.string st))
                  have HzA := Lib.hid (show w5.heap.size ≤ (wf.alloc (.cells #[.string st] 9)).heap.size from Nat.le_trans hM.iv.room.1 (by rw [World.size_alloc]; exact Nat.le_succ _))
                  have H1s := Lib.hid (str_one1 st)
                  have HNr := Lib.hid (fun wz v' (hgr : (wf.alloc (.cells #[.string st] 9)).grownBy wz (Value.slice As N.length cs).ownBlock) (hown : wz.ownsRow w5.heap.size 9 1 v' (N.length + 1) (txC N ++ [.string st])) =>
                    hM.name (s := s) (((Fr.refl _ wf).alloc _).grown hgr (fun k hk => .inr hk)) (by rw [← Hst.out]; exact hown) (fun k hk => (own_lt hown k hk).1))
                  have hqf : q < wf.heap.size := hM.iv.room.2
                  rw [← hml]
                  rw [← hml] at HNr
                  have Hml := Lib.hid hml
                  clear hM HMe l1 l2 hN hQ hml
                  apply_assumption
                  go_upto_region 26 with fail
                  go_cut [] (fun wx => ∃ sv3, JM w5 wx q sv3 lv (N ++ [s]) Q (.slice Ar ml cr) (lx ++ ly))
                  case first =>
                    go_wp2_with (at_builtin; refine wpList_append_rd _ rfl (.tmp 180) (.tmp 182) _ rfl w5.heap.size 9 i1 (.string ⟨#[]⟩) 1 16 Tryz.underlying22 Hi1.out Hy0.out Hy1.out Hy2.out rfl (by decide) (.slice As N.length cs) N.length _ rfl HoA.out _ _ 1 1 [.string st] rfl HrA.out H1s.out hk63 hk8 HzA.out ?_; intro v' wz hown hgr hat; obtain ⟨A2, c2, rfl, _, _, _⟩ := own_form hown; have HQ := Lib.hid (HNr.out wz _ hgr hown); clear hown hat hgr; obtain ⟨⟨y0, y1⟩, _⟩ := HQ.out)
                    go_meet
                    exact ⟨_, HQ.out.2⟩
                  case rest =>
                    obtain ⟨sv3, hM7⟩ := hcut
                    rename World => w7
                    apply_assumption
                    obtain ⟨Aq, cq, rfl, _, _, _⟩ := own_form hM7.iv.st.rows
                    have z1 : w7.cell? ⟨q, 1, none⟩ = some (.slice Aq Q.length cq) := hM7.iv.st.hd.cell 1
                    have hqc : q < w7.heap.size := hM7.iv.st.hd.lt
                    have HoB := Lib.hid (show (w7.alloc (.cells #[.slice Ar ml cr] 32)).ownsRow w5.heap.size 32 1 (.slice Aq Q.length cq) Q.length (Q.map fun r => r.v) from (own_hiB hM7.iv.st.rows hM7.iv.st.gl).alloc _)
                    have HrB := Lib.hid (one_cell w7 32 (.slice Ar ml cr))
                    have HzB := Lib.hid (show w5.heap.size ≤ (w7.alloc (.cells #[.slice Ar ml cr] 32)).heap.size from Nat.le_trans hM7.iv.room.1 (by rw [World.size_alloc]; exact Nat.le_succ _))
                    have H1r := Lib.hid (show ∀ u ∈ [Value.slice Ar ml cr], u.oneCell' = true by intro u hu; simp at hu; subst hu; rfl)
                    have HNq := Lib.hid (fun wz v' (hgr : (w7.alloc (.cells #[.slice Ar ml cr] 32)).grownBy wz (Value.slice Aq Q.length cq).ownBlock) (hown : wz.ownsRow w5.heap.size 32 1 v' (Q.length + 1) ((Q.map fun r => r.v) ++ [.slice Ar ml cr])) =>
                      hM7.row (((Fr.refl _ w7).alloc _).grown hgr (fun k hk => .inr hk)) hown (fun k hk => (own_lt hown k hk).1))
                    clear hM7 HoA HrA HzA HNr z0 hk63 hk8
                    go_wp2_with (at_builtin; refine wpList_append_rd _ rfl (.tmp 190) (.tmp 192) _ rfl w5.heap.size 32 i2 (.slice none 0 0) 1 24 Tryz.underlying63 Hi2.out Hx0.out Hx2.out Hx3.out rfl (by decide) (.slice Aq Q.length cq) Q.length _ rfl HoB.out _ _ 1 1 [.slice Ar ml cr] rfl HrB.out H1r.out hr63 hr8 HzB.out ?_; intro v' wz hown hgr hat; obtain ⟨A2, c2, rfl, _, _, _⟩ := own_form hown; have HQ := Lib.hid (HNq.out wz _ hgr hown); clear hown hat hgr; obtain ⟨⟨y0, y1⟩, _⟩ := HQ.out)
                    go_roundw
                    case rel =>
                      go_light
                      have h1 := tnJ_le X i s (by rw [← Hn.out]; exact hi)
                      have h2 := tnJ_le Y k s (by rw [← Hm.out]; exact hk)
                      have h3 := tnJ_one (by rw [← Hn.out, ← Hm.out]; exact Hne.out) Hs.out
                      have h4 := mrg_round HS.out (by rw [← Hn.out, ← Hm.out]; exact Hne.out) Hs.out
                      rw [← Hi'.out] at h1 h4
                      rw [← Hk'.out] at h2 h4
                      rw [← Hlx.out, ← Hly.out] at h4
                      refine ⟨i', k', _, _, N ++ [s], Q ++ [⟨.slice Ar ml cr, lx ++ ly⟩], S ++ [(s, lx ++ ly)], by rw [Hn.out]; exact h1, by rw [Hm.out]; exact h2, rfl, rfl, HQ.out.2, HIs.out.snoc s ⟨.slice Ar ml cr, lx ++ ly⟩, h4, ?_⟩
                      rw [List.length_append, List.length_singleton, Hi'.out, Hk'.out]
                      omega
                    case measure =>
                      go_light
                      have h1 := tnJ_le X i s (by rw [← Hn.out]; exact hi)
                      have h2 := tnJ_le Y k s (by rw [← Hm.out]; exact hk)
                      have h3 := tnJ_one (by rw [← Hn.out, ← Hm.out]; exact Hne.out) Hs.out
                      rw [← Hi'.out, ← Hn.out] at h1
                      rw [← Hk'.out, ← Hm.out] at h2
                      have h5 := Hi'.out
                      have h6 := Hk'.out
                      simp [intOf]; omega
theorem rjoin_any (x y : BArg) (w : World) (hx : x.Ok w) (hy : y.Ok w) :
    Calls Tryz.prog 17 #[x.v, y.v] w fun e w' => RBPost (rjR x y) w e w' := by
  by_cases h : JnOk x y
  · exact rjoin_main x y w hx hy h
  · exact rjoin_exits x y w hx hy h
end Go.Proofs.YtpbgonpmpjpljaaGreatDoor
