/- BlockChecks by its contract: it returns true. -/
import Derived.Test.YtpbgonpmpjpljaaGreatDoorRJoinQX
import Derived.Test.YtpbgonpmpjpljaaGreatDoorMkacX
import Derived.Test.YtpbgonpmpjpljaaGreatDoorMkuX
import Derived.Test.YtpbgonpmpjpljaaGreatDoorMkadX
import Derived.Test.YtpbgonpmpjpljaaGreatDoorMkaeX
import Derived.Test.YtpbgonpmpjpljaaGreatDoorMkoX
import Derived.Test.YtpbgonpmpjpljaaGreatDoorMkwX
import Derived.Deep.RegionHeld3
namespace Go.Proofs.YtpbgonpmpjpljaaGreatDoor
open Go.RowKit
set_option linter.unusedVariables false

theorem makeR_60 (fr sp : Int) (L : List Rw) : (makeR fr sp L).2.length ≤ 60 := by
  by_cases h : (makeR fr sp L).1.1 = 0
  · obtain ⟨_, h2, _, h4⟩ := makeR_inv h
    rw [h4]
    show (encR (keepR L)).length ≤ 60
    unfold encR
    rw [List.length_map]
    exact Nat.le_trans (keep_len L) h2
  · rw [makeR_err h]; exact Nat.zero_le _
theorem joinR_60 (x y : BArg) : (joinR x y).2.length ≤ 60 := by
  unfold joinR
  split
  · exact Nat.zero_le _
  split
  · exact Nat.zero_le _
  split
  · exact Nat.zero_le _
  split
  · exact Nat.zero_le _
  split
  · exact Nat.zero_le _
  · exact makeR_60 _ _ _
theorem zip_fst {α β γ : Type} (f : α → γ) : ∀ (l : List α) (k : List β), k.length = l.length → (l.zip k).map (fun r => f r.1) = l.map f
  | [], _, _ => rfl
  | a :: l, [], h => by cases h
  | a :: l, b :: k, h => by rw [List.zip_cons_cons, List.map_cons, List.map_cons, zip_fst f l k (Nat.succ.inj h)]
theorem zip_snd {α β γ : Type} (f : β → γ) : ∀ (l : List α) (k : List β), k.length = l.length → (l.zip k).map (fun r => f r.2) = k.map f
  | [], [], _ => rfl
  | [], b :: k, h => by cases h
  | a :: l, [], h => by cases h
  | a :: l, b :: k, h => by rw [List.zip_cons_cons, List.map_cons, List.map_cons, zip_snd f l k (Nat.succ.inj h)]
/-- An error's value stands for what it stood for, later too. -/
theorem EV.at_ {es : Nat → Addr} {B C : Nat} {W W' : World} {v : Value} {c : Nat × Int} (h : EV es B W v c) (hb : Below W.heap.size W W') (hS : Sents es C W') : ErrIs es W' v (c.1 : Int) c.2 := (h.below hb (Nat.le_refl _)).is hS
/-- What stands behind block.Join: its block in a variable, its error. -/
def CJ (es : Nat → Addr) (w0 : World) (R : (Nat × Int) × List (Bs × List Nat)) (fr sp : Int) (v p : Value) (W : World) : Prop :=
  ∃ (g : Nat) (f' s' : Int) (A1 : Option Addr) (a1 : Nat) (A2 : Option Addr) (a2 : Nat), p = .pointer (some ⟨g, 0, none⟩) ∧ (R.1.1 ≠ 0 → f' = 0 ∧ s' = 0) ∧ (R.1.1 = 0 → f' = fr ∧ s' = sp) ∧ Blk W g 37 #[.int .i64 f', .int .i64 s', .slice A1 R.2.length a1, .slice A2 R.2.length a2] ∧
    EV es w0.heap.size W v R.1 ∧ Pair W w0.heap.size 9 (.slice A1 R.2.length a1) R.2.length (txS R.2) (.slice A2 R.2.length a2) R.2.length (chS R.2) ∧ Below w0.heap.size w0 W
theorem below4 {B : Nat} {a W : World} {g : Nat} (h : Below B a W) (hg : B ≤ g) (u0 u1 u2 u3 : Value) : Below B a ((((W.setCell ⟨g, 0, none⟩ u0).setCell ⟨g, 1, none⟩ u1).setCell ⟨g, 2, none⟩ u2).setCell ⟨g, 3, none⟩ u3) :=
  Below.setCell (p := ⟨g, 3, none⟩) (Below.setCell (p := ⟨g, 2, none⟩) (Below.setCell (p := ⟨g, 1, none⟩) (Below.setCell (p := ⟨g, 0, none⟩) h hg u0) hg u1) hg u2) hg u3
theorem CJ.of_alloc {es : Nat → Addr} {w0 W : World} {C : Nat} {R : (Nat × Int) × List (Bs × List Nat)} {fr sp f' s' : Int} {v : Value} {A1 A2 : Option Addr} {a1 a2 : Nat} (h1 : R.1.1 ≠ 0 → f' = 0 ∧ s' = 0) (h2 : R.1.1 = 0 → f' = fr ∧ s' = sp) (ev : EV es C W v R.1) (hC : w0.heap.size ≤ C)
    (pr : Pair W C 9 (.slice A1 R.2.length a1) R.2.length (txS R.2) (.slice A2 R.2.length a2) R.2.length (chS R.2)) (bl : Below w0.heap.size w0 W) :
    CJ es w0 R fr sp v (.pointer (some ⟨W.heap.size, 0, none⟩)) (W.alloc (.cells #[.int .i64 f', .int .i64 s', .slice A1 R.2.length a1, .slice A2 R.2.length a2] 37)) :=
  ⟨_, f', s', A1, a1, A2, a2, rfl, h1, h2, Blk.new _ _ _, (ev.below (Below.alloc (Below.refl W.heap.size W) (Nat.le_refl _) _) (Nat.le_refl _)).base hC, (pr.fr ((Fr.refl _ W).alloc _)).base hC, Below.alloc bl bl.size _⟩
theorem CJ.of_set {es : Nat → Addr} {w0 W : World} {C g : Nat} {R : (Nat × Int) × List (Bs × List Nat)} {fr sp f' s' : Int} {v : Value} {A1 A2 : Option Addr} {a1 a2 : Nat} (h1 : R.1.1 ≠ 0 → f' = 0 ∧ s' = 0) (h2 : R.1.1 = 0 → f' = fr ∧ s' = sp) (ev : EV es C W v R.1) (hC : w0.heap.size ≤ C)
    (pr : Pair W C 9 (.slice A1 R.2.length a1) R.2.length (txS R.2) (.slice A2 R.2.length a2) R.2.length (chS R.2)) (bl : Below w0.heap.size w0 W) (hk : Blk W g 37 #[.int .i64 0, .int .i64 0, .slice none 0 0, .slice none 0 0]) (hg : g < C) (hg0 : w0.heap.size ≤ g) :
    CJ es w0 R fr sp v (.pointer (some ⟨g, 0, none⟩)) ((((W.setCell ⟨g, 0, none⟩ (.int .i64 f')).setCell ⟨g, 1, none⟩ (.int .i64 s')).setCell ⟨g, 2, none⟩ (.slice A1 R.2.length a1)).setCell ⟨g, 3, none⟩ (.slice A2 R.2.length a2)) := by
  have hz := set4 hg0 bl hk (.int .i64 f') (.int .i64 s') (.slice A1 R.2.length a1) (.slice A2 R.2.length a2)
  exact ⟨_, f', s', A1, a1, A2, a2, rfl, h1, h2, hz.1, (ev.fr4 hg _ _ _ _).base hC, ((((pr.low (p := ⟨g, 0, none⟩) hg _).low (p := ⟨g, 1, none⟩) hg _).low (p := ⟨g, 2, none⟩) hg _).low (p := ⟨g, 3, none⟩) hg _).base hC, hz.2⟩
set_option maxRecDepth 100000 in
set_option maxHeartbeats 16000000 in
theorem blockChecks_law {es : Nat → Addr} {B : Nat} (fr sp : Int) (A1 A2 : Option Addr) (n1 c1 m1 d1 : Nat) (N1 : List Bs) (K1 : List (List Nat)) (gr tp : Int) (A3 A4 : Option Addr) (n2 c2 m2 d2 : Nat) (N2 : List Bs) (K2 : List (List Nat)) (sx : Bs) (lo hi : Int) (w : World) (cs1 cs2 : List Value)
    (hS : Sents es B w) (hW : BlkW es B w) (hP : P10 B w) (hx : BlkIn w cs1 fr sp A1 A2 n1 c1 m1 d1 N1 K1) (hy : BlkIn w cs2 gr tp A3 A4 n2 c2 m2 d2 N2 K2) :
    Calls Tryz.prog 3 #[.agg #[.int .i64 fr, .int .i64 sp, .slice A1 n1 c1, .slice A2 m1 d1], .agg #[.int .i64 gr, .int .i64 tp, .slice A3 n2 c2, .slice A4 m2 d2], .string (B8 sx), .int .i64 lo, .int .i64 hi] w fun e w' => e = .returned (.bool true) ∧ Below w.heap.size w w' := by
  have HW := Lib.hid (fun W (hb : Below w.heap.size w W) => hW.below hb hW.b0)
  have HS := Lib.hid (fun W (hb : Below w.heap.size w W) => hS.below hb hW.b0)
  have HP := Lib.hid (fun W (hb : Below w.heap.size w W) => hP.below hb hW.b0)
  have HA := Lib.hid (fun W (hb : Below w.heap.size w W) => show (Rd W W.heap.size 1 A1 n1 (N1.map fun s => .string (B8 s)) ∧ Rd W W.heap.size 1 A2 m1 (K1.map fun z => .string (bytesOf z))) ∧ (Rd W W.heap.size 1 A3 n2 (N2.map fun s => .string (B8 s)) ∧ Rd W W.heap.size 1 A4 m2 (K2.map fun z => .string (bytesOf z))) from
    ⟨⟨(hx.a.below hb).more hb.size, (hx.k.below hb).more hb.size⟩, ⟨(hy.a.below hb).more hb.size, (hy.k.below hb).more hb.size⟩⟩)
  have Hln := Lib.hid (show (N1.length = n1 ∧ K1.length = m1) ∧ (N2.length = n2 ∧ K2.length = m2) by
    have e1 := hx.a.1; have e2 := hx.k.1; have e3 := hy.a.1; have e4 := hy.k.1
    simp only [List.length_map, Nat.mul_one] at e1 e2 e3 e4
    exact ⟨⟨e1, e2⟩, ⟨e3, e4⟩⟩)
  have Hkb := Lib.hid (show (∀ z ∈ K1, ∀ b ∈ z, b < 256) ∧ ∀ z ∈ K2, ∀ b ∈ z, b < 256 from ⟨fun z hz => (hx.kl z hz).2, fun z hz => (hy.kl z hz).2⟩)
  have Hwx := Lib.hid (fun W (hb : Below w.heap.size w W) => wideBlock_any fr sp A1 A2 n1 c1 m1 d1 N1 K1 W (HA.out W hb).1.1 (HA.out W hb).1.2 hx.hn hx.hm (fun z hz => (hx.kl z hz).1))
  have Hwy := Lib.hid (fun W (hb : Below w.heap.size w W) => wideBlock_any gr tp A3 A4 n2 c2 m2 d2 N2 K2 W (HA.out W hb).2.1 (HA.out W hb).2.2 hy.hn hy.hm (fun z hz => (hy.kl z hz).1))
  have hb0 : Below w.heap.size w ((w.alloc (.cells #[.int .i64 fr, .int .i64 sp, .slice A1 n1 c1, .slice A2 m1 d1] 24)).alloc (.cells #[.int .i64 gr, .int .i64 tp, .slice A3 n2 c2, .slice A4 m2 d2] 24)) := Below.alloc (Below.alloc (Below.refl _ _) (Nat.le_refl _) _) (by simp) _
  have ha0 := (Blk.new w 24 #[.int .i64 fr, .int .i64 sp, .slice A1 n1 c1, .slice A2 m1 d1]).alloc (.cells #[.int .i64 gr, .int .i64 tp, .slice A3 n2 c2, .slice A4 m2 d2] 24)
  have hbb := Blk.new (w.alloc (.cells #[.int .i64 fr, .int .i64 sp, .slice A1 n1 c1, .slice A2 m1 d1] 24)) 24 #[.int .i64 gr, .int .i64 tp, .slice A3 n2 c2, .slice A4 m2 d2]
  rw [World.size_alloc] at hbb
  obtain ⟨w1, hw1⟩ : ∃ w1, w1 = (w.alloc (.cells #[.int .i64 fr, .int .i64 sp, .slice A1 n1 c1, .slice A2 m1 d1] 24)).alloc (.cells #[.int .i64 gr, .int .i64 tp, .slice A3 n2 c2, .slice A4 m2 d2] 24) := ⟨_, rfl⟩
  have Hw1 := Lib.hid hw1
  rw [← hw1] at hb0 ha0 hbb
  have HB0 := Lib.hid hb0; have HQa := Lib.hid ha0; have HQb := Lib.hid hbb
  have HC := Lib.hid (fun W (hb : Below w1.heap.size w1 W) => show (W.cell? ⟨w.heap.size, 0, none⟩ = some (.int .i64 fr) ∧ W.cell? ⟨w.heap.size, 1, none⟩ = some (.int .i64 sp) ∧ W.cell? ⟨w.heap.size, 2, none⟩ = some (.slice A1 n1 c1) ∧ W.cell? ⟨w.heap.size, 3, none⟩ = some (.slice A2 m1 d1)) ∧
      (W.cell? ⟨w.heap.size + 1, 0, none⟩ = some (.int .i64 gr) ∧ W.cell? ⟨w.heap.size + 1, 1, none⟩ = some (.int .i64 tp) ∧ W.cell? ⟨w.heap.size + 1, 2, none⟩ = some (.slice A3 n2 c2) ∧ W.cell? ⟨w.heap.size + 1, 3, none⟩ = some (.slice A4 m2 d2)) from
    ⟨(cells4 (HQa.out.below hb HQa.out.lt)).1, (cells4 (HQb.out.below hb HQb.out.lt)).1⟩)
  have Hbl := Lib.hid (blocked_any w1 (HW.out _ HB0.out))
  clear hW hS hP hx hy hw1 hb0 ha0 hbb
  obtain ⟨ba, hba⟩ : ∃ ba, ba = w.heap.size := ⟨_, rfl⟩
  obtain ⟨st, hst⟩ : ∃ st, st = B8 sx := ⟨_, rfl⟩
  have Hst := Lib.hid hst
  have Hsz := Lib.hid (show st.size = sx.length by rw [hst]; exact B8_size sx)
  rw [← hst]
  clear hst hba
  go_enter Tryz.func3, Tryz.ntmps3
  go_upto_region 1 with fail
  rw [← Hw1.out]
  go_wp2_with fail
  refine Hbl.out.mono ?_
  rintro e w2 ⟨rfl, hb⟩
  have Hb2 := Lib.hid hb
  have HB2 := Lib.hid (Below.call HB0.out hb HB0.out.size)
  obtain ⟨⟨a0, a1, a2, a3⟩, _⟩ := HC.out _ hb
  clear hb Hbl
  go_wp2_with fail
  refine (Hwx.out _ HB2.out).mono ?_
  rintro e w3 ⟨bb, rfl, hw, hb⟩
  have Hb3 := Lib.hid (Below.call Hb2.out hb Hb2.out.size)
  have HB3 := Lib.hid (Below.call HB2.out hb HB2.out.size)
  obtain ⟨⟨a0, a1, a2, a3⟩, ⟨b0, b1, b2, b3⟩⟩ := HC.out _ Hb3.out
  cases bb
  case true =>
    clear hw hb
    go_wp2
    go_ret
    exact ⟨rfl, HB3.out⟩
  obtain ⟨hn1, hm1, hl1, hk1⟩ := hw rfl
  have HX1 := Lib.hid (And.intro hl1 hk1)
  rw [Hln.out.1.1] at hn1
  rw [Hln.out.1.2] at hm1
  clear hw hb hl1 hk1 Hwx
  go_wp2_with fail
  refine (Hwy.out _ HB3.out).mono ?_
  rintro e w4 ⟨bb, rfl, hw, hb⟩
  have Hb4 := Lib.hid (Below.call Hb3.out hb Hb3.out.size)
  have HB4 := Lib.hid (Below.call HB3.out hb HB3.out.size)
  obtain ⟨⟨a0, a1, a2, a3⟩, ⟨b0, b1, b2, b3⟩⟩ := HC.out _ Hb4.out
  cases bb
  case true =>
    clear hw hb
    go_wp2
    go_ret
    exact ⟨rfl, HB4.out⟩
  obtain ⟨hn2, hm2, hl2, hk2⟩ := hw rfl
  have HX2 := Lib.hid (And.intro hl2 hk2)
  rw [Hln.out.2.1] at hn2
  rw [Hln.out.2.2] at hm2
  clear hw hb hl2 hk2 Hwy
  by_cases h200 : 200 < sx.length
  · have h200' : (200 : Int) < (st.size : Int) := by rw [Hsz.out]; omega
    clear h200
    go_wp2
    go_ret
    exact ⟨rfl, HB4.out⟩
  have h200' : ¬ (200 : Int) < (st.size : Int) := by rw [Hsz.out]; omega
  clear h200
  -- the two as arguments
  have Hnl := Lib.hid (show (∀ s ∈ N1, s.length ≤ 100000) ∧ (∀ z ∈ K1, z.length ≤ 100000 ∧ ∀ b ∈ z, b < 256) ∧ (∀ s ∈ N2, s.length ≤ 100000) ∧ (∀ z ∈ K2, z.length ≤ 100000 ∧ ∀ b ∈ z, b < 256) from
    ⟨fun s hs => Nat.le_trans (HX1.out.1 s hs) (by decide), fun z hz => ⟨Nat.le_trans (HX1.out.2 z hz) (by decide), Hkb.out.1 z hz⟩, fun s hs => Nat.le_trans (HX2.out.1 s hs) (by decide), fun z hz => ⟨Nat.le_trans (HX2.out.2 z hz) (by decide), Hkb.out.2 z hz⟩⟩)
  have Hox := Lib.hid (fun W (hb : Below w.heap.size w W) => ownArg_any fr sp A1 A2 n1 c1 m1 d1 N1 K1 W (HA.out W hb).1.1 (HA.out W hb).1.2 (by omega) (by omega))
  have Hoy := Lib.hid (fun W (hb : Below w.heap.size w W) => ownArg_any gr tp A3 A4 n2 c2 m2 d2 N2 K2 W (HA.out W hb).2.1 (HA.out W hb).2.2 (by omega) (by omega))
  have Hso := Lib.hid (setOf_any fr sp A1 A2 n1 c1 m1 d1 N1 K1 w4 (HA.out _ HB4.out).1.1 (HA.out _ HB4.out).1.2 Hnl.out.1 Hnl.out.2.1)
  have Hpt := Lib.hid (fun W (hb : Below w.heap.size w W) (B1 B2 : Option Addr) (e1 e2 : Nat) (h1 : Rd W W.heap.size 1 B1 n1 (N1.map fun s => .string (B8 s))) (h2 : Rd W W.heap.size 1 B2 m1 (K1.map fun z => .string (bytesOf z))) => bpts_any fr sp B1 B2 n1 e1 m1 e2 N1 K1 sx lo hi W (HW.out W hb).s (HW.out W hb).t (HW.out W hb).tb (HW.out W hb).b0 h1 h2 Hnl.out.1 Hnl.out.2.1)
  have Hck := Lib.hid (fun W (hb : Below w.heap.size w W) (B1 B2 : Option Addr) (e1 e2 : Nat) (h1 : Rd W W.heap.size 1 B1 n1 (N1.map fun s => .string (B8 s))) (h2 : Rd W W.heap.size 1 B2 m1 (K1.map fun z => .string (bytesOf z))) => bcheck_any fr sp B1 B2 n1 e1 m1 e2 N1 K1 W (HW.out W hb).s (HW.out W hb).t (HW.out W hb).tb (HW.out W hb).b0 h1 h2 Hnl.out.1 Hnl.out.2.1)
  have Htx := Lib.hid (fun W (hb : Below w.heap.size w W) (B1 B2 : Option Addr) (e1 e2 : Nat) (h1 : Rd W W.heap.size 1 B1 n1 (N1.map fun s => .string (B8 s))) (h2 : Rd W W.heap.size 1 B2 m1 (K1.map fun z => .string (bytesOf z))) => btext_any fr sp B1 B2 n1 e1 m1 e2 N1 K1 W (HW.out W hb).s (HW.out W hb).t (HW.out W hb).tb (HW.out W hb).b0 (HP.out W hb) h1 h2 Hnl.out.1 Hnl.out.2.1)
  obtain ⟨RX, hRX⟩ : ∃ RX, RX = rowsR fr sp N1 K1 := ⟨_, rfl⟩
  have Hrx := Lib.hid (show RX.2.length ≤ 60 ∧ (∀ p ∈ RX.2, p.2.length ≤ 120) ∧ (RX.1.1 = 0 → RX.1 = (0, -1)) ∧ (RX.1.1 = 0 → bndB fr sp = true ∧ K1.length = N1.length) by
    rw [hRX]; exact ⟨rowsR_60, rowsR_le, rowsR_zero, fun h => ⟨(rowsR_okb h).1, (rowsR_okb h).2.2⟩⟩)
  rw [← hRX] at Hso Hpt Hck Htx
  clear hRX
  obtain ⟨⟨ec, ea⟩, rws⟩ := RX
  dsimp only at Hso Hpt Hck Htx Hrx
  go_wp2_with fail
  refine Hso.out.mono ?_
  rintro e w5 ⟨u, rfl, hbad, hgood, hb⟩
  rw [show fV ((ec, ea), rws).1 = .agg #[.int .i64 (ec : Int), .int .i64 ea] from rfl]
  have HU := Lib.hid (fun (h : ec = 0) => show ∃ q, u = .pointer (some ⟨q, 0, none⟩) ∧ SetRd w5 w5.heap.size q rws from by
    obtain ⟨q, sv, lv, N, Q, e, hat, his⟩ := hgood h
    exact ⟨q, e, hat.rd his⟩)
  have Hb5 := Lib.hid (Below.call Hb4.out hb Hb4.out.size)
  have HB5 := Lib.hid (Below.call HB4.out hb HB4.out.size)
  obtain ⟨w6, hw6⟩ : ∃ w6, w6 = w5.alloc (.cells #[.int .i64 (ec : Int), .int .i64 ea] 29) := ⟨_, rfl⟩
  have Hw6 := Lib.hid hw6
  have Hb56 := Lib.hid (show Below w5.heap.size w5 w6 by rw [hw6]; exact Below.alloc (Below.refl _ _) (Nat.le_refl _) _)
  have HF6 := Lib.hid (show Blk w6 w5.heap.size 29 #[.int .i64 (ec : Int), .int .i64 ea] by rw [hw6]; exact Blk.new w5 _ _)
  obtain ⟨g, hg⟩ : ∃ g, g = w5.heap.size := ⟨_, rfl⟩
  have Hg := Lib.hid hg
  rw [← hg] at HF6
  have Hb6 := Lib.hid (Below.call Hb5.out Hb56.out Hb5.out.size)
  have HB6 := Lib.hid (Below.call HB5.out Hb56.out HB5.out.size)
  have HCf := Lib.hid (fun W (hb : Below w6.heap.size w6 W) => show (W.cell? ⟨w.heap.size, 0, none⟩ = some (.int .i64 fr) ∧ W.cell? ⟨w.heap.size, 1, none⟩ = some (.int .i64 sp) ∧ W.cell? ⟨w.heap.size, 2, none⟩ = some (.slice A1 n1 c1) ∧ W.cell? ⟨w.heap.size, 3, none⟩ = some (.slice A2 m1 d1)) ∧ (W.cell? ⟨w.heap.size + 1, 0, none⟩ = some (.int .i64 gr) ∧ W.cell? ⟨w.heap.size + 1, 1, none⟩ = some (.int .i64 tp) ∧ W.cell? ⟨w.heap.size + 1, 2, none⟩ = some (.slice A3 n2 c2) ∧ W.cell? ⟨w.heap.size + 1, 3, none⟩ = some (.slice A4 m2 d2)) ∧ (W.cell? ⟨g, 0, none⟩ = some (.int .i64 (ec : Int)) ∧ W.cell? ⟨g, 1, none⟩ = some (.int .i64 ea)) from
    ⟨(HC.out _ (Below.call Hb6.out hb Hb6.out.size)).1, (HC.out _ (Below.call Hb6.out hb Hb6.out.size)).2, (HF6.out.below hb HF6.out.lt).duo2⟩)
  clear hbad hgood hb hw6 hg Hso HC a0 a1 a2 a3 b0 b1 b2 b3
  go_upto_region 5 with fail
  rw [← Hw6.out, ← Hg.out]
  clear Hw6
  obtain ⟨⟨a0, a1, a2, a3⟩, _⟩ := HCf.out _ (Below.refl _ _)
  go_wp2_with fail
  refine (Hox.out w6 HB6.out).mono ?_
  rintro e w7 ⟨B1, e1, B2, e2, rfl, h1, h2, hb⟩
  have Hd7 := Lib.hid hb
  have HB7 := Lib.hid (Below.call HB6.out hb HB6.out.size)
  have Hpt7 := Lib.hid (Hpt.out w7 HB7.out B1 B2 e1 e2 h1 h2)
  rw [← Hst.out] at Hpt7
  clear h1 h2 hb Hpt a0 a1 a2 a3
  go_wp2_with fail
  refine Hpt7.out.mono ?_
  rintro e w8 ⟨v8, u8, rfl, hev8, _, hown8, hb⟩
  have Hd8 := Lib.hid (Below.call Hd7.out hb Hd7.out.size)
  have HB8 := Lib.hid (Below.call HB7.out hb HB7.out.size)
  have HE8 := Lib.hid hev8
  have HO8 := Lib.hid (fun (h : ec = 0) => show ∃ A a, u8 = .slice A (betL lo hi (ptsOf rws sx)).length a ∧ Rd w8 w8.heap.size 2 A (betL lo hi (ptsOf rws sx)).length (ptsC (betL lo hi (ptsOf rws sx))) from by
    obtain ⟨A, a, e, _, _, hr⟩ := own_form (hown8 h)
    exact ⟨A, a, e, hr⟩)
  clear hev8 hown8 hb Hpt7
  have Hx0 := Lib.hid (Below.drew (Below.refl w8.heap.size w8))
  have HCd := Lib.hid ((fun h => And.intro h.1 h.2.2) (HCf.out w8.drew (Below.call Hd8.out Hx0.out Hd8.out.size)))
  have Hfa := Lib.hid (fun (v : Value) W (hb : Below w.heap.size w W) (hv : ErrIs es W v (ec : Int) ea) => faulted2_any v (ec : Int) ea (ec : Int) ea W (HS.out W hb) (HW.out W hb).b0 hv rfl (.inr rfl))
  have HBd := Lib.hid (Below.call HB8.out Hx0.out HB8.out.size)
  go_upto_region 6 with fail
  go_region_held3 (fun w' => (w'.cell? ⟨w.heap.size, 0, none⟩ = some (.int .i64 fr) ∧ w'.cell? ⟨w.heap.size, 1, none⟩ = some (.int .i64 sp) ∧ w'.cell? ⟨w.heap.size, 2, none⟩ = some (.slice A1 n1 c1) ∧ w'.cell? ⟨w.heap.size, 3, none⟩ = some (.slice A2 m1 d1)) ∧ (w'.cell? ⟨g, 0, none⟩ = some (.int .i64 (ec : Int)) ∧ w'.cell? ⟨g, 1, none⟩ = some (.int .i64 ea)))
    (first | with_reducible exact HCd.out | with_reducible exact HC1.out | with_reducible exact HC2.out | with_reducible exact HC3.out | with_reducible exact HC4.out)
    (first
      | (go_at_call 8; refine (Hox.out _ HBd.out).mono ?_; rintro e9 x1 ⟨B3, e3, B4, e4, rfl, h3, h4, hb9⟩; have Hx1 := Lib.hid (Below.call Hx0.out hb9 Hx0.out.size); have HB1 := Lib.hid (Below.call HBd.out hb9 HBd.out.size); have HC1 := Lib.hid ((fun h => And.intro h.1 h.2.2) (HCf.out _ (Below.call Hd8.out Hx1.out Hd8.out.size))); have Hck1 := Lib.hid (Hck.out x1 HB1.out B3 B4 e3 e4 h3 h4); clear h3 h4 hb9)
      | (go_at_call 10; refine Hck1.out.mono ?_; rintro e10 x2 ⟨v9, rfl, hev9, hb10⟩; have Hx2 := Lib.hid (Below.call Hx1.out hb10 Hx1.out.size); have HB2' := Lib.hid (Below.call HB1.out hb10 HB1.out.size); have HC2 := Lib.hid ((fun h => And.intro h.1 h.2.2) (HCf.out _ (Below.call Hd8.out Hx2.out Hd8.out.size))); have Hf1 := Lib.hid (Hfa.out v9 x2 HB2'.out (hev9.is (HS.out x2 HB2'.out))); clear hev9 hb10)
      | (go_at_call 9; (with_reducible refine Hf1.out.mono ?_); rintro e11 x3 ⟨rfl, hb11⟩; have Hx3 := Lib.hid (Below.call Hx2.out hb11 Hx2.out.size); have HB3' := Lib.hid (Below.call HB2'.out hb11 HB2'.out.size); have HC3 := Lib.hid ((fun h => And.intro h.1 h.2.2) (HCf.out _ (Below.call Hd8.out Hx3.out Hd8.out.size))); have Hf2 := Lib.hid (Hfa.out v8 x3 HB3'.out (HE8.out.at_ Hx3.out (HS.out x3 HB3'.out))); clear hb11)
      | (go_at_call 9; (with_reducible refine Hf2.out.mono ?_); rintro e12 x4 ⟨rfl, hb12⟩; have Hx4 := Lib.hid (Below.call Hx3.out hb12 Hx3.out.size); have HB4' := Lib.hid (Below.call HB3'.out hb12 HB3'.out.size); have HC4 := Lib.hid ((fun h => And.intro h.1 h.2.2) (HCf.out _ (Below.call Hd8.out Hx4.out Hd8.out.size))); clear hb12))
  have Hd4 := Lib.hid (Below.call Hd8.out Hx4.out Hd8.out.size)
  obtain ⟨_, _, f0, f1⟩ := HCf.out _ Hd4.out
  go_upto_region 8 with fail
  go_cut [76] (fun v wx => v = .bool false ∧ Below x4.heap.size x4 wx)
  case first =>
    -- slow
    by_cases h0 : ec = 0
    case neg =>
      have hne : ((ec : Int) == 0) = false := by rw [beq_eq_false_iff_ne]; omega
      clear h0
      go_wp2
      go_meet
      exact ⟨rfl, Below.refl _ _⟩
    obtain ⟨q, rfl, hsd⟩ := HU.out h0
    obtain ⟨A7, a7, rfl, hr7⟩ := HO8.out h0
    have hez : ((ec : Int) == 0) = true := by rw [h0]; rfl
    have H60 := Lib.hid (show rws.length ≤ 1000 ∧ (ptsOf rws sx).length ≤ 100000 from by
      refine ⟨Nat.le_trans Hrx.out.1 (by decide), ?_⟩
      unfold ptsOf
      split
      · rename_i r hr
        exact Nat.le_trans (Hrx.out.2.1 r (List.mem_of_find?_eq_some hr)) (by decide)
      · exact Nat.zero_le _)
    have Hsd4 := SetRd.call hsd (Below.call Hb56.out Hd4.out Hb56.out.size)
    have Hget := Lib.hid (setGet_any q rws sx x4 Hsd4 H60.out.1)
    rw [← Hst.out] at Hget
    have HR7 := Lib.hid (fun W (hb : Below w8.heap.size w8 W) => show Rd W W.heap.size 2 A7 (betL lo hi (ptsOf rws sx)).length (ptsC (betL lo hi (ptsOf rws sx))) from (hr7.below hb).more hb.size)
    clear h0 hsd hr7 Hsd4
    go_wp2_with fail
    refine Hget.out.mono ?_
    rintro e x7 ⟨Ag, ag, rfl, hrg, hb⟩
    have Hy7 := Lib.hid hb
    have Hz7 := Lib.hid (Below.call Hx4.out hb Hx4.out.size)
    have Hbw := Lib.hid (betweenOf_any Ag (ptsOf rws sx).length ag (ptsOf rws sx) lo hi x7 (hrg.more hb.size) H60.out.2)
    clear hrg hb Hget
    go_wp2_with fail
    refine Hbw.out.mono ?_
    rintro e x8 ⟨ub, rfl, hown, hb⟩
    obtain ⟨A8, a8, rfl, _, _, hr8⟩ := own_form hown
    have Hy8 := Lib.hid (Below.call Hy7.out hb Hy7.out.size)
    have Hz8 := Lib.hid (Below.call Hz7.out hb Hz7.out.size)
    have Hsp := Lib.hid (samePoints_eq A7 (betL lo hi (ptsOf rws sx)).length a7 A8 a8 (betL lo hi (ptsOf rws sx)) x8 (HR7.out _ Hz8.out) hr8 (by exact Nat.le_trans (betL_le _ _ _) H60.out.2))
    clear hown hr8 hb Hbw
    go_wp2_with fail
    refine Hsp.out.mono ?_
    rintro e x9 ⟨rfl, hb⟩
    have Hy9 := Lib.hid (Below.call Hy8.out hb Hy8.out.size)
    clear hb Hsp
    go_wp2
    go_meet
    exact ⟨rfl, Hy9.out⟩
    -- end
  case rest =>
    obtain ⟨rfl, hb⟩ := hcut
    rename World => w9
    have Hd9 := Lib.hid (Below.call Hd4.out hb Hd4.out.size)
    have HB9 := Lib.hid (Below.call HB6.out Hd9.out HB6.out.size)
    clear hb f0 f1 HC1 HC2 HC3 HC4 HCd Hf1 Hf2 Hck1 Hck HE8 HO8 HU HB1 HB2' HB3' HB4' HBd Hx0 Hx1 Hx2 Hx3 Hx4 Hd4 Hd7 Hd8 HB7 HB8
    apply_assumption
    obtain ⟨⟨a0, a1, a2, a3⟩, _⟩ := HCf.out _ Hd9.out
    go_wp2_with fail
    refine (Hox.out w9 HB9.out).mono ?_
    rintro e w10 ⟨B1, e1, B2, e2, rfl, h1, h2, hb⟩
    have Hd10 := Lib.hid (Below.call Hd9.out hb Hd9.out.size)
    have HB10 := Lib.hid (Below.call HB9.out hb HB9.out.size)
    have Htx10 := Lib.hid (Htx.out w10 HB10.out B1 B2 e1 e2 h1 h2)
    clear h1 h2 hb Htx a0 a1 a2 a3
    go_wp2_with fail
    refine Htx10.out.mono ?_
    rintro e w11 ⟨v11, s11, rfl, hev, hs11, hb⟩
    have Hd11 := Lib.hid (Below.call Hd10.out hb Hd10.out.size)
    have HB11 := Lib.hid (Below.call HB10.out hb HB10.out.size)
    have Hf := Lib.hid (Hfa.out v11 w11 HB11.out (hev.is (HS.out w11 HB11.out)))
    have Hs11 := Lib.hid hs11
    clear hev hs11 hb Htx10
    go_upto_region 11 with fail
    go_cut [97] (fun v wx => v = .bool false ∧ Below w11.heap.size w11 wx)
    case first =>
      -- slow
      obtain ⟨_, _, f0, f1⟩ := HCf.out _ Hd11.out
      go_wp2_with fail
      refine Hf.out.mono ?_
      rintro e w12 ⟨rfl, hb⟩
      have Hy12 := Lib.hid hb
      have Hd12 := Lib.hid (Below.call Hd11.out hb Hd11.out.size)
      have HB12 := Lib.hid (Below.call HB11.out hb HB11.out.size)
      obtain ⟨⟨a0, a1, a2, a3⟩, _, f0, f1⟩ := HCf.out _ Hd12.out
      clear hb Hf
      by_cases h0 : ec = 0
      case neg =>
        have hne : ((ec : Int) == 0) = false := by rw [beq_eq_false_iff_ne]; omega
        clear h0
        go_wp2
        go_meet
        exact ⟨rfl, Hy12.out⟩
      have hez : ((ec : Int) == 0) = true := by rw [h0]; rfl
      obtain ⟨hbd, hkn⟩ := Hrx.out.2.2.2 h0
      have hbs : 1 ≤ sp ∧ sp ≤ 100000 ∧ -1099511627776 ≤ fr ∧ fr ≤ 1099511627776 := by simpa [bndB] using hbd
      have hmn : m1 = n1 := by rw [← Hln.out.1.1, ← Hln.out.1.2]; exact hkn
      subst hmn
      have hs := Hs11.out h0
      have hrd := HA.out _ HB12.out
      have Hbt := Lib.hid (blockText_any fr sp A1 A2 m1 c1 d1 (N1.zip K1) w12
        (by show Rd w12 w12.heap.size 1 A1 m1 ((N1.zip K1).map fun r => Value.string (B8 r.1)); rw [zip_fst (fun s : Bs => Value.string (B8 s)) N1 K1 hkn]; exact hrd.1.1)
        (by show Rd w12 w12.heap.size 1 A2 m1 ((N1.zip K1).map fun r => Value.string (bytesOf r.2)); rw [zip_snd (fun z : List Nat => Value.string (bytesOf z)) N1 K1 hkn]; exact hrd.1.2)
        (by omega) (by omega) (by omega) (fun r hr => by
          obtain ⟨x, y⟩ := r
          have h := List.of_mem_zip hr
          exact ⟨Hnl.out.1 x h.1, (Hnl.out.2.1 y h.2).1⟩))
      obtain ⟨tt, htt⟩ : ∃ tt, tt = B8 (textB fr sp (N1.zip K1)) := ⟨_, rfl⟩
      rw [← htt] at Hbt hs
      subst hs
      have e1 : (s11.toList == s11.toList) = true := beq_self_eq_true _
      have e2 : (s11.toList != s11.toList) = false := by rw [bne, e1]; rfl
      clear h0 hbd hkn hbs htt hrd
      go_wp2_with fail
      refine Hbt.out.mono ?_
      rintro e w13 ⟨rfl, hb⟩
      have Hy13 := Lib.hid (Below.call Hy12.out hb Hy12.out.size)
      clear hb Hbt
      go_wp2
      go_meet
      exact ⟨rfl, Hy13.out⟩
      -- end
    case rest =>
      obtain ⟨rfl, hb⟩ := hcut
      rename World => w13
      have Hd13 := Lib.hid (Below.call Hd11.out hb Hd11.out.size)
      have HB13 := Lib.hid (Below.call HB6.out Hd13.out HB6.out.size)
      clear hb Hf Hs11 Hd11 Hd10 Hd9 HB11 HB10 HB9 Hfa
      apply_assumption
      obtain ⟨J, hJ⟩ : ∃ J, J = joinR ⟨fr, sp, none, none, 0, 0, 0, 0, N1, K1⟩ ⟨gr, tp, none, none, 0, 0, 0, 0, N2, K2⟩ := ⟨_, rfl⟩
      have HJ := Lib.hid hJ
      have Hjn := Lib.hid (fun W (hb : Below w.heap.size w W) (B1 B2 B3 B4 : Option Addr) (e1 e2 e3 e4 : Nat) (h1 : Rd W W.heap.size 1 B1 n1 (N1.map fun s => .string (B8 s))) (h2 : Rd W W.heap.size 1 B2 m1 (K1.map fun z => .string (bytesOf z))) (h3 : Rd W W.heap.size 1 B3 n2 (N2.map fun s => .string (B8 s))) (h4 : Rd W W.heap.size 1 B4 m2 (K2.map fun z => .string (bytesOf z))) =>
        show Calls Tryz.prog 16 #[.agg #[.int .i64 fr, .int .i64 sp, .slice B1 n1 e1, .slice B2 m1 e2], .agg #[.int .i64 gr, .int .i64 tp, .slice B3 n2 e3, .slice B4 m2 e4]] W fun e w' => MkPost es J fr (sp + tp) W e w' from by
          rw [hJ]
          exact join_any ⟨fr, sp, B1, B2, n1, e1, m1, e2, N1, K1⟩ ⟨gr, tp, B3, B4, n2, e3, m2, e4, N2, K2⟩ W (HW.out W hb) ⟨h1, h2, Hnl.out.1, Hnl.out.2.1⟩ ⟨h3, h4, Hnl.out.2.2.1, Hnl.out.2.2.2⟩)
      have Hrj := Lib.hid (fun W (hb : Below w.heap.size w W) => show Calls Tryz.prog 17 #[.agg #[.int .i64 fr, .int .i64 sp, .slice A1 n1 c1, .slice A2 m1 d1], .agg #[.int .i64 gr, .int .i64 tp, .slice A3 n2 c2, .slice A4 m2 d2]] W fun e w' => RBPost (J.1, (if J.1.1 = 0 then (fr, sp + tp) else (0, 0)), J.2) W e w' from by
        rw [hJ]
        exact rjoin_any ⟨fr, sp, A1, A2, n1, c1, m1, d1, N1, K1⟩ ⟨gr, tp, A3, A4, n2, c2, m2, d2, N2, K2⟩ W ⟨(HA.out W hb).1.1, (HA.out W hb).1.2, Hnl.out.1, Hnl.out.2.1⟩ ⟨(HA.out W hb).2.1, (HA.out W hb).2.2, Hnl.out.2.2.1, Hnl.out.2.2.2⟩)
      have HK60 := Lib.hid (show J.2.length ≤ 60 by rw [hJ]; exact joinR_60 _ _)
      clear hJ Hln Hkb HX1 HX2
      have W0 := Lib.hid (Below.drew (Below.refl w13.heap.size w13))
      have W0A := Lib.hid (show Below w13.heap.size w13 (w13.alloc (.cells #[.int .i64 0, .int .i64 0, .slice none 0 0, .slice none 0 0] 37)).drew from Below.drew (Below.alloc (Below.refl w13.heap.size w13) (Nat.le_refl _) _))
      have KK0A := Lib.hid (show Blk (w13.alloc (.cells #[.int .i64 0, .int .i64 0, .slice none 0 0, .slice none 0 0] 37)).drew w13.heap.size 37 #[.int .i64 0, .int .i64 0, .slice none 0 0, .slice none 0 0] from (Blk.new w13 37 _).drew)
      have HCc := Lib.hid (fun W (hb : Below w13.heap.size w13 W) => show (W.cell? ⟨w.heap.size, 0, none⟩ = some (.int .i64 fr) ∧ W.cell? ⟨w.heap.size, 1, none⟩ = some (.int .i64 sp) ∧ W.cell? ⟨w.heap.size, 2, none⟩ = some (.slice A1 n1 c1) ∧ W.cell? ⟨w.heap.size, 3, none⟩ = some (.slice A2 m1 d1)) ∧ (W.cell? ⟨w.heap.size + 1, 0, none⟩ = some (.int .i64 gr) ∧ W.cell? ⟨w.heap.size + 1, 1, none⟩ = some (.int .i64 tp) ∧ W.cell? ⟨w.heap.size + 1, 2, none⟩ = some (.slice A3 n2 c2) ∧ W.cell? ⟨w.heap.size + 1, 3, none⟩ = some (.slice A4 m2 d2)) from ⟨(HCf.out W (Below.call Hd13.out hb Hd13.out.size)).1, (HCf.out W (Below.call Hd13.out hb Hd13.out.size)).2.1⟩)
      have HBB := Lib.hid (fun W (hb : Below w13.heap.size w13 W) => Below.call HB13.out hb HB13.out.size)
      have C0 := Lib.hid (HCc.out _ W0.out); have C0A := Lib.hid (HCc.out _ W0A.out)
      go_upto_region 13 with fail
      go_cut [15, 17] (fun v p wx => CJ es w13 J fr (sp + tp) v p wx)
      case first =>
        -- slow
        go_region_held3 (fun w' => (w'.cell? ⟨w.heap.size, 0, none⟩ = some (.int .i64 fr) ∧ w'.cell? ⟨w.heap.size, 1, none⟩ = some (.int .i64 sp) ∧ w'.cell? ⟨w.heap.size, 2, none⟩ = some (.slice A1 n1 c1) ∧ w'.cell? ⟨w.heap.size, 3, none⟩ = some (.slice A2 m1 d1)) ∧ (w'.cell? ⟨w.heap.size + 1, 0, none⟩ = some (.int .i64 gr) ∧ w'.cell? ⟨w.heap.size + 1, 1, none⟩ = some (.int .i64 tp) ∧ w'.cell? ⟨w.heap.size + 1, 2, none⟩ = some (.slice A3 n2 c2) ∧ w'.cell? ⟨w.heap.size + 1, 3, none⟩ = some (.slice A4 m2 d2)))
          (first | with_reducible exact C0.out | with_reducible exact C0A.out | with_reducible exact C1.out | with_reducible exact C1A.out | with_reducible exact C2.out | with_reducible exact C2A.out | with_reducible exact C3.out | with_reducible exact C3A.out | with_reducible exact HCc.out _ (below4 W3.out G3.out _ _ _ _) | with_reducible exact HCc.out _ (Below.alloc W3.out W3.out.size _))
          (first
          | (go_at_call 8; (with_reducible refine (Hox.out _ (HBB.out _ W0.out)).mono ?_); rintro ea y1 ⟨B5, e5, B6, e6, rfl, h5, h6, hba⟩; have W1 := Lib.hid (Below.call W0.out hba W0.out.size); have C1 := Lib.hid (HCc.out _ W1.out); have W1A := Lib.hid (show Below w13.heap.size w13 (y1.alloc (.cells #[.int .i64 0, .int .i64 0, .slice none 0 0, .slice none 0 0] 37)) from Below.alloc W1.out W1.out.size _); have C1A := Lib.hid (HCc.out _ W1A.out); have V1A := Lib.hid (show Below y1.heap.size y1 (y1.alloc (.cells #[.int .i64 0, .int .i64 0, .slice none 0 0, .slice none 0 0] 37)) from Below.alloc (Below.refl _ _) (Nat.le_refl _) _); have R1 := Lib.hid (fun W (hb : Below y1.heap.size y1 W) => And.intro ((h5.below hb).more hb.size) ((h6.below hb).more hb.size)); have KK1A := Lib.hid (Blk.new y1 37 #[.int .i64 0, .int .i64 0, .slice none 0 0, .slice none 0 0]); have G1A := Lib.hid W1.out.size; clear h5 h6 hba)
          | (go_at_call 8; (with_reducible refine (Hox.out _ (HBB.out _ W0A.out)).mono ?_); rintro ea y1 ⟨B5, e5, B6, e6, rfl, h5, h6, hba⟩; have W1 := Lib.hid (Below.call W0A.out hba W0A.out.size); have C1 := Lib.hid (HCc.out _ W1.out); have W1A := Lib.hid (show Below w13.heap.size w13 (y1.alloc (.cells #[.int .i64 0, .int .i64 0, .slice none 0 0, .slice none 0 0] 37)) from Below.alloc W1.out W1.out.size _); have C1A := Lib.hid (HCc.out _ W1A.out); have V1A := Lib.hid (show Below y1.heap.size y1 (y1.alloc (.cells #[.int .i64 0, .int .i64 0, .slice none 0 0, .slice none 0 0] 37)) from Below.alloc (Below.refl _ _) (Nat.le_refl _) _); have R1 := Lib.hid (fun W (hb : Below y1.heap.size y1 W) => And.intro ((h5.below hb).more hb.size) ((h6.below hb).more hb.size)); have KK1 := Lib.hid (KK0A.out.below hba KK0A.out.lt); have G1 := Lib.hid (Nat.le_refl w13.heap.size); clear h5 h6 hba)
          | (go_at_call 8; have htok := KK1; clear htok; (with_reducible refine (Hoy.out _ (HBB.out _ W1.out)).mono ?_); rintro eb y2 ⟨B7, e7, B8', e8, rfl, h7, h8, hbb⟩; have W2 := Lib.hid (Below.call W1.out hbb W1.out.size); have C2 := Lib.hid (HCc.out _ W2.out); have W2A := Lib.hid (show Below w13.heap.size w13 (y2.alloc (.cells #[.int .i64 0, .int .i64 0, .slice none 0 0, .slice none 0 0] 37)) from Below.alloc W2.out W2.out.size _); have C2A := Lib.hid (HCc.out _ W2A.out); have V2A := Lib.hid (show Below y2.heap.size y2 (y2.alloc (.cells #[.int .i64 0, .int .i64 0, .slice none 0 0, .slice none 0 0] 37)) from Below.alloc (Below.refl _ _) (Nat.le_refl _) _); have R2 := Lib.hid (fun W (hb : Below y2.heap.size y2 W) => And.intro ((h7.below hb).more hb.size) ((h8.below hb).more hb.size)); have V12 := Lib.hid hbb; have KK2 := Lib.hid (KK1.out.below hbb KK1.out.lt); have G2 := Lib.hid G1.out; clear h7 h8 hbb)
          | (go_at_call 8; (with_reducible refine (Hoy.out _ (HBB.out _ W1A.out)).mono ?_); rintro eb y2 ⟨B7, e7, B8', e8, rfl, h7, h8, hbb⟩; have W2 := Lib.hid (Below.call W1A.out hbb W1A.out.size); have C2 := Lib.hid (HCc.out _ W2.out); have W2A := Lib.hid (show Below w13.heap.size w13 (y2.alloc (.cells #[.int .i64 0, .int .i64 0, .slice none 0 0, .slice none 0 0] 37)) from Below.alloc W2.out W2.out.size _); have C2A := Lib.hid (HCc.out _ W2A.out); have V2A := Lib.hid (show Below y2.heap.size y2 (y2.alloc (.cells #[.int .i64 0, .int .i64 0, .slice none 0 0, .slice none 0 0] 37)) from Below.alloc (Below.refl _ _) (Nat.le_refl _) _); have R2 := Lib.hid (fun W (hb : Below y2.heap.size y2 W) => And.intro ((h7.below hb).more hb.size) ((h8.below hb).more hb.size)); have V12 := Lib.hid (Below.call V1A.out hbb V1A.out.size); have KK2 := Lib.hid (KK1A.out.below hbb KK1A.out.lt); have G2 := Lib.hid G1A.out; clear h7 h8 hbb)
          | (go_at_call 8; (with_reducible refine (Hoy.out _ (HBB.out _ W1.out)).mono ?_); rintro eb y2 ⟨B7, e7, B8', e8, rfl, h7, h8, hbb⟩; have W2 := Lib.hid (Below.call W1.out hbb W1.out.size); have C2 := Lib.hid (HCc.out _ W2.out); have W2A := Lib.hid (show Below w13.heap.size w13 (y2.alloc (.cells #[.int .i64 0, .int .i64 0, .slice none 0 0, .slice none 0 0] 37)) from Below.alloc W2.out W2.out.size _); have C2A := Lib.hid (HCc.out _ W2A.out); have V2A := Lib.hid (show Below y2.heap.size y2 (y2.alloc (.cells #[.int .i64 0, .int .i64 0, .slice none 0 0, .slice none 0 0] 37)) from Below.alloc (Below.refl _ _) (Nat.le_refl _) _); have R2 := Lib.hid (fun W (hb : Below y2.heap.size y2 W) => And.intro ((h7.below hb).more hb.size) ((h8.below hb).more hb.size)); have V12 := Lib.hid hbb; have KK2A := Lib.hid (Blk.new y2 37 #[.int .i64 0, .int .i64 0, .slice none 0 0, .slice none 0 0]); have G2A := Lib.hid W2.out.size; clear h7 h8 hbb)
          | (go_at_call 16; have htok := KK2; clear htok; (with_reducible refine (Hjn.out _ (HBB.out _ W2.out) B5 B6 B7 B8' e5 e6 e7 e8 (R1.out _ (Below.call V12.out (Below.refl _ _) V12.out.size)).1 (R1.out _ (Below.call V12.out (Below.refl _ _) V12.out.size)).2 (R2.out _ (Below.refl _ _)).1 (R2.out _ (Below.refl _ _)).2).mono ?_); rintro ej y3 ⟨vj, fj, sj, uj1, uj2, rfl, hevj, hbadj, hgoodj, hprj, hbj⟩; obtain ⟨D1, g1, rfl, _, _, _⟩ := own_form hprj.l; obtain ⟨D2, g2, rfl, _, _, _⟩ := own_form hprj.r; have W3 := Lib.hid (Below.call W2.out hbj W2.out.size); have C3 := Lib.hid (HCc.out _ W3.out); have W3A := Lib.hid (show Below w13.heap.size w13 (y3.alloc (.cells #[.int .i64 0, .int .i64 0, .slice none 0 0, .slice none 0 0] 37)) from Below.alloc W3.out W3.out.size _); have C3A := Lib.hid (HCc.out _ W3A.out); have EJ := Lib.hid hevj; have PJ := Lib.hid hprj; have XJ := Lib.hid (And.intro hbadj hgoodj); have SJ := Lib.hid W2.out.size; have KK3 := Lib.hid (KK2.out.below hbj KK2.out.lt); have L3 := Lib.hid KK2.out.lt; have G3 := Lib.hid G2.out; obtain ⟨⟨k0, k1, k2, k3⟩, ⟨m0, m1', m2', m3⟩⟩ := cells4 KK3.out; clear hevj hprj hbadj hgoodj hbj)
          | (go_at_call 16; (with_reducible refine (Hjn.out _ (HBB.out _ W2A.out) B5 B6 B7 B8' e5 e6 e7 e8 (R1.out _ (Below.call V12.out V2A.out V12.out.size)).1 (R1.out _ (Below.call V12.out V2A.out V12.out.size)).2 (R2.out _ V2A.out).1 (R2.out _ V2A.out).2).mono ?_); rintro ej y3 ⟨vj, fj, sj, uj1, uj2, rfl, hevj, hbadj, hgoodj, hprj, hbj⟩; obtain ⟨D1, g1, rfl, _, _, _⟩ := own_form hprj.l; obtain ⟨D2, g2, rfl, _, _, _⟩ := own_form hprj.r; have W3 := Lib.hid (Below.call W2A.out hbj W2A.out.size); have C3 := Lib.hid (HCc.out _ W3.out); have W3A := Lib.hid (show Below w13.heap.size w13 (y3.alloc (.cells #[.int .i64 0, .int .i64 0, .slice none 0 0, .slice none 0 0] 37)) from Below.alloc W3.out W3.out.size _); have C3A := Lib.hid (HCc.out _ W3A.out); have EJ := Lib.hid hevj; have PJ := Lib.hid hprj; have XJ := Lib.hid (And.intro hbadj hgoodj); have SJ := Lib.hid W2A.out.size; have KK3 := Lib.hid (KK2A.out.below hbj KK2A.out.lt); have L3 := Lib.hid KK2A.out.lt; have G3 := Lib.hid G2A.out; obtain ⟨⟨k0, k1, k2, k3⟩, ⟨m0, m1', m2', m3⟩⟩ := cells4 KK3.out; clear hevj hprj hbadj hgoodj hbj)
          | (go_at_call 16; (with_reducible refine (Hjn.out _ (HBB.out _ W2.out) B5 B6 B7 B8' e5 e6 e7 e8 (R1.out _ (Below.call V12.out (Below.refl _ _) V12.out.size)).1 (R1.out _ (Below.call V12.out (Below.refl _ _) V12.out.size)).2 (R2.out _ (Below.refl _ _)).1 (R2.out _ (Below.refl _ _)).2).mono ?_); rintro ej y3 ⟨vj, fj, sj, uj1, uj2, rfl, hevj, hbadj, hgoodj, hprj, hbj⟩; obtain ⟨D1, g1, rfl, _, _, _⟩ := own_form hprj.l; obtain ⟨D2, g2, rfl, _, _, _⟩ := own_form hprj.r; have W3 := Lib.hid (Below.call W2.out hbj W2.out.size); have C3 := Lib.hid (HCc.out _ W3.out); have W3A := Lib.hid (show Below w13.heap.size w13 (y3.alloc (.cells #[.int .i64 0, .int .i64 0, .slice none 0 0, .slice none 0 0] 37)) from Below.alloc W3.out W3.out.size _); have C3A := Lib.hid (HCc.out _ W3A.out); have EJ := Lib.hid hevj; have PJ := Lib.hid hprj; have XJ := Lib.hid (And.intro hbadj hgoodj); have SJ := Lib.hid W2.out.size; clear hevj hprj hbadj hgoodj hbj))
        all_goals
          go_wp2
          go_meet
          first
            | exact CJ.of_set XJ.out.1 XJ.out.2 EJ.out SJ.out PJ.out W3.out KK3.out L3.out G3.out
            | exact CJ.of_alloc XJ.out.1 XJ.out.2 EJ.out SJ.out PJ.out W3.out
        -- end
      case rest =>
        obtain ⟨gx, F, P, A5, a5, A6, a6, rfl, hbadj, hgoodj, hkx, hevj, hprj, hbj⟩ := hcut
        rename World => w14
        have Hd14 := Lib.hid (Below.call Hd13.out hbj Hd13.out.size)
        have HB14 := Lib.hid (Below.call HB13.out hbj HB13.out.size)
        have HKx := Lib.hid hkx; have HEx := Lib.hid hevj; have HPx := Lib.hid hprj; have HXj := Lib.hid (And.intro hbadj hgoodj)
        clear hbadj hgoodj hkx hevj hprj hbj W0 W0A KK0A C0 C0A HCc HBB Hjn HJ Hox Hoy
        apply_assumption
        obtain ⟨⟨jc, ja⟩, K⟩ := J
        dsimp only at HKx HEx HPx HXj HK60 Hrj
        have Hrj14 := Lib.hid (Hrj.out w14 HB14.out)
        rw [show (if jc = 0 then (fr, sp + tp) else (0, 0)) = (F, P) from by
          by_cases h : jc = 0
          · rw [if_pos h, (HXj.out.2 h).1, (HXj.out.2 h).2]
          · rw [if_neg h, (HXj.out.1 h).1, (HXj.out.1 h).2]] at Hrj14
        obtain ⟨⟨a0, a1, a2, a3⟩, ⟨b0, b1, b2, b3⟩, _⟩ := HCf.out _ Hd14.out
        clear Hrj HXj
        go_wp2_with fail
        refine Hrj14.out.mono ?_
        rintro e w15 ⟨u3, u4, rfl, hpr, hb⟩
        rw [show fV ((jc, ja), (F, P), K).1 = .agg #[.int .i64 (jc : Int), .int .i64 ja] from rfl]
        obtain ⟨A7, a7, rfl, _, _, _⟩ := own_form hpr.l
        obtain ⟨A8, a8, rfl, _, _, _⟩ := own_form hpr.r
        dsimp only at hpr ⊢
        have HB15 := Lib.hid (Below.call HB14.out hb HB14.out.size)
        have HK15 := Lib.hid (HKx.out.below hb HKx.out.lt)
        have HE15 := Lib.hid (HEx.out.below hb (Nat.le_refl _))
        have HP15 := Lib.hid (HPx.out.fr (Fr.ofBel hb))
        have HQ15 := Lib.hid hpr
        have hk7 := (Blk.new w15 24 #[.int .i64 F, .int .i64 P, .slice A7 K.length a7, .slice A8 K.length a8]).alloc (.cells #[.int .i64 (jc : Int), .int .i64 ja] 29)
        have hf7 := Blk.new (w15.alloc (.cells #[.int .i64 F, .int .i64 P, .slice A7 K.length a7, .slice A8 K.length a8] 24)) 29 #[.int .i64 (jc : Int), .int .i64 ja]
        rw [World.size_alloc] at hf7
        have hb67 := Below.alloc (Below.alloc (Below.refl w15.heap.size w15) (Nat.le_refl _) (.cells #[.int .i64 F, .int .i64 P, .slice A7 K.length a7, .slice A8 K.length a8] 24)) (by simp) (.cells #[.int .i64 (jc : Int), .int .i64 ja] 29)
        obtain ⟨w16, hw16⟩ : ∃ w16, w16 = (w15.alloc (.cells #[.int .i64 F, .int .i64 P, .slice A7 K.length a7, .slice A8 K.length a8] 24)).alloc (.cells #[.int .i64 (jc : Int), .int .i64 ja] 29) := ⟨_, rfl⟩
        have Hw16 := Lib.hid hw16
        rw [← hw16] at hk7 hf7 hb67
        have HB16 := Lib.hid (Below.call HB15.out hb67 HB15.out.size)
        have HE16 := Lib.hid (HE15.out.below hb67 (Nat.le_refl _))
        have HG16 := Lib.hid (HK15.out.below hb67 HK15.out.lt)
        have HPA := Lib.hid (HP15.out.fr (Fr.ofBel hb67))
        have HPB := Lib.hid (HQ15.out.fr (Fr.ofBel hb67))
        have HK16 := Lib.hid hk7; have HF16 := Lib.hid hf7
        have HC := Lib.hid (fun W (hb : Below w16.heap.size w16 W) => show (W.cell? ⟨gx, 0, none⟩ = some (.int .i64 F) ∧ W.cell? ⟨gx, 1, none⟩ = some (.int .i64 P) ∧ W.cell? ⟨gx, 2, none⟩ = some (.slice A5 K.length a5) ∧ W.cell? ⟨gx, 3, none⟩ = some (.slice A6 K.length a6)) ∧ (W.cell? ⟨w15.heap.size, 0, none⟩ = some (.int .i64 F) ∧ W.cell? ⟨w15.heap.size, 1, none⟩ = some (.int .i64 P) ∧ W.cell? ⟨w15.heap.size, 2, none⟩ = some (.slice A7 K.length a7) ∧ W.cell? ⟨w15.heap.size, 3, none⟩ = some (.slice A8 K.length a8)) ∧ (W.cell? ⟨w15.heap.size + 1, 0, none⟩ = some (.int .i64 (jc : Int)) ∧ W.cell? ⟨w15.heap.size + 1, 1, none⟩ = some (.int .i64 ja)) from
          ⟨(cells4 (HG16.out.below hb HG16.out.lt)).1, (cells4 (HK16.out.below hb HK16.out.lt)).1, (HF16.out.below hb HF16.out.lt).duo2⟩)
        have HC16 := Lib.hid (HC.out w16.drew (Below.drew (Below.refl _ _)))
        have HB16d := Lib.hid HB16.out.drew
        have HE16d := Lib.hid (HE16.out.below (Below.drew (Below.refl w16.heap.size w16)) (Nat.le_refl _))
        have Hfj := Lib.hid (faulted2_any u15 (jc : Int) ja (jc : Int) ja w16.drew (HS.out _ HB16d.out) (HW.out _ HB16d.out).b0 (HE16d.out.is (HS.out _ HB16d.out)) rfl (.inr rfl))
        have Ham := Lib.hid (fun A1 A2 a1 a2 W => asModel_any F P A1 A2 K.length a1 K.length a2 W)
        have Hsb := Lib.hid (fun W (B1 B2 B3 B4 : Option Addr) (b1 b2 b3 b4 : Nat) (h1 : Rd W W.heap.size 1 B1 K.length (txS K)) (h2 : Rd W W.heap.size 1 B2 K.length (chS K)) (h3 : Rd W W.heap.size 1 B3 K.length (txS K)) (h4 : Rd W W.heap.size 1 B4 K.length (chS K)) => sameBlock_eq F P B1 B2 B3 B4 K.length b1 b2 K.length b3 b4 (K.map fun r => B8 r.1) (K.map fun r => bytesOf r.2) W
          (by rw [List.map_map]; exact h1) (by rw [List.map_map]; exact h2) (by rw [List.map_map]; exact h3) (by rw [List.map_map]; exact h4) (Nat.le_trans HK60.out (by decide)) (Nat.le_trans HK60.out (by decide)))
        have HPl := Lib.hid (fun W (hb : Below w16.heap.size w16 W) => show (Rd W W.heap.size 1 A5 K.length (txS K) ∧ Rd W W.heap.size 1 A6 K.length (chS K)) ∧ (Rd W W.heap.size 1 A7 K.length (txS K) ∧ Rd W W.heap.size 1 A8 K.length (chS K)) from
          ⟨⟨((Rd.of_own HPA.out.l).below hb).more hb.size, ((Rd.of_own HPA.out.r).below hb).more hb.size⟩, ⟨((Rd.of_own HPB.out.l).below hb).more hb.size, ((Rd.of_own HPB.out.r).below hb).more hb.size⟩⟩)
        have hrd := Lib.hid (Below.drew (Below.refl w16.heap.size w16))
        clear hb hpr hk7 hf7 hb67 hw16 Hrj14 a0 a1 a2 a3 b0 b1 b2 b3 HKx HEx HPx HK15 HE15 HP15 HQ15 HB15
        go_upto_region 15 with fail
        rw [← Hw16.out]
        go_region_held3 (fun w' => (w'.cell? ⟨gx, 0, none⟩ = some (.int .i64 F) ∧ w'.cell? ⟨gx, 1, none⟩ = some (.int .i64 P) ∧ w'.cell? ⟨gx, 2, none⟩ = some (.slice A5 K.length a5) ∧ w'.cell? ⟨gx, 3, none⟩ = some (.slice A6 K.length a6)) ∧ (w'.cell? ⟨w15.heap.size, 0, none⟩ = some (.int .i64 F) ∧ w'.cell? ⟨w15.heap.size, 1, none⟩ = some (.int .i64 P) ∧ w'.cell? ⟨w15.heap.size, 2, none⟩ = some (.slice A7 K.length a7) ∧ w'.cell? ⟨w15.heap.size, 3, none⟩ = some (.slice A8 K.length a8)) ∧ (w'.cell? ⟨w15.heap.size + 1, 0, none⟩ = some (.int .i64 (jc : Int)) ∧ w'.cell? ⟨w15.heap.size + 1, 1, none⟩ = some (.int .i64 ja)))
          (first | with_reducible exact HC16.out | with_reducible exact HCa.out | with_reducible exact HCb.out | with_reducible exact HCc.out)
          (first
            | (go_at_call 9; refine Hfj.out.mono ?_; rintro e6 x1 ⟨rfl, hb6⟩; have Hx1 := Lib.hid (Below.call hrd.out hb6 hrd.out.size); have HCa := Lib.hid (HC.out _ Hx1.out); clear hb6)
            | (go_at_call 19; refine (Ham.out _ _ _ _ _).mono ?_; rintro e7 x2 ⟨rfl, hb7⟩; have Hx2 := Lib.hid (Below.call Hx1.out hb7 Hx1.out.size); have HCb := Lib.hid (HC.out _ Hx2.out); clear hb7)
            | (go_at_call 18; refine (Hsb.out _ _ _ _ _ _ _ _ _ (HPl.out _ Hx2.out).1.1 (HPl.out _ Hx2.out).1.2 (HPl.out _ Hx2.out).2.1 (HPl.out _ Hx2.out).2.2).mono ?_; rintro e8 x3 ⟨rfl, hb8⟩; have Hx3 := Lib.hid (Below.call Hx2.out hb8 Hx2.out.size); have HCc := Lib.hid (HC.out _ Hx3.out); clear hb8))
        have HBx := Lib.hid (Below.call HB16.out Hx3.out HB16.out.size)
        go_wp2
        go_ret
        exact ⟨rfl, HBx.out⟩
end Go.Proofs.YtpbgonpmpjpljaaGreatDoor
