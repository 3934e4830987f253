/- block.Make by its contract. -/
import Derived.Test.YthgefobcohlegaaGreatDoorMkpX
import Derived.Deep.DrawnRows
import Derived.Deep.DeepCutAuto
import Derived.Deep.Light
namespace Go.Proofs.YthgefobcohlegaaGreatDoor
open Go.RowKit
set_option linter.unusedVariables false
set_option linter.unusedSimpArgs false
attribute [local go_sem ↓] Go.wp_at_zero Go.wp_at_succ

theorem infoSt : (Tryz.prog.info? 9).map (fun i => (i.zero, i.size, i.bytes)) = some (some (.string ⟨#[]⟩), 1, 16) := by kernel_rfl
theorem res_mk (tmps : Array Value) (W : World) (b : Nat) (v0 v1 v2 v3 ev : Value) (ha : tmps.getD 6 undef = .pointer (some ⟨b, 0, none⟩)) (hk : tmps.getD 7 undef = ev) (hB : Blk W b 85 #[v0, v1, v2, v3]) :
    (results Tryz.f64 tmps).run Tryz.prog W = .ok (.tuple #[.agg #[v0, v1, v2, v3], ev]) W := by
  have z0 := hB.cell 0; have z1 := hB.cell 1; have z2 := hB.cell 2; have z3 := hB.cell 3
  simp only [List.getElem?_toArray, List.getElem?_cons_zero, List.getElem?_cons_succ] at z0 z1 z2 z3
  simp only [Array.getD_eq_getD_getElem?] at ha hk
  simp [results, Tryz.results64, go_sem, ha, hk, z0, z1, z2, z3]
theorem set4 {w W : World} {f : Nat} {t : TypeId} {v0 v1 v2 v3 : Value} (hf : w.heap.size ≤ f) (hb : Below w.heap.size w W) (hk : Blk W f t #[v0, v1, v2, v3]) (u0 u1 u2 u3 : Value) :
    Blk ((((W.setCell ⟨f, 0, none⟩ u0).setCell ⟨f, 1, none⟩ u1).setCell ⟨f, 2, none⟩ u2).setCell ⟨f, 3, none⟩ u3) f t #[u0, u1, u2, u3] ∧
      Below w.heap.size w ((((W.setCell ⟨f, 0, none⟩ u0).setCell ⟨f, 1, none⟩ u1).setCell ⟨f, 2, none⟩ u2).setCell ⟨f, 3, none⟩ u3) :=
  ⟨(((hk.set_ 0 u0).set_ 1 u1).set_ 2 u2).set_ 3 u3, Below.setCell (Below.setCell (Below.setCell (Below.setCell hb (p := ⟨f, 0, none⟩) hf u0) (p := ⟨f, 1, none⟩) hf u1) (p := ⟨f, 2, none⟩) hf u2) (p := ⟨f, 3, none⟩) hf u3⟩
theorem cells4 {W : World} {f : Nat} {t : TypeId} {v0 v1 v2 v3 : Value} (h : Blk W f t #[v0, v1, v2, v3]) :
    (W.cell? ⟨f, 0, none⟩ = some v0 ∧ W.cell? ⟨f, 1, none⟩ = some v1 ∧ W.cell? ⟨f, 2, none⟩ = some v2 ∧ W.cell? ⟨f, 3, none⟩ = some v3) ∧ (W.frozen? ⟨f, 0, none⟩ = false ∧ W.frozen? ⟨f, 1, none⟩ = false ∧ W.frozen? ⟨f, 2, none⟩ = false ∧ W.frozen? ⟨f, 3, none⟩ = false) :=
  ⟨⟨h.cell 0, h.cell 1, h.cell 2, h.cell 3⟩, ⟨h.frozen 0, h.frozen 1, h.frozen 2, h.frozen 3⟩⟩
def MkPost (es : Nat → Addr) (R : (Nat × Int) × List (Bs × List Nat)) (fr sp : Int) (w : World) (e : Ending) (w' : World) : Prop :=
  ∃ v f' s' u1 u2, e = .returned (.tuple #[.agg #[.int .i64 f', .int .i64 s', u1, u2], v]) ∧ EV es w.heap.size w' v R.1 ∧ (R.1.1 ≠ 0 → f' = 0 ∧ s' = 0) ∧ (R.1.1 = 0 → f' = fr ∧ s' = sp) ∧
    Pair w' w.heap.size 9 u1 R.2.length (txS R.2) u2 R.2.length (chS R.2) ∧ Below w.heap.size w w'
theorem Pair.nil (w : World) (base : Nat) (e : TypeId) : Pair w base e (.slice none 0 0) 0 [] (.slice none 0 0) 0 [] := ⟨World.ownsRow_nil _ _ _ _, World.ownsRow_nil _ _ _ _, fun k h => (by cases h)⟩
theorem Pair.set {w : World} {base n1 n2 : Nat} {e : TypeId} {v1 v2 : Value} {xs1 xs2 : List Value} (h : Pair w base e v1 n1 xs1 v2 n2 xs2) {p : Addr} (h1 : some p.block ≠ v1.ownBlock) (h2 : some p.block ≠ v2.ownBlock) (u : Value) : Pair (w.setCell p u) base e v1 n1 xs1 v2 n2 xs2 :=
  ⟨own_set h.l h1 u, own_set h.r h2 u, h.ap⟩
theorem keep_yes {l : List (Bs × List (Int × Int))} {k : Nat} {r : Bs × List (Int × Int)} (h : l[k]? = some r) (hr : r.2 ≠ []) : keepR (l.take (k + 1)) = keepR (l.take k) ++ [r] := by
  unfold keepR; rw [take_snoc h, List.filter_append]; simp [hr]
theorem keep_no {l : List (Bs × List (Int × Int))} {k : Nat} {r : Bs × List (Int × Int)} (h : l[k]? = some r) (hr : r.2 = []) : keepR (l.take (k + 1)) = keepR (l.take k) := by
  unfold keepR; rw [take_snoc h, List.filter_append]; simp [hr]
theorem Fr.ofBel {w w' : World} (h : Below w.heap.size w w') : Fr (fun _ => False) w w' := ⟨h.os, h.tape, h.output, h.size, fun k hk _ => h.block k hk⟩
theorem Rd.of_blk1 {W : World} {g : Nat} {t : TypeId} {u : Value} (h : Blk W g t #[u]) : Rd W W.heap.size 1 (some ⟨g, 0, none⟩) 1 [u] :=
  ⟨rfl, fun _ => ⟨g, 0, rfl, h.lt, fun j v hv => by rw [Nat.zero_add, h.cell]; simpa using hv⟩⟩
theorem str_one1 (b : ByteArray) : ∀ u ∈ [Value.string b], u.oneCell' = true := by
  intro u hu; simp at hu; subst hu; rfl
/-- What stands between the two appends: the block, the row, the result, the two slices. -/
structure MS (w W : World) (q H G : Nat) (cs4 cs2 : Array Value) (v1 : Value) (n1 : Nat) (xs1 : List Value) (v2 : Value) (n2 : Nat) (xs2 : List Value) : Prop where
  hd : Blk W H 85 cs4
  ro : Blk W G 58 cs2
  zb : Blk W q 85 #[.int .i64 0, .int .i64 0, .slice none 0 0, .slice none 0 0]
  pr : Pair W w.heap.size 9 v1 n1 xs1 v2 n2 xs2
  bl : Below w.heap.size w W
section
variable {w W wa : World} {q H G n1 n2 m : Nat} {cs4 cs2 : Array Value} {v1 v2 v' : Value} {xs1 xs2 ys : List Value}
theorem MS.alloc (h : MS w W q H G cs4 cs2 v1 n1 xs1 v2 n2 xs2) (o : Obj) : MS w (W.alloc o) q H G cs4 cs2 v1 n1 xs1 v2 n2 xs2 :=
  ⟨h.hd.alloc o, h.ro.alloc o, h.zb.alloc o, h.pr.fr ((Fr.refl _ W).alloc o), Below.alloc h.bl h.bl.size o⟩
theorem MS.drew (h : MS w W q H G cs4 cs2 v1 n1 xs1 v2 n2 xs2) : MS w W.drew q H G cs4 cs2 v1 n1 xs1 v2 n2 xs2 :=
  ⟨h.hd, h.ro, h.zb, h.pr.fr (Fr.refl _ W).drew, h.bl.drew⟩
theorem MS.left (h : MS w W q H G cs4 cs2 v1 n1 xs1 v2 n2 xs2) (ho : wa.ownsRow w.heap.size 9 1 v' m ys) (hg : W.grownBy wa v1.ownBlock) (hat : v'.ownBlock = v1.ownBlock ∨ v'.ownBlock = some W.heap.size) : MS w wa q H G cs4 cs2 v' m ys v2 n2 xs2 :=
  ⟨h.hd.grown hg (own_ne_blk h.pr.l h.hd (by decide)), h.ro.grown hg (own_ne_blk h.pr.l h.ro (by decide)), h.zb.grown hg (own_ne_blk h.pr.l h.zb (by decide)), h.pr.left (Fr.refl _ _) hg ho hat, Below.grown h.bl hg h.bl.size (fun g e => (own_lt h.pr.l g e).1)⟩
theorem MS.right (h : MS w W q H G cs4 cs2 v1 n1 xs1 v2 n2 xs2) (ho : wa.ownsRow w.heap.size 9 1 v' m ys) (hg : W.grownBy wa v2.ownBlock) (hat : v'.ownBlock = v2.ownBlock ∨ v'.ownBlock = some W.heap.size) : MS w wa q H G cs4 cs2 v1 n1 xs1 v' m ys :=
  ⟨h.hd.grown hg (own_ne_blk h.pr.r h.hd (by decide)), h.ro.grown hg (own_ne_blk h.pr.r h.ro (by decide)), h.zb.grown hg (own_ne_blk h.pr.r h.zb (by decide)), h.pr.right (Fr.refl _ _) hg ho hat, Below.grown h.bl hg h.bl.size (fun g e => (own_lt h.pr.r g e).1)⟩
/-- A block made behind stays behind an append onto the left slice. -/
theorem MS.far (h : MS w W q H G cs4 cs2 v1 n1 xs1 v2 n2 xs2) {W' : World} {g : Nat} {t : TypeId} {cs : Array Value} (hg : W.heap.size ≤ g) (hb : Blk W' g t cs) (hgr : W'.grownBy wa v1.ownBlock) : Blk wa g t cs :=
  hb.grown hgr (fun e => by have := (own_lt h.pr.l g e.symm).2; omega)
end
theorem MS.held {w W : World} {q H G n1 n2 : Nat} {u0 u1 x0 x1 v1 v2 y1 y2 : Value} {xs1 xs2 : List Value} (h : MS w W q H G #[u0, u1, y1, y2] #[x0, x1] v1 n1 xs1 v2 n2 xs2) : W.cell? ⟨H, 2, none⟩ = some y1 ∧ W.cell? ⟨H, 3, none⟩ = some y2 ∧ W.cell? ⟨G, 0, none⟩ = some x0 :=
  ⟨h.hd.cell 2, h.hd.cell 3, h.ro.cell 0⟩
theorem MS.stored {w W : World} {q H G n1 n2 : Nat} {u0 u1 x0 x1 y1 y2 v1 v2 : Value} {xs1 xs2 : List Value} (h : MS w W q H G #[u0, u1, y1, y2] #[x0, x1] v1 n1 xs1 v2 n2 xs2) (hq : q ≠ H) (hH : w.heap.size ≤ H) :
    MS w ((W.setCell ⟨H, 2, none⟩ v1).setCell ⟨H, 3, none⟩ v2) q H G #[u0, u1, v1, v2] #[x0, x1] v1 n1 xs1 v2 n2 xs2 :=
  ⟨(h.hd.set_ 2 v1).set_ 3 v2, (h.ro.far (p := ⟨H, 2, none⟩) (h.ro.ne_ h.hd (by decide)) v1).far (p := ⟨H, 3, none⟩) (h.ro.ne_ h.hd (by decide)) v2, (h.zb.far (p := ⟨H, 2, none⟩) hq v1).far (p := ⟨H, 3, none⟩) hq v2,
    (h.pr.set (p := ⟨H, 2, none⟩) (own_ne_blk h.pr.l h.hd (by decide)) (own_ne_blk h.pr.r h.hd (by decide)) v1).set (p := ⟨H, 3, none⟩) (own_ne_blk h.pr.l h.hd (by decide)) (own_ne_blk h.pr.r h.hd (by decide)) v2,
    Below.setCell (Below.setCell h.bl (p := ⟨H, 2, none⟩) hH v1) (p := ⟨H, 3, none⟩) hH v2⟩
theorem MkPost.sent {es : Nat → Addr} {fr sp : Int} {w w' : World} {e : Ending} {k : Nat} (hk : k < 11) (he : e = .returned (.tuple #[.agg #[.int .i64 0, .int .i64 0, .slice none 0 0, .slice none 0 0], sentV (es k)])) (hb : Below w.heap.size w w') : MkPost es ((k + 1, -1), []) fr sp w e w' :=
  ⟨_, _, _, _, _, he, .inr (.inl ⟨k, hk, rfl, rfl⟩), fun _ => ⟨rfl, rfl⟩, fun h => (by cases h), Pair.nil _ _ _, hb⟩
set_option maxRecDepth 100000 in
set_option maxHeartbeats 4000000 in
theorem make_any {es : Nat → Addr} {B : Nat} (fr sp : Int) (A : Option Addr) (n c : Nat) (rows : List RowV) (w : World) (hS : SBk es B w) (hT : TabAt w) (hB0 : B ≤ w.heap.size)
    (hA : RowsRd w w.heap.size A n rows) (hn1 : n ≤ 100000) (hsl : ∀ r ∈ rows, r.nm.length ≤ 100000 ∧ ∀ p ∈ r.pts, 0 ≤ p.2 ∧ p.2 < 18446744073709551616) :
    Calls Tryz.prog 64 #[.int .i64 fr, .int .i64 sp, .slice A n c] w fun e w' => MkPost es (makeR fr sp (rows.map rowP2)) fr sp w e w' := by
  have hln := hA.len
  have hlm : (rows.map rowP2).length = n := by rw [List.length_map, hln]
  have hb1 : Below w.heap.size w (w.alloc (.cells #[.int .i64 0, .int .i64 0, .slice none 0 0, .slice none 0 0] 85)) := Below.alloc (Below.refl _ _) (Nat.le_refl _) _
  have hk1 := Blk.new w 85 #[.int .i64 0, .int .i64 0, .slice none 0 0, .slice none 0 0]
  have Hg := Lib.hid (fun W (hb : Below w.heap.size w W) => show W.cell? ⟨0, 0, none⟩ = some (sentV (es 1)) from (hS.below hb hB0).var 1 (by decide))
  have Hbd := Lib.hid (fun W (hb : Below w.heap.size w W) => bounds_any fr sp W (hS.below hb hB0).vl)
  have Hone := Lib.hid (fun A1 A2 n1 c1 n2 c2 W (hb : Below w.heap.size w W) (hn : n ≤ 60) (i : Nat) (hi : i < n) (h1 : -9223372036854775808 ≤ fr + sp) (h2 : fr + sp < 9223372036854775808) =>
    bchunk_any fr sp (fr + sp) A1 A2 A n1 c1 n2 c2 n c rows i W (hS.below hb hB0) (hT.call hb (Nat.le_refl _)) (Nat.le_trans hB0 hb.size) ((hA.below hb (Nat.le_refl _)).more hb.size) hn hi hsl rfl h1 h2)
  have Hat := Lib.hid (fun W (hb : Below w.heap.size w W) (i : Nat) (hi : i < n) => (hA.below hb (Nat.le_refl _)).1.at2 hi)
  have Hpt := Lib.hid (fun r (hr : r ∈ rows) => hA.2 r hr)
  have HB1 := Lib.hid hb1; have HK1 := Lib.hid hk1; have Hlm := Lib.hid hlm
  clear hb1 hk1 hS hT hA hsl hB0 hln hlm
  obtain ⟨⟨q0, q1, q2, q3⟩, ⟨r0, r1, r2, r3⟩⟩ := cells4 HK1.out
  have e1 := Hg.out _ HB1.out
  by_cases hbd : bndB fr sp = true
  case neg =>
    have hbf : bndB fr sp = false := by simpa using hbd
    have Hr := Lib.hid (show makeR fr sp (rows.map rowP2) = ((2, -1), []) by unfold makeR; rw [if_pos hbf])
    rw [Hr.out]
    have Hbf := Lib.hid hbf
    clear hbd hbf
    go_enter Tryz.func64, Tryz.ntmps64
    go_wp2_with fail
    refine (Hbd.out _ HB1.out).mono ?_
    rintro e w2 ⟨_, g2, rfl⟩
    obtain rfl := g2 Hbf.out
    clear g2
    go_wp2
    refine bodyPost_ret (res_mk _ _ w.heap.size _ _ _ _ _ rfl rfl HK1.out) rfl ?_
    exact MkPost.sent (by decide) rfl HB1.out
  have hbs : 1 ≤ sp ∧ sp ≤ 100000 ∧ -1099511627776 ≤ fr ∧ fr ≤ 1099511627776 := by simpa [bndB] using hbd
  have Hbt := Lib.hid hbd
  clear hbd
  by_cases hn60 : 60 < n
  · have hn60' : (60 : Int) < n := by omega
    have Hr := Lib.hid (show makeR fr sp (rows.map rowP2) = ((2, -1), []) by unfold makeR; rw [if_neg (by rw [Hbt.out]; decide), if_pos (by rw [Hlm.out]; exact hn60)])
    rw [Hr.out]
    clear hbs hn60
    go_enter Tryz.func64, Tryz.ntmps64
    go_wp2_with fail
    refine (Hbd.out _ HB1.out).mono ?_
    rintro e w2 ⟨g2, _, rfl⟩
    obtain rfl := g2 Hbt.out
    clear g2
    go_wp2
    go_region
    all_goals
      go_wp2
      refine bodyPost_ret (res_mk _ _ w.heap.size _ _ _ _ _ rfl rfl (by first | with_reducible exact HK1.out | with_reducible exact HK1.out.drewN _ | with_reducible exact HK1.out.drew)) rfl ?_
      exact MkPost.sent (by decide) rfl (by first | exact HB1.out | exact HB1.out.drew | exact Below.drewN HB1.out _)
  have hn60' : ¬ (60 : Int) < n := by omega
  have hfs1 : -9223372036854775808 ≤ fr + sp := by omega
  have hfs2 : fr + sp < 9223372036854775808 := by omega
  have hn0 : n ≤ 60 := by omega
  have Hon := Lib.hid (fun A1 A2 n1 c1 n2 c2 W hb i hi => Hone.out A1 A2 n1 c1 n2 c2 W hb hn0 i hi hfs1 hfs2)
  have Hr := Lib.hid (show makeR fr sp (rows.map rowP2) = match firstM (mkR fr (fr + sp) (rows.map rowP2)) n with
      | some (c, i) => ((c + 1, (i : Int)), [])
      | none => ((0, -1), (keepR (rows.map rowP2)).map fun r => (r.1, chunkL r.2)) by
    unfold makeR; rw [if_neg (by rw [Hbt.out]; decide), if_neg (by rw [Hlm.out]; exact hn60), Hlm.out]; try rfl)
  obtain ⟨i1, hi, hz0, hz1, hz2⟩ := info_parts infoSt
  have Hi := Lib.hid hi; have Hz0 := Lib.hid hz0; have Hz1 := Lib.hid hz1; have Hz2 := Lib.hid hz2
  clear hi hz0 hz1 hz2 hbs hn60 hfs1 hfs2
  generalize hoo : mkR fr (fr + sp) (rows.map rowP2) = R at Hon Hr
  have HRc := Lib.hid (show ∀ i c, R i = some c → c < 11 from fun i c h => mkR_code (by rw [hoo]; exact h))
  clear hoo
  go_enter Tryz.func64, Tryz.ntmps64
  go_wp2_with fail
  refine (Hbd.out _ HB1.out).mono ?_
  rintro e w2 ⟨g2, _, rfl⟩
  obtain rfl := g2 Hbt.out
  clear g2
  go_wp2
  have hk2 := Blk.new (w.alloc (.cells #[.int .i64 0, .int .i64 0, .slice none 0 0, .slice none 0 0] 85)) 85 #[.int .i64 fr, .int .i64 sp, .slice none 0 0, .slice none 0 0]
  rw [World.size_alloc] at hk2
  have HB2 := Lib.hid (Below.alloc HB1.out HB1.out.size (.cells #[.int .i64 fr, .int .i64 sp, .slice none 0 0, .slice none 0 0] 85))
  have HQ2 := Lib.hid (HK1.out.alloc (.cells #[.int .i64 fr, .int .i64 sp, .slice none 0 0, .slice none 0 0] 85))
  have HG2 := Lib.hid hk2
  clear hk2 q0 q1 q2 q3 r0 r1 r2 r3 e1
  generalize hwx : (w.alloc (.cells #[.int .i64 0, .int .i64 0, .slice none 0 0, .slice none 0 0] 85)).alloc (.cells #[.int .i64 fr, .int .i64 sp, .slice none 0 0, .slice none 0 0] 85) = wx at HB2 HQ2 HG2 ⊢
  clear hwx
  go_loopw [31] (fun kv wr => ∃ (k : Nat) (v1 v2 : Value) (K : List (Bs × List Nat)), k ≤ n ∧ kv = .int .i64 k ∧ Blk wr (w.heap.size + 1) 85 #[.int .i64 fr, .int .i64 sp, v1, v2] ∧ Blk wr w.heap.size 85 #[.int .i64 0, .int .i64 0, .slice none 0 0, .slice none 0 0] ∧ Pair wr w.heap.size 9 v1 K.length (txS K) v2 K.length (chS K) ∧ K.length ≤ k ∧ (keepR ((rows.map rowP2).take k)).map (fun r => (r.1, chunkL r.2)) = K ∧ firstM R k = none ∧ Below w.heap.size w wr) (fun kv _ => n - (intOf kv).toNat)
  case atStart => exact ⟨0, _, _, [], Nat.zero_le _, rfl, HG2.out, HQ2.out, Pair.nil _ _ _, Nat.le_refl _, rfl, rfl, HB2.out⟩
  case round =>
    obtain ⟨k, v1, v2, K, hk, rfl, hkg, hkq, hpr, hKk, hKe, hfb, hb⟩ := hrel
    obtain ⟨A1, c1, rfl, _, _, _⟩ := own_form hpr.l
    obtain ⟨A2, c2, rfl, _, _, _⟩ := own_form hpr.r
    have HG := Lib.hid hkg; have HQ := Lib.hid hkq; have HP := Lib.hid hpr; have HKe := Lib.hid hKe; have Hfb := Lib.hid hfb; have HB := Lib.hid hb
    obtain ⟨⟨z0, z1, z2, z3⟩, ⟨r0, r1, r2, r3⟩⟩ := cells4 hkg
    clear hkq hpr hKe hfb hb
    by_cases hkn : k < n
    · have hkn' : (k : Int) < n := by omega
      obtain ⟨b0, o0, r, hA0, had0, hr, x0, y0⟩ := Hat.out _ HB.out k hkn
      subst hA0
      obtain ⟨Ap, cp, hrv, _⟩ := Hpt.out r (List.mem_of_getElem? hr)
      rw [hrv] at y0
      have Hr1 := Lib.hid (show (rows.map rowP2)[k]? = some (r.nm, r.pts) by rw [List.getElem?_map, hr]; rfl)
      have hba : Below w.heap.size w (wr.alloc (.cells #[.string (B8 r.nm), .slice Ap r.pts.length cp] 58)) := Below.alloc HB.out HB.out.size _
      have HBa := Lib.hid hba
      have HGa := Lib.hid (HG.out.alloc (.cells #[.string (B8 r.nm), .slice Ap r.pts.length cp] 58))
      have HQa := Lib.hid (HQ.out.alloc (.cells #[.string (B8 r.nm), .slice Ap r.pts.length cp] 58))
      have HRa := Lib.hid (Blk.new wr 58 #[.string (B8 r.nm), .slice Ap r.pts.length cp])
      have HPa := Lib.hid (HP.out.fr ((Fr.refl _ wr).alloc (.cells #[.string (B8 r.nm), .slice Ap r.pts.length cp] 58)))
      have Hok := Lib.hid (Hon.out A1 A2 K.length c1 K.length c2 _ HBa.out k hkn)
      have hgl := hkg.lt
      clear hr hrv hba hkg
      obtain ⟨m, hm⟩ : ∃ m, m = r.pts.length := ⟨_, rfl⟩
      have Hm := Lib.hid hm
      rw [← hm] at y0 HBa HGa HQa HRa HPa Hok
      clear hm
      rcases hR : R k with _ | cd
      case' some =>
        have Hfin := Lib.hid (firstM_err Hfb.out hR n hkn)
        have HR := Lib.hid hR
        clear hR
        go_wp2_with fail
        refine Hok.out.mono ?_
        rintro e w3 ⟨g1, _, hb3⟩
        obtain rfl := g1 cd HR.out
        have HB3 := Lib.hid (Below.call HBa.out hb3 HBa.out.size)
        have HQ3 := Lib.hid (HQa.out.below hb3 HQa.out.lt)
        obtain ⟨⟨z0, z1, z2, z3⟩, ⟨r0, r1, r2, r3⟩⟩ := cells4 HQ3.out
        have hql := HQ3.out.lt
        clear hb3 g1
        go_wp2
        rw [Hr.out, Hfin.out]
        have hz := set4 (Nat.le_refl _) HB3.out HQ3.out (.int .i64 0) (.int .i64 0) (.slice none 0 0) (.slice none 0 0)
        have hsz : ((((w3.setCell ⟨w.heap.size, 0, none⟩ (.int .i64 0)).setCell ⟨w.heap.size, 1, none⟩ (.int .i64 0)).setCell ⟨w.heap.size, 2, none⟩ (.slice none 0 0)).setCell ⟨w.heap.size, 3, none⟩ (.slice none 0 0)).heap.size = w3.heap.size := by simp
        have hq := Blk.new ((((w3.setCell ⟨w.heap.size, 0, none⟩ (.int .i64 0)).setCell ⟨w.heap.size, 1, none⟩ (.int .i64 0)).setCell ⟨w.heap.size, 2, none⟩ (.slice none 0 0)).setCell ⟨w.heap.size, 3, none⟩ (.slice none 0 0)) 148 #[.int .i64 (k : Int), sentV (es cd)]
        rw [hsz] at hq
        refine bodyPost_ret (res_mk _ _ w.heap.size _ _ _ _ _ rfl rfl (hz.1.alloc _)) rfl ?_
        exact ⟨_, _, _, _, _, rfl, .inr (.inr ⟨cd, w3.heap.size, k, HRc.out _ _ HR.out, rfl, rfl, HB3.out.size, hq.lt, hq.cell 0, hq.cell 1⟩), fun _ => ⟨rfl, rfl⟩, fun h => absurd h (Nat.succ_ne_zero _), Pair.nil _ _ _, Below.alloc hz.2 hz.2.size _⟩
      have Hfn := Lib.hid (firstM_ok Hfb.out hR)
      have HR := Lib.hid hR
      clear hR
      go_wp2_with fail
      refine Hok.out.mono ?_
      rintro e w3 ⟨_, g1, hb3⟩
      have g2 := g1 HR.out
      rw [show (rows.map rowP2).getD k ([], []) = (r.nm, r.pts) by rw [List.getD_eq_getElem?_getD, Hr1.out]; rfl] at g2
      obtain rfl := g2
      clear g1
      have HB3 := Lib.hid (Below.call HBa.out hb3 HBa.out.size)
      have HQ3 := Lib.hid (HQa.out.below hb3 HQa.out.lt)
      have HG3 := Lib.hid (HGa.out.below hb3 HGa.out.lt)
      have HR3 := Lib.hid (HRa.out.below hb3 HRa.out.lt)
      have HP3 := Lib.hid (HPa.out.fr (Fr.ofBel hb3))
      have s1 := HR3.out.cell 1
      clear hb3
      by_cases hm0 : m = 0
      · have hm0' : ¬ (0 : Int) < (m : Int) := by omega
        have Hke := Lib.hid (keep_no Hr1.out (show r.pts = [] from List.eq_nil_of_length_eq_zero (by rw [← Hm.out]; exact hm0)))
        clear hm0
        go_wp2
        go_roundw
        case rel => exact ⟨k + 1, _, _, K, by omega, by go_num, HG3.out, HQ3.out, HP3.out, by omega, by rw [Hke.out]; exact HKe.out, Hfn.out, HB3.out⟩
        case measure => simp [intOf]; omega
      · have hm0' : (0 : Int) < (m : Int) := by omega
        have Hke := Lib.hid (keep_yes Hr1.out (show r.pts ≠ [] from fun h => hm0 (by rw [Hm.out, h]; rfl)))
        have s0 := HR3.out.cell 0
        have hk63 : K.length + 1 ≤ maxLen := by unfold maxLen; omega
        have hk8 : (K.length + 1) * 16 ≤ 140737488355328 := by omega
        have hgl3 := HG3.out.lt
        have hrl3 := HR3.out.lt
        obtain ⟨⟨z0, z1, z2, z3⟩, ⟨r0, r1, r2, r3⟩⟩ := cells4 HG3.out
        have HG3f := Lib.hid (fun W (hf : Fr (fun _ => False) w3 W) => hf.blk HG3.out (fun h => h))
        have HR3f := Lib.hid (fun W (hf : Fr (fun _ => False) w3 W) => hf.blk HR3.out (fun h => h))
        have HQ3f := Lib.hid (fun W (hf : Fr (fun _ => False) w3 W) => hf.blk HQ3.out (fun h => h))
        clear hm0
        generalize hcst : bytesOf (chunkL (r.nm, r.pts).2) = cst
        have Hcst := Lib.hid hcst
        clear hcst
        go_wp2
        have HM3 := Lib.hid (show MS w w3 w.heap.size (w.heap.size + 1) wr.heap.size #[.int .i64 fr, .int .i64 sp, .slice A1 K.length c1, .slice A2 K.length c2] #[.string (B8 r.nm), .slice Ap m cp] (.slice A1 K.length c1) K.length (txS K) (.slice A2 K.length c2) K.length (chS K) from ⟨HG3.out, HR3.out, HQ3.out, HP3.out, HB3.out⟩)
        have Hkk := Lib.hid (And.intro hk63 hk8)
        generalize hsn : B8 r.nm = sn at s0 HM3
        have Hsn := Lib.hid hsn
        clear hsn HR3f HG3f HQ3f HG3 HR3 HQ3 HP3 s1 HGa HQa HRa HPa HG HQ HP
        refine wp_region_heldG (S := fun w' => w'.cell? ⟨w.heap.size + 1, 2, none⟩ = some (.slice A1 K.length c1) ∧ w'.cell? ⟨w.heap.size + 1, 3, none⟩ = some (.slice A2 K.length c2) ∧ w'.cell? ⟨wr.heap.size, 0, none⟩ = some (.string sn)) (gs := [12, 14]) (by kernel_rfl) ?_
        have HM0 := Lib.hid HM3.out.drew
        have hHeld := HM0.out.held
        generalize w3.drew = W0 at HM0 hHeld ⊢
        refine wpAnyG_takeW (i := 0) (v := ?_) rfl (by kernel_rfl) (by kernel_rfl) (by kernel_rfl) (by kernel_rfl) (fun _ _ _ h => h) (Or.inl ⟨by rfl, ?_⟩) (fun _ => hHeld) ?_
        rotate_left
        focus (intro wx hSw; go_simp; try with_reducible rfl)
        try simp only [Act.put, List.setIfInBounds_toArray, List.set_cons_zero, List.set_cons_succ]
        refine wpAnyG_takeW (i := 2) (v := ?_) rfl (by kernel_rfl) (by kernel_rfl) (by kernel_rfl) (by kernel_rfl) (fun _ _ _ h => h) (Or.inl ⟨by rfl, ?_⟩) (fun _ => hHeld) ?_
        rotate_left
        focus (intro wx hSw; go_simp; try with_reducible rfl)
        try simp only [Act.put, List.setIfInBounds_toArray, List.set_cons_zero, List.set_cons_succ]
        refine wpAnyG_takeW (i := 6) (v := ?_) rfl (by kernel_rfl) (by kernel_rfl) (by kernel_rfl) (by kernel_rfl) (fun _ _ _ h => h) (Or.inl ⟨by rfl, ?_⟩) (fun _ => hHeld) ?_
        rotate_left
        focus (intro wx hSw; go_simp; try with_reducible rfl)
        try simp only [Act.put, List.setIfInBounds_toArray, List.set_cons_zero, List.set_cons_succ]
        refine wpAnyG_takeW (i := 8) (v := ?_) rfl (by kernel_rfl) (by kernel_rfl) (by kernel_rfl) (by kernel_rfl) (fun _ _ _ h => h) (Or.inl ⟨by rfl, ?_⟩) (fun _ => hHeld) ?_
        rotate_left
        focus (intro wx hSw; go_simp; try with_reducible rfl)
        try simp only [Act.put, List.setIfInBounds_toArray, List.set_cons_zero, List.set_cons_succ]
        refine wpAnyG_take (i := 1) (v := .slice A1 K.length c1) rfl (by kernel_rfl) (by kernel_rfl) (by kernel_rfl) (by kernel_rfl) (fun _ _ _ h => h) (Or.inl ⟨by rfl, ?_⟩) hHeld ?_
        focus (intro wx hSw; (try dsimp only at hSw); go_simp; try with_reducible rfl)
        try simp only [Act.put, List.setIfInBounds_toArray, List.set_cons_zero, List.set_cons_succ]
        refine wpAnyG_take (i := 3) (v := .string sn) rfl (by kernel_rfl) (by kernel_rfl) (by kernel_rfl) (by kernel_rfl) (fun _ _ _ h => h) (Or.inl ⟨by rfl, ?_⟩) hHeld ?_
        focus (intro wx hSw; (try dsimp only at hSw); go_simp; try with_reducible rfl)
        try simp only [Act.put, List.setIfInBounds_toArray, List.set_cons_zero, List.set_cons_succ]
        refine wpAnyG_take (i := 7) (v := .slice A2 K.length c2) rfl (by kernel_rfl) (by kernel_rfl) (by kernel_rfl) (by kernel_rfl) (fun _ _ _ h => h) (Or.inl ⟨by rfl, ?_⟩) hHeld ?_
        focus (intro wx hSw; (try dsimp only at hSw); go_simp; try with_reducible rfl)
        try simp only [Act.put, List.setIfInBounds_toArray, List.set_cons_zero, List.set_cons_succ]
        clear hHeld
        refine wpAnyG_ready (rs := [4, 9]) (by kernel_rfl) (by simp) ?_
        refine AllReadyG.cons rfl (fun KK hKK => ?_) (AllReadyG.cons rfl (fun KK hKK => ?_) AllReadyG.nil)
        · -- 4
          go_simp
          have HM1 := Lib.hid (HM0.out.alloc (.cells #[.string sn] 9))
          have HU1 := Lib.hid (Blk.new W0 9 #[.string sn])
          refine hKK.out _ _ (fun _ => HM1.out.held) (fun _ => ?_)
          clear hKK KK
          have hz1 : W0.heap.size < (W0.alloc (.cells #[.string sn] 9)).heap.size := by simp
          generalize W0.alloc (.cells #[.string sn] 9) = W1 at HM1 HU1  hz1 ⊢
          try simp only [Act.put, List.setIfInBounds_toArray, List.set_cons_zero, List.set_cons_succ]
          refine wpAnyG_ready (rs := [5, 9]) (by kernel_rfl) (by simp) ?_
          refine AllReadyG.cons rfl (fun KK hKK => ?_) (AllReadyG.cons rfl (fun KK hKK => ?_) AllReadyG.nil)
          · -- 4 5 9 10
            refine step_append_rd _ (by rfl) (.tmp 56) (.tmp 59) _ (by rfl) w.heap.size 9 i1 (.string ⟨#[]⟩) 1 16 Tryz.underlying48 Hi.out Hz0.out Hz1.out Hz2.out (by rfl) (by decide) (.slice A1 K.length c1) K.length _ (by rfl) HM1.out.pr.l _ _ 1 1 [.string sn] (by rfl) (Rd.of_blk1 HU1.out) (str_one1 sn) hk63 hk8 HM1.out.bl.size ?_
            intro v' W2 hown hgr hat
            have HM2 := Lib.hid (HM1.out.left hown hgr hat)
            obtain ⟨An, cn, rfl, _, _, _⟩ := own_form hown
            clear hown hgr hat
            refine hKK.out _ _ (fun _ => HM2.out.held) (fun _ => ?_)
            clear hKK KK
            try simp only [Act.put, List.setIfInBounds_toArray, List.set_cons_zero, List.set_cons_succ]
            refine wpAnyG_takeW (i := 11) (v := ?_) rfl (by kernel_rfl) (by kernel_rfl) (by kernel_rfl) (by kernel_rfl) (fun _ _ _ h => h) (Or.inl ⟨by rfl, ?_⟩) (fun _ => HM2.out.held) ?_
            rotate_left
            focus (intro wx hSw; go_simp; try with_reducible rfl)
            try simp only [Act.put, List.setIfInBounds_toArray, List.set_cons_zero, List.set_cons_succ]
            refine wpAnyG_ready (rs := [9]) (by kernel_rfl) (by simp) ?_
            refine AllReadyG.cons rfl (fun KK hKK => ?_) AllReadyG.nil
            go_simp
            have HM3 := Lib.hid (HM2.out.alloc (.cells #[.string cst] 9))
            have HU2 := Lib.hid (Blk.new W2 9 #[.string cst])
            refine hKK.out _ _ (fun _ => HM3.out.held) (fun _ => ?_)
            clear hKK KK
            have hz3 : W2.heap.size < (W2.alloc (.cells #[.string cst] 9)).heap.size := by simp
            generalize W2.alloc (.cells #[.string cst] 9) = W3 at HM3 HU2  hz3 ⊢
            try simp only [Act.put, List.setIfInBounds_toArray, List.set_cons_zero, List.set_cons_succ]
            refine wpAnyG_ready (rs := [10]) (by kernel_rfl) (by simp) ?_
            refine AllReadyG.cons rfl (fun KK hKK => ?_) AllReadyG.nil
            refine step_append_rd _ (by rfl) (.tmp 62) (.tmp 64) _ (by rfl) w.heap.size 9 i1 (.string ⟨#[]⟩) 1 16 Tryz.underlying48 Hi.out Hz0.out Hz1.out Hz2.out (by rfl) (by decide) (.slice A2 K.length c2) K.length _ (by rfl) HM3.out.pr.r _ _ 1 1 [.string cst] (by rfl) (Rd.of_blk1 HU2.out) (str_one1 cst) hk63 hk8 HM3.out.bl.size ?_
            intro v' W4 hown hgr hat
            have HM4 := Lib.hid (HM3.out.right hown hgr hat)
            obtain ⟨Am, cm, rfl, _, _, _⟩ := own_form hown
            clear hown hgr hat
            refine hKK.out _ _ (fun _ => HM4.out.held) (fun _ => ?_)
            clear hKK KK
            try simp only [Act.put, List.setIfInBounds_toArray, List.set_cons_zero, List.set_cons_succ]
            refine wpAnyG_ready (rs := [12]) (by kernel_rfl) (by simp) ?_
            refine AllReadyG.cons rfl (fun KK hKK => ?_) AllReadyG.nil
            obtain ⟨⟨z0, z1, z2, z3⟩, ⟨r0, r1, r2, r3⟩⟩ := cells4 HM4.out.hd
            go_simp
            refine hKK.out _ _ (fun h => nomatch (show false = true from h)) (fun _ => ?_)
            clear hKK KK
            try simp only [Act.put, List.setIfInBounds_toArray, List.set_cons_zero, List.set_cons_succ]
            refine wpAnyG_takeW (i := 13) (v := ?_) rfl (by kernel_rfl) (by kernel_rfl) (by kernel_rfl) (by kernel_rfl) (fun _ _ _ h => h) (Or.inl ⟨by rfl, ?_⟩) (fun h => nomatch (show false = true from h)) ?_
            rotate_left
            focus (intro wx hSw; go_simp; try with_reducible rfl)
            try simp only [Act.put, List.setIfInBounds_toArray, List.set_cons_zero, List.set_cons_succ]
            refine wpAnyG_ready (rs := [14]) (by kernel_rfl) (by simp) ?_
            refine AllReadyG.cons rfl (fun KK hKK => ?_) AllReadyG.nil
            have s2 := (HM4.out.hd.set_ 2 (.slice An (K.length + 1) cn)).cell 3
            have s3 := (HM4.out.hd.set_ 2 (.slice An (K.length + 1) cn)).frozen 3
            simp only [List.setIfInBounds_toArray, List.set_cons_zero, List.set_cons_succ, List.getElem?_toArray, List.getElem?_cons_zero, List.getElem?_cons_succ] at s2
            go_simp
            refine hKK.out _ _ (fun h => nomatch (show false = true from h)) (fun _ => ?_)
            clear hKK KK z0 z1 z2 z3 r0 r1 r2 r3 s2 s3
            try simp only [Act.put, List.setIfInBounds_toArray, List.set_cons_zero, List.set_cons_succ]
            refine wpAnyG_done (by kernel_rfl) ?_ _
            have HMF := Lib.hid (HM4.out.stored (Nat.ne_of_lt (Nat.lt_succ_self _)) (Nat.le_succ _))
            clear HM0 HM1 HM2 HM3 HM4
            generalize (W4.setCell ⟨w.heap.size + 1, 2, none⟩ (.slice An (K.length + 1) cn)).setCell ⟨w.heap.size + 1, 3, none⟩ (.slice Am (K.length + 1) cm) = WF at HMF ⊢
            go_wp2
            go_roundw
            case rel =>
              refine ⟨k + 1, .slice An (K.length + 1) cn, .slice Am (K.length + 1) cm, K ++ [(r.nm, chunkL r.pts)], by omega, by go_num, HMF.out.hd, HMF.out.zb, ?_, by rw [List.length_append]; simp; omega, ?_, Hfn.out, HMF.out.bl⟩
              · have hp := HMF.out.pr
                rw [← Hsn.out, ← Hcst.out] at hp
                rw [show txS (K ++ [(r.nm, chunkL r.pts)]) = txS K ++ [.string (B8 r.nm)] by unfold txS; rw [List.map_append]; rfl, show chS (K ++ [(r.nm, chunkL r.pts)]) = chS K ++ [.string (bytesOf (chunkL r.pts))] by unfold chS; rw [List.map_append]; rfl, List.length_append]
                exact hp
              · rw [Hke.out, List.map_append, HKe.out]; rfl
            case measure => simp [intOf]; omega
          · -- 4 9 5 10
            go_simp
            have HM2 := Lib.hid (HM1.out.alloc (.cells #[.string cst] 9))
            have HU2 := Lib.hid (Blk.new W1 9 #[.string cst])
            refine hKK.out _ _ (fun _ => HM2.out.held) (fun _ => ?_)
            clear hKK KK
            have HU1' := Lib.hid (HU1.out.alloc (.cells #[.string cst] 9))
            have hz2 : W1.heap.size < (W1.alloc (.cells #[.string cst] 9)).heap.size := by simp
            generalize W1.alloc (.cells #[.string cst] 9) = W2 at HM2 HU2 HU1' hz2 ⊢
            clear HU1
            have HU1 := HU1'
            clear HU1'
            try simp only [Act.put, List.setIfInBounds_toArray, List.set_cons_zero, List.set_cons_succ]
            refine wpAnyG_ready (rs := [5]) (by kernel_rfl) (by simp) ?_
            refine AllReadyG.cons rfl (fun KK hKK => ?_) AllReadyG.nil
            refine step_append_rd _ (by rfl) (.tmp 56) (.tmp 59) _ (by rfl) w.heap.size 9 i1 (.string ⟨#[]⟩) 1 16 Tryz.underlying48 Hi.out Hz0.out Hz1.out Hz2.out (by rfl) (by decide) (.slice A1 K.length c1) K.length _ (by rfl) HM2.out.pr.l _ _ 1 1 [.string sn] (by rfl) (Rd.of_blk1 HU1.out) (str_one1 sn) hk63 hk8 HM2.out.bl.size ?_
            intro v' W3 hown hgr hat
            have HM3 := Lib.hid (HM2.out.left hown hgr hat)
            have HV2 := Lib.hid (HM1.out.far (Nat.le_of_eq rfl) HU2.out hgr)
            obtain ⟨An, cn, rfl, _, _, _⟩ := own_form hown
            clear hown hgr hat
            refine hKK.out _ _ (fun _ => HM3.out.held) (fun _ => ?_)
            clear hKK KK
            try simp only [Act.put, List.setIfInBounds_toArray, List.set_cons_zero, List.set_cons_succ]
            refine wpAnyG_takeW (i := 11) (v := ?_) rfl (by kernel_rfl) (by kernel_rfl) (by kernel_rfl) (by kernel_rfl) (fun _ _ _ h => h) (Or.inl ⟨by rfl, ?_⟩) (fun _ => HM3.out.held) ?_
            rotate_left
            focus (intro wx hSw; go_simp; try with_reducible rfl)
            try simp only [Act.put, List.setIfInBounds_toArray, List.set_cons_zero, List.set_cons_succ]
            refine wpAnyG_ready (rs := [10]) (by kernel_rfl) (by simp) ?_
            refine AllReadyG.cons rfl (fun KK hKK => ?_) AllReadyG.nil
            refine step_append_rd _ (by rfl) (.tmp 62) (.tmp 64) _ (by rfl) w.heap.size 9 i1 (.string ⟨#[]⟩) 1 16 Tryz.underlying48 Hi.out Hz0.out Hz1.out Hz2.out (by rfl) (by decide) (.slice A2 K.length c2) K.length _ (by rfl) HM3.out.pr.r _ _ 1 1 [.string cst] (by rfl) (Rd.of_blk1 HV2.out) (str_one1 cst) hk63 hk8 HM3.out.bl.size ?_
            intro v' W4 hown hgr hat
            have HM4 := Lib.hid (HM3.out.right hown hgr hat)
            obtain ⟨Am, cm, rfl, _, _, _⟩ := own_form hown
            clear hown hgr hat
            refine hKK.out _ _ (fun _ => HM4.out.held) (fun _ => ?_)
            clear hKK KK
            try simp only [Act.put, List.setIfInBounds_toArray, List.set_cons_zero, List.set_cons_succ]
            refine wpAnyG_ready (rs := [12]) (by kernel_rfl) (by simp) ?_
            refine AllReadyG.cons rfl (fun KK hKK => ?_) AllReadyG.nil
            obtain ⟨⟨z0, z1, z2, z3⟩, ⟨r0, r1, r2, r3⟩⟩ := cells4 HM4.out.hd
            go_simp
            refine hKK.out _ _ (fun h => nomatch (show false = true from h)) (fun _ => ?_)
            clear hKK KK
            try simp only [Act.put, List.setIfInBounds_toArray, List.set_cons_zero, List.set_cons_succ]
            refine wpAnyG_takeW (i := 13) (v := ?_) rfl (by kernel_rfl) (by kernel_rfl) (by kernel_rfl) (by kernel_rfl) (fun _ _ _ h => h) (Or.inl ⟨by rfl, ?_⟩) (fun h => nomatch (show false = true from h)) ?_
            rotate_left
            focus (intro wx hSw; go_simp; try with_reducible rfl)
            try simp only [Act.put, List.setIfInBounds_toArray, List.set_cons_zero, List.set_cons_succ]
            refine wpAnyG_ready (rs := [14]) (by kernel_rfl) (by simp) ?_
            refine AllReadyG.cons rfl (fun KK hKK => ?_) AllReadyG.nil
            have s2 := (HM4.out.hd.set_ 2 (.slice An (K.length + 1) cn)).cell 3
            have s3 := (HM4.out.hd.set_ 2 (.slice An (K.length + 1) cn)).frozen 3
            simp only [List.setIfInBounds_toArray, List.set_cons_zero, List.set_cons_succ, List.getElem?_toArray, List.getElem?_cons_zero, List.getElem?_cons_succ] at s2
            go_simp
            refine hKK.out _ _ (fun h => nomatch (show false = true from h)) (fun _ => ?_)
            clear hKK KK z0 z1 z2 z3 r0 r1 r2 r3 s2 s3
            try simp only [Act.put, List.setIfInBounds_toArray, List.set_cons_zero, List.set_cons_succ]
            refine wpAnyG_done (by kernel_rfl) ?_ _
            have HMF := Lib.hid (HM4.out.stored (Nat.ne_of_lt (Nat.lt_succ_self _)) (Nat.le_succ _))
            clear HM0 HM1 HM2 HM3 HM4
            generalize (W4.setCell ⟨w.heap.size + 1, 2, none⟩ (.slice An (K.length + 1) cn)).setCell ⟨w.heap.size + 1, 3, none⟩ (.slice Am (K.length + 1) cm) = WF at HMF ⊢
            go_wp2
            go_roundw
            case rel =>
              refine ⟨k + 1, .slice An (K.length + 1) cn, .slice Am (K.length + 1) cm, K ++ [(r.nm, chunkL r.pts)], by omega, by go_num, HMF.out.hd, HMF.out.zb, ?_, by rw [List.length_append]; simp; omega, ?_, Hfn.out, HMF.out.bl⟩
              · have hp := HMF.out.pr
                rw [← Hsn.out, ← Hcst.out] at hp
                rw [show txS (K ++ [(r.nm, chunkL r.pts)]) = txS K ++ [.string (B8 r.nm)] by unfold txS; rw [List.map_append]; rfl, show chS (K ++ [(r.nm, chunkL r.pts)]) = chS K ++ [.string (bytesOf (chunkL r.pts))] by unfold chS; rw [List.map_append]; rfl, List.length_append]
                exact hp
              · rw [Hke.out, List.map_append, HKe.out]; rfl
            case measure => simp [intOf]; omega
        · -- 9 4 5 10
          go_simp
          have HM1 := Lib.hid (HM0.out.alloc (.cells #[.string cst] 9))
          have HU2 := Lib.hid (Blk.new W0 9 #[.string cst])
          refine hKK.out _ _ (fun _ => HM1.out.held) (fun _ => ?_)
          clear hKK KK
          have hz1 : W0.heap.size < (W0.alloc (.cells #[.string cst] 9)).heap.size := by simp
          generalize W0.alloc (.cells #[.string cst] 9) = W1 at HM1 HU2  hz1 ⊢
          try simp only [Act.put, List.setIfInBounds_toArray, List.set_cons_zero, List.set_cons_succ]
          refine wpAnyG_ready (rs := [4]) (by kernel_rfl) (by simp) ?_
          refine AllReadyG.cons rfl (fun KK hKK => ?_) AllReadyG.nil
          go_simp
          have HM2 := Lib.hid (HM1.out.alloc (.cells #[.string sn] 9))
          have HU1 := Lib.hid (Blk.new W1 9 #[.string sn])
          refine hKK.out _ _ (fun _ => HM2.out.held) (fun _ => ?_)
          clear hKK KK
          have HU2' := Lib.hid (HU2.out.alloc (.cells #[.string sn] 9))
          have hz2 : W1.heap.size < (W1.alloc (.cells #[.string sn] 9)).heap.size := by simp
          generalize W1.alloc (.cells #[.string sn] 9) = W2 at HM2 HU1 HU2' hz2 ⊢
          clear HU2
          have HU2 := HU2'
          clear HU2'
          try simp only [Act.put, List.setIfInBounds_toArray, List.set_cons_zero, List.set_cons_succ]
          refine wpAnyG_ready (rs := [5]) (by kernel_rfl) (by simp) ?_
          refine AllReadyG.cons rfl (fun KK hKK => ?_) AllReadyG.nil
          refine step_append_rd _ (by rfl) (.tmp 56) (.tmp 59) _ (by rfl) w.heap.size 9 i1 (.string ⟨#[]⟩) 1 16 Tryz.underlying48 Hi.out Hz0.out Hz1.out Hz2.out (by rfl) (by decide) (.slice A1 K.length c1) K.length _ (by rfl) HM2.out.pr.l _ _ 1 1 [.string sn] (by rfl) (Rd.of_blk1 HU1.out) (str_one1 sn) hk63 hk8 HM2.out.bl.size ?_
          intro v' W3 hown hgr hat
          have HM3 := Lib.hid (HM2.out.left hown hgr hat)
          have HV2 := Lib.hid (HM0.out.far (Nat.le_of_eq rfl) HU2.out hgr)
          obtain ⟨An, cn, rfl, _, _, _⟩ := own_form hown
          clear hown hgr hat
          refine hKK.out _ _ (fun _ => HM3.out.held) (fun _ => ?_)
          clear hKK KK
          try simp only [Act.put, List.setIfInBounds_toArray, List.set_cons_zero, List.set_cons_succ]
          refine wpAnyG_takeW (i := 11) (v := ?_) rfl (by kernel_rfl) (by kernel_rfl) (by kernel_rfl) (by kernel_rfl) (fun _ _ _ h => h) (Or.inl ⟨by rfl, ?_⟩) (fun _ => HM3.out.held) ?_
          rotate_left
          focus (intro wx hSw; go_simp; try with_reducible rfl)
          try simp only [Act.put, List.setIfInBounds_toArray, List.set_cons_zero, List.set_cons_succ]
          refine wpAnyG_ready (rs := [10]) (by kernel_rfl) (by simp) ?_
          refine AllReadyG.cons rfl (fun KK hKK => ?_) AllReadyG.nil
          refine step_append_rd _ (by rfl) (.tmp 62) (.tmp 64) _ (by rfl) w.heap.size 9 i1 (.string ⟨#[]⟩) 1 16 Tryz.underlying48 Hi.out Hz0.out Hz1.out Hz2.out (by rfl) (by decide) (.slice A2 K.length c2) K.length _ (by rfl) HM3.out.pr.r _ _ 1 1 [.string cst] (by rfl) (Rd.of_blk1 HV2.out) (str_one1 cst) hk63 hk8 HM3.out.bl.size ?_
          intro v' W4 hown hgr hat
          have HM4 := Lib.hid (HM3.out.right hown hgr hat)
          obtain ⟨Am, cm, rfl, _, _, _⟩ := own_form hown
          clear hown hgr hat
          refine hKK.out _ _ (fun _ => HM4.out.held) (fun _ => ?_)
          clear hKK KK
          try simp only [Act.put, List.setIfInBounds_toArray, List.set_cons_zero, List.set_cons_succ]
          refine wpAnyG_ready (rs := [12]) (by kernel_rfl) (by simp) ?_
          refine AllReadyG.cons rfl (fun KK hKK => ?_) AllReadyG.nil
          obtain ⟨⟨z0, z1, z2, z3⟩, ⟨r0, r1, r2, r3⟩⟩ := cells4 HM4.out.hd
          go_simp
          refine hKK.out _ _ (fun h => nomatch (show false = true from h)) (fun _ => ?_)
          clear hKK KK
          try simp only [Act.put, List.setIfInBounds_toArray, List.set_cons_zero, List.set_cons_succ]
          refine wpAnyG_takeW (i := 13) (v := ?_) rfl (by kernel_rfl) (by kernel_rfl) (by kernel_rfl) (by kernel_rfl) (fun _ _ _ h => h) (Or.inl ⟨by rfl, ?_⟩) (fun h => nomatch (show false = true from h)) ?_
          rotate_left
          focus (intro wx hSw; go_simp; try with_reducible rfl)
          try simp only [Act.put, List.setIfInBounds_toArray, List.set_cons_zero, List.set_cons_succ]
          refine wpAnyG_ready (rs := [14]) (by kernel_rfl) (by simp) ?_
          refine AllReadyG.cons rfl (fun KK hKK => ?_) AllReadyG.nil
          have s2 := (HM4.out.hd.set_ 2 (.slice An (K.length + 1) cn)).cell 3
          have s3 := (HM4.out.hd.set_ 2 (.slice An (K.length + 1) cn)).frozen 3
          simp only [List.setIfInBounds_toArray, List.set_cons_zero, List.set_cons_succ, List.getElem?_toArray, List.getElem?_cons_zero, List.getElem?_cons_succ] at s2
          go_simp
          refine hKK.out _ _ (fun h => nomatch (show false = true from h)) (fun _ => ?_)
          clear hKK KK z0 z1 z2 z3 r0 r1 r2 r3 s2 s3
          try simp only [Act.put, List.setIfInBounds_toArray, List.set_cons_zero, List.set_cons_succ]
          refine wpAnyG_done (by kernel_rfl) ?_ _
          have HMF := Lib.hid (HM4.out.stored (Nat.ne_of_lt (Nat.lt_succ_self _)) (Nat.le_succ _))
          clear HM0 HM1 HM2 HM3 HM4
          generalize (W4.setCell ⟨w.heap.size + 1, 2, none⟩ (.slice An (K.length + 1) cn)).setCell ⟨w.heap.size + 1, 3, none⟩ (.slice Am (K.length + 1) cm) = WF at HMF ⊢
          go_wp2
          go_roundw
          case rel =>
            refine ⟨k + 1, .slice An (K.length + 1) cn, .slice Am (K.length + 1) cm, K ++ [(r.nm, chunkL r.pts)], by omega, by go_num, HMF.out.hd, HMF.out.zb, ?_, by rw [List.length_append]; simp; omega, ?_, Hfn.out, HMF.out.bl⟩
            · have hp := HMF.out.pr
              rw [← Hsn.out, ← Hcst.out] at hp
              rw [show txS (K ++ [(r.nm, chunkL r.pts)]) = txS K ++ [.string (B8 r.nm)] by unfold txS; rw [List.map_append]; rfl, show chS (K ++ [(r.nm, chunkL r.pts)]) = chS K ++ [.string (bytesOf (chunkL r.pts))] by unfold chS; rw [List.map_append]; rfl, List.length_append]
              exact hp
            · rw [Hke.out, List.map_append, HKe.out]; rfl
          case measure => simp [intOf]; omega
    · obtain rfl : k = n := by omega
      have hkn' : ¬ (k : Int) < k := by omega
      have hql := HQ.out.lt
      obtain ⟨⟨y0, y1, y2, y3⟩, ⟨t0, t1, t2, t3⟩⟩ := cells4 HQ.out
      have Hz := Lib.hid (set4 (Nat.le_refl _) HB.out HQ.out (.int .i64 fr) (.int .i64 sp) (.slice A1 K.length c1) (.slice A2 K.length c2))
      have Hq1 := Lib.hid (own_ne_blk HP.out.l HQ.out (by decide))
      have Hq2 := Lib.hid (own_ne_blk HP.out.r HQ.out (by decide))
      go_wp2
      rw [Hr.out, Hfb.out]
      refine bodyPost_ret (res_mk _ _ w.heap.size _ _ _ _ _ rfl rfl Hz.out.1) rfl ?_
      have hke := HKe.out
      rw [List.take_of_length_le (by rw [Hlm.out]; exact Nat.le_refl _)] at hke
      refine ⟨_, _, _, _, _, rfl, .inl ⟨rfl, rfl⟩, fun h => absurd rfl h, fun _ => ⟨rfl, rfl⟩, ?_, Hz.out.2⟩
      show Pair _ _ _ _ ((keepR (rows.map rowP2)).map fun r => (r.1, chunkL r.2)).length (txS ((keepR (rows.map rowP2)).map fun r => (r.1, chunkL r.2))) _ ((keepR (rows.map rowP2)).map fun r => (r.1, chunkL r.2)).length (chS ((keepR (rows.map rowP2)).map fun r => (r.1, chunkL r.2)))
      rw [hke]
      exact (((HP.out.set (p := ⟨w.heap.size, 0, none⟩) Hq1.out Hq2.out _).set (p := ⟨w.heap.size, 1, none⟩) Hq1.out Hq2.out _).set (p := ⟨w.heap.size, 2, none⟩) Hq1.out Hq2.out _).set (p := ⟨w.heap.size, 3, none⟩) Hq1.out Hq2.out _
end Go.Proofs.YthgefobcohlegaaGreatDoor
