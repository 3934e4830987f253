/- The reference's SetOf: it answers as (Block).rows does. -/
import Derived.Test.YtpbgonpmpjpljaaGreatDoorMkgX
import Derived.Test.YtpbgonpmpjpljaaGreatDoorMkxX
import Derived.Test.YtpbgonpmpjpljaaGreatDoorMkeX
import Derived.Test.YtpbgonpmpjpljaaGreatDoorMklX
import Derived.Test.YtpbgonpmpjpljaaGreatDoorUnchunkQX
import Derived.Deep.DeepCutAuto
import Derived.Deep.Light
import Derived.BigRegion
namespace Go.Proofs.YtpbgonpmpjpljaaGreatDoor
open Go.RowKit
set_option linter.unusedVariables false

/-- SetOf's answer: nothing and what is wrong; or a set of its own. -/
def SetPost (R : (Nat × Int) × List (Bs × List (Int × Int))) (w : World) (e : Ending) (w' : World) : Prop :=
  ∃ u, e = .returned (.tuple #[u, fV R.1]) ∧ (R.1.1 ≠ 0 → u = .pointer none) ∧
    (R.1.1 = 0 → ∃ q sv lv N Q, u = .pointer (some ⟨q, 0, none⟩) ∧ SetAt w' (fun k => w.heap.size ≤ k) q sv lv N Q ∧ SetIs N Q R.2) ∧ Below w.heap.size w w'
theorem SetPost.bad {w w' : World} {e : Ending} {c : Nat × Int} {u0 u1 : Value} (h0 : c.1 ≠ 0) (hc : fV c = .agg #[u0, u1]) (he : e = .returned (.tuple #[.pointer none, .agg #[u0, u1]])) (hb : Below w.heap.size w w') : SetPost (c, []) w e w' :=
  ⟨_, by rw [he, hc], fun _ => rfl, fun h => absurd h h0, hb⟩
theorem res_so (tmps : Array Value) (W : World) (b : Nat) (u v0 v1 : Value) (hu : tmps.getD 2 undef = u) (ha : tmps.getD 3 undef = .pointer (some ⟨b, 0, none⟩)) (hB : Blk W b 29 #[v0, v1]) :
    (results Tryz.f6 tmps).run Tryz.prog W = .ok (.tuple #[u, .agg #[v0, v1]]) W := by
  obtain ⟨z0, z1⟩ := hB.duo2
  simp only [Array.getD_eq_getD_getElem?] at ha hu
  simp [results, Tryz.results6, go_sem, ha, hu, z0, z1]
/-- What stands between two rounds of SetOf: the block, the result's block, the set. -/
structure SInv (bv : Array Value) (w W : World) (q : Nat) (sv lv : Value) (N : List Bs) (Q : List PtV) : Prop where
  bk : Blk W w.heap.size 24 bv
  fk : Blk W (w.heap.size + 1) 29 #[.int .i64 0, .int .i64 0]
  st : SetAt W (fun k => w.heap.size + 2 ≤ k) q sv lv N Q
  bl : Below w.heap.size w W
theorem SInv.below {bv : Array Value} {w W W' : World} {q : Nat} {sv lv : Value} {N : List Bs} {Q : List PtV} (h : SInv bv w W q sv lv N Q) (hb : Below W.heap.size W W') : SInv bv w W' q sv lv N Q :=
  ⟨h.bk.below hb h.bk.lt, h.fk.below hb h.fk.lt, h.st.below hb, Below.call h.bl hb h.bl.size⟩
/-- The result's block gets a fault. -/
theorem SInv.fault {bv : Array Value} {w W : World} {q : Nat} {sv lv : Value} {N : List Bs} {Q : List PtV} (h : SInv bv w W q sv lv N Q) (u0 u1 : Value) :
    Blk ((W.setCell ⟨w.heap.size + 1, 0, none⟩ u0).setCell ⟨w.heap.size + 1, 1, none⟩ u1) (w.heap.size + 1) 29 #[u0, u1] ∧ Below w.heap.size w ((W.setCell ⟨w.heap.size + 1, 0, none⟩ u0).setCell ⟨w.heap.size + 1, 1, none⟩ u1) :=
  ⟨(h.fk.set_ 0 u0).set_ 1 u1, Below.setCell (Below.setCell h.bl (p := ⟨w.heap.size + 1, 0, none⟩) (Nat.le_succ _) u0) (p := ⟨w.heap.size + 1, 1, none⟩) (Nat.le_succ _) u1⟩
/-- In the midst of a round: points of one's own stand beside. -/
structure SMid (bv : Array Value) (w W : World) (q : Nat) (sv lv : Value) (N : List Bs) (Q : List PtV) (pv : Value) (ps : List (Int × Int)) : Prop where
  iv : SInv bv w W q sv lv N Q
  pt : W.ownsRow (w.heap.size + 2) 57 2 pv ps.length (ptsC ps)
theorem SMid.below {bv : Array Value} {w W W' : World} {q : Nat} {sv lv pv : Value} {N : List Bs} {Q : List PtV} {ps : List (Int × Int)} (h : SMid bv w W q sv lv N Q pv ps) (hb : Below W.heap.size W W') : SMid bv w W' q sv lv N Q pv ps := ⟨h.iv.below hb, own_below h.pt hb (Nat.le_refl _)⟩
/-- A name more. -/
theorem SMid.name {bv : Array Value} {w W wa : World} {q : Nat} {sv sv' lv pv : Value} {N : List Bs} {Q : List PtV} {ps : List (Int × Int)} (h : SMid bv w W q sv lv N Q pv ps) {s : Bs} (hf : Fr (fun k => sv.ownBlock = some k) W wa) {base : Nat} (ho : wa.ownsRow base 9 1 sv' (N.length + 1) (txC N ++ [.string (B8 s)])) (hG : ∀ k, sv'.ownBlock = some k → w.heap.size + 2 ≤ k) :
    (wa.cell? ⟨q, 0, none⟩ = some sv ∧ wa.frozen? ⟨q, 0, none⟩ = false) ∧ SMid bv w (wa.setCell ⟨q, 0, none⟩ sv') q sv' lv (N ++ [s]) Q pv ps := by
  obtain ⟨h1, h2⟩ := h.iv.st.name hf ho hG
  have hq : w.heap.size + 2 ≤ q := h.iv.st.gh
  have n1 : ∀ k, k < w.heap.size + 2 → ¬ sv.ownBlock = some k := fun k hk e => by have := h.iv.st.gs k e; omega
  have hS1 : Strange (fun k => sv.ownBlock = some k) W [57, 65] := Strange.own h.iv.st.nms (by decide)
  have hqb := hf.blk h.iv.st.hd (hS1.not h.iv.st.hd (by simp))
  have hS2 : Strange (fun k => k = q) wa [57] := Strange.blk hqb (by decide)
  have hfr : Fr (fun k => w.heap.size ≤ k) w wa := Fr.trans ((Fr.ofBelow h.iv.bl).mono (fun i hi e => e.elim)) hf (fun i hi e => absurd (h.iv.st.gs i e) (by omega))
  have hfr2 : Fr (fun k => w.heap.size ≤ k) w (wa.setCell ⟨q, 0, none⟩ sv') := Fr.trans hfr h2 (fun i hi e => by subst e; omega)
  exact ⟨⟨hqb.cell 0, hqb.frozen 0⟩, ⟨h2.blk (hf.blk h.iv.bk (n1 _ (by omega))) (by omega), h2.blk (hf.blk h.iv.fk (n1 _ (by omega))) (by omega), h1, hfr2.below (Nat.le_refl _) (fun k hk e => by omega)⟩,
    own_far (own_far h.pt hf hS1 (by simp)) h2 hS2 (by simp)⟩
/-- Points more. -/
theorem SMid.row {bv : Array Value} {w W wa : World} {q : Nat} {sv lv lv' pv : Value} {N : List Bs} {Q : List PtV} {ps : List (Int × Int)} (h : SMid bv w W q sv lv N Q pv ps) (hf : Fr (fun k => lv.ownBlock = some k) W wa) {base : Nat} (ho : wa.ownsRow base 32 1 lv' (Q.length + 1) ((Q.map fun r => r.v) ++ [pv])) (hG : ∀ k, lv'.ownBlock = some k → w.heap.size + 2 ≤ k) :
    (wa.cell? ⟨q, 1, none⟩ = some lv ∧ wa.frozen? ⟨q, 1, none⟩ = false) ∧ SInv bv w (wa.setCell ⟨q, 1, none⟩ lv') q sv lv' N (Q ++ [⟨pv, ps⟩]) := by
  obtain ⟨h1, h2⟩ := h.iv.st.row (r := ⟨pv, ps⟩) hf ho hG h.pt (fun k hk => (own_lt h.pt k hk).1)
  have hq : w.heap.size + 2 ≤ q := h.iv.st.gh
  have n1 : ∀ k, k < w.heap.size + 2 → ¬ lv.ownBlock = some k := fun k hk e => by have := h.iv.st.gl k e; omega
  have hS1 : Strange (fun k => lv.ownBlock = some k) W [65] := Strange.own h.iv.st.rows (by decide)
  have hqb := hf.blk h.iv.st.hd (hS1.not h.iv.st.hd (by simp))
  have hfr : Fr (fun k => w.heap.size ≤ k) w wa := Fr.trans ((Fr.ofBelow h.iv.bl).mono (fun i hi e => e.elim)) hf (fun i hi e => absurd (h.iv.st.gl i e) (by omega))
  have hfr2 : Fr (fun k => w.heap.size ≤ k) w (wa.setCell ⟨q, 1, none⟩ lv') := Fr.trans hfr h2 (fun i hi e => by subst e; omega)
  exact ⟨⟨hqb.cell 1, hqb.frozen 1⟩, ⟨h2.blk (hf.blk h.iv.bk (n1 _ (by omega))) (by omega), h2.blk (hf.blk h.iv.fk (n1 _ (by omega))) (by omega), h1, hfr2.below (Nat.le_refl _) (fun k hk e => by omega)⟩⟩
theorem ne0_beq {m : Nat} (h : m ≠ 0) : ((m : Int) == 0) = false := by rw [beq_eq_false_iff_ne]; omega
theorem suc_beq (m : Nat) : (((m : Int) + 1) == 0) = false ∧ (0 : Int) < (m : Int) + 1 := ⟨by rw [beq_eq_false_iff_ne]; omega, by omega⟩
theorem room60 {a k n : Nat} (h : a = k) (h2 : k < n) (h3 : n ≤ 60) : a + 1 ≤ maxLen ∧ (a + 1) * 16 ≤ 140737488355328 ∧ (a + 1) * 24 ≤ 140737488355328 := by unfold maxLen; omega
theorem SInv.room {bv : Array Value} {w W : World} {q : Nat} {sv lv : Value} {N : List Bs} {Q : List PtV} (h : SInv bv w W q sv lv N Q) : w.heap.size + 2 ≤ W.heap.size ∧ q < W.heap.size := ⟨Nat.le_of_lt (Nat.lt_of_le_of_lt h.st.gh h.st.hd.lt), h.st.hd.lt⟩
set_option maxRecDepth 100000 in
set_option maxHeartbeats 8000000 in
theorem setOf_any (fr sp : Int) (A A' : Option Addr) (n c n' c' : Nat) (ser : List Bs) (ch : List (List Nat)) (w : World)
    (hA : Rd w w.heap.size 1 A n (ser.map fun s => .string (B8 s))) (hC : Rd w w.heap.size 1 A' n' (ch.map fun x => .string (bytesOf x))) (hsl : ∀ s ∈ ser, s.length ≤ 100000) (hcl : ∀ x ∈ ch, x.length ≤ 100000 ∧ ∀ b ∈ x, b < 256) :
    Calls Tryz.prog 6 #[.agg #[.int .i64 fr, .int .i64 sp, .slice A n c, .slice A' n' c']] w fun e w' => SetPost (rowsR fr sp ser ch) w e w' := by
  have hln : ser.length = n := by have := hA.1; simpa using this
  have hlc : ch.length = n' := by have := hC.1; simpa using this
  obtain ⟨bv, hbv⟩ : ∃ bv, bv = #[Value.int .i64 fr, .int .i64 sp, .slice A n c, .slice A' n' c'] := ⟨_, rfl⟩
  have hb1 : Below w.heap.size w ((w.alloc (.cells #[.int .i64 fr, .int .i64 sp, .slice A n c, .slice A' n' c'] 24)).alloc (.cells #[.int .i64 0, .int .i64 0] 29)) := Below.alloc (Below.alloc (Below.refl _ _) (Nat.le_refl _) _) (by simp) _
  have hk1 := (Blk.new w 24 #[.int .i64 fr, .int .i64 sp, .slice A n c, .slice A' n' c']).alloc (.cells #[.int .i64 0, .int .i64 0] 29)
  have hf1 := Blk.new (w.alloc (.cells #[.int .i64 fr, .int .i64 sp, .slice A n c, .slice A' n' c'] 24)) 29 #[.int .i64 0, .int .i64 0]
  rw [World.size_alloc] at hf1
  have hz1 : ((w.alloc (.cells #[.int .i64 fr, .int .i64 sp, .slice A n c, .slice A' n' c'] 24)).alloc (.cells #[.int .i64 0, .int .i64 0] 29)).heap.size = w.heap.size + 2 := by simp
  have HB1 := Lib.hid hb1; have HK1 := Lib.hid hk1; have HF1 := Lib.hid hf1; have HZ1 := Lib.hid hz1; have Hln := Lib.hid hln; have Hlc := Lib.hid hlc
  have Hbd := Lib.hid (fun W => rbnd_any fr sp W)
  have Hx := Lib.hid (fun (hnn : n' = n) (hp : 0 < n) => show ∃ b0 o0 b1 o1, A = some ⟨b0, o0, none⟩ ∧ A' = some ⟨b1, o1, none⟩ ∧ ∀ W (hb : Below w.heap.size w W) (i : Nat) (s : Bs) (xs : List Nat), ser[i]? = some s → ch[i]? = some xs → W.cell? ⟨b0, o0 + i, none⟩ = some (.string (B8 s)) ∧ W.cell? ⟨b1, o1 + i, none⟩ = some (.string (bytesOf xs)) from by
    obtain ⟨b0, o0, e0, h0, hc0⟩ := hA.2 hp
    obtain ⟨b1, o1, e1, h1, hc1⟩ := hC.2 (by omega)
    refine ⟨b0, o0, b1, o1, e0, e1, fun W hb i s xs hs hx => ⟨(hb.cell (p := ⟨b0, o0 + i, none⟩) h0).trans (hc0 i _ (by rw [List.getElem?_map, hs]; rfl)), (hb.cell (p := ⟨b1, o1 + i, none⟩) h1).trans (hc1 i _ (by rw [List.getElem?_map, hx]; rfl))⟩⟩)
  have Hlim := Lib.hid (fun (hnn : n' = n) i (hi : i < n) => show ∃ s xs, ser[i]? = some s ∧ ch[i]? = some xs ∧ s.length ≤ 100000 ∧ xs.length ≤ 100000 ∧ ∀ b ∈ xs, b < 256 from by
    have h1 : i < ser.length := by omega
    have h2 : i < ch.length := by omega
    exact ⟨_, _, List.getElem?_eq_getElem h1, List.getElem?_eq_getElem h2, hsl _ (List.getElem_mem h1), hcl _ (List.getElem_mem h2)⟩)
  clear hA hC hsl hcl hln hlc hb1 hk1 hf1 hz1
  obtain ⟨⟨q0, q1, q2, q3⟩, _⟩ := cells4 HK1.out
  obtain ⟨⟨_, _⟩, ⟨g0, g1⟩⟩ := cells2 HF1.out
  by_cases hbd : bndB fr sp = true
  case neg =>
    -- slow
    have hbf : bndB fr sp = false := by simpa using hbd
    have Hr := Lib.hid (show rowsR fr sp ser ch = ((2, -1), []) by unfold rowsR; rw [if_pos hbf])
    rw [Hr.out]
    have Hbf := Lib.hid hbf
    clear hbd hbf
    go_enter Tryz.func6, Tryz.ntmps6
    go_wp2_with fail
    refine (Hbd.out _).mono ?_
    rintro e w2 ⟨_, g2, rfl⟩
    obtain rfl := g2 Hbf.out
    clear g2
    go_wp2_with fail
    refine (bare_any 2 _).mono ?_
    rintro e w3 ⟨rfl, hb⟩
    have HZ := Lib.hid (set2 (Nat.le_succ _) (Below.call HB1.out hb HB1.out.size) (HF1.out.below hb HF1.out.lt) (.int .i64 2) (.int .i64 (-1)))
    obtain ⟨⟨_, _⟩, ⟨g0, g1⟩⟩ := cells2 (HF1.out.below hb HF1.out.lt)
    clear hb
    go_wp2
    refine bodyPost_ret (res_so _ _ (w.heap.size + 1) _ _ _ rfl rfl HZ.out.1) rfl ?_
    exact SetPost.bad (by decide) rfl rfl HZ.out.2
    -- end
  have hbs : 1 ≤ sp ∧ sp ≤ 100000 ∧ -1099511627776 ≤ fr ∧ fr ≤ 1099511627776 := by simpa [bndB] using hbd
  have Hbt := Lib.hid hbd
  clear hbd
  by_cases hn60 : 60 < n
  · have hn60' : (60 : Int) < n := by omega
    have Hr := Lib.hid (show rowsR fr sp ser ch = ((2, -1), []) by unfold rowsR; rw [if_neg (by rw [Hbt.out]; decide), if_pos (by rw [Hln.out]; exact hn60)])
    rw [Hr.out]
    clear hbs hn60
    -- slow
    go_enter Tryz.func6, Tryz.ntmps6
    go_wp2_with fail
    refine (Hbd.out _).mono ?_
    rintro e w2 ⟨g2, _, rfl⟩
    obtain rfl := g2 Hbt.out
    clear g2
    go_wp2_with fail
    refine (bare_any 2 _).mono ?_
    rintro e w3 ⟨rfl, hb⟩
    have HZ := Lib.hid (set2 (Nat.le_succ _) (Below.call HB1.out hb HB1.out.size) (HF1.out.below hb HF1.out.lt) (.int .i64 2) (.int .i64 (-1)))
    obtain ⟨⟨_, _⟩, ⟨g0, g1⟩⟩ := cells2 (HF1.out.below hb HF1.out.lt)
    clear hb
    go_wp2
    refine bodyPost_ret (res_so _ _ (w.heap.size + 1) _ _ _ rfl rfl HZ.out.1) rfl ?_
    exact SetPost.bad (by decide) rfl rfl HZ.out.2
    -- end
  have hn60' : ¬ (60 : Int) < n := by omega
  by_cases hnn : n' = n
  case neg =>
    have hnn' : ((n : Int) == (n' : Int)) = false := by rw [beq_eq_false_iff_ne]; omega
    have Hr := Lib.hid (show rowsR fr sp ser ch = ((3, -1), []) by unfold rowsR; rw [if_neg (by rw [Hbt.out]; decide), if_neg (by rw [Hln.out]; exact hn60), if_pos (by rw [Hln.out, Hlc.out]; exact hnn)])
    rw [Hr.out]
    clear hbs hn60 hnn
    -- slow
    go_enter Tryz.func6, Tryz.ntmps6
    go_wp2_with fail
    refine (Hbd.out _).mono ?_
    rintro e w2 ⟨g2, _, rfl⟩
    obtain rfl := g2 Hbt.out
    clear g2
    go_wp2_with fail
    refine (bare_any 3 _).mono ?_
    rintro e w3 ⟨rfl, hb⟩
    have HZ := Lib.hid (set2 (Nat.le_succ _) (Below.call HB1.out hb HB1.out.size) (HF1.out.below hb HF1.out.lt) (.int .i64 3) (.int .i64 (-1)))
    obtain ⟨⟨_, _⟩, ⟨g0, g1⟩⟩ := cells2 (HF1.out.below hb HF1.out.lt)
    clear hb
    go_wp2
    refine bodyPost_ret (res_so _ _ (w.heap.size + 1) _ _ _ rfl rfl HZ.out.1) rfl ?_
    exact SetPost.bad (by decide) rfl rfl HZ.out.2
    -- end
  have hfs1 : -9223372036854775800 ≤ fr + sp := by omega
  have hfs2 : fr + sp ≤ 9223372036854775800 := by omega
  have hn1 : n ≤ 60 := by omega
  have Hr := Lib.hid (show rowsR fr sp ser ch = match firstBad (oneR fr (fr + sp) ser ch) n with
      | some (c, i) => ((c + 1, (i : Int)), [])
      | none => ((0, -1), (List.range n).map fun i => (ser.getD i [], okL (oneR fr (fr + sp) ser ch i))) by
    unfold rowsR; rw [if_neg (by rw [Hbt.out]; decide), if_neg (by rw [Hln.out]; exact hn60), if_neg (by rw [Hln.out, Hlc.out]; simpa using hnn), Hln.out]; try rfl)
  have Hone := Lib.hid (fun i s xs (hs : ser[i]? = some s) (hx : ch[i]? = some xs) => show oneR fr (fr + sp) ser ch i = oneV (rdF s) (dupB ser i) (decR xs) fr (fr + sp) by
    unfold oneR
    rw [List.getD_eq_getElem?_getD, hs, List.getD_eq_getElem?_getD, hx]
    rfl)
  have Hx1 := Lib.hid (fun hp => Hx.out hnn hp)
  have Hl1 := Lib.hid (fun i hi => Hlim.out hnn i hi)
  have hnn2 := hnn.symm
  subst hnn2
  clear hnn hn60 hbs Hx Hlim Hlc
  obtain ⟨i1, hi1, hy0, hy1, hy2⟩ := info_parts infoTx
  have Hi1 := Lib.hid hi1; have Hy0 := Lib.hid hy0; have Hy1 := Lib.hid hy1; have Hy2 := Lib.hid hy2
  obtain ⟨i2, hi2, hx0, hx1, hx2⟩ := info_parts infoSl
  have Hi2 := Lib.hid hi2; have Hx0 := Lib.hid hx0; have Hx2 := Lib.hid hx1; have Hx3 := Lib.hid hx2
  have Hin := Lib.hid (fun W (A : Option Addr) (m c : Nat) (ps : List (Int × Int)) (hp : Rd W W.heap.size 2 A m (ptsC ps)) (hm : m ≤ 100000) => inside_any A m c ps fr sp W hp hm hfs1 hfs2)
  clear hi1 hy0 hy1 hy2 hi2 hx0 hx1 hx2 hfs1 hfs2
  obtain ⟨R, hR⟩ : ∃ R, R = oneR fr (fr + sp) ser ch := ⟨_, rfl⟩
  rw [← hR] at Hr Hone
  clear hR
  have nn : ((n : Int) == (n : Int)) = true := beq_self_eq_true _
  go_enter Tryz.func6, Tryz.ntmps6
  go_wp2_with fail
  refine (Hbd.out _).mono ?_
  rintro e w2 ⟨g2, _, rfl⟩
  obtain rfl := g2 Hbt.out
  clear g2
  generalize hwx : (w.alloc (.cells #[.int .i64 fr, .int .i64 sp, .slice A n c, .slice A' n c'] 24)).alloc (.cells #[.int .i64 0, .int .i64 0] 29) = wx at HB1 HK1 HF1 HZ1 q0 q1 q2 q3 g0 g1 ⊢
  clear hwx
  go_wp2
  have H0 := Lib.hid (show SInv #[.int .i64 fr, .int .i64 sp, .slice A n c, .slice A' n c'] w (wx.alloc (.cells #[.slice none 0 0, .slice none 0 0] 65)) wx.heap.size (.slice none 0 0) (.slice none 0 0) [] [] from
    ⟨HK1.out.alloc _, HF1.out.alloc _, SetAt.new.mono (fun k hk => by rw [← HZ1.out]; exact hk), Below.alloc HB1.out HB1.out.size _⟩)
  obtain ⟨q, hq⟩ : ∃ q, q = wx.heap.size := ⟨_, rfl⟩
  rw [← hq] at H0 ⊢
  clear hq q0 q1 q2 q3 g0 g1 HB1 HK1 HF1 HZ1
  go_loopw [6] (fun iv wr => ∃ (k : Nat) (sv lv : Value) (N : List Bs) (Q : List PtV), k ≤ n ∧ iv = .int .i64 k ∧ SInv #[.int .i64 fr, .int .i64 sp, .slice A n c, .slice A' n c'] w wr q sv lv N Q ∧ firstBad R k = none ∧ SetIs N Q ((List.range k).map fun i => (ser.getD i [], okL (R i)))) (fun iv _ => n - (intOf iv).toNat)
  case atStart => exact ⟨0, _, _, [], [], Nat.zero_le _, rfl, H0.out, rfl, rfl, rfl⟩
  case round =>
    obtain ⟨k, sv, lv, N, Q, hk, rfl, hI, hfb, hIs⟩ := hrel
    have HI := Lib.hid hI; have Hfb := Lib.hid hfb; have HIs := Lib.hid hIs
    obtain ⟨⟨q0, q1, q2, q3⟩, _⟩ := cells4 hI.bk
    clear hI hfb hIs
    by_cases hkn : k < n
    case neg =>
      -- slow
      obtain rfl : k = n := by omega
      have hkn' : ¬ (k : Int) < k := by omega
      go_wp2_with fail
      refine (fine_any _).mono ?_
      rintro e w3 ⟨rfl, hb⟩
      have HI3 := Lib.hid (HI.out.below hb)
      have HZ := Lib.hid (HI3.out.fault (.int .i64 0) (.int .i64 (-1)))
      have HSt := Lib.hid (show SetAt ((w3.setCell ⟨w.heap.size + 1, 0, none⟩ (.int .i64 0)).setCell ⟨w.heap.size + 1, 1, none⟩ (.int .i64 (-1))) (fun k => w.heap.size ≤ k) q sv lv N Q from
        (HI3.out.st.fr (((Fr.refl (fun j => j = w.heap.size + 1) w3).setCell (p := ⟨w.heap.size + 1, 0, none⟩) (.inr rfl) (.int .i64 0)).setCell (p := ⟨w.heap.size + 1, 1, none⟩) (.inr rfl) (.int .i64 (-1))) (fun j hj e => by omega)).mono (fun j hj => by omega))
      obtain ⟨⟨_, _⟩, ⟨g0, g1⟩⟩ := cells2 HI3.out.fk
      clear hb
      go_wp2
      refine bodyPost_ret (res_so _ _ (w.heap.size + 1) _ _ _ rfl rfl HZ.out.1) rfl ?_
      rw [Hr.out, Hfb.out]
      exact ⟨_, rfl, fun h => absurd rfl h, fun _ => ⟨_, _, _, _, _, rfl, HSt.out, HIs.out⟩, HZ.out.2⟩
      -- end
    have hkn' : (k : Int) < n := by omega
    obtain ⟨b0, o0, b1, o1, hA0, hA1, hxc⟩ := Hx1.out (Nat.lt_of_le_of_lt (Nat.zero_le _) hkn)
    subst hA0; subst hA1
    have Hxc := Lib.hid hxc
    obtain ⟨s, xs, hs, hx, hsl, hxl, hx256⟩ := Hl1.out k hkn
    obtain ⟨x0, y0⟩ := hxc _ HI.out.bl k s xs hs hx
    have Hsg := Lib.hid (show ser.getD k [] = s by rw [List.getD_eq_getElem?_getD, hs]; rfl)
    have Hok := Lib.hid (Hone.out k s xs hs hx)
    have Hlo := Lib.hid (fun W => labelsOf_u s hsl W)
    have Hun := Lib.hid (fun W => unchunk_any xs W hx256 hxl)
    clear hx256 hxl hsl
    obtain ⟨cc, ca, hcc⟩ : ∃ cc ca, rdF s = (cc, ca) := ⟨_, _, rfl⟩
    have Hcc := Lib.hid hcc
    rw [hcc] at Hlo Hok
    have Hs := Lib.hid hs; have Hxs := Lib.hid hx
    clear hs hcc hx hxc
    go_wp2_with fail
    refine (Hlo.out _).mono ?_
    rintro e w3 ⟨u, ll, rfl, hown, _, _, hb⟩
    rw [show fV (cc, ca) = .agg #[.int .i64 (cc : Int), .int .i64 ca] from rfl]
    obtain ⟨Au, cu, rfl, _, _, _⟩ := own_form hown
    have HI3 := Lib.hid ((HI.out.below hb).below (Below.alloc (Below.refl _ _) (Nat.le_refl _) (.cells #[.int .i64 (cc : Int), .int .i64 ca] 29)))
    have HF3 := Lib.hid (Blk.new w3 29 #[.int .i64 (cc : Int), .int .i64 ca])
    clear hown hb x0 y0 q0 q1 q2 q3
    by_cases hc0 : cc = 0
    case neg =>
      -- slow
      have hc0' : (0 : Int) < (cc : Int) := by omega
      have Hfin := Lib.hid (firstBad_err Hfb.out (show R k = .err (cc - 1) by rw [Hok.out]; exact if_pos hc0) n hkn)
      have Hc1 := Lib.hid (show cc - 1 + 1 = cc by omega)
      have HId := Lib.hid (HI3.out.below (Below.drew (Below.refl _ _)))
      have HZ := Lib.hid (HId.out.fault (.int .i64 (cc : Int)) (.int .i64 (k : Int)))
      have HZ0 := Lib.hid (HI3.out.fault (.int .i64 (cc : Int)) (.int .i64 (k : Int)))
      obtain ⟨⟨_, _⟩, ⟨g0, g1⟩⟩ := cells2 HI3.out.fk
      obtain ⟨⟨f0, f1⟩, _⟩ := cells2 HF3.out
      clear hc0
      go_wp2
      go_region
      all_goals
        go_wp2
        refine bodyPost_ret (res_so _ _ (w.heap.size + 1) _ _ _ rfl rfl (by first | with_reducible exact HZ.out.1 | with_reducible exact HZ0.out.1.drew)) rfl ?_
        rw [Hr.out, Hfin.out]
        exact SetPost.bad (by simp only; omega) (by show fV (cc - 1 + 1, (k : Int)) = _; rw [Hc1.out]; rfl) rfl (by first | with_reducible exact HZ.out.2 | with_reducible exact HZ0.out.2.drew)
      -- end
    subst hc0
    have HI3 := Lib.hid (show SInv #[.int .i64 fr, .int .i64 sp, .slice (some ⟨b0, o0, none⟩) n c, .slice (some ⟨b1, o1, none⟩) n c'] w (w3.alloc (.cells #[.int .i64 0, .int .i64 ca] 29)) q sv lv N Q from HI3.out)
    have HF3 := Lib.hid (show Blk (w3.alloc (.cells #[.int .i64 0, .int .i64 ca] 29)) w3.heap.size 29 #[.int .i64 0, .int .i64 ca] from HF3.out)
    have Hov := Lib.hid (show R k = if dupB ser k = true then .err 2 else match decR xs with
      | .err c => .err c
      | .ok l => if l.length = 0 then .err 4 else if allIn fr (fr + sp) l = true then .ok l else .err 1 by
      rw [Hok.out]; unfold oneV; rw [if_neg (fun h => h rfl)]; rfl)
    clear Hok Hlo
    -- the series before it
    obtain ⟨j, s', hj1, hj2, hj3, Hxj, hdup⟩ : ∃ (j : Nat) (s' : Bs), (0 < k → k ≤ j + 1) ∧ (0 < k → j + 1 ≤ k) ∧ j < n ∧ Hid (∀ W, Below w.heap.size w W → W.cell? ⟨b0, o0 + j, none⟩ = some (.string (B8 s'))) ∧ dupB ser k = (decide (0 < k) && leS s s') := by
      have hj : k - 1 < n := by omega
      obtain ⟨s', xs', hs', hx', _⟩ := Hl1.out (k - 1) hj
      refine ⟨k - 1, s', fun h => by omega, fun h => by omega, hj, Lib.hid fun W hb => (Hxc.out W hb (k - 1) s' xs' hs' hx').1, ?_⟩
      unfold dupB
      rw [List.getD_eq_getElem?_getD, List.getD_eq_getElem?_getD, Hs.out, hs']
      rfl
    have Hxk := Lib.hid (fun W (hb : Below w.heap.size w W) => Hxc.out W hb k s xs Hs.out Hxs.out)
    clear Hxs Hxc
    obtain ⟨x0, y0⟩ := Hxk.out _ HI3.out.bl
    have xj := Hxj.out _ HI3.out.bl
    obtain ⟨⟨q0, q1, q2, q3⟩, _⟩ := cells4 HI3.out.bk
    obtain ⟨⟨f0, f1⟩, _⟩ := cells2 HF3.out
    have Hcmp := Lib.hid (show (Op.bytesLess (B8 s).toList (B8 s').toList || (B8 s).toList == (B8 s').toList) = leS s s' by rw [B8_toList, B8_toList]; rfl)
    have Hw := Lib.hid (show 0 < k → IntKind.i64.wrap ((k : Int) - 1) = (j : Int) from fun h => by rw [IntKind.wrap_i64]; have := hj1 h; have := hj2 h; omega)
    have Hdup := Lib.hid hdup
    have hjn : (j : Int) < n := by omega
    clear hj1 hj2 hdup
    go_upto_region 15 with fail
    go_cut [80] (fun s80 wx => s80 = .bool (dupB ser k) ∧ SInv #[.int .i64 fr, .int .i64 sp, .slice (some ⟨b0, o0, none⟩) n c, .slice (some ⟨b1, o1, none⟩) n c'] w wx q sv lv N Q)
    case first =>
      -- slow
      rcases Nat.eq_zero_or_pos k with h0 | h0
      · have Hd := Lib.hid (show dupB ser k = false by rw [Hdup.out, decide_eq_false (by omega)]; rfl)
        have hd0 : decide ((0 : Int) < k) = false := decide_eq_false (by omega)
        have hd1 : decide (0 < k) = false := decide_eq_false (by omega)
        clear h0
        go_quiet (fail)
        go_wp2
        go_meet
        exact ⟨by rw [Hd.out], HI3.out.below (Below.drewN (Below.refl _ _) nq)⟩
      · have Hd := Lib.hid (show dupB ser k = leS s s' by rw [Hdup.out, decide_eq_true h0, Bool.true_and])
        have hd0 : decide ((0 : Int) < k) = true := decide_eq_true (by omega)
        have hd1 : decide (0 < k) = true := decide_eq_true h0
        have hle := Hcmp.out
        have hw := Hw.out h0
        clear h0
        cases hls : leS s s'
        all_goals
          rw [hls] at hle Hd
          clear hls
          go_quiet (fail)
          go_wp2
          go_meet
          exact ⟨by rw [Hd.out], HI3.out.below (Below.drewN (Below.refl _ _) nq)⟩
      -- end
    case rest =>
      obtain ⟨rfl, hI4⟩ := hcut
      have HI4 := Lib.hid hI4
      rename World => w4
      clear hI4 x0 xj y0 q0 q1 q2 q3 f0 f1 HI3 HF3 Hw Hcmp Hxj Hdup
      apply_assumption
      cases hdu : dupB ser k with
      | true =>
        have Hfin := Lib.hid (firstBad_err Hfb.out (show R k = .err 2 by rw [Hov.out, if_pos hdu]) n hkn)
        obtain ⟨⟨_, _⟩, ⟨g0, g1⟩⟩ := cells2 HI4.out.fk
        have HZ := Lib.hid (HI4.out.fault (.int .i64 3) (.int .i64 (k : Int)))
        clear hdu
        go_wp2
        refine bodyPost_ret (res_so _ _ (w.heap.size + 1) _ _ _ rfl rfl (by with_reducible exact HZ.out.1)) rfl ?_
        rw [Hr.out, Hfin.out]
        exact SetPost.bad (Nat.succ_ne_zero _) rfl rfl (by with_reducible exact HZ.out.2)
      | false =>
        have Hov2 := Lib.hid (show R k = match decR xs with
          | .err c => .err c
          | .ok l => if l.length = 0 then .err 4 else if allIn fr (fr + sp) l = true then .ok l else .err 1 by
          rw [Hov.out, if_neg (by rw [hdu]; decide)])
        clear hdu Hov
        obtain ⟨x0, y0⟩ := Hxk.out _ HI4.out.bl
        obtain ⟨⟨q0, q1, q2, q3⟩, _⟩ := cells4 HI4.out.bk
        cases hdx : decR xs with
        | err ce =>
          -- slow
          have Hfin := Lib.hid (firstBad_err Hfb.out (show R k = .err ce by rw [Hov2.out, hdx]) n hkn)
          have Hdx := Lib.hid hdx
          clear hdx
          go_wp2_with fail
          refine (Hun.out _).mono ?_
          rintro e w5 ⟨g1, _, hb⟩
          obtain rfl := g1 ce Hdx.out
          have HI5 := Lib.hid (HI4.out.below hb)
          clear hb g1
          obtain ⟨⟨q0, q1, q2, q3⟩, _⟩ := cells4 HI5.out.bk
          go_wp2_with fail
          refine (Hin.out _ none 0 0 [] Rd.nil (Nat.zero_le _)).mono ?_
          rintro e w6 ⟨rfl, hb⟩
          have HI6 := Lib.hid (HI5.out.below hb)
          clear hb
          obtain ⟨⟨_, _⟩, ⟨g0, g1⟩⟩ := cells2 HI6.out.fk
          have HZ := Lib.hid (HI6.out.fault (.int .i64 ((ce : Int) + 1)) (.int .i64 (k : Int)))
          obtain ⟨hce, hce2⟩ := suc_beq ce
          go_wp2
          refine bodyPost_ret (res_so _ _ (w.heap.size + 1) _ _ _ rfl rfl (by with_reducible exact HZ.out.1)) rfl ?_
          rw [Hr.out, Hfin.out]
          exact SetPost.bad (Nat.succ_ne_zero _) rfl rfl (by with_reducible exact HZ.out.2)
          -- end
        | ok l =>
          have Hdx := Lib.hid hdx
          have hl120 := decR_le hdx
          have Hov3 := Lib.hid (show R k = if l.length = 0 then .err 4 else if allIn fr (fr + sp) l = true then .ok l else .err 1 by rw [Hov2.out, hdx])
          clear hdx Hov2
          go_wp2_with fail
          refine (Hun.out _).mono ?_
          rintro e w5 ⟨_, g1, hb⟩
          obtain ⟨v, rfl, hown⟩ := g1 l Hdx.out
          have HM5 := Lib.hid (show SMid #[.int .i64 fr, .int .i64 sp, .slice (some ⟨b0, o0, none⟩) n c, .slice (some ⟨b1, o1, none⟩) n c'] w w5 q sv lv N Q v l from ⟨HI4.out.below hb, own_base hown HI4.out.room.1⟩)
          obtain ⟨Ap, cp, rfl, _, _, hrd⟩ := own_form hown
          have Hi5 := Lib.hid (Hin.out _ Ap l.length cp l hrd (Nat.le_trans hl120 (by decide)))
          clear hb g1 hown hrd
          obtain ⟨⟨q0, q1, q2, q3⟩, _⟩ := cells4 HM5.out.iv.bk
          obtain ⟨m, hm⟩ : ∃ m, m = l.length := ⟨_, rfl⟩
          rw [← hm] at Hi5 hl120 Hov3 HM5 ⊢
          have Hm := Lib.hid hm
          obtain ⟨ain, hain⟩ : ∃ ain, ain = allIn fr (fr + sp) l := ⟨_, rfl⟩
          rw [← hain] at Hi5 Hov3
          clear hm hain
          go_wp2_with fail
          refine Hi5.out.mono ?_
          rintro e w6 ⟨rfl, hb⟩
          have HM6 := Lib.hid (HM5.out.below hb)
          clear hb Hi5
          by_cases hm0 : m = 0
          · -- slow
            have Hfin := Lib.hid (firstBad_err Hfb.out (show R k = .err 4 by rw [Hov3.out, if_pos hm0]) n hkn)
            subst hm0
            obtain ⟨⟨_, _⟩, ⟨g0, g1⟩⟩ := cells2 HM6.out.iv.fk
            have HZ := Lib.hid (HM6.out.iv.fault (.int .i64 5) (.int .i64 (k : Int)))
            go_wp2
            refine bodyPost_ret (res_so _ _ (w.heap.size + 1) _ _ _ rfl rfl (by with_reducible exact HZ.out.1)) rfl ?_
            rw [Hr.out, Hfin.out]
            exact SetPost.bad (Nat.succ_ne_zero _) rfl rfl (by with_reducible exact HZ.out.2)
            -- end
          have hm0' := ne0_beq hm0
          cases ain with
          | false =>
            -- slow
            have Hfin := Lib.hid (firstBad_err Hfb.out (show R k = .err 1 by rw [Hov3.out, if_neg hm0]; rfl) n hkn)
            obtain ⟨⟨_, _⟩, ⟨g0, g1⟩⟩ := cells2 HM6.out.iv.fk
            have HZ := Lib.hid (HM6.out.iv.fault (.int .i64 2) (.int .i64 (k : Int)))
            clear hm0
            go_wp2
            refine bodyPost_ret (res_so _ _ (w.heap.size + 1) _ _ _ rfl rfl (by with_reducible exact HZ.out.1)) rfl ?_
            rw [Hr.out, Hfin.out]
            exact SetPost.bad (Nat.succ_ne_zero _) rfl rfl (by with_reducible exact HZ.out.2)
            -- end
          | true =>
            have HR := Lib.hid (show R k = .ok l by rw [Hov3.out, if_neg hm0]; rfl)
            have Hfn := Lib.hid (firstBad_ok Hfb.out HR.out)
            clear hm0 Hov3
            have hsv := HM6.out.iv.st.nms
            obtain ⟨As, cs, rfl, _, _, _⟩ := own_form hsv
            have z0 : w6.cell? ⟨q, 0, none⟩ = some (.slice As N.length cs) := HM6.out.iv.st.hd.cell 0
            obtain ⟨l1, l2⟩ := HIs.out.len
            rw [List.length_map, List.length_range] at l1 l2
            obtain ⟨hk63, hk8, _⟩ := room60 l1 hkn hn1
            obtain ⟨hr63, _, hr8⟩ := room60 l2 hkn hn1
            obtain ⟨x0, _⟩ := Hxk.out _ HM6.out.iv.bl
            obtain ⟨⟨q0, q1, q2, q3⟩, _⟩ := cells4 HM6.out.iv.bk
            have hqw : q < w6.heap.size := HM6.out.iv.st.hd.lt
            have HqF := Lib.hid (fun W (hf : Fr (fun _ => False) w6 W) => Nat.le_trans HM6.out.iv.room.1 hf.size)
            generalize hst : B8 s = st at x0
            have Hst := Lib.hid hst
            have HS := Lib.hid (fun W (hf : Fr (fun _ => False) w6 W) => show W.ownsRow (w.heap.size + 2) 9 1 (.slice As N.length cs) N.length (txC N) from own_hiB (hf.own hsv (fun _ _ h => h)) HM6.out.iv.st.gs)
            have HNx := Lib.hid (fun W wa v' (hf : Fr (fun _ => False) w6 W) (hgr : W.grownBy wa (Value.slice As N.length cs).ownBlock) (hown : wa.ownsRow (w.heap.size + 2) 9 1 v' (N.length + 1) (txC N ++ [.string st])) =>
              HM6.out.name (s := s) ((hf.mono (fun _ _ h => h.elim)).grown hgr (fun k hk => .inr hk)) (by rw [Hst.out]; exact hown) (fun k hk => (own_lt hown k hk).1))
            have hcs1 := str_one1 st
            clear hsv hst l1 l2
            go_upto_region 25 with fail
            go_cut [] (fun wx => ∃ sv3, SMid #[.int .i64 fr, .int .i64 sp, .slice (some ⟨b0, o0, none⟩) n c, .slice (some ⟨b1, o1, none⟩) n c'] w wx q sv3 lv (N ++ [s]) Q (.slice Ap m cp) l)
            case first =>
              go_region_law ((refine step_append_rd _ (by rfl) (.tmp 120) (.tmp 126) _ (by rfl) (w.heap.size + 2) 9 i1 (.string ⟨#[]⟩) 1 16 Tryz.underlying22 Hi1.out Hy0.out Hy1.out Hy2.out (by rfl) (by decide) (.slice As N.length cs) N.length (txC N) (by rfl) (HS.out _ (by repeat (first | exact Fr.refl _ _ | refine Fr.drew ?_ | refine Fr.alloc ?_ _))) _ (some ⟨w6.heap.size, 0, none⟩) 1 1 [.string st] (by rfl) (one_cell w6 9 (.string st)) hcs1 hk63 hk8 (HqF.out _ (by repeat (first | exact Fr.refl _ _ | refine Fr.drew ?_ | refine Fr.alloc ?_ _))) ?_; intro v' wa hown hgr hat; obtain ⟨A2, c2, rfl, _, _, _⟩ := own_form hown; have HQ := Lib.hid (HNx.out _ wa _ (by repeat (first | exact Fr.refl _ _ | refine Fr.drew ?_ | refine Fr.alloc ?_ _)) hgr hown); clear hown hat hgr; obtain ⟨⟨y0, y1⟩, _⟩ := HQ.out))
              all_goals (go_wp2_with fail; go_meet; exact ⟨_, HQ.out.2⟩)
            case rest =>
              obtain ⟨sv3, hM7⟩ := hcut
              have HM7 := Lib.hid hM7
              rename World => w7
              apply_assumption
              obtain ⟨Al, cl, rfl, _, _, _⟩ := own_form hM7.iv.st.rows
              have z1 : w7.cell? ⟨q, 1, none⟩ = some (.slice Al Q.length cl) := hM7.iv.st.hd.cell 1
              have hqc : q < w7.heap.size := hM7.iv.st.hd.lt
              have hqb7 := hM7.iv.room.1
              have HoA := Lib.hid (show (w7.alloc (.cells #[.slice Ap m cp] 32)).ownsRow (w.heap.size + 2) 32 1 (.slice Al Q.length cl) Q.length (Q.map fun r => r.v) from (own_hiB hM7.iv.st.rows hM7.iv.st.gl).alloc _)
              have HrA := Lib.hid (one_cell w7 32 (.slice Ap m cp))
              have HzA := Lib.hid (show w.heap.size + 2 ≤ (w7.alloc (.cells #[.slice Ap m cp] 32)).heap.size from Nat.le_trans hqb7 (by rw [World.size_alloc]; exact Nat.le_succ _))
              have H1s := Lib.hid (show ∀ u ∈ [Value.slice Ap m cp], u.oneCell' = true by intro u hu; simp at hu; subst hu; rfl)
              have HNr := Lib.hid (fun wa v' (hgr : (w7.alloc (.cells #[.slice Ap m cp] 32)).grownBy wa (Value.slice Al Q.length cl).ownBlock) (hown : wa.ownsRow (w.heap.size + 2) 32 1 v' (Q.length + 1) ((Q.map fun r => r.v) ++ [.slice Ap m cp])) =>
                HM7.out.row (((Fr.refl _ w7).alloc _).grown hgr (fun k hk => .inr hk)) hown (fun k hk => (own_lt hown k hk).1))
              clear hM7 HS HNx HM6 z0 q0 q1 q2 q3 x0 hk63 hk8
              go_wp2_with (at_builtin; refine wpList_append_rd _ rfl (.tmp 134) (.tmp 136) _ rfl (w.heap.size + 2) 32 i2 (.slice none 0 0) 1 24 Tryz.underlying63 Hi2.out Hx0.out Hx2.out Hx3.out rfl (by decide) (.slice Al Q.length cl) Q.length _ rfl HoA.out _ _ 1 1 [.slice Ap m cp] rfl HrA.out H1s.out hr63 hr8 HzA.out ?_; intro v' wa hown hgr hat; obtain ⟨A2, c2, rfl, _, _, _⟩ := own_form hown; have HQ := Lib.hid (HNr.out wa _ hgr hown); clear hown hat hgr; obtain ⟨⟨y0, y1⟩, _⟩ := HQ.out)
              go_roundw
              case rel =>
                go_light
                refine ⟨k + 1, _, _, N ++ [s], Q ++ [⟨.slice Ap m cp, l⟩], hkn, by go_num, HQ.out.2, Hfn.out, ?_⟩
                have := HIs.out.snoc s ⟨.slice Ap m cp, l⟩
                rw [List.range_succ, List.map_append, List.map_singleton, Hsg.out, HR.out]
                exact this
              case measure =>
                go_light
                simp [intOf]; omega
end Go.Proofs.YtpbgonpmpjpljaaGreatDoor
