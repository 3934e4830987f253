/- HeadActs by its contract: it returns true. -/
import Derived.Test.YtfnjgminbjopeaaGreatDoorMgaf
import Derived.Test.YtfnjgminbjopeaaGreatDoorTwoQ
import Derived.Test.YtfnjgminbjopeaaGreatDoorActsQ
import Derived.Test.YtfnjgminbjopeaaGreatDoorFault2Q
import Derived.Test.YtfnjgminbjopeaaGreatDoorMgae
import Derived.Deep.DeepCutAuto
import Derived.Deep.RegionHeld3
namespace Go.Proofs.YtfnjgminbjopeaaGreatDoor
open Go.RowKit Go.Maps
set_option linter.unusedVariables false

theorem cell_keep {W W' : World} {g i : Nat} {v : Value} (h : W.cell? ⟨g, i, none⟩ = some v) (hb : Below W.heap.size W W') : W'.cell? ⟨g, i, none⟩ = some v := by
  rcases Nat.lt_or_ge g W.heap.size with hl | hl
  · exact (hb.cell (p := ⟨g, i, none⟩) hl).trans h
  · simp [World.cell?, Array.getElem?_eq_none hl] at h
theorem kd_ne {sk : ByteArray} {kd l : Bs} (hk : B8 kd = sk) (h : ¬ sk = B8 l) : (sk.toList == l) = false := by
  rw [← hk, B8_toList]
  apply Bool.eq_false_iff.2
  intro e
  have e : kd = l := by simpa using e
  exact h (by rw [← hk, e])
theorem hPoints_len (A : List HA) (s : Bs) (f t : Int) : (hPoints A s f t).length ≤ hCount A := by
  unfold hPoints
  cases h : hFind A s with
  | none => simp
  | some x =>
    have hm := (hFind_mem h).1
    refine Nat.le_trans ?_ (cnt_le hm)
    dsimp only
    unfold betL
    exact List.length_filter_le _ _
/-- The head has turned; the reference stands. -/
def Mid (W : World) (F : Nat → Prop) (q mb : Nat) (HL : List HLn) (s : Bs) (p : Int × Int) (w4 : World) : Prop :=
  ∃ D' HL', HeadAt w4 (fun j => F j ∨ W.heap.size ≤ j) q mb D' HL' ∧ absL HL' = hAdd (absL HL) s p ∧ Fr F W w4
/-- Both have turned. -/
def Fin2 (B : Nat) (W : World) (q mb rb k : Nat) (w5 : World) : Prop :=
  (∃ (F2 G2 : Nat → Prop) (D2 : DataW Unit) (HL2 : List HLn) (lv2 : Value) (RL2 : List RLn), Two B w5 F2 G2 q mb rb D2 HL2 lv2 RL2 k) ∧ Below B W w5
theorem Fin2.below {B : Nat} {W w5 w6 : World} {q mb rb k : Nat} (h : Fin2 B W q mb rb k w5) (hb : Below w5.heap.size w5 w6) (hB : B ≤ w5.heap.size) : Fin2 B W q mb rb k w6 := by
  obtain ⟨⟨F2, G2, D2, HL2, lv2, RL2, h1⟩, h2⟩ := h
  exact ⟨⟨F2, G2, D2, HL2, lv2, RL2, h1.below hb⟩, Below.call h2 hb hB⟩
section
variable {es : Nat → Addr} {C B : Nat} {W : World} {F G : Nat → Prop} {q mb rb : Nat} {D : DataW Unit} {HL : List HLn} {lv : Value} {RL : List RLn} {k : Nat}
theorem act_add1 (h : Two B W F G q mb rb D HL lv RL k) (hk : k ≤ 1000) (hS : SVL es C W) (hC : C ≤ W.heap.size) {s : Bs} (p : Int × Int) (hs : s.length ≤ 200) (h0 : (hFault (absL HL) s p).1 = 0) :
    Calls Tryz.prog 7 #[.pointer (some ⟨q, 0, none⟩), .string (B8 s), .agg #[.int .i64 p.1, .int .u64 p.2]] W fun e w' => e = .returned .nilIface ∧ Mid W F q mb HL s p w' := by
  refine (hadd_any s p W (by omega) hS hC h.hH (Nat.le_trans h.hl (by decide)) (fun x hx => Nat.le_trans (h.hp x hx) (by omega))).mono ?_
  rintro e w' ⟨_, hok⟩
  obtain ⟨he, D', L', h1, h2, h3⟩ := hok h0
  exact ⟨he, D', L', h1, h2, h3⟩
theorem act_add2 (h : Two B W F G q mb rb D HL lv RL k) (hk : k ≤ 1000) (hB : B ≤ W.heap.size) {s : Bs} (p : Int × Int) (hs : s.length ≤ 200) (h0 : (hFault (absL HL) s p).1 = 0) (w4 : World) (hm : Mid W F q mb HL s p w4) :
    Calls Tryz.prog 8 #[.pointer (some ⟨rb, 0, none⟩), .string (B8 s), .agg #[.int .i64 p.1, .int .u64 p.2]] w4 fun e w' => e = .returned (.agg #[.int .i64 0, .int .i64 (-1)]) ∧ Fin2 B W q mb rb (k + 1) w' ∧ Fr G w4 w' := by
  obtain ⟨D', HL', h1, h2, h3⟩ := hm
  refine (radd_any s p w4 (by omega) (h.mid h3) (Nat.le_trans h.rl (by decide)) (fun x hx => Nat.le_trans (h.rp x hx) (by omega)) (by rw [h.eq]; exact h.st.srt)).mono ?_
  rintro e w' ⟨he, _, hok⟩
  rw [h.eq] at he hok
  obtain ⟨lv', L', g1, g2, g3⟩ := hok h0
  have hz := hFault_zero h0
  obtain ⟨⟨F2, G2, t⟩, b⟩ := h.step hB h1 h3 g1 g3 (by rw [g2, h2]) (by rw [h2]; exact h.st.add hs h0)
  refine ⟨by rw [he, hz]; rfl, ⟨⟨F2, G2, D', HL', lv', L', t⟩, b⟩, g3⟩
theorem act_bad1 (h : Two B W F G q mb rb D HL lv RL k) (hk : k ≤ 1000) (hS : SVL es C W) (hC : C ≤ W.heap.size) {s : Bs} (p : Int × Int) (hs : s.length ≤ 200) (h0 : (hFault (absL HL) s p).1 ≠ 0) :
    Calls Tryz.prog 7 #[.pointer (some ⟨q, 0, none⟩), .string (B8 s), .agg #[.int .i64 p.1, .int .u64 p.2]] W fun e w' => ∃ v, e = .returned v ∧ EV es W.heap.size w' v (hFault (absL HL) s p) ∧ Below W.heap.size W w' := by
  refine (hadd_any s p W (by omega) hS hC h.hH (Nat.le_trans h.hl (by decide)) (fun x hx => Nat.le_trans (h.hp x hx) (by omega))).mono ?_
  rintro e w' ⟨hbad, _⟩
  exact hbad h0
theorem act_bad2 (h : Two B W F G q mb rb D HL lv RL k) (hk : k ≤ 1000) {s : Bs} (p : Int × Int) (hs : s.length ≤ 200) (h0 : (hFault (absL HL) s p).1 ≠ 0) :
    Calls Tryz.prog 8 #[.pointer (some ⟨rb, 0, none⟩), .string (B8 s), .agg #[.int .i64 p.1, .int .u64 p.2]] W fun e w' => e = .returned (fV (hFault (absL HL) s p)) ∧ Below W.heap.size W w' := by
  refine (radd_any s p W (by omega) h.hR (Nat.le_trans h.rl (by decide)) (fun x hx => Nat.le_trans (h.rp x hx) (by omega)) (by rw [h.eq]; exact h.st.srt)).mono ?_
  rintro e w' ⟨he, hbad, _⟩
  rw [h.eq] at he hbad
  exact ⟨he, hbad h0⟩
/-- The head is cut; the reference stands. -/
def CMid (W : World) (F : Nat → Prop) (q mb : Nat) (D : DataW Unit) (HL : List HLn) (b : Int) (v : Value) (R : List RwV) (w4 : World) : Prop :=
  ∃ L2, HeadAt w4 (fun j => F j ∨ W.heap.size ≤ j) q mb D L2 ∧ absL L2 = hCut (absL HL) b ∧ Fr F W w4 ∧ RowsAt w4 W.heap.size v R ∧ rwA R = hCutR (absL HL) b
/-- Both are cut. -/
structure CFin (B : Nat) (W : World) (q mb rb k : Nat) (v : Value) (R : List RwV) (q2 : Nat) (sv lv2 : Value) (N : List Bs) (R2 : List PtV) (w5 : World) : Prop where
  two : Fin2 B W q mb rb (k + 1) w5
  rows : RowsAt w5 0 v R
  st : SetAt w5 (fun _ => True) q2 sv lv2 N R2
  is : SetIs N R2 (rwA R)
theorem act_cut1 (h : Two B W F G q mb rb D HL lv RL k) (hk : k ≤ 1000) (hS : SVL es C W) (hC : C ≤ B) (hB : B ≤ W.heap.size) (b : Int) :
    Calls Tryz.prog 9 #[.pointer (some ⟨q, 0, none⟩), .int .i64 b] W fun e w' => ∃ v ev R, e = .returned (.tuple #[v, ev]) ∧ CMid W F q mb D HL b v R w' ∧ (R = [] → v = .slice none 0 0 ∧ ev = sentV (es 4)) ∧ (R ≠ [] → ev = .nilIface) := by
  refine (hcut_any b W hS (Nat.le_trans hC hB) (fun j hj => Nat.le_trans hC (h.tF j hj).1) h.hH (Nat.le_trans h.hl (by decide)) (fun x hx => Nat.le_trans (h.hn x hx) (by decide)) (fun x hx => Nat.le_trans (h.hp x hx) (by omega))).mono ?_
  rintro e w' ⟨L2, R, v, ev, he, h1, h2, h3, h4, h5, h6, h7⟩
  have hr : R = [] ↔ hCutR (absL HL) b = [] := by rw [← h4]; unfold rwA; exact List.map_eq_nil_iff.symm
  exact ⟨v, ev, R, he, ⟨L2, h1, h2, h5, h3, h4⟩, fun e => h6 (hr.1 e), fun e => h7 (fun e2 => e (hr.2 e2))⟩
theorem act_cut2 (h : Two B W F G q mb rb D HL lv RL k) (hk : k ≤ 1000) (hB : B ≤ W.heap.size) (b : Int) (v : Value) (R : List RwV) (w4 : World) (hm : CMid W F q mb D HL b v R w4) :
    Calls Tryz.prog 10 #[.pointer (some ⟨rb, 0, none⟩), .int .i64 b] w4 fun e w' => ∃ q2 sv lv2 N R2, e = .returned (.pointer (some ⟨q2, 0, none⟩)) ∧ CFin B W q mb rb k v R q2 sv lv2 N R2 w' ∧ Fr G w4 w' := by
  obtain ⟨L2, h1, h2, h3, h4, h5⟩ := hm
  have hG : ∀ j, G j → j < w4.heap.size := fun j hj => Nat.lt_of_lt_of_le (h.tG j hj).2 h3.size
  refine (rcut_any b w4 (h.mid h3) hG (Nat.le_trans h.rl (by decide)) (fun x hx => Nat.le_trans (h.rp x hx) (by omega)) (by rw [h.eq]; exact h.st.inv)).mono ?_
  rintro e w' ⟨RL2, q2, sv, lv2, N, R2, he, g1, g2, g3, g4, g5⟩
  rw [h.eq] at g2 g4
  obtain ⟨⟨F2, G2, t⟩, bb⟩ := h.step hB h1 h3 g1 g5 (by rw [g2, h2]) (by rw [h2]; exact h.st.cut b)
  have hk0 : ∀ {base n size : Nat} {e : TypeId} {v : Value} {xs : List Value}, w4.ownsRow base e size v n xs → W.heap.size ≤ base → w'.ownsRow 0 e size v n xs := fun ho hb => own_base (g5.own ho (fun j hj hg => by
    have := (own_lt ho j hj).1
    have := (h.tG j hg).2
    omega)) (Nat.zero_le _)
  refine ⟨q2, sv, lv2, N, R2, he, ⟨⟨⟨F2, G2, D, L2, lv, RL2, t⟩, bb⟩, ⟨hk0 h4.1 (Nat.le_refl _), fun r hr => hk0 (h4.2 r hr) (Nat.le_refl _)⟩, g3.mono (fun _ _ => trivial), by rw [h5]; exact g4⟩, g5⟩
theorem CFin.below {v : Value} {R : List RwV} {q2 : Nat} {sv lv2 : Value} {N : List Bs} {R2 : List PtV} {w5 w6 : World} (h : CFin B W q mb rb k v R q2 sv lv2 N R2 w5) (hB : B ≤ w5.heap.size) (hb : Below w5.heap.size w5 w6) : CFin B W q mb rb k v R q2 sv lv2 N R2 w6 :=
  ⟨h.two.below hb hB, ⟨own_below h.rows.1 hb (Nat.le_refl _), fun r hr => own_below (h.rows.2 r hr) hb (Nat.le_refl _)⟩, h.st.below hb, h.is⟩
/-- One row of both. -/
theorem CFin.at {v : Value} {R : List RwV} {q2 : Nat} {sv lv2 : Value} {N : List Bs} {R2 : List PtV} {w5 : World} (h : CFin B W q mb rb k v R q2 sv lv2 N R2 w5) {j : Nat} (hj : j < R.length) :
    ∃ bx cx bs cs bl cl Ap cp Aq cq, ∃ r : RwV, v = .slice (some ⟨bx, 0, none⟩) R.length cx ∧ sv = .slice (some ⟨bs, 0, none⟩) N.length cs ∧ lv2 = .slice (some ⟨bl, 0, none⟩) R2.length cl ∧
      w5.cell? ⟨bx, j * 2, none⟩ = some (.string (B8 r.nm)) ∧ w5.cell? ⟨bx, j * 2 + 1, none⟩ = some (.slice Ap r.pts.length cp) ∧ w5.cell? ⟨bs, j, none⟩ = some (.string (B8 r.nm)) ∧ w5.cell? ⟨bl, j, none⟩ = some (.slice Aq r.pts.length cq) ∧
      w5.cell? ⟨q2, 0, none⟩ = some sv ∧ w5.cell? ⟨q2, 1, none⟩ = some lv2 ∧ Rd w5 w5.heap.size 2 Ap r.pts.length (ptsC r.pts) ∧ Rd w5 w5.heap.size 2 Aq r.pts.length (ptsC r.pts) ∧ r ∈ R := by
  obtain ⟨l1, l2⟩ := h.is.len
  have hal : (rwA R).length = R.length := by unfold rwA; rw [List.length_map]
  obtain ⟨bx, cx, hv, _, _⟩ := own_some h.rows.1 (by omega)
  obtain ⟨bs, cs, hs, _, _⟩ := own_some h.st.nms (by omega)
  obtain ⟨bl, cl, hl, _, _⟩ := own_some h.st.rows (by omega)
  have h1 := h.rows.1; have h2 := h.st.nms; have h3 := h.st.rows
  rw [hv] at h1; rw [hs] at h2; rw [hl] at h3
  obtain ⟨b1, o1, r, e1, _, hr, c0, c1⟩ := (show Rd w5 w5.heap.size 2 (some ⟨bx, 0, none⟩) R.length (R.flatMap fun r => [.string (B8 r.nm), r.v]) from Rd.of_own h1).at2 hj
  injection e1 with e1
  injection e1 with e1 e2
  subst e1; subst e2
  obtain ⟨b2, o2, s2, e1, _, hs2, d0⟩ := (Rd.of_own h2).at1 (k := j) (by omega)
  injection e1 with e1
  injection e1 with e1 e2
  subst e1; subst e2
  obtain ⟨b3, o3, r2, e1, _, hr2, f0⟩ := (Rd.of_own h3).at1 (k := j) (by omega)
  injection e1 with e1
  injection e1 with e1 e2
  subst e1; subst e2
  have hnm : s2 = r.nm := by
    have e := hs2
    rw [h.is.1] at e
    unfold rwA at e
    rw [List.getElem?_map, List.getElem?_map, hr] at e
    exact (Option.some.inj e).symm
  have hpt : r2.pts = r.pts := by
    have e := congrArg (fun l => l[j]?) h.is.2
    unfold rwA at e
    simp only [List.getElem?_map, hr, hr2] at e
    exact Option.some.inj e
  subst hnm
  obtain ⟨Ap, cp, hp, _, _, hp1⟩ := own_form (h.rows.2 r (List.mem_of_getElem? hr))
  obtain ⟨Aq, cq, hq, _, _, hq1⟩ := own_form (h.st.pts r2 (List.mem_of_getElem? hr2))
  rw [hp] at c1
  rw [hq] at f0
  rw [hpt] at f0 hq1
  rw [Nat.zero_add] at c0 c1 d0 f0
  exact ⟨bx, cx, bs, cs, bl, cl, Ap, cp, Aq, cq, r, hv, hs, hl, c0, c1, d0, f0, h.st.hd.cell 0, h.st.hd.cell 1, hp1, hq1, List.mem_of_getElem? hr⟩
end
set_option maxRecDepth 100000 in
set_option maxHeartbeats 8000000 in
theorem headActs_law {es : Nat → Addr} {B : Nat} (A : Option Addr) (n c : Nat) (l : List ActV) (w : World) (hS : Sents es B w) (hB : B = w.heap.size) (hA : Rd w w.heap.size 5 A n (actC l)) (hn : n ≤ 140737488351232) :
    Calls Tryz.prog 3 #[.slice A n c] w fun e w' => e = .returned (.bool true) ∧ Below w.heap.size w w' := by
  have hB0 : B ≤ w.heap.size := Nat.le_of_eq hB
  have Hck := Lib.hid (headed_any w hS.vl hB0)
  have HS := Lib.hid (fun W (hb : Below w.heap.size w W) => hS.below hb hB0)
  have HA := Lib.hid hA
  clear hS hB hA
  by_cases hn1 : 100 < n
  · have hn1' : (100 : Int) < n := by omega
    go_enter Tryz.func3, Tryz.ntmps3
    go_wp2_with fail
    refine (Hck.out).mono ?_
    rintro e w1 ⟨rfl, hb⟩
    have HB1 := Lib.hid hb; clear hb
    go_wp2
    go_ret
    exact ⟨rfl, HB1.out⟩
  have hn1' : ¬ (100 : Int) < n := by omega
  go_enter Tryz.func3, Tryz.ntmps3
  go_wp2_with fail
  refine (Hck.out).mono ?_
  rintro e w1 ⟨rfl, hb⟩
  have HB1 := Lib.hid hb; clear hb
  go_wp2_with fail
  refine (hnew_any _).mono ?_
  rintro e w2 ⟨q, mb, rfl, hH, hb⟩
  obtain ⟨rb, hrb⟩ : ∃ rb, rb = w2.heap.size := ⟨_, rfl⟩
  have H0 := Lib.hid (show Two w.heap.size (w2.alloc (.cells #[.slice none 0 0] 29)) (fun j => w1.heap.size ≤ j ∧ j < w2.heap.size) (fun j => j = rb) q mb rb (.map []) [] (.slice none 0 0) [] 0 from by
    have h1 := HB1.out.size
    have hb2 : Below w2.heap.size w2 (w2.alloc (.cells #[.slice none 0 0] 29)) := Below.alloc (Below.refl _ _) (Nat.le_refl _) _
    have h2 := hb.size
    refine ⟨hH.lt.below hb2, ⟨by rw [hrb]; exact Blk.new _ _ _, World.ownsRow_nil _ _ _ _, fun x hx => (by cases hx), rfl, fun k hk => (by cases hk), fun x hx => (by cases hx)⟩, rfl, fun j hj e => by omega, fun j hj => ⟨by omega, by simp; omega⟩, fun j hj => ⟨by omega, by simp; omega⟩, HRs.nil⟩)
  have HB2 := Lib.hid (show Below w.heap.size w (w2.alloc (.cells #[.slice none 0 0] 29)) from Below.alloc (Below.call HB1.out hb HB1.out.size) (Below.call HB1.out hb HB1.out.size).size _)
  clear hH hb
  go_wp2
  rw [← hrb]
  clear hrb
  go_loopw [6] (fun iv wr => ∃ (k : Nat) (F G : Nat → Prop) (D : DataW Unit) (HL : List HLn) (lv : Value) (RL : List RLn), k ≤ n ∧ iv = .int .i64 k ∧ Two w.heap.size wr F G q mb rb D HL lv RL k ∧ Below w.heap.size w wr) (fun iv _ => 101 - (intOf iv).toNat)
  case atStart => exact ⟨0, _, _, _, _, _, _, Nat.zero_le _, rfl, H0.out, HB2.out⟩
  case round =>
    obtain ⟨k, F, G, D, HL, lv, RL, hk, rfl, hT, hb⟩ := hrel
    have HT := Lib.hid hT; have HB := Lib.hid hb
    rename World => wo
    have hsz := hb.size
    clear hT hb
    by_cases hkn : k < n
    · have hkn' : (k : Int) < n := by omega
      obtain ⟨bb, off, y, hAe, had, hy, e0, e1, e2, e3, e4⟩ := (HA.out.below HB.out).atA hkn
      subst hAe
      have Hy := Lib.hid hy
      clear hy
      generalize hkd : B8 y.kd = sk at e0
      have Hkd := Lib.hid hkd
      by_cases hl : 200 < y.nm.length
      · have hl' : 200 < (B8 y.nm).size := by rw [B8_size]; exact hl
        generalize B8 y.nm = sn at e1 hl'
        clear hkd
        go_wp2
        go_ret
        exact ⟨rfl, Below.alloc HB.out hsz _⟩
      · have hl' : ¬ 200 < (B8 y.nm).size := by rw [B8_size]; exact hl
        have hl2 : y.nm.length ≤ 200 := by omega
        clear hkd
        generalize hsn : B8 y.nm = sn at e1 hl'
        have Hsn := Lib.hid hsn
        clear hsn
        go_upto_block 2 with fail
        have hba := Below.alloc (Below.refl wo.heap.size wo) (Nat.le_refl _) (.cells #[.string sk, .string sn, .int .i64 y.p.1, .int .u64 y.p.2, .int .i64 y.more] 34)
        have hblk := Blk.new wo 34 #[.string sk, .string sn, .int .i64 y.p.1, .int .u64 y.p.2, .int .i64 y.more]
        generalize hwa : wo.alloc (.cells #[.string sk, .string sn, .int .i64 y.p.1, .int .u64 y.p.2, .int .i64 y.more] 34) = wa at hba hblk
        have hta := HT.out.below hba
        have hfn : ∀ j, F j ∨ G j → j ≠ wo.heap.size := fun j hj e => by
          subst e
          rcases hj with h | h
          · have := (HT.out.tF _ h).2; omega
          · have := (HT.out.tG _ h).2; omega
        have hf1 := hblk.lt
        generalize hf : wo.heap.size = f at hblk hfn hf1
        have HTa := Lib.hid hta; have HBa := Lib.hid (HB.out.trans (hba.mono hsz)); have HK := Lib.hid hblk; have Hfn := Lib.hid hfn
        clear hba hblk hwa hta hfn hf e0 e1 e2 e3 e4
        have hwa : w.heap.size ≤ wa.heap.size := HBa.out.size
        go_cut [8, 9, 10, 11, 12] (fun s8 s9 s10 s11 s12 wx => ∃ (F2 G2 : Nat → Prop) (D2 : DataW Unit) (HL2 : List HLn) (lv2 : Value) (RL2 : List RLn), Two w.heap.size wx F2 G2 q mb rb D2 HL2 lv2 RL2 (k + 1) ∧ Below w.heap.size w wx)
        case first =>
          have c1 : wa.cell? ⟨f, 1, none⟩ = some (.string sn) := HK.out.cell 1
          have c2 : wa.cell? ⟨f, 2, none⟩ = some (.int .i64 y.p.1) := HK.out.cell 2
          have c3 : wa.cell? ⟨f, 3, none⟩ = some (.int .u64 y.p.2) := HK.out.cell 3
          have c4 : wa.cell? ⟨f, 4, none⟩ = some (.int .i64 y.more) := HK.out.cell 4
          by_cases hadd : sk = ⟨#[97, 100, 100]⟩
          · subst hadd
            have HWd := Lib.hid (show Fr (fun _ => False) wa wa.drew from Fr.drew (Fr.refl _ _))
            have HTd := Lib.hid (HTa.out.keep HWd.out)
            have HBd := Lib.hid (show Below w.heap.size w wa.drew from HBa.out.drew)
            have hk100 : k ≤ 1000 := by omega
            by_cases h0 : (hFault (absL HL) y.nm y.p).1 = 0
            · have Ha1 := Lib.hid (act_add1 HTd.out hk100 (HS.out _ HBd.out).vl (Nat.le_trans hB0 HBd.out.size) y.p hl2 h0)
              have Ha2 := Lib.hid (act_add2 HTd.out hk100 HBd.out.size y.p hl2 h0)
              rw [Hsn.out] at Ha1 Ha2
              have HKc := Lib.hid (fun W (hb : Blk W f 34 #[.string ⟨#[97, 100, 100]⟩, .string sn, .int .i64 y.p.1, .int .u64 y.p.2, .int .i64 y.more]) => show W.cell? ⟨f, 1, none⟩ = some (.string sn) ∧ W.cell? ⟨f, 2, none⟩ = some (.int .i64 y.p.1) ∧ W.cell? ⟨f, 3, none⟩ = some (.int .u64 y.p.2) from ⟨hb.cell 1, hb.cell 2, hb.cell 3⟩)
              have HKd := Lib.hid (show Blk wa.drew f 34 #[.string ⟨#[97, 100, 100]⟩, .string sn, .int .i64 y.p.1, .int .u64 y.p.2, .int .i64 y.more] from HK.out)
              have HK4 := Lib.hid (fun w4 (hm : Mid wa.drew F q mb HL y.nm y.p w4) => show Blk w4 f 34 #[.string ⟨#[97, 100, 100]⟩, .string sn, .int .i64 y.p.1, .int .u64 y.p.2, .int .i64 y.more] from by
                obtain ⟨_, _, _, _, hf⟩ := hm
                exact hf.blk HKd.out (fun h => Hfn.out f (.inl h) rfl))
              have HFx := Lib.hid (fun w5 (hq : Fin2 w.heap.size wa.drew q mb rb (k + 1) w5) => show Below w.heap.size w w5 from HBd.out.trans hq.2)
              have Hfl := Lib.hid (fun w5 (hq : Below w.heap.size w w5) => faulted2_any (es := es) .nilIface 0 (-1) 0 (-1) w5 (HS.out _ hq) (Nat.le_trans hB0 hq.size) ErrIs.nil rfl (.inl rfl))
              clear h0 c1 c2 c3 c4 hwa
              go_upto_region 21 with fail
              go_region_held3 (fun w' => w'.cell? ⟨f, 1, none⟩ = some (.string sn) ∧ w'.cell? ⟨f, 2, none⟩ = some (.int .i64 y.p.1) ∧ w'.cell? ⟨f, 3, none⟩ = some (.int .u64 y.p.2))
                (first | with_reducible exact HKc.out _ HKd.out | with_reducible exact HKc.out _ K4.out | with_reducible exact HKc.out _ K5.out | with_reducible exact HKc.out _ K6.out)
                (first
                  | (go_at_call 7; refine Ha1.out.mono ?_; rintro e w4 ⟨rfl, hm⟩; have HM := Lib.hid hm; have K4 := Lib.hid (HK4.out _ hm); clear hm)
                  | (go_at_call 8; refine (Ha2.out _ HM.out).mono ?_; rintro e w5 ⟨rfl, hq, hg⟩; have HQ := Lib.hid hq; have K5 := Lib.hid (hg.blk K4.out (fun h => Hfn.out f (.inr h) rfl)); clear hq hg)
                  | (go_at_call 6; refine (Hfl.out _ (HFx.out _ HQ.out)).mono ?_; rintro e w6 ⟨rfl, hb⟩; have HQ6 := Lib.hid (HQ.out.below hb (HFx.out _ HQ.out).size); have K6 := Lib.hid (K5.out.below hb K5.out.lt); clear hb))
              all_goals
                go_wp2
                go_meet
                obtain ⟨⟨F2, G2, D2, HL2, lv2, RL2, h1⟩, h2⟩ := HQ6.out
                exact ⟨F2, G2, D2, HL2, lv2, RL2, h1, HBd.out.trans h2⟩
            · have hk1 : k ≤ 1000 := hk100
              have Ha1 := Lib.hid (act_bad1 HTd.out hk100 (HS.out _ HBd.out).vl (Nat.le_trans hB0 HBd.out.size) y.p hl2 h0)
              have Ha2 := Lib.hid (fun W (hb : Below wa.drew.heap.size wa.drew W) => act_bad2 (HTd.out.below hb) hk100 y.p hl2 h0)
              rw [Hsn.out] at Ha1 Ha2
              have HKc := Lib.hid (fun W (hb : Blk W f 34 #[.string ⟨#[97, 100, 100]⟩, .string sn, .int .i64 y.p.1, .int .u64 y.p.2, .int .i64 y.more]) => show W.cell? ⟨f, 1, none⟩ = some (.string sn) ∧ W.cell? ⟨f, 2, none⟩ = some (.int .i64 y.p.1) ∧ W.cell? ⟨f, 3, none⟩ = some (.int .u64 y.p.2) from ⟨hb.cell 1, hb.cell 2, hb.cell 3⟩)
              have HKd := Lib.hid (show Blk wa.drew f 34 #[.string ⟨#[97, 100, 100]⟩, .string sn, .int .i64 y.p.1, .int .u64 y.p.2, .int .i64 y.more] from HK.out)
              have Hfl := Lib.hid (fun v c w5 (hv : ErrIs es w5 v (c.1 : Int) c.2) (hq : Below w.heap.size w w5) => faulted2_any (es := es) v ((c : Nat × Int).1 : Int) c.2 (c.1 : Int) c.2 w5 (HS.out _ hq) (Nat.le_trans hB0 hq.size) hv rfl (.inr rfl))
              generalize hFault (absL HL) y.nm y.p = cc at Ha1 Ha2 h0
              clear h0 c1 c2 c3 c4 hwa
              go_upto_region 21 with fail
              go_region_held3 (fun w' => w'.cell? ⟨f, 1, none⟩ = some (.string sn) ∧ w'.cell? ⟨f, 2, none⟩ = some (.int .i64 y.p.1) ∧ w'.cell? ⟨f, 3, none⟩ = some (.int .u64 y.p.2))
                (first | with_reducible exact HKc.out _ HKd.out | with_reducible exact HKc.out _ K4.out | with_reducible exact HKc.out _ K5.out | with_reducible exact HKc.out _ K6.out)
                (first
                  | (go_at_call 7; refine Ha1.out.mono ?_; rintro e w4 ⟨v4, rfl, hev, hb⟩; have HE4 := Lib.hid hev; have B4 := Lib.hid hb; have K4 := Lib.hid (HKd.out.below hb HKd.out.lt); clear hev hb)
                  | (go_at_call 8; refine (Ha2.out _ B4.out).mono ?_; rintro e w5 ⟨rfl, hb⟩; have B5 := Lib.hid (Below.call B4.out hb B4.out.size); have HE5 := Lib.hid (HE4.out.below hb (Nat.le_refl _)); have K5 := Lib.hid (K4.out.below hb K4.out.lt); clear hb)
                  | (go_at_call 6; refine (Hfl.out _ _ _ (HE5.out.is (HS.out _ (HBd.out.trans (B5.out.mono HBd.out.size)))) (HBd.out.trans (B5.out.mono HBd.out.size))).mono ?_; rintro e w6 ⟨rfl, hb⟩; have B6 := Lib.hid (Below.call B5.out hb B5.out.size); have K6 := Lib.hid (K5.out.below hb K5.out.lt); clear hb))
              all_goals
                go_wp2
                go_meet
                exact ⟨F, G, D, HL, lv, RL, (HTd.out.below B6.out).skip, HBd.out.trans (B6.out.mono HBd.out.size)⟩
          · have ka := kd_ne Hkd.out (l := [97, 100, 100]) hadd
            by_cases hcut2 : sk = ⟨#[99, 117, 116]⟩
            · subst hcut2
              have hk100 : k ≤ 1000 := by omega
              have hkc : Blk wa f 34 #[.string ⟨#[99, 117, 116]⟩, .string sn, .int .i64 y.p.1, .int .u64 y.p.2, .int .i64 y.more] := HK.out
              have HKd := Lib.hid hkc
              go_wp2_with fail
              refine (act_cut1 HTa.out hk100 (HS.out _ HBa.out).vl hB0 HBa.out.size y.p.1).mono ?_
              rintro e w4 ⟨v4, ev4, R, rfl, hm, hr0, hr1⟩
              have K4 := Lib.hid (show Blk w4 f 34 #[.string ⟨#[99, 117, 116]⟩, .string sn, .int .i64 y.p.1, .int .u64 y.p.2, .int .i64 y.more] from by
                obtain ⟨_, _, _, hf, _⟩ := hm
                exact hf.blk HKd.out (fun h => Hfn.out f (.inl h) rfl))
              have d2 : w4.cell? ⟨f, 2, none⟩ = some (.int .i64 y.p.1) := K4.out.cell 2
              have HM := Lib.hid hm; have HR0 := Lib.hid hr0; have HR1 := Lib.hid hr1
              clear hm hr0 hr1 hkc
              go_wp2_with fail
              refine (act_cut2 HTa.out hk100 HBa.out.size y.p.1 v4 R w4 HM.out).mono ?_
              rintro e w5 ⟨q2, sv, lv2, N, R2, rfl, hq, hg⟩
              have HQ := Lib.hid hq
              have HB5 := Lib.hid (HBa.out.trans hq.two.2)
              have hnl := hq.is.len
              have hrl : (rwA R).length = R.length := by unfold rwA; rw [List.length_map]
              have hw5 : w.heap.size ≤ w5.heap.size := HB5.out.size
              have hRn : R.length ≤ 60 := by
                obtain ⟨_, _, _, _, _, h5⟩ := HM.out
                rw [← hrl, h5]
                unfold hCutR
                rw [List.length_map]
                exact Nat.le_trans (List.length_filter_le _ _) HTa.out.st.len
              obtain ⟨As, cs, hsv, _, _, _⟩ := own_form hq.st.nms
              have q0 : w5.cell? ⟨q2, 0, none⟩ = some (.slice As N.length cs) := by rw [← hsv]; exact hq.st.hd.cell 0
              have hNR : N.length = R.length := by rw [hnl.1, hrl]
              rw [hNR] at q0
              by_cases hR : R = []
              · obtain ⟨rfl, rfl⟩ := HR0.out hR
                have hR0 : R.length = 0 := by rw [hR]; rfl
                rw [hR0] at q0
                have Hcd := Lib.hid (coded2_any (es := es) (sentV (es 4)) 5 (-1) 5 w5 (HS.out _ HB5.out) (Nat.le_trans hB0 HB5.out.size) (ErrIs.sent (k := 4) (HS.out _ HB5.out) (by decide)))
                clear hnl hrl hNR hR hR0 hsv hg hq
                go_wp2_with fail
                refine Hcd.out.mono ?_
                rintro e w6 ⟨rfl, hb⟩
                have HQ6 := Lib.hid (HQ.out.two.below hb hw5)
                clear hb
                go_wp2
                go_roundw
                case rel =>
                  obtain ⟨⟨F2, G2, D2, HL2, lv2, RL2, h1⟩, h2⟩ := HQ6.out
                  exact ⟨k + 1, F2, G2, D2, HL2, lv2, RL2, by omega, by go_num, h1, HBa.out.trans h2⟩
                case measure => simp [intOf]; omega
              · obtain rfl := HR1.out hR
                have hRp : 0 < R.length := List.length_pos_iff.2 hR
                obtain ⟨Ax, cx, hvx, _, _, _⟩ := own_form hq.rows.1
                subst hvx
                have hRpi : ¬ (R.length : Int) = 0 := by omega
                clear hnl hrl hNR hR hg hq hsv
                generalize hrn : R.length = rn at q0 hRn hRp hRpi
                have Hrn := Lib.hid hrn
                clear hrn
                have hRb : ((rn : Int) == 0) = false := by rw [beq_eq_false_iff_ne]; exact hRpi
                go_wp2
                go_loopw [11] (fun jv wr => ∃ j : Nat, j ≤ rn ∧ jv = .int .i64 j ∧ Below w5.heap.size w5 wr) (fun jv _ => 61 - (intOf jv).toNat)
                case atStart => exact ⟨0, Nat.zero_le _, rfl, Below.refl _ _⟩
                case round =>
                  obtain ⟨j, hj, rfl, hb⟩ := hrel
                  have HQr := Lib.hid (HQ.out.below hw5 hb)
                  have HBr := Lib.hid hb
                  have q0r := (hb.cell (p := ⟨q2, 0, none⟩) HQ.out.st.hd.lt).trans q0
                  have hszr := hb.size
                  clear hb
                  by_cases hjn : j < rn
                  · obtain ⟨bx, cx', bs, cs', bl, cl, Ap, cp, Aq, cq, r, g1, g2, g3, d0, d1, d3, d4, d5, d6, d7, d8, hrm⟩ := HQr.out.at (by rw [Hrn.out]; exact hjn)
                    have hl := HQr.out.is.len
                    have hrl : (rwA R).length = rn := by unfold rwA; rw [List.length_map, Hrn.out]
                    rw [hrl] at hl
                    rw [Hrn.out] at g1
                    injection g1 with g1 _ g1c
                    subst g1; subst g1c
                    rw [g2, hl.1] at d5
                    rw [g3, hl.2] at d6
                    have hm100 : r.pts.length ≤ 100000 := by
                      obtain ⟨_, _, _, _, _, h5⟩ := HM.out
                      have h6 : (r.nm, r.pts) ∈ hCutR (absL HL) y.p.1 := by rw [← h5]; exact List.mem_map.2 ⟨r, hrm, rfl⟩
                      unfold hCutR at h6
                      obtain ⟨z, hz, he⟩ := List.mem_map.1 h6
                      have hz2 := (List.mem_filter.1 hz).1
                      have e2 : hGone y.p.1 z.2.1 = r.pts := congrArg Prod.snd he
                      rw [← e2]
                      exact Nat.le_trans (gone_len _ _) (Nat.le_trans (cnt_le hz2) (Nat.le_trans HTa.out.st.cnt (by omega)))
                    have hjni : (j : Int) < (rn : Int) := by omega
                    generalize hml : r.pts.length = m at d1 d4 d7 d8 hm100
                    generalize B8 r.nm = st at d0 d3
                    have Hsp := Lib.hid (samePoints_eq Ap m cp Aq cq r.pts wr.drew d7 d8 hm100)
                    have HKd := Lib.hid (show (fun w' : World => w'.cell? ⟨bx, j * 2, none⟩ = some (.string st) ∧ w'.cell? ⟨bx, j * 2 + 1, none⟩ = some (.slice Ap m cp) ∧ w'.cell? ⟨bs, j, none⟩ = some (.string st) ∧ w'.cell? ⟨bl, j, none⟩ = some (.slice Aq m cq) ∧ w'.cell? ⟨q2, 0, none⟩ = some (.slice (some ⟨bs, 0, none⟩) rn cs') ∧ w'.cell? ⟨q2, 1, none⟩ = some (.slice (some ⟨bl, 0, none⟩) rn cl)) wr.drew from ⟨d0, d1, d3, d4, d5, d6⟩)
                    have HKb := Lib.hid (fun w6 (hb : Below wr.drew.heap.size wr.drew w6) => show (fun w' : World => w'.cell? ⟨bx, j * 2, none⟩ = some (.string st) ∧ w'.cell? ⟨bx, j * 2 + 1, none⟩ = some (.slice Ap m cp) ∧ w'.cell? ⟨bs, j, none⟩ = some (.string st) ∧ w'.cell? ⟨bl, j, none⟩ = some (.slice Aq m cq) ∧ w'.cell? ⟨q2, 0, none⟩ = some (.slice (some ⟨bs, 0, none⟩) rn cs') ∧ w'.cell? ⟨q2, 1, none⟩ = some (.slice (some ⟨bl, 0, none⟩) rn cl)) w6 from
                      ⟨cell_keep HKd.out.1 hb, cell_keep HKd.out.2.1 hb, cell_keep HKd.out.2.2.1 hb, cell_keep HKd.out.2.2.2.1 hb, cell_keep HKd.out.2.2.2.2.1 hb, cell_keep HKd.out.2.2.2.2.2 hb⟩)
                    clear g2 g3 d7 d8 hl hrl q0r hml q0 hrm
                    go_wp2_with fail
                    go_region_held3 (fun w' => w'.cell? ⟨bx, j * 2, none⟩ = some (.string st) ∧ w'.cell? ⟨bx, j * 2 + 1, none⟩ = some (.slice Ap m cp) ∧ w'.cell? ⟨bs, j, none⟩ = some (.string st) ∧ w'.cell? ⟨bl, j, none⟩ = some (.slice Aq m cq) ∧ w'.cell? ⟨q2, 0, none⟩ = some (.slice (some ⟨bs, 0, none⟩) rn cs') ∧ w'.cell? ⟨q2, 1, none⟩ = some (.slice (some ⟨bl, 0, none⟩) rn cl))
                      (first | with_reducible exact HKd.out | with_reducible exact HKb.out _ B6.out)
                      (first | (go_at_call 12; refine Hsp.out.mono ?_; rintro e w6 ⟨rfl, hb⟩; have B6 := Lib.hid hb; clear hb))
                    all_goals
                      go_wp2
                      go_roundw
                      case rel => exact ⟨j + 1, by omega, by go_num, Below.call HBr.out.drew B6.out hszr⟩
                      case measure => simp [intOf]; omega
                  · obtain rfl : j = rn := by omega
                    go_wp2
                    go_meet
                    obtain ⟨⟨F2, G2, D2, HL2, lv2, RL2, h1⟩, h2⟩ := HQr.out.two
                    exact ⟨F2, G2, D2, HL2, lv2, RL2, h1, HBa.out.trans h2⟩
            · have kc := kd_ne Hkd.out (l := [99, 117, 116]) hcut2
              go_upto_region 16 with fail
              go_cut [57] (fun s57 wx => ∃ tb : Bool, s57 = .bool tb ∧ wa = wx)
              case first =>
                go_wp2
                all_goals (go_meet; exact ⟨_, rfl, rfl⟩)
              case rest =>
              obtain ⟨tb, rfl, rfl⟩ := hcut
              go_upto_if 57 with fail
              go_cut [12] (fun s12 wx => ∃ tt : Int, s12 = .int .i64 tt ∧ wa = wx)
              case first =>
                cases tb
                · go_wp2
                  go_meet
                  exact ⟨_, rfl, rfl⟩
                · go_wp2
                  go_meet
                  exact ⟨_, rfl, rfl⟩
              case rest =>
                obtain ⟨tt, rfl, rfl⟩ := hcut
                have HWd := Lib.hid (show Fr (fun _ => False) wa wa.drew from Fr.drew (Fr.refl _ _))
                have HTd := Lib.hid (HTa.out.keep HWd.out)
                have HBd := Lib.hid (show Below w.heap.size w wa.drew from HBa.out.drew)
                have hps : (hPoints (absL HL) y.nm y.p.1 tt).length ≤ 100000 := Nat.le_trans (hPoints_len _ _ _ _) (Nat.le_trans HTd.out.st.cnt (by omega))
                have Ha1 := Lib.hid (hpoints_any y.nm y.p.1 tt wa.drew (by omega) HTd.out.hH (fun x hx => Nat.le_trans (HTd.out.hp x hx) (by omega)))
                have Ha2 := Lib.hid (fun W (hb : Below wa.drew.heap.size wa.drew W) => rpoints_any y.nm y.p.1 tt W (HTd.out.below hb).hR (Nat.le_trans HTd.out.rl (by decide)) (fun x hx => Nat.le_trans (HTd.out.rp x hx) (by omega)))
                rw [Hsn.out] at Ha1 Ha2
                rw [HTd.out.eq] at Ha2
                generalize hPoints (absL HL) y.nm y.p.1 tt = ps at Ha1 Ha2 hps
                generalize hpn : ps.length = pn at Ha1 Ha2 hps
                have HKc := Lib.hid (fun W (hb : Blk W f 34 #[.string sk, .string sn, .int .i64 y.p.1, .int .u64 y.p.2, .int .i64 y.more]) => show W.cell? ⟨f, 1, none⟩ = some (.string sn) ∧ W.cell? ⟨f, 2, none⟩ = some (.int .i64 y.p.1) from ⟨hb.cell 1, hb.cell 2⟩)
                have HKd := Lib.hid (show Blk wa.drew f 34 #[.string sk, .string sn, .int .i64 y.p.1, .int .u64 y.p.2, .int .i64 y.more] from HK.out)
                clear c3 c4 hwa ka kc hpn
                go_wp2_with fail
                go_region_held3 (fun w' => w'.cell? ⟨f, 1, none⟩ = some (.string sn) ∧ w'.cell? ⟨f, 2, none⟩ = some (.int .i64 y.p.1))
                  (first | with_reducible exact HKc.out _ HKd.out | with_reducible exact HKc.out _ K4.out | with_reducible exact HKc.out _ K5.out | with_reducible exact HKc.out _ K6.out)
                  (first
                    | (go_at_call 13; refine Ha1.out.mono ?_; rintro e w4 ⟨v4, rfl, hown, hb⟩; obtain ⟨A4, c4, rfl, _, _, hr⟩ := own_form hown; have R4 := Lib.hid hr; have B4 := Lib.hid hb; have K4 := Lib.hid (HKd.out.below hb HKd.out.lt); clear hown hr hb)
                    | (go_at_call 14; refine (Ha2.out _ B4.out).mono ?_; rintro e w5 ⟨v5, rfl, hown, hb⟩; obtain ⟨A5, c5, rfl, _, _, hr⟩ := own_form hown; have R5 := Lib.hid hr; have R45 := Lib.hid ((R4.out.below hb).more hb.size); have B5 := Lib.hid (Below.call B4.out hb B4.out.size); have K5 := Lib.hid (K4.out.below hb K4.out.lt); clear hown hr hb)
                    | (go_at_call 12; refine (samePoints_eq A4 pn c4 A5 c5 ps _ R45.out R5.out hps).mono ?_; rintro e w6 ⟨rfl, hb⟩; have B6 := Lib.hid (Below.call B5.out hb B5.out.size); have K6 := Lib.hid (K5.out.below hb K5.out.lt); clear hb))
                all_goals
                  go_wp2
                  go_meet
                  exact ⟨F, G, D, HL, lv, RL, (HTd.out.below B6.out).skip, HBd.out.trans (B6.out.mono HBd.out.size)⟩
        case rest =>
          obtain ⟨F2, G2, D2, HL2, lv2, RL2, hT2, hb2⟩ := hcut
          have HT2 := Lib.hid hT2; have HB2 := Lib.hid hb2
          clear hT2 hb2 HT HK Hfn
          have Hcn := Lib.hid (show hCnt HL2 = hCount (absL HL2) by rw [hCount_of])
          have Hcr := Lib.hid (show hCount (absR RL2) = hCount (absL HL2) by rw [HT2.out.eq])
          have hcn := HT2.out.st.cnt
          have H1 := Lib.hid (hcount_any _ HT2.out.hH (by rw [Hcn.out]; omega))
          rw [Hcn.out] at H1
          generalize hcc : hCount (absL HL2) = cc at hcn H1 Hcr
          go_wp2_with fail
          refine H1.out.mono ?_
          rintro e w3 ⟨rfl, hb⟩
          have HT3 := Lib.hid (HT2.out.below hb); have HB3 := Lib.hid (Below.call HB2.out hb HB2.out.size)
          have H2 := Lib.hid (rcount_any _ HT3.out.hR (Nat.le_trans HT3.out.rl (by decide)) (by rw [Hcr.out]; omega))
          rw [Hcr.out] at H2
          clear hb H1 hcc
          go_wp2_with fail
          refine H2.out.mono ?_
          rintro e w4 ⟨rfl, rfl⟩
          clear H2
          go_wp2_with fail
          refine (hseries_any _ HT3.out.hH (Nat.le_trans HT3.out.hl (by decide)) (fun x hx => Nat.le_trans (HT3.out.hn x hx) (by decide))).mono ?_
          rintro e w4 ⟨v4, rfl, hown4, hb⟩
          have HT4 := Lib.hid (HT3.out.below hb); have HB4 := Lib.hid (Below.call HB3.out hb HB3.out.size)
          rw [← hSeries_of] at hown4
          obtain ⟨A4, c4, rfl, _, _, hrd4⟩ := own_form hown4
          have Hr4 := Lib.hid hrd4
          clear hown4 hrd4 hb
          go_wp2_with fail
          refine (rseries_any _ HT4.out.hR (Nat.le_trans HT4.out.rl (by decide))).mono ?_
          rintro e w5 ⟨v5, rfl, hown5, hb⟩
          have HT5 := Lib.hid (HT4.out.below hb); have HB5 := Lib.hid (Below.call HB4.out hb HB4.out.size)
          rw [HT4.out.eq] at hown5
          obtain ⟨A5, c5, rfl, _, _, hrd5⟩ := own_form hown5
          have Hr5 := Lib.hid hrd5
          have Hr4' := Lib.hid ((Hr4.out.below hb).more hb.size)
          clear hown5 hrd5 hb
          go_wp2_with fail
          refine (sameTexts_eq A4 _ c4 A5 c5 _ _ Hr4'.out Hr5.out (by
            unfold hSeries
            rw [List.length_map]
            exact Nat.le_trans (List.length_filter_le _ _) (Nat.le_trans HT5.out.st.len (by decide)))).mono ?_
          rintro e w6 ⟨rfl, hb⟩
          have HT6 := Lib.hid (HT5.out.below hb); have HB6 := Lib.hid (Below.call HB5.out hb HB5.out.size)
          clear hb
          go_wp2
          go_roundw
          case rel => exact ⟨k + 1, F2, G2, D2, HL2, lv2, RL2, by omega, by go_num, HT6.out, HB6.out⟩
          case measure => simp [intOf]; omega
    · obtain rfl : k = n := by omega
      go_wp2
      go_ret
      exact ⟨rfl, HB.out⟩
end Go.Proofs.YtfnjgminbjopeaaGreatDoor
