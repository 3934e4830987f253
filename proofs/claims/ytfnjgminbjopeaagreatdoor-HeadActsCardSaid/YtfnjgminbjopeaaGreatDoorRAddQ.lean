/- The reference's head: Add. -/
import Derived.Test.YtfnjgminbjopeaaGreatDoorRFaultQ
import Derived.Test.YtfnjgminbjopeaaGreatDoorRAddNQ
import Derived.Test.YtfnjgminbjopeaaGreatDoorHeadAddQ
namespace Go.Proofs.YtfnjgminbjopeaaGreatDoor
open Go.RowKit
set_option linter.unusedVariables false

def RAPost (G : Nat → Prop) (b : Nat) (L : List RLn) (s : Bs) (p : Int × Int) (w : World) (e : Ending) (w' : World) : Prop :=
  e = .returned (fV (hFault (absR L) s p)) ∧ ((hFault (absR L) s p).1 ≠ 0 → Below w.heap.size w w') ∧
  ((hFault (absR L) s p).1 = 0 → ∃ lv' L', RefAt w' (fun k => G k ∨ w.heap.size ≤ k) b lv' L' ∧ absR L' = hAdd (absR L) s p ∧ Fr G w w')
theorem res_ra (tmps : Array Value) (W : World) (b : Nat) (v0 v1 : Value) (ha : tmps.getD 6 undef = .pointer (some ⟨b, 0, none⟩)) (hB : Blk W b 40 #[v0, v1]) :
    (results Tryz.f8 tmps).run Tryz.prog W = .ok (.agg #[v0, v1]) W := by
  obtain ⟨z0, z1⟩ := hB.duo2
  simp only [Array.getD_eq_getD_getElem?] at ha
  simp [results, Tryz.results8, go_sem, ha, z0, z1]

set_option maxRecDepth 100000 in
set_option maxHeartbeats 4000000 in
theorem radd_bad {G : Nat → Prop} {b : Nat} {lv : Value} {L : List RLn} (s : Bs) (p : Int × Int) (w : World) (hs : s.length ≤ 100000) (hR : RefAt w G b lv L) (hL : L.length ≤ 1000) (h0 : (hFault (absR L) s p).1 ≠ 0) :
    Calls Tryz.prog 8 #[.pointer (some ⟨b, 0, none⟩), .string (B8 s), .agg #[.int .i64 p.1, .int .u64 p.2]] w (RAPost G b L s p w) := by
  obtain ⟨f, hf⟩ : ∃ f, f = w.heap.size := ⟨_, rfl⟩
  have Hf := Lib.hid hf
  have hW : Below w.heap.size w ((w.alloc (.cells #[.int .i64 p.1, .int .u64 p.2] 32)).alloc (.cells #[.int .i64 0, .int .i64 0] 40)) := by go_grown
  have Hfl := Lib.hid (rfault_any s p _ hs (hR.below hW) hL)
  have H0 := Lib.hid h0
  have qf := Blk.new (w.alloc (.cells #[.int .i64 p.1, .int .u64 p.2] 32)) 40 #[.int .i64 0, .int .i64 0]
  rw [World.size_alloc, ← hf] at qf
  have HW := Lib.hid hW; have QF := Lib.hid qf
  have hfw := hW.size
  clear hR h0 hW qf
  generalize hc : hFault (absR L) s p = c at Hfl H0
  have Hc := Lib.hid hc
  clear hc
  obtain ⟨c1, c2⟩ := c
  unfold fV at Hfl
  dsimp only at Hfl H0
  have h0' : (0 : Int) < (c1 : Int) := by have : c1 ≠ 0 := H0.out; omega
  obtain ⟨t, bt⟩ := p
  dsimp only at Hfl HW QF hfw ⊢
  go_enter Tryz.func8, Tryz.ntmps8
  go_wp2_with fail
  refine Hfl.out.mono ?_
  rintro e w2 ⟨rfl, hb⟩
  have QF2 := Lib.hid (QF.out.below hb QF.out.lt); have HB2 := Lib.hid (Below.call HW.out hb hfw)
  have z0 : w2.cell? ⟨f + 1, 0, none⟩ = some (.int .i64 0) := QF2.out.cell 0
  have z1 : w2.cell? ⟨f + 1, 1, none⟩ = some (.int .i64 0) := QF2.out.cell 1
  have za := QF2.out.frozen 0; have zb := QF2.out.frozen 1
  have hf2 : f + 1 < w2.heap.size := QF2.out.lt
  rw [← hf]
  clear hb hf
  go_wp2
  (try simp only [Exit.inBlock, Exit.then])
  have HB3 := (((QF2.out.set_ 0 (.int .i64 (c1 : Int))).set_ 1 (.int .i64 c2)).alloc (.cells #[.int .i64 (c1 : Int), .int .i64 c2] 40))
  refine bodyPost_ret (res_ra _ _ (f + 1) _ _ rfl HB3) rfl ?_
  have hs2 := HB2.out.size
  refine ⟨by rw [Hc.out]; rfl, fun _ => ?_, fun h => absurd (by rw [Hc.out] at h; exact h) H0.out⟩
  exact Below.alloc ((HB2.out.setCell (p := ⟨f + 1, 0, none⟩) (by rw [Hf.out]; exact Nat.le_succ _) (.int .i64 (c1 : Int))).setCell (p := ⟨f + 1, 1, none⟩) (by rw [Hf.out]; exact Nat.le_succ _) (.int .i64 c2)) (by simpa using hs2) _
theorem own_hi {v' : Value} {z : Nat} {o : Option Nat} {u : Nat} (hat : v'.ownBlock = o ∨ v'.ownBlock = some u) (h1 : ∀ j, o = some j → z ≤ j) (h2 : z ≤ u) : ∀ j, v'.ownBlock = some j → z ≤ j := by
  intro j hj
  rcases hat with h | h
  · exact h1 j (h ▸ hj)
  · rw [h] at hj; injection hj with hj; omega
theorem hFault_zero {A : List HA} {s : Bs} {p : Int × Int} (h : (hFault A s p).1 = 0) : hFault A s p = (0, -1) := by
  unfold hFault at h ⊢
  by_cases h1 : (rdF s).1 ≠ 0
  · rw [if_pos h1] at h; exact absurd h h1
  · rw [if_neg h1] at h ⊢
    by_cases h2 : tickB p.1 = false
    · rw [if_pos h2] at h; cases h
    · rw [if_neg h2] at h ⊢
      cases hf : hFind A s with
      | some x =>
        rw [hf] at h
        dsimp only at h ⊢
        by_cases h3 : p.1 ≤ x.2.2
        · rw [if_pos h3] at h; cases h
        · rw [if_neg h3]
      | none =>
        rw [hf] at h
        dsimp only at h ⊢
        by_cases h3 : 60 ≤ A.length
        · rw [if_pos h3] at h; cases h
        · rw [if_neg h3]

theorem radd_done {G G3 : Nat → Prop} {w w3 wa : World} {b k n f g cap : Nat} {lv v' : Value} {L : List RLn} {x : RLn} {s : Bs} {t bt : Int} (hR3 : RefAt w3 G3 b lv L) (hG3 : ∀ k, G3 k → (G k ∧ k < w.heap.size) ∨ f + 2 ≤ k) (hF3 : Fr G w w3) (hf : f = w.heap.size) (hsz : f + 2 ≤ w3.heap.size) (hQF : Blk w3 (f + 1) 40 #[.int .i64 0, .int .i64 0])
    (hk : L[k]? = some x) (hq : Below w3.heap.size w3 wa) (hown : wa.ownsRow 0 32 2 v' (n + 1) (ptsC x.pts ++ [.int .i64 t, .int .u64 bt])) (hn : x.pts.length = n) (hat : ∀ j, v'.ownBlock = some j → w3.heap.size ≤ j) (hlv : lv = .slice (some ⟨g, 0, none⟩) L.length cap) :
    RefAt (((((wa.setCell ⟨g, k * 3, none⟩ (.string (B8 s))).setCell ⟨g, k * 3 + 1, none⟩ v').setCell ⟨g, k * 3 + 2, none⟩ (.int .i64 t)).setCell ⟨f + 1, 0, none⟩ (.int .i64 0)).setCell ⟨f + 1, 1, none⟩ (.int .i64 (-1))) (fun k => G k ∨ w.heap.size ≤ k) b lv (L.set k ⟨s, v', x.pts ++ [(t, bt)], t⟩) ∧
    Fr G w (((((wa.setCell ⟨g, k * 3, none⟩ (.string (B8 s))).setCell ⟨g, k * 3 + 1, none⟩ v').setCell ⟨g, k * 3 + 2, none⟩ (.int .i64 t)).setCell ⟨f + 1, 0, none⟩ (.int .i64 0)).setCell ⟨f + 1, 1, none⟩ (.int .i64 (-1))) ∧
    Blk (((((wa.setCell ⟨g, k * 3, none⟩ (.string (B8 s))).setCell ⟨g, k * 3 + 1, none⟩ v').setCell ⟨g, k * 3 + 2, none⟩ (.int .i64 t)).setCell ⟨f + 1, 0, none⟩ (.int .i64 0)).setCell ⟨f + 1, 1, none⟩ (.int .i64 (-1))) (f + 1) 40 #[.int .i64 0, .int .i64 (-1)] := by
  have hRa : RefAt wa (fun k => G3 k ∨ w3.heap.size ≤ k) b lv L := (hR3.below hq).mono (fun k h => .inl h)
  have hpl : (ptsC (x.pts ++ [(t, bt)])) = ptsC x.pts ++ [.int .i64 t, .int .u64 bt] := by simp [ptsC]
  obtain ⟨h1, h2⟩ := ref_store (y := ⟨s, v', x.pts ++ [(t, bt)], t⟩) hRa hk (by rw [hpl, List.length_append, hn]; exact hown) (fun j hj => .inr (hat j hj)) hlv
  have hGn : ∀ j, (G3 j ∨ w3.heap.size ≤ j) → j ≠ f + 1 := by
    intro j hj
    rcases hj with hj | hj
    · rcases hG3 j hj with ⟨_, h⟩ | h <;> omega
    · omega
  have hGt : ∀ j, (G3 j ∨ w3.heap.size ≤ j) → G j ∨ w.heap.size ≤ j := by
    intro j hj
    rcases hj with hj | hj
    · rcases hG3 j hj with ⟨h, _⟩ | h
      · exact .inl h
      · exact .inr (by omega)
    · exact .inr (by omega)
  have hQa := hQF.below hq (by omega)
  have hgf : g ≠ f + 1 := hGn g (by subst hlv; exact hRa.gl g rfl)
  have hQb := ((hQa.far (p := ⟨g, k * 3, none⟩) (fun e => hgf e.symm) (.string (B8 s))).far (p := ⟨g, k * 3 + 1, none⟩) (fun e => hgf e.symm) v').far (p := ⟨g, k * 3 + 2, none⟩) (fun e => hgf e.symm) (.int .i64 t)
  have hz := Fr.setCell (S := fun j => j = f + 1) (Fr.setCell (S := fun j => j = f + 1) (Fr.refl (fun j => j = f + 1) (((wa.setCell ⟨g, k * 3, none⟩ (.string (B8 s))).setCell ⟨g, k * 3 + 1, none⟩ v').setCell ⟨g, k * 3 + 2, none⟩ (.int .i64 t))) (p := ⟨f + 1, 0, none⟩) (.inr rfl) (.int .i64 0)) (p := ⟨f + 1, 1, none⟩) (.inr rfl) (.int .i64 (-1))
  refine ⟨(h1.fr hz (fun j hj => hGn j hj)).mono hGt, ?_, (hQb.set_ 0 (.int .i64 0)).set_ 1 (.int .i64 (-1))⟩
  have k1 : Fr (fun j => G j ∨ w.heap.size ≤ j) w3 wa := Fr.mono ⟨hq.os, hq.tape, hq.output, hq.size, fun i hi _ => hq.block i hi⟩ (S := fun _ => False) (fun _ _ h => h.elim)
  have k2 := k1.trans (h2.mono (fun i _ h => hGt i h)) (fun i _ h => h)
  have k3 := k2.trans (hz.mono (S' := fun j => G j ∨ w.heap.size ≤ j) (fun i _ h => .inr (by subst h; omega))) (fun i _ h => h)
  exact hF3.trans k3 (fun i hi h => h.elim (fun h => h) (fun h => by omega))

set_option maxRecDepth 100000 in
set_option maxHeartbeats 4000000 in
theorem radd_known {G : Nat → Prop} {b : Nat} {lv : Value} {L : List RLn} (s : Bs) (p : Int × Int) (w : World) (hs : s.length ≤ 100000) (hR : RefAt w G b lv L) (hL : L.length ≤ 1000) (hN : ∀ x ∈ L, x.pts.length ≤ 100000) (hsr : hSrt (absR L)) (h0 : (hFault (absR L) s p).1 = 0) (hix : rIx L s < L.length) :
    Calls Tryz.prog 8 #[.pointer (some ⟨b, 0, none⟩), .string (B8 s), .agg #[.int .i64 p.1, .int .u64 p.2]] w (RAPost G b L s p w) := by
  obtain ⟨f, hf⟩ : ∃ f, f = w.heap.size := ⟨_, rfl⟩
  have Hf := Lib.hid hf
  have hW : Below w.heap.size w ((w.alloc (.cells #[.int .i64 p.1, .int .u64 p.2] 32)).alloc (.cells #[.int .i64 0, .int .i64 0] 40)) := by go_grown
  have Hfl := Lib.hid (rfault_any s p _ hs (hR.below hW) hL)
  have hc := hFault_zero h0
  have Hc := Lib.hid hc
  rw [hc] at Hfl
  have qf := Blk.new (w.alloc (.cells #[.int .i64 p.1, .int .u64 p.2] 32)) 40 #[.int .i64 0, .int .i64 0]
  have qp := ((Blk.new w 32 #[.int .i64 p.1, .int .u64 p.2]).alloc (.cells #[.int .i64 0, .int .i64 0] 40))
  rw [World.size_alloc, ← hf] at qf
  rw [← hf] at qp
  have HW := Lib.hid hW; have QF := Lib.hid qf; have QP := Lib.hid qp
  have hfw := hW.size
  have HR := Lib.hid hR; have Hsr := Lib.hid hsr; have HN := Lib.hid hN
  obtain ⟨x, hx, hxm, hfx⟩ := rIx_get hix
  have Hx := Lib.hid hx; have Hxm := Lib.hid hxm; have Hxn := Lib.hid (rIx_at hx).1
  have Hab := Lib.hid (fun v => show absR (L.set (rIx L s) ⟨s, v, x.pts ++ [p], p.1⟩) = hAdd (absR L) s p by
    rw [absR_put hsr hx (rIx_at hx).1]
    unfold hAdd; rw [hfx])
  have hm := hN x hxm
  obtain ⟨i0, hi, hz0, hz1, hz2⟩ := info_parts infoPt
  have Hi := Lib.hid hi; have Hz0 := Lib.hid hz0; have Hz1 := Lib.hid hz1; have Hz2 := Lib.hid hz2
  have hlow := hR.hd.lt
  have Hfind := Lib.hid (fun W (hb : Below w.heap.size w W) => rfind_in s W (hR.below hb) hL hix)
  clear hR h0 hW qf qp hc hx hxm hfx hsr hN hi hz0 hz1 hz2
  unfold fV at Hfl
  dsimp only at Hfl
  obtain ⟨t, bt⟩ := p
  dsimp only at Hfl HW QF QP hfw Hab ⊢
  go_enter Tryz.func8, Tryz.ntmps8
  go_wp2_with fail
  refine Hfl.out.mono ?_
  rintro e w2 ⟨rfl, hb⟩
  have QF2 := Lib.hid (QF.out.below hb QF.out.lt); have QP2 := Lib.hid (QP.out.below hb QP.out.lt); have HB2 := Lib.hid (Below.call HW.out hb hfw)
  have hs2 := HB2.out.size
  rw [← hf]
  clear hb hf
  go_wp2_with fail
  have qg := Blk.new w2 40 #[.int .i64 0, .int .i64 (-1)]
  have qf3 := QF2.out.alloc (.cells #[.int .i64 0, .int .i64 (-1)] 40)
  have qp3 := QP2.out.alloc (.cells #[.int .i64 0, .int .i64 (-1)] 40)
  have hb3 := Below.alloc HB2.out hs2 (.cells #[.int .i64 0, .int .i64 (-1)] 40)
  have hf2 : f + 1 < w2.heap.size := QF2.out.lt
  generalize hw3 : w2.alloc (.cells #[.int .i64 0, .int .i64 (-1)] 40) = w3 at qg qf3 qp3 hb3
  generalize w2.heap.size = gg at qg hf2
  refine (Hfind.out _ hb3).mono ?_
  rintro e w' ⟨rfl, rfl⟩
  have hR3 := HR.out.below hb3
  have QG3 := Lib.hid qg; have QF3 := Lib.hid qf3; have QP3 := Lib.hid qp3; have HB3 := Lib.hid hb3; have HR3 := Lib.hid hR3
  obtain ⟨g, cap, hlv, _, hglt⟩ := own_some hR3.rows (by omega)
  have z2 : w3.cell? ⟨b, 0, none⟩ = some lv := hR3.hd.cell 0
  rw [hlv] at z2
  obtain ⟨bl, o, y, hA, _, hy, e0, e1, e2⟩ := (Rd.of_own (by rw [← hlv]; exact hR3.rows)).at3r hix
  injection hA with hA
  injection hA with h1 h2
  subst h1; subst h2
  obtain rfl : y = x := Option.some.inj (hy.symm.trans Hx.out)
  obtain ⟨Ap, cp, hv, _, hcpm, hrp⟩ := own_form (hR3.pts y Hxm.out)
  rw [hv] at e1
  rw [Hxn.out] at e0
  rw [Nat.zero_add] at e0 e1 e2
  have Hlv := Lib.hid hlv; have Hrp := Lib.hid hrp
  have hs3 := hb3.size
  clear qg qf3 qp3 hb3 hR3 hlv hv hrp hy hw3
  generalize hml : y.pts.length = m at hm e1 Hrp
  generalize hixx : rIx L s = ix at hix e0 e1 e2 Hx Hab
  have Hml := Lib.hid hml
  clear hml hixx
  have hb4 := Below.alloc (Below.refl w3.heap.size w3) (Nat.le_refl _) (.cells #[.string (B8 s), .slice Ap m cp, .int .i64 y.last] 72)
  have H4rd := Lib.hid ((Hrp.out.alloc (Nat.le_refl _) (.cells #[.string (B8 s), .slice Ap m cp, .int .i64 y.last] 72)).more (show w3.heap.size ≤ (w3.alloc (.cells #[.string (B8 s), .slice Ap m cp, .int .i64 y.last] 72)).heap.size by simp))
  have HB4 := Lib.hid hb4
  have hk63 : 0 + m ≤ maxLen := by unfold maxLen; omega
  have hk8 : (0 + m) * 16 ≤ 140737488355328 := by omega
  clear hb4
  generalize hst : B8 s = st at *
  have Hst := Lib.hid hst
  clear hst
  go_wp2_with (at_builtin; refine wpList_append_rd _ rfl (.tmp 77) (.tmp 79) _ rfl (w3.heap.size + 1) 32 i0 (.agg #[.int .i64 0, .int .u64 0]) 2 16 Tryz.underlying52 Hi.out Hz0.out Hz1.out Hz2.out rfl (by decide) (.slice none 0 0) 0 [] rfl (World.ownsRow_nil _ _ _ _) _ Ap m cp (ptsC y.pts) rfl H4rd.out (ptsC_one _) hk63 hk8 (by simp) ?_; intro v5 w5 hown' hgr hat; rw [Nat.zero_add, List.nil_append] at hown'; have Hv5 := Lib.hid hown'; have Hb5 := Lib.hid (Below.grown HB4.out hgr (by simp) (fun g hg => by cases hg)); obtain ⟨A5, c5, rfl, _, _, _⟩ := own_form hown'; clear hown' hgr hat)
  have hbase : ∀ j, ownZB (.slice A5 m c5) = some j → w3.heap.size ≤ j ∧ j < w5.heap.size := fun j hj => by
    have := own_lt Hv5.out j (ownZB_le hj)
    exact ⟨by omega, this.2⟩
  have H4 := Lib.hid (fun W (hf : Fr (fun _ => False) w5 W) => show OwnZ W 32 2 (.slice A5 m c5) m (ptsC y.pts) from (OwnZ.of_own Hv5.out).fr hf (fun _ _ h => h))
  have Hq := Lib.hid (fun W wa (hf : Fr (fun _ => False) w5 W) (hgr : W.grownBy wa (ownZB (.slice A5 m c5))) => show Below w3.heap.size w3 wa from by
    have hfa : Fr (fun k => ownZB (.slice A5 m c5) = some k) w5 wa := (hf.mono (fun _ _ h => h.elim)).grown hgr (fun k hk => .inr hk)
    exact Hb5.out.trans (hfa.below Hb5.out.size (fun k hk e => by have := (hbase k e).1; omega)))
  have hgl : g < w3.heap.size := hglt
  have HFacts := Lib.hid (fun wa (hb : Below w3.heap.size w3 wa) => show wa.cell? ⟨f, 0, none⟩ = some (.int .i64 t) ∧ wa.cell? ⟨f, 1, none⟩ = some (.int .u64 bt) ∧ wa.cell? ⟨b, 0, none⟩ = some (.slice (some ⟨g, 0, none⟩) L.length cap) ∧
      wa.cell? ⟨g, ix * 3, none⟩ = some (.string st) ∧ wa.cell? ⟨g, ix * 3 + 1, none⟩ = some (.slice Ap m cp) ∧ wa.cell? ⟨g, ix * 3 + 2, none⟩ = some (.int .i64 y.last) ∧ (wa.frozen? ⟨g, ix * 3, none⟩ = false ∧ wa.frozen? ⟨g, ix * 3 + 1, none⟩ = false ∧ wa.frozen? ⟨g, ix * 3 + 2, none⟩ = false) ∧ 
      (wa.cell? ⟨gg, 0, none⟩ = some (.int .i64 0) ∧ wa.cell? ⟨gg, 1, none⟩ = some (.int .i64 (-1)) ∧ wa.cell? ⟨f + 1, 0, none⟩ = some (.int .i64 0) ∧ wa.cell? ⟨f + 1, 1, none⟩ = some (.int .i64 0) ∧ wa.frozen? ⟨f + 1, 0, none⟩ = false ∧ wa.frozen? ⟨f + 1, 1, none⟩ = false) ∧ w3.heap.size ≤ wa.heap.size from by
    have hrow := HR3.out.rows
    rw [Hlv.out] at hrow
    have hz := own_below hrow hb (Nat.le_refl _)
    have qa := QP3.out.below hb QP3.out.lt; have qb := QF3.out.below hb QF3.out.lt; have qc := QG3.out.below hb QG3.out.lt
    exact ⟨qa.cell 0, qa.cell 1, (hb.cell (p := ⟨b, 0, none⟩) HR3.out.hd.lt).trans z2, (hb.cell (p := ⟨g, ix * 3, none⟩) hgl).trans e0, (hb.cell (p := ⟨g, ix * 3 + 1, none⟩) hgl).trans e1, (hb.cell (p := ⟨g, ix * 3 + 2, none⟩) hgl).trans e2,
      ⟨hz.frozenAt _, hz.frozenAt _, hz.frozenAt _⟩, ⟨qc.cell 0, qc.cell 1, qb.cell 0, qb.cell 1, qb.frozen 0, qb.frozen 1⟩, hb.size⟩)
  have hgg1 : g ≠ gg := by
    have hrow := HR3.out.rows
    rw [Hlv.out] at hrow
    have := own_ne_blk hrow QG3.out (by decide)
    intro e; exact this (by rw [← e]; rfl)
  have hgg2 : g ≠ f + 1 := by
    have hrow := HR3.out.rows
    rw [Hlv.out] at hrow
    have := own_ne_blk hrow QF3.out (by decide)
    intro e; exact this (by rw [← e]; rfl)
  have hgg3 : g ≠ f := by
    have hrow := HR3.out.rows
    rw [Hlv.out] at hrow
    have := own_ne_blk hrow QP3.out (by decide)
    intro e; exact this (by rw [← e]; rfl)
  have hgg4 : g ≠ b := by
    have hrow := HR3.out.rows
    rw [Hlv.out] at hrow
    have := own_ne_blk hrow HR3.out.hd (by decide)
    intro e; exact this (by rw [← e]; rfl)
  have hff : f + 1 < w3.heap.size := QF3.out.lt
  have hggl : gg < w3.heap.size := QG3.out.lt
  have hbl : b < w3.heap.size := HR3.out.hd.lt
  have hw5 : w3.heap.size ≤ w5.heap.size := Hb5.out.size
  have hf5 : f < w5.heap.size := by omega
  have hf6 : f + 1 < w5.heap.size := by omega
  have hg5 : g < w5.heap.size := by omega
  have hg6 : gg < w5.heap.size := by omega
  have hb6 : b < w5.heap.size := by omega
  have hk63' : m + 1 ≤ maxLen := by unfold maxLen; omega
  have hk8' : (m + 1) * 16 ≤ 140737488355328 := by omega
  have hix' : (ix : Int) < L.length := by omega
  obtain ⟨a0, a1, a2, a3, a4, a5, ⟨a6, a7, a8⟩, ⟨a9, a10, a11, a12, a13, a14⟩, _⟩ := HFacts.out w5 Hb5.out
  have HDone := Lib.hid (fun wa v' (hq : Below w3.heap.size w3 wa) (hown : wa.ownsRow 0 32 2 v' (m + 1) (ptsC y.pts ++ [.int .i64 t, .int .u64 bt])) (hat : ∀ j, v'.ownBlock = some j → w3.heap.size ≤ j) => radd_done (G := G) (s := s) ((HR.out.lt).below HB3.out) (fun k h => .inl h) ((Fr.ofBelow HB3.out).mono (fun _ _ h => h.elim)) Hf.out (by omega) QF3.out Hx.out hq hown Hml.out hat Hlv.out)
  rw [Hst.out] at HDone
  have hgg1' : gg ≠ g := fun e => hgg1 e.symm
  have hgg2' : f + 1 ≠ g := fun e => hgg2 e.symm
  clear z2 e0 e1 e2
  go_wp2
  refine' (fun (key : Hid _) => ?main) (Lib.hid ?proof)
  case main =>
    go_region_law ((refine step_append_rz (by rfl) (.tmp 87) (.tmp 89) _ (by rfl) 32 i0 (.agg #[.int .i64 0, .int .u64 0]) 2 16 Tryz.underlying52 Hi.out Hz0.out Hz1.out Hz2.out (by rfl) (by decide) (.slice A5 m c5) m (ptsC y.pts) (by rfl) (H4.out _ (by repeat (first | exact Fr.refl _ _ | refine Fr.drew ?_ | refine Fr.alloc ?_ _))) _ (some ⟨w5.heap.size, 0, none⟩) 1 1 [.int .i64 t, .int .u64 bt] (by rfl) (rd_pt w5 (.int .i64 t) (.int .u64 bt)) (pt_one _ _) (by decide) hk63' hk8' ?_; intro v' wa hown' hgr hat hcap; obtain ⟨A2, c2, rfl, _, _, _⟩ := own_form hown'; have HQ := Lib.hid (Hq.out _ wa (by repeat (first | exact Fr.refl _ _ | refine Fr.drew ?_ | refine Fr.alloc ?_ _)) hgr); have HO := Lib.hid hown'; have HAt := Lib.hid (own_hi (z := w3.heap.size) hat (fun j hj => (hbase j hj).1) (by simp; omega)); clear hown' hat hcap hgr; obtain ⟨y0, y1, y2, y3, y4, y5, ⟨y6, y7, y8⟩, ⟨y9, y10, y11, y12, y13, y14⟩, y15⟩ := HFacts.out wa HQ.out))
    all_goals
      revert wa A2 c2
      exact key.out
  case proof =>
    intro wa A2 c2 _ _ _ HQ HO HAt y0 y1 y2 y3 y4 y5 y6 y7 y8 y15 y9 y10 y11 y12 y13 y14
    obtain ⟨E1, E2, E3⟩ := HDone.out wa _ HQ.out HO.out HAt.out
    have HE1 := Lib.hid E1; have HE2 := Lib.hid E2; have HE3 := Lib.hid E3
    clear E1 E2 E3 H4 Hq HFacts y0 y1 y2 y3 y4 y5 y6 y7 y8 a0 a1 a2 a3 a4 a5 a6 a7 a8 a9 a10 a11 a12 a13 a14 HDone Hfl Hfind
    go_wp2
    (try simp only [Exit.inBlock, Exit.then])
    refine bodyPost_ret (res_ra _ _ (f + 1) _ _ rfl HE3.out) rfl ?_
    exact ⟨by rw [Hc.out]; rfl, fun h => absurd (by rw [Hc.out]) h, fun _ => ⟨lv, _, HE1.out, Hab.out _, HE2.out⟩⟩
end Go.Proofs.YtfnjgminbjopeaaGreatDoor
