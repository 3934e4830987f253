/- The reference's head: Cut by its contract. -/
import Derived.Test.YtfnjgminbjopeaaGreatDoorRCutIQ
import Derived.BigRegion
namespace Go.Proofs.YtfnjgminbjopeaaGreatDoor
open Go.RowKit
set_option linter.unusedVariables false

/-- What the reference's Cut answers. -/
def RCPost (G : Nat → Prop) (b : Nat) (lv : Value) (L : List RLn) (bf : Int) (w : World) (e : Ending) (w' : World) : Prop :=
  ∃ L2 q sv lv2 N R, e = .returned (.pointer (some ⟨q, 0, none⟩)) ∧ RefAt w' (fun k => G k ∨ w.heap.size ≤ k) b lv L2 ∧ absR L2 = hCut (absR L) bf ∧ SetAt w' (fun k => w.heap.size ≤ k) q sv lv2 N R ∧ SetIs N R (hCutR (absR L) bf) ∧ Fr G w w'
structure RCInv (G : Nat → Prop) (b : Nat) (lv : Value) (L : List RLn) (bf : Int) (w : World) (q : Nat) (i : Nat) (wr : World) (L2 : List RLn) (sv lv2 : Value) (N : List Bs) (R : List PtV) : Prop where
  hd : RefAt wr (fun k => G k ∨ w.heap.size ≤ k) b lv L2
  ab : absR L2 = cutTo (absR L) bf i
  st : SetAt wr (fun k => w.heap.size ≤ k) q sv lv2 N R
  is : SetIs N R (hCutR ((absR L).take i) bf)
  fr : Fr G w wr
/-- In the midst of a round: gone and left stand, apart from all else. -/
structure RCMid (G : Nat → Prop) (b : Nat) (lv : Value) (L2 : List RLn) (w : World) (q : Nat) (wr : World) (sv lv2 : Value) (N : List Bs) (R : List PtV) (gv fv : Value) (gone left : List (Int × Int)) : Prop where
  hd : RefAt wr (fun k => G k ∨ w.heap.size ≤ k) b lv L2
  st : SetAt wr (fun k => w.heap.size ≤ k) q sv lv2 N R
  go : wr.ownsRow w.heap.size 32 2 gv gone.length (ptsC gone)
  le : wr.ownsRow w.heap.size 32 2 fv left.length (ptsC left)
  fr : Fr G w wr
theorem own_far {w w' : World} {S : Nat → Prop} {base n size : Nat} {e : TypeId} {v : Value} {xs : List Value} {T : List TypeId} (h : w.ownsRow base e size v n xs) (hf : Fr S w w') (hS : Strange S w T) (ht : e ∈ T) : w'.ownsRow base e size v n xs := hf.own h (hS.notOwn h ht)

theorem RCMid.name {G : Nat → Prop} {b : Nat} {lv : Value} {L2 : List RLn} {w : World} {q : Nat} {wi wa : World} {sv sv' lv2 : Value} {N : List Bs} {R : List PtV} {gv fv : Value} {gone left : List (Int × Int)} (h : RCMid G b lv L2 w q wi sv lv2 N R gv fv gone left) {s : Bs} (hf : Fr (fun k => sv.ownBlock = some k) wi wa) {base : Nat}
    (ho : wa.ownsRow base 9 1 sv' (N.length + 1) (txC N ++ [.string (B8 s)])) (hat : ∀ k, sv'.ownBlock = some k → w.heap.size ≤ k) : RCMid G b lv L2 w q (wa.setCell ⟨q, 0, none⟩ sv') sv' lv2 (N ++ [s]) R gv fv gone left := by
  obtain ⟨h1, h2⟩ := h.st.name hf ho hat
  have hS1 : Strange (fun k => sv.ownBlock = some k) wi [29, 72, 32] := Strange.own h.st.nms (by decide)
  have hS0 : Strange (fun k => sv.ownBlock = some k) wi [50] := Strange.own h.st.nms (by decide)
  have hS2 : Strange (fun k => k = q) wa [29, 72, 32] := Strange.blk (hf.blk h.st.hd (hS0.not h.st.hd (by simp))) (by decide)
  refine ⟨(h.hd.frT hf hS1).frT h2 hS2, h1, own_far (own_far h.go hf hS1 (by simp)) h2 hS2 (by simp), own_far (own_far h.le hf hS1 (by simp)) h2 hS2 (by simp), ?_⟩
  exact Fr.trans (Fr.trans h.fr hf (fun i hi e => absurd (h.st.gs i e) (by omega))) h2 (fun i hi e => absurd h.st.gh (by subst e; omega))
theorem RCMid.row {G : Nat → Prop} {b : Nat} {lv : Value} {L2 : List RLn} {w : World} {q : Nat} {wi wa : World} {sv lv2 lv' : Value} {N : List Bs} {R : List PtV} {gv fv : Value} {gone left : List (Int × Int)} (h : RCMid G b lv L2 w q wi sv lv2 N R gv fv gone left) (hf : Fr (fun k => lv2.ownBlock = some k) wi wa) {base : Nat}
    (ho : wa.ownsRow base 52 1 lv' (R.length + 1) ((R.map fun r => r.v) ++ [gv])) (hat : ∀ k, lv'.ownBlock = some k → w.heap.size ≤ k) : RCMid G b lv L2 w q (wa.setCell ⟨q, 1, none⟩ lv') sv lv' N (R ++ [⟨gv, gone⟩]) gv fv gone left := by
  obtain ⟨h1, h2⟩ := h.st.row (r := ⟨gv, gone⟩) hf ho hat h.go (fun k hk => (own_lt h.go k hk).1)
  have hS1 : Strange (fun k => lv2.ownBlock = some k) wi [29, 72, 32] := Strange.own h.st.rows (by decide)
  have hS0 : Strange (fun k => lv2.ownBlock = some k) wi [50] := Strange.own h.st.rows (by decide)
  have hS2 : Strange (fun k => k = q) wa [29, 72, 32] := Strange.blk (hf.blk h.st.hd (hS0.not h.st.hd (by simp))) (by decide)
  refine ⟨(h.hd.frT hf hS1).frT h2 hS2, h1, own_far (own_far h.go hf hS1 (by simp)) h2 hS2 (by simp), own_far (own_far h.le hf hS1 (by simp)) h2 hS2 (by simp), ?_⟩
  exact Fr.trans (Fr.trans h.fr hf (fun i hi e => absurd (h.st.gl i e) (by omega))) h2 (fun i hi e => absurd h.st.gh (by subst e; omega))
/-- The line is stored: a round is done. -/
theorem RCMid.done {G : Nat → Prop} {b : Nat} {lv : Value} {L L2 : List RLn} {bf : Int} {w : World} {q i : Nat} {wi : World} {sv lv2 : Value} {N : List Bs} {R : List PtV} {gv fv : Value} {y : RLn} {x : HA} {g n c : Nat} (h : RCMid G b lv L2 w q wi sv lv2 N R gv fv (hGone bf y.pts) (hLeft bf y.pts)) (hG : ∀ k, G k → k < w.heap.size)
    (hx : (absR L)[i]? = some x) (hyx : (y.nm, y.pts, y.last) = x) (hy : L2[i]? = some y) (hab : absR L2 = cutTo (absR L) bf i) (his : SetIs N R (hCutR ((absR L).take (i + 1)) bf)) (hlen : L2.length = n) (hv : lv = .slice (some ⟨g, 0, none⟩) n c) :
    RCInv G b lv L bf w q (i + 1) (((wi.setCell ⟨g, i * 3, none⟩ (.string (B8 y.nm))).setCell ⟨g, i * 3 + 1, none⟩ fv).setCell ⟨g, i * 3 + 2, none⟩ (.int .i64 y.last)) (L2.set i ⟨y.nm, fv, hLeft bf y.pts, y.last⟩) sv lv2 N R := by
  subst hlen
  obtain ⟨h1, h2⟩ := ref_store (y := ⟨y.nm, fv, hLeft bf y.pts, y.last⟩) h.hd hy (own_base h.le (Nat.zero_le _)) (fun j hj => .inr (own_lt h.le j hj).1) hv
  have hrows := h.hd.rows
  rw [hv] at hrows
  obtain ⟨cs, hc⟩ := own_typed hrows (show (Value.slice (some ⟨g, 0, none⟩) L2.length c).ownBlock = some g from rfl)
  refine ⟨h1, ?_, h.st.store hc _ _ _, his, Fr.trans h.fr h2 (fun k hk e => e.elim (fun e => e) (fun e => by omega))⟩
  rw [absR_set, hab]
  subst hyx
  exact cutTo_set hx
theorem RCMid.keep {G : Nat → Prop} {b : Nat} {lv : Value} {L2 : List RLn} {w : World} {q : Nat} {wi wj : World} {sv lv2 : Value} {N : List Bs} {R : List PtV} {gv fv : Value} {gone left : List (Int × Int)} (h : RCMid G b lv L2 w q wi sv lv2 N R gv fv gone left) (hf : Fr (fun _ => False) wi wj) : RCMid G b lv L2 w q wj sv lv2 N R gv fv gone left :=
  ⟨h.hd.fr hf (fun _ _ h => h), h.st.fr hf (fun _ _ h => h), hf.own h.go (fun _ _ h => h), hf.own h.le (fun _ _ h => h), Fr.trans h.fr hf (fun _ _ h => h.elim)⟩
theorem RCInv.keep {G : Nat → Prop} {b : Nat} {lv : Value} {L : List RLn} {bf : Int} {w : World} {q i : Nat} {wr wj : World} {L2 : List RLn} {sv lv2 : Value} {N : List Bs} {R : List PtV} (h : RCInv G b lv L bf w q i wr L2 sv lv2 N R) (hf : Fr (fun _ => False) wr wj) : RCInv G b lv L bf w q i wj L2 sv lv2 N R :=
  ⟨h.hd.fr hf (fun _ _ h => h), h.ab, h.st.fr hf (fun _ _ h => h), h.is, Fr.trans h.fr hf (fun _ _ h => h.elim)⟩
theorem own_hiB {w : World} {base B : Nat} {e : TypeId} {size n : Nat} {v : Value} {xs : List Value} (h : w.ownsRow base e size v n xs) (hb : ∀ k, v.ownBlock = some k → B ≤ k) : w.ownsRow B e size v n xs := by
  refine ⟨h.1, ?_⟩
  rcases h.2 with h1 | ⟨g, cap, cur, rfl, hg, rest⟩
  · exact .inl h1
  · exact .inr ⟨g, cap, cur, rfl, hb g rfl, rest⟩
theorem apart_symm {u v : Value} (h : u.ownBlock = none ∨ u.ownBlock ≠ v.ownBlock) : v.ownBlock = none ∨ v.ownBlock ≠ u.ownBlock := by
  rcases h with h | h
  · cases hv : v.ownBlock with
    | none => exact .inl rfl
    | some k => exact .inr (by rw [h]; simp)
  · exact .inr (fun e => h e.symm)
/-- One of two slices grows; the other stays. -/
theorem gl_step {w w1 w2 : World} {B size n m : Nat} {e e' : TypeId} {v v' u : Value} {xs ys zs : List Value} {size' : Nat} (hown : w2.ownsRow B e size v' n zs) (hgr : w1.grownBy w2 v.ownBlock) (hat : v'.ownBlock = v.ownBlock ∨ v'.ownBlock = some w1.heap.size)
    (hv : w1.ownsRow B e size v m xs) {k : Nat} (hu : w1.ownsRow B e' size' u k ys) (hap : v.ownBlock = none ∨ v.ownBlock ≠ u.ownBlock) (hb : Below B w w1) (hB : B ≤ w1.heap.size) :
    w2.ownsRow B e size v' n zs ∧ w2.ownsRow B e' size' u k ys ∧ (v'.ownBlock = none ∨ v'.ownBlock ≠ u.ownBlock) ∧ Below B w w2 := by
  refine ⟨hown, ?_, ?_, Below.grown hb hgr hB (fun g hg => (own_lt hv g hg).1)⟩
  · have hf : Fr (fun k => v.ownBlock = some k) w1 w2 := (Fr.refl _ w1).grown hgr (fun k hk => .inr hk)
    refine hf.own hu (fun k hk e => ?_)
    rcases hap with h | h
    · rw [h] at e; cases e
    · exact h (by rw [e, hk])
  · rcases hat with h | h
    · rw [h]; exact hap
    · right
      rw [h]
      intro e
      have := (own_lt hu _ e.symm).2
      omega
set_option maxRecDepth 100000 in
set_option maxHeartbeats 8000000 in
theorem rcut_any {G : Nat → Prop} {b : Nat} {lv : Value} {L : List RLn} (bf : Int) (w : World) (hR : RefAt w G b lv L) (hG : ∀ k, G k → k < w.heap.size) (hL : L.length ≤ 1000) (hN : ∀ x ∈ L, x.pts.length ≤ 100000) (hI : HInv (absR L)) :
    Calls Tryz.prog 10 #[.pointer (some ⟨b, 0, none⟩), .int .i64 bf] w (RCPost G b lv L bf w) := by
  obtain ⟨q, hq⟩ : ∃ q, q = w.heap.size := ⟨_, rfl⟩
  obtain ⟨i0, hi, hz0, hz1, hz2⟩ := info_parts infoPt
  have Hi := Lib.hid hi; have Hz0 := Lib.hid hz0; have Hz1 := Lib.hid hz1; have Hz2 := Lib.hid hz2
  obtain ⟨i1, hi1, hy0, hy1, hy2⟩ := info_parts infoTx
  have Hi1 := Lib.hid hi1; have Hy0 := Lib.hid hy0; have Hy1 := Lib.hid hy1; have Hy2 := Lib.hid hy2
  obtain ⟨i2, hi2, hx0, hx1, hx2⟩ := info_parts infoSl
  have Hi2 := Lib.hid hi2; have Hx0 := Lib.hid hx0; have Hx1 := Lib.hid hx1; have Hx2 := Lib.hid hx2
  have HN := Lib.hid hN; have HI := Lib.hid hI; have HG := Lib.hid hG
  obtain ⟨A, c, hlv, _, _, _⟩ := own_form hR.rows
  obtain ⟨n, hn⟩ : ∃ n, n = L.length := ⟨_, rfl⟩
  rw [← hn] at hlv hL
  have Hlv := Lib.hid hlv; have Hn := Lib.hid hn; have Hq := Lib.hid hq
  have H0 := Lib.hid (show RCInv G b lv L bf w q 0 (w.alloc (.cells #[.slice none 0 0, .slice none 0 0] 50)) L (.slice none 0 0) (.slice none 0 0) [] [] from by
    have hb : Below w.heap.size w (w.alloc (.cells #[.slice none 0 0, .slice none 0 0] 50)) := Below.alloc (Below.refl _ _) (Nat.le_refl _) _
    exact ⟨(hR.below hb).mono (fun _ h => .inl h), rfl, by rw [hq]; exact SetAt.new, ⟨rfl, rfl⟩, (Fr.ofBelow hb).mono (fun _ _ h => h.elim)⟩)
  clear hR hG hN hI hi hz0 hz1 hz2 hi1 hy0 hy1 hy2 hi2 hx0 hx1 hx2 hn hlv
  go_enter Tryz.func10, Tryz.ntmps10
  go_wp2
  rw [← hq]
  clear hq
  go_loopw [6] (fun iv wr => ∃ (i : Nat) (L2 : List RLn) (sv lv2 : Value) (N : List Bs) (R : List PtV), i ≤ n ∧ iv = .int .i64 i ∧ RCInv G b lv L bf w q i wr L2 sv lv2 N R) (fun iv _ => 1001 - (intOf iv).toNat)
  case atStart => exact ⟨0, _, _, _, _, _, Nat.zero_le _, rfl, H0.out⟩
  case round =>
    rename World => wo
    obtain ⟨i, L2, sv, lv2, N, R, hi, rfl, hC⟩ := hrel
    have HC := Lib.hid hC
    have z0 : wo.cell? ⟨b, 0, none⟩ = some (.slice A n c) := by rw [← Hlv.out]; exact hC.hd.hd.cell 0
    by_cases hin : i < n
    · have hlen : L2.length = n := by
        have h1 := congrArg List.length hC.ab
        rw [absR_len] at h1
        rw [h1, Hn.out, ← absR_len L]
        unfold cutTo hCut
        rw [List.length_append, List.length_take, List.length_map, List.length_drop]; omega
      obtain ⟨g, cap, hg, hgb, hgl⟩ := own_some hC.hd.rows (by omega)
      rw [Hlv.out] at hg
      injection hg with hgA hgn hgc
      clear hgn
      subst hgA
      subst hgc
      have hrows := hC.hd.rows
      rw [Hlv.out, hlen] at hrows
      obtain ⟨bl, o, y, hA, _, hy, e0, e1, e2⟩ := (Rd.of_own hrows).at3r hin
      injection hA with hA
      injection hA with h1 h2
      subst h1; subst h2
      rw [Nat.zero_add] at e0 e1 e2
      have hal : i < (absR L).length := by rw [absR_len, ← Hn.out]; exact hin
      have hax : (absR L)[i]? = some ((absR L)[i]'hal) := List.getElem?_eq_getElem hal
      obtain ⟨x, hx⟩ : ∃ x, x = (absR L)[i]'hal := ⟨_, rfl⟩
      rw [← hx] at hax
      have hya : (y.nm, y.pts, y.last) = x := by
        have h1 := cutTo_get (b := bf) hax
        rw [← hC.ab] at h1
        unfold absR at h1
        rw [List.getElem?_map, hy] at h1
        exact Option.some.inj h1
      have hyr := hC.hd.pts y (List.mem_of_getElem? hy)
      obtain ⟨Ap, cp, hv, _, hcp, hrp⟩ := own_form hyr
      rw [hv] at e1
      have hxm : x ∈ absR L := List.mem_of_getElem? hax
      have hpw := (HI.out x hxm).1
      have hym : y.pts.length ≤ 100000 := by
        obtain ⟨z, hz, hzx⟩ := List.mem_map.1 hxm
        have := HN.out z hz
        have e : y.pts = z.pts := by rw [← hya] at hzx; injection hzx with _ h; injection h with h _; exact h.symm
        rw [e]; exact this
      have Hax := Lib.hid hax; have Hya := Lib.hid hya; have Hrp := Lib.hid hrp
      have Hpw := Lib.hid (show y.pts.Pairwise fun p q => p.1 < q.1 by have := hpw; rw [← hya] at this; exact this)
      have Hfr0 := Lib.hid (show wo.frozen? ⟨g, i * 3, none⟩ = false ∧ wo.frozen? ⟨g, i * 3 + 1, none⟩ = false ∧ wo.frozen? ⟨g, i * 3 + 2, none⟩ = false from ⟨hrows.frozenAt _, hrows.frozenAt _, hrows.frozenAt _⟩)
      have hrows3 := Lib.hid hrows
      have Hy := Lib.hid hy; have Hlen := Lib.hid hlen
      have hbl : b < wo.heap.size := hC.hd.hd.lt
      have hwr : w.heap.size ≤ wo.heap.size := hC.fr.size
      clear hC hx hax hya hpw hrows hrp hyr hxm hy hlen hal hv
      generalize hml : y.pts.length = m at hym e1
      have Hml := Lib.hid hml
      rw [hml] at Hrp
      clear hml
      go_wp2
      go_loopw [7, 8, 9] (fun gv fv kv wr => ∃ k : Nat, k ≤ m ∧ kv = .int .i64 k ∧ wr.ownsRow wo.heap.size 32 2 gv ((y.pts.take k).filter fun p => decide (p.1 < bf)).length (ptsC ((y.pts.take k).filter fun p => decide (p.1 < bf))) ∧ wr.ownsRow wo.heap.size 32 2 fv ((y.pts.take k).filter fun p => !decide (p.1 < bf)).length (ptsC ((y.pts.take k).filter fun p => !decide (p.1 < bf))) ∧ (gv.ownBlock = none ∨ gv.ownBlock ≠ fv.ownBlock) ∧ Below wo.heap.size wo wr) (fun _ _ kv _ => 100001 - (intOf kv).toNat)
      case atStart => exact ⟨0, Nat.zero_le _, rfl, World.ownsRow_nil _ _ _ _, World.ownsRow_nil _ _ _ _, .inl rfl, Below.refl _ _⟩
      case round =>
        obtain ⟨k, hk, rfl, hgo, hfo, hap, hb⟩ := hrel
        have hsz := hb.size
        have z0' : wr.cell? ⟨b, 0, none⟩ = some (.slice (some ⟨g, 0, none⟩) n c) := (hb.cell (p := ⟨b, 0, none⟩) hbl).trans z0
        have e1' : wr.cell? ⟨g, i * 3 + 1, none⟩ = some (.slice Ap m cp) := (hb.cell (p := ⟨g, i * 3 + 1, none⟩) hgl).trans e1
        have Hgo := Lib.hid hgo; have Hfo := Lib.hid hfo; have HAp := Lib.hid hap; have HB := Lib.hid hb
        by_cases hkm : k < m
        · obtain ⟨bp, op, p, hAp, hbp, hp, f0, f1⟩ := (Hrp.out.below hb).at2 hkm
          subst hAp
          have Hp := Lib.hid hp
          have Hf1 := Lib.hid (filt_one (b := 0) hp (fun p => decide (p.1 < bf)))
          have Hf2 := Lib.hid (filt_one (b := 0) hp (fun p => !decide (p.1 < bf)))
          have hl1 : ((y.pts.take k).filter fun p => decide (p.1 < bf)).length ≤ 100000 := Nat.le_trans (List.length_filter_le _ _) (by rw [List.length_take]; omega)
          have hl2 : ((y.pts.take k).filter fun p => !decide (p.1 < bf)).length ≤ 100000 := Nat.le_trans (List.length_filter_le _ _) (by rw [List.length_take]; omega)
          have HrA := Lib.hid (rd_pt wr (.int .i64 p.1) (.int .u64 p.2))
          have HbA := Lib.hid (Below.alloc hb hsz (.cells #[.int .i64 p.1, .int .u64 p.2] 32))
          have HzA := Lib.hid (show wo.heap.size ≤ (wr.alloc (.cells #[.int .i64 p.1, .int .u64 p.2] 32)).heap.size by simp; omega)
          have HgA := Lib.hid (hgo.alloc (.cells #[.int .i64 p.1, .int .u64 p.2] 32))
          have HfA := Lib.hid (hfo.alloc (.cells #[.int .i64 p.1, .int .u64 p.2] 32))
          obtain ⟨Ag, cg, rfl, _, _, _⟩ := own_form hgo
          obtain ⟨Af, cf, rfl, _, _, _⟩ := own_form hfo
          clear hgo hfo hap hb hp
          generalize hg1 : ((y.pts.take k).filter fun p => decide (p.1 < bf)).length = lg at hl1 HgA HAp
          generalize hg2 : ((y.pts.take k).filter fun p => !decide (p.1 < bf)).length = lf at hl2 HfA HAp
          have Hg1 := Lib.hid hg1; have Hg2 := Lib.hid hg2
          clear hg1 hg2
          by_cases hpb : p.1 < bf
          · have hk63 : lg + 1 ≤ maxLen := by unfold maxLen; omega
            have hk8 : (lg + 1) * 16 ≤ 140737488355328 := by omega
            go_wp2_with (at_builtin; refine wpList_append_rd _ rfl (.tmp 48) (.tmp 60) _ rfl wo.heap.size 32 i0 (.agg #[.int .i64 0, .int .u64 0]) 2 16 Tryz.underlying52 Hi.out Hz0.out Hz1.out Hz2.out rfl (by decide) (.slice Ag lg cg) lg _ rfl HgA.out _ _ 1 1 [.int .i64 p.1, .int .u64 p.2] rfl HrA.out (pt_one _ _) hk63 hk8 HzA.out ?_; intro v' wa hown hgr hat; have HT := Lib.hid (gl_step hown hgr hat HgA.out HfA.out HAp.out HbA.out HzA.out); clear hown hgr hat)
            go_roundw
            case rel => exact ⟨k + 1, by omega, by go_num, by
              rw [Hf1.out, if_pos (by simpa using hpb), List.length_append, ptsC_snoc, Hg1.out]; exact HT.out.1, by
              rw [Hf2.out, if_neg (by simp [hpb]), List.append_nil, Hg2.out]; exact HT.out.2.1, HT.out.2.2.1, HT.out.2.2.2⟩
            case measure => simp [intOf]; omega
          · have hk63 : lf + 1 ≤ maxLen := by unfold maxLen; omega
            have hk8 : (lf + 1) * 16 ≤ 140737488355328 := by omega
            have HAp := Lib.hid (apart_symm HAp.out)
            go_wp2_with (at_builtin; refine wpList_append_rd _ rfl (.tmp 62) (.tmp 74) _ rfl wo.heap.size 32 i0 (.agg #[.int .i64 0, .int .u64 0]) 2 16 Tryz.underlying52 Hi.out Hz0.out Hz1.out Hz2.out rfl (by decide) (.slice Af lf cf) lf _ rfl HfA.out _ _ 1 1 [.int .i64 p.1, .int .u64 p.2] rfl HrA.out (pt_one _ _) hk63 hk8 HzA.out ?_; intro v' wa hown hgr hat; have HT := Lib.hid (gl_step hown hgr hat HfA.out HgA.out HAp.out HbA.out HzA.out); clear hown hgr hat)
            go_roundw
            case rel => exact ⟨k + 1, by omega, by go_num, by
              rw [Hf1.out, if_neg (by simp [hpb]), List.append_nil, Hg1.out]; exact HT.out.2.1, by
              rw [Hf2.out, if_pos (by simp [hpb]), List.length_append, ptsC_snoc, Hg2.out]; exact HT.out.1, apart_symm HT.out.2.2.1, HT.out.2.2.2⟩
            case measure => simp [intOf]; omega
        · obtain rfl : k = m := by omega
          have htk : y.pts.take k = y.pts := List.take_of_length_le (by rw [Hml.out]; exact Nat.le_refl _)
          obtain ⟨fg1, fg2⟩ := filt_gone (b := bf) Hpw.out
          rw [htk, fg1] at hgo
          rw [htk, fg2] at hfo
          obtain ⟨Ag, cg, rfl, _, _, _⟩ := own_form hgo
          obtain ⟨Af, cf, rfl, _, _, _⟩ := own_form hfo
          generalize hgl1 : (hGone bf y.pts).length = lg at hgo
          generalize hgl2 : (hLeft bf y.pts).length = lf at hfo
          have hlg : lg ≤ 100000 := by rw [← hgl1]; exact Nat.le_trans (gone_len bf y.pts) (by rw [Hml.out]; exact hym)
          have HM := Lib.hid (show RCMid G b lv L2 w q wr sv lv2 N R (.slice Ag lg cg) (.slice Af lf cf) (hGone bf y.pts) (hLeft bf y.pts) from
            ⟨HC.out.hd.below hb, HC.out.st.below hb, by rw [hgl1]; exact own_base hgo hwr, by rw [hgl2]; exact own_base hfo hwr, Fr.trans HC.out.fr ((Fr.ofBelow hb).mono (fun _ _ h => h.elim)) (fun _ _ h => h)⟩)
          have HIs := Lib.hid HC.out.is
          have e2' : wr.cell? ⟨g, i * 3, none⟩ = some (.string (B8 y.nm)) := (hb.cell (p := ⟨g, i * 3, none⟩) hgl).trans e0
          have hcs := cutR_snoc (b := bf) Hax.out
          rw [← Hya.out] at hcs
          have Hcs := Lib.hid hcs; have Hgl1 := Lib.hid hgl1; have Hgl2 := Lib.hid hgl2
          clear hgo hfo hap hb fg1 fg2 htk Hgo Hfo HAp HB hcs hgl1 hgl2
          rename World => wi
          go_upto_if 78 with fail
          go_cut [] (fun wx => ∃ (sv3 lv3 : Value) (N3 : List Bs) (R3 : List PtV), RCMid G b lv L2 w q wx sv3 lv3 N3 R3 (.slice Ag lg cg) (.slice Af lf cf) (hGone bf y.pts) (hLeft bf y.pts) ∧ SetIs N3 R3 (hCutR ((absR L).take (i + 1)) bf))
          case first =>
            by_cases hge : hGone bf y.pts = []
            · have hl0 : ¬ (0 : Int) < (lg : Int) := by rw [← Hgl1.out, hge]; simp
              go_wp2
              go_meet
              refine ⟨sv, lv2, N, R, HM.out, ?_⟩
              rw [Hcs.out, if_pos hge, List.append_nil]
              exact HIs.out
            · have hl0 : (0 : Int) < (lg : Int) := by
                have := List.length_pos_iff.2 hge
                rw [Hgl1.out] at this; omega
              go_upto_region 14 with fail
              have hsv := HM.out.st.nms
              obtain ⟨As, cs, rfl, _, _, _⟩ := own_form hsv
              have q0 : wi.cell? ⟨q, 0, none⟩ = some (.slice As N.length cs) := HM.out.st.hd.cell 0
              have hNl : N.length ≤ 1000 := by rw [HIs.out.len.1]; exact Nat.le_trans (cutR_le _ _ _) (by omega)
              have hk63 : N.length + 1 ≤ maxLen := by unfold maxLen; omega
              have hk8 : (N.length + 1) * 16 ≤ 140737488355328 := by omega
              generalize hst : B8 y.nm = st at e2'
              have Hst := Lib.hid hst
              have hqw : q < wi.heap.size := HM.out.st.hd.lt
              have HS := Lib.hid (fun W (hf : Fr (fun _ => False) wi W) => show W.ownsRow w.heap.size 9 1 (.slice As N.length cs) N.length (txC N) from own_hiB (hf.own hsv (fun _ _ h => h)) (HM.out.st.gs))
              have HNx := Lib.hid (fun W wa v' (hf : Fr (fun _ => False) wi W) (hgr : W.grownBy wa (Value.slice As N.length cs).ownBlock) (hown : wa.ownsRow w.heap.size 9 1 v' (N.length + 1) (txC N ++ [.string st])) =>
                show (wa.cell? ⟨q, 0, none⟩ = some (.slice As N.length cs) ∧ wa.frozen? ⟨q, 0, none⟩ = false) ∧ RCMid G b lv L2 w q (wa.setCell ⟨q, 0, none⟩ v') v' lv2 (N ++ [y.nm]) R (.slice Ag lg cg) (.slice Af lf cf) (hGone bf y.pts) (hLeft bf y.pts) from by
                  have hf2 : Fr (fun k => (Value.slice As N.length cs).ownBlock = some k) wi wa := (hf.mono (fun _ _ h => h.elim)).grown hgr (fun k hk => .inr hk)
                  have hb : Blk wa q _ _ := hf2.blk HM.out.st.hd ((Strange.own (T := [50]) hsv (by decide)).not HM.out.st.hd (by simp))
                  exact ⟨⟨hb.cell 0, hb.frozen 0⟩, HM.out.name hf2 (by rw [Hst.out]; exact hown) (fun k hk => (own_lt hown k hk).1)⟩)
              have hwi : w.heap.size ≤ wi.heap.size := HM.out.fr.size
              have z0w : wi.cell? ⟨b, 0, none⟩ = some (.slice (some ⟨g, 0, none⟩) n c) := by rw [← Hlv.out]; exact HM.out.hd.hd.cell 0
              have hini : (i : Int) < (n : Int) := by omega
              have hcs1 : ∀ u ∈ [Value.string st], u.oneCell' = true := by intro u hu; simp at hu; subst hu; rfl
              have Hcs1 := Lib.hid hcs1
              clear hsv hst hcs1
              go_cut [] (fun wx => ∃ sv3, RCMid G b lv L2 w q wx sv3 lv2 (N ++ [y.nm]) R (.slice Ag lg cg) (.slice Af lf cf) (hGone bf y.pts) (hLeft bf y.pts))
              case first =>
                go_region_law ((refine step_append_rd _ (by rfl) (.tmp 83) (.tmp 92) _ (by rfl) w.heap.size 9 i1 (.string ⟨#[]⟩) 1 16 Tryz.underlying47 Hi1.out Hy0.out Hy1.out Hy2.out (by rfl) (by decide) (.slice As N.length cs) N.length (txC N) (by rfl) (HS.out _ (by repeat (first | exact Fr.refl _ _ | refine Fr.drew ?_ | refine Fr.alloc ?_ _))) _ (some ⟨wi.heap.size, 0, none⟩) 1 1 [.string st] (by rfl) (one_cell wi 9 (.string st)) Hcs1.out hk63 hk8 (by simp; omega) ?_; intro v' wa hown hgr hat; obtain ⟨A2, c2, rfl, _, _, _⟩ := own_form hown; have HQ := Lib.hid (HNx.out _ wa _ (by repeat (first | exact Fr.refl _ _ | refine Fr.drew ?_ | refine Fr.alloc ?_ _)) hgr hown); clear hown hat hgr; obtain ⟨⟨y0, y1⟩, _⟩ := HQ.out))
                all_goals (go_wp2_with fail; go_meet; exact ⟨_, HQ.out.2⟩)
              case rest =>
                obtain ⟨sv3, hM3⟩ := hcut
                have HM3 := Lib.hid hM3
                obtain ⟨Al, cl, rfl, _, _, _⟩ := own_form hM3.st.rows
                have q1 : wc.cell? ⟨q, 1, none⟩ = some (.slice Al R.length cl) := hM3.st.hd.cell 1
                have hRl : R.length ≤ 1000 := by rw [HIs.out.len.2]; exact Nat.le_trans (cutR_le _ _ _) (by omega)
                have hr63 : R.length + 1 ≤ maxLen := by unfold maxLen; omega
                have hr8 : (R.length + 1) * 24 ≤ 140737488355328 := by omega
                have hwc : w.heap.size ≤ wc.heap.size := hM3.fr.size
                have hqc : q < wc.heap.size := hM3.st.hd.lt
                have HoA := Lib.hid (show (wc.alloc (.cells #[.slice Ag lg cg] 52)).ownsRow w.heap.size 52 1 (.slice Al R.length cl) R.length (R.map fun r => r.v) from (own_hiB hM3.st.rows hM3.st.gl).alloc _)
                have HrA := Lib.hid (one_cell wc 52 (.slice Ag lg cg))
                have HzA := Lib.hid (show w.heap.size ≤ (wc.alloc (.cells #[.slice Ag lg cg] 52)).heap.size by simp; omega)
                have H1s := Lib.hid (show ∀ u ∈ [Value.slice Ag lg cg], u.oneCell' = true by intro u hu; simp at hu; subst hu; rfl)
                have HNr := Lib.hid (fun wa v' (hgr : (wc.alloc (.cells #[.slice Ag lg cg] 52)).grownBy wa (Value.slice Al R.length cl).ownBlock) (hown : wa.ownsRow w.heap.size 52 1 v' (R.length + 1) ((R.map fun r => r.v) ++ [.slice Ag lg cg])) =>
                  show (wa.cell? ⟨q, 1, none⟩ = some (.slice Al R.length cl) ∧ wa.frozen? ⟨q, 1, none⟩ = false) ∧ RCMid G b lv L2 w q (wa.setCell ⟨q, 1, none⟩ v') sv3 v' (N ++ [y.nm]) (R ++ [⟨.slice Ag lg cg, hGone bf y.pts⟩]) (.slice Ag lg cg) (.slice Af lf cf) (hGone bf y.pts) (hLeft bf y.pts) from by
                    have hf2 : Fr (fun k => (Value.slice Al R.length cl).ownBlock = some k) wc wa := ((Fr.refl _ wc).alloc _).grown hgr (fun k hk => .inr hk)
                    have hb : Blk wa q _ _ := hf2.blk HM3.out.st.hd ((Strange.own (T := [50]) HM3.out.st.rows (by decide)).not HM3.out.st.hd (by simp))
                    exact ⟨⟨hb.cell 1, hb.frozen 1⟩, HM3.out.row hf2 hown (fun k hk => (own_lt hown k hk).1)⟩)
                clear hM3 HS HNx HM z0w q0 e2' hk63 hk8
                go_wp2_with (at_builtin; refine wpList_append_rd _ rfl (.tmp 100) (.tmp 102) _ rfl w.heap.size 52 i2 (.slice none 0 0) 1 24 Tryz.underlying48 Hi2.out Hx0.out Hx1.out Hx2.out rfl (by decide) (.slice Al R.length cl) R.length _ rfl HoA.out _ _ 1 1 [.slice Ag lg cg] rfl HrA.out H1s.out hr63 hr8 HzA.out ?_; intro v' wa hown hgr hat; obtain ⟨A2, c2, rfl, _, _, _⟩ := own_form hown; have HQ := Lib.hid (HNr.out wa _ hgr hown); clear hown hat hgr; obtain ⟨⟨y0, y1⟩, _⟩ := HQ.out)
                go_meet
                exact ⟨_, _, _, _, HQ.out.2, by rw [Hcs.out, if_neg hge]; exact HIs.out.snoc y.nm ⟨.slice Ag lg cg, hGone bf y.pts⟩⟩
          case rest =>
            obtain ⟨sv3, lv3, N3, R3, hM3, hI3⟩ := hcut
            have z0w : wc.cell? ⟨b, 0, none⟩ = some (.slice (some ⟨g, 0, none⟩) n c) := by rw [← Hlv.out]; exact hM3.hd.hd.cell 0
            have hrows := hM3.hd.rows
            rw [Hlv.out, Hlen.out] at hrows
            obtain ⟨bl, o, y', hA, _, hy', d0, d1, d2⟩ := (Rd.of_own hrows).at3r hin
            injection hA with hA
            injection hA with h1 h2
            subst h1; subst h2
            obtain rfl : y = y' := Option.some.inj (Hy.out.symm.trans hy')
            rw [Nat.zero_add] at d0 d1 d2
            obtain ⟨Av, cv, hvv, _, _, _⟩ := own_form (hM3.hd.pts y (List.mem_of_getElem? hy'))
            rw [hvv] at d1
            have w0 := hrows.frozenAt (i * 3)
            have w1 := hrows.frozenAt (i * 3 + 1)
            have w2 := hrows.frozenAt (i * 3 + 2)
            have hgc : g < wc.heap.size := (own_lt hrows g rfl).2
            have hini : (i : Int) < (n : Int) := by omega
            have hgb : b ≠ g := by
              have := own_ne_blk hrows hM3.hd.hd (by decide)
              intro e; exact this (by rw [e]; rfl)
            have hgb2 : g ≠ b := fun e => hgb e.symm
            have HDone := Lib.hid (fun wj (hf : Fr (fun _ => False) wc wj) => (hM3.keep hf).done HG.out Hax.out Hya.out Hy.out HC.out.ab hI3 Hlen.out Hlv.out)
            generalize B8 y.nm = st at d0 HDone
            clear hM3 hI3 hrows hy' hvv z0 e0 e1 e2 e2' HM HIs Hcs Hpw
            go_wp2_with fail
            go_region
            have HF := Lib.hid ((HDone.out wc (Fr.refl _ _)).keep (Fr.drew (Fr.refl _ _)))
            go_wp2
            go_roundw
            case rel => exact ⟨i + 1, _, _, _, _, _, by omega, by go_num, HF.out⟩
            case measure => simp [intOf]; omega
    · obtain rfl : i = n := by omega
      have hni : ¬ (i : Int) < (i : Int) := by omega
      clear hC
      go_wp2
      go_ret
      refine ⟨L2, q, sv, lv2, N, R, rfl, HC.out.hd, ?_, HC.out.st, ?_, HC.out.fr⟩
      · have h := HC.out.ab
        rw [cutTo_all _ _ (by rw [absR_len, ← Hn.out]; exact Nat.le_refl _)] at h
        exact h
      · have h := HC.out.is
        rw [List.take_of_length_le (by rw [absR_len, ← Hn.out]; exact Nat.le_refl _)] at h
        exact h
end Go.Proofs.YtfnjgminbjopeaaGreatDoor
