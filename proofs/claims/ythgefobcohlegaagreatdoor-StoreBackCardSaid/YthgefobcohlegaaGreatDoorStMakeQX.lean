/- A store makes blocks of what has passed. -/
import Derived.Test.YthgefobcohlegaaGreatDoorMkadX
import Derived.Test.YthgefobcohlegaaGreatDoorMkaeX
import Derived.Test.YthgefobcohlegaaGreatDoorBlkMakeQX
import Derived.Test.YthgefobcohlegaaGreatDoorHeadCut2QX
import Derived.Deep.RegionLaw
namespace Go.Proofs.YthgefobcohlegaaGreatDoor
open Go.RowKit Go.Maps
set_option linter.unusedVariables false

def SMkPost (es : Nat → Addr) (B q dq : Nat) (G : Nat → Prop) (R : StM × Nat × (Nat × Int)) (w : World) (e : Ending) (w' : World) : Prop :=
  ∃ v, e = .returned (.tuple #[.int .i64 (R.2.1 : Int), v]) ∧ ((R.2.2 = (0, -1) ∧ v = .nilIface) ∨ (R.2.2 = (7, -1) ∧ v = sentV (es 6))) ∧ StPost B q dq G w w' R.1
/-- Between the rounds of make. -/
structure MkI (B q dq : Nat) (G : Nat → Prop) (now : Int) (c : Nat) (R : StM × Nat × (Nat × Int)) (w wr : World) (k : Nat) (S : StM) (G1 : Nat → Prop) : Prop where
  st : StI B wr q dq G1 S
  step : StStep w wr G G1
  bel : Below B w wr
  inv : KInv False S []
  cnt : hCount S.A + k ≤ c
  bl : S.B.length ≤ 40 + k
  res : R = makeL (c + 1 - k) S now k
theorem MkI.lo {B q dq : Nat} {G : Nat → Prop} {now : Int} {c : Nat} {R : StM × Nat × (Nat × Int)} {w wr : World} {k : Nat} {S : StM} {G1 : Nat → Prop} (h : MkI B q dq G now c R w wr k S G1) : ∀ j, G1 j → B ≤ j := by
  obtain ⟨_, _, _, _, _, _, _, _, _, h3⟩ := h.st
  exact h3
theorem MkI.stop {es : Nat → Addr} {B q dq : Nat} {G : Nat → Prop} {now : Int} {c : Nat} {R : StM × Nat × (Nat × Int)} {w wr w' : World} {k : Nat} {S : StM} {G1 : Nat → Prop} {v : Value} {f : Nat × Int} (h : MkI B q dq G now c R w wr k S G1) (hb : Below wr.heap.size wr w') (hm : mkStep S now = (none, f)) (hv : (f = (0, -1) ∧ v = .nilIface) ∨ (f = (7, -1) ∧ v = sentV (es 6))) :
    SMkPost es B q dq G R w (.returned (.tuple #[.int .i64 (k : Int), v])) w' := by
  have e : R = (S, k, f) := by
    rw [h.res, show c + 1 - k = (c - k) + 1 by have := h.cnt; omega]
    exact makeL_stop hm
  rw [e]
  exact ⟨v, rfl, hv, G1, h.st.below hb, h.step.trans (StStep.below hb)⟩
/-- A block behind the others. -/
theorem StAt.push {w W wa : World} {q hb mb : Nat} {D : DataW Unit} {L : List HLn} {dq : Nat} {dv bv v2 : Value} {Bl : List BkV} {S : StM} {b : BkV} (h : StAt w q hb mb D L dq dv bv Bl S) (hf : Below w.heap.size w W) (hbk : BkAt w b)
    (ho : wa.ownsRow 0 85 4 v2 (Bl.length + 1) (bkC Bl ++ [.int .i64 b.fr, .int .i64 b.sp, .slice b.A b.rows.length b.a, .slice b.C b.rows.length b.c])) (hg : W.grownBy wa bv.ownBlock) (hat : v2.ownBlock = bv.ownBlock ∨ v2.ownBlock = some W.heap.size)
    {N : Nat} (hN : ∀ k, (Value.slice b.A b.rows.length b.a).ownBlock = some k ∨ (Value.slice b.C b.rows.length b.c).ownBlock = some k → N ≤ k) (hNw : N ≤ w.heap.size) :
    StAt (wa.setCell ⟨q, 4, none⟩ v2) q hb mb D L dq dv v2 (Bl ++ [b]) ⟨S.A, S.d, S.sp, S.kp, S.B ++ [((b.fr, b.sp), b.rows)]⟩ ∧
      Fr (fun k => k = q ∨ bv.ownBlock = some k) w (wa.setCell ⟨q, 4, none⟩ v2) ∧ ∀ k, StS q hb mb L dq dv v2 (Bl ++ [b]) k → StS q hb mb L dq dv bv Bl k ∨ N ≤ k := by
  have hfa : Fr (fun k => bv.ownBlock = some k) w wa := ((Fr.ofBel hf).mono (fun _ _ h => h.elim)).grown hg (fun k hk => .inr hk)
  have hq : bv.ownBlock ≠ some q := fun e => own_ne_blk h.bl.own h.hd (by decide) e.symm
  have hda : Blk wa q 78 #[.pointer (some ⟨hb, 0, none⟩), .pointer (some ⟨dq, 0, none⟩), .int .i64 S.sp, .int .i64 S.kp, bv] := hfa.blk h.hd hq
  have hba : BksAt wa v2 (Bl ++ [b]) := h.bl.snoc hbk hfa ho
  have hfs : Fr (fun k => k = q) wa (wa.setCell ⟨q, 4, none⟩ v2) := fr_set wa q 4 v2
  have hft : Fr (fun k => k = q ∨ bv.ownBlock = some k) w (wa.setCell ⟨q, 4, none⟩ v2) := Fr.trans (hfa.mono (fun _ _ h => .inr h)) hfs (fun _ _ h => .inl h)
  have hoS : Odd (fun k => k = q) wa [85, 9] := Odd.of_blk hda (by decide)
  have hmv : ∀ k, BksS v2 (Bl ++ [b]) k → BksS bv Bl k ∨ N ≤ k := by
    rintro k (hk | ⟨c, hc, hk⟩)
    · rcases hat with e | e
      · exact .inl (.inl (e ▸ hk))
      · rw [e] at hk
        injection hk with hk
        exact .inr (by rw [← hk]; exact Nat.le_trans hNw hf.size)
    · rcases List.mem_append.1 hc with hc | hc
      · exact .inl (.inr ⟨c, hc, hk⟩)
      · rw [List.mem_singleton.1 hc] at hk
        exact .inr (hN k hk)
  have ho2 : Odd (HdS hb mb L) w [78, 85] := h.he.odd (by decide) (by decide) (by decide)
  have hp2 : Odd (DkS dq dv) w [78, 85] := h.dk.odd (by decide) (by decide)
  refine ⟨⟨hda.set_ 4 v2, h.he.fr hft (fun k hk hF => ?_), h.ab, h.dk.fr hft (fun k hk hF => ?_), hba.fr hfs hoS, ?_⟩, hft, fun k hk => ?_⟩
  · rcases hF with rfl | hF
    · exact ho2.not h.hd (by simp) hk
    · exact ho2.own h.bl.own (by simp) k hF hk
  · rcases hF with rfl | hF
    · exact hp2.not h.hd (by simp) hk
    · exact hp2.own h.bl.own (by simp) k hF hk
  · rw [List.map_append, h.bm]; rfl
  · rcases hk with hk | hk | hk | hk
    · exact .inl (.inl hk)
    · exact .inl (.inr (.inl hk))
    · exact .inl (.inr (.inr (.inl hk)))
    · exact (hmv k hk).imp (fun h => .inr (.inr (.inr h))) id
theorem rd_four (W : World) (t : TypeId) (u0 u1 u2 u3 : Value) : Rd (W.alloc (.cells #[u0, u1, u2, u3] t)) (W.alloc (.cells #[u0, u1, u2, u3] t)).heap.size 4 (some ⟨W.heap.size, 0, none⟩) 1 [u0, u1, u2, u3] := by
  refine ⟨rfl, fun _ => ⟨W.heap.size, 0, rfl, by simp, fun j u hu => ?_⟩⟩
  rw [Nat.zero_add, (Blk.new W t #[u0, u1, u2, u3]).cell j]
  simpa using hu
theorem four_one (f s : Int) (A C : Option Addr) (n c m d : Nat) : ∀ u ∈ [Value.int .i64 f, .int .i64 s, .slice A n c, .slice C m d], u.oneCell' = true := by
  intro u hu
  simp at hu
  rcases hu with rfl | rfl | rfl | rfl <;> rfl
/-- A round of make: a block more, the head cut. -/
theorem MkI.next {B q dq : Nat} {G : Nat → Prop} {now : Int} {c : Nat} {R : StM × Nat × (Nat × Int)} {w wr w' : World} {k : Nat} {S S' : StM} {G1 G2 : Nat → Prop} {f : Nat × Int} (h : MkI B q dq G now c R w wr k S G1) (hB : B ≤ w.heap.size) (hm : mkStep S now = (some S', f))
    (hI : StI B w' q dq G2 S') (hs : StStep wr w' G1 G2) : MkI B q dq G now c R w w' (k + 1) S' G2 := by
  obtain ⟨k1, k2, _, _, _, k6⟩ := h.inv.step hm
  refine ⟨hI, h.step.trans hs, h.bel.trans (hs.low h.lo (Nat.le_trans hB h.bel.size)).2, k1, by have := h.cnt; omega, by have := h.bl; omega, ?_⟩
  rw [h.res, show c + 1 - k = (c + 1 - (k + 1)) + 1 by have := h.cnt; omega]
  exact makeL_step hm
set_option maxRecDepth 100000 in
set_option maxHeartbeats 16000000 in
theorem smake_any {es : Nat → Addr} {B q dq : Nat} {G : Nat → Prop} {S0 : StM} (now : Int) (w : World) (hW : StW es B w) (h : StI B w q dq G S0) (hK : KInv False S0 []) (hc : hCount S0.A ≤ 9000) (hb : S0.B.length ≤ 40) (hnow : -1099511627776 ≤ now ∧ now ≤ 1099511627776) :
    Calls Tryz.prog 35 #[.pointer (some ⟨q, 0, none⟩), .int .i64 now] w (SMkPost es B q dq G (makeL (hCount S0.A + 1) S0 now 0) w) := by
  have HW := Lib.hid (fun W (hb' : Below B w W) => hW.below hb' (Nat.le_refl _))
  have HBB := Lib.hid hW.b0
  obtain ⟨c, hce⟩ : ∃ c, c = hCount S0.A := ⟨_, rfl⟩
  obtain ⟨R, hR⟩ : ∃ R, R = makeL (hCount S0.A + 1) S0 now 0 := ⟨_, rfl⟩
  rw [← hR]
  have H0 := Lib.hid (show MkI B q dq G now c R w w 0 S0 G from ⟨h, StStep.below (Below.refl _ _), Below.refl _ _, hK, by omega, by omega, by rw [hR, hce]; rfl⟩)
  rw [← hce] at hc
  obtain ⟨i0, hi, hz0, hz1, hz2⟩ := info_parts infoBk
  have Hi := Lib.hid hi; have Hz0 := Lib.hid hz0; have Hz1 := Lib.hid hz1; have Hz2 := Lib.hid hz2
  clear hW h hK hce hR hi hz0 hz1 hz2 hb
  go_enter Tryz.func35, Tryz.ntmps35
  go_wp2_with fail
  go_loopw [6] (fun nv wr => ∃ (k : Nat) (S : StM) (G1 : Nat → Prop), nv = .int .i64 k ∧ MkI B q dq G now c R w wr k S G1) (fun nv _ => c + 1 - (intOf nv).toNat)
  case atStart => exact ⟨0, S0, G, rfl, H0.out⟩
  case round =>
    obtain ⟨k, S, G1, rfl, hM⟩ := hrel
    have HM := Lib.hid hM
    obtain ⟨hb, mb, D, L, dv, bv, Bl, hSt, hG, hlo⟩ := hM.st
    have hkc : k ≤ c := by have := hM.cnt; omega
    have hO := hM.inv.hd (by have := hM.cnt; omega) hSt.ab
    have HO := Lib.hid hO
    have HSt := Lib.hid hSt
    have HG := Lib.hid hG
    have hsp := hM.inv.sp1
    obtain ⟨sp, hspe⟩ : ∃ sp, sp = S.sp := ⟨_, rfl⟩
    rw [← hspe] at hsp
    have Hspe := Lib.hid hspe
    have HSw := Lib.hid (fun W (hb' : Below wr.heap.size wr W) => hSt.below hb')
    have Hc2 := Lib.hid (fun W (hb' : Below wr.heap.size wr W) => show W.cell? ⟨q, 2, none⟩ = some (.int .i64 sp) from by rw [hspe]; exact (hSt.below hb').hd.cell 2)
    have Hc0 := Lib.hid (fun W (hb' : Below wr.heap.size wr W) => show W.cell? ⟨q, 0, none⟩ = some (.pointer (some ⟨hb, 0, none⟩)) from (hSt.below hb').hd.cell 0)
    have Hf := Lib.hid (sfirst_any wr hSt hO)
    have Hft := Lib.hid (fun t (ht : firstH S.A = some t) => show 0 ≤ t ∧ t ≤ 1099511627776 from by
      rw [← hSt.ab] at ht
      obtain ⟨x, hx, p, hp, hpt⟩ := (firstH_le ht (fun x hx => (hM.inv.inv x (by rw [← hSt.ab]; exact hx)).1)).1
      obtain ⟨y, hy, rfl⟩ := List.mem_map.1 hx
      rw [← hpt]; exact hO.tk y hy p hp)
    have HWr := Lib.hid (show StW es B wr from HW.out _ hM.bel)
    have Hws := Lib.hid hM.bel.size
    clear hM hSt hG hlo hO hspe
    obtain ⟨o, ho⟩ : ∃ o, o = firstH S.A := ⟨_, rfl⟩
    rw [← ho] at Hf
    have Ho := Lib.hid ho
    clear ho
    go_wp2_with fail
    refine Hf.out.mono ?_
    rintro e w1 ⟨rfl, hb1⟩
    have HB1 := Lib.hid hb1
    have c2 := Hc2.out _ hb1
    clear hb1
    cases o with
    | none =>
      have Hmk := Lib.hid (mk_none (S := S) (now := now) Ho.out.symm)
      have hsz : ¬ sp = 0 := by omega
      go_wp2
      go_ret2
      exact HM.out.stop HB1.out Hmk.out (.inl ⟨rfl, rfl⟩)
    | some t =>
      obtain ⟨ht0, ht1⟩ := Hft.out t Ho.out.symm
      have hm0 : 0 ≤ t % sp ∧ t % sp < sp := ⟨Int.emod_nonneg _ (by omega), Int.emod_lt_of_pos _ (by omega)⟩
      have hmt : t % sp ≤ t := by
        have h1 : t = sp * (t / sp) + t % sp := (Int.mul_ediv_add_emod t sp).symm
        have h2 : 0 ≤ sp * (t / sp) := Int.mul_nonneg (by omega) (Int.ediv_nonneg ht0 (by omega))
        omega
      have htm : t.tmod sp = t % sp := Int.tmod_eq_emod_of_nonneg ht0
      obtain ⟨m, hme⟩ : ∃ m, m = t % sp := ⟨_, rfl⟩
      rw [← hme] at hm0 hmt htm
      have Hfe := Lib.hid (show t - m = t - t % S.sp by rw [hme, Hspe.out])
      have hsz : ¬ sp = 0 := by omega
      have Hfst := Lib.hid (show firstH S.A = some t from Ho.out.symm)
      clear hme
      by_cases hnw : now < t - m + sp
      · have Hmk := Lib.hid (mk_now (S := S) (now := now) Hfst.out (by rw [← Hfe.out, ← Hspe.out]; exact hnw))
        go_wp2
        go_ret2
        exact HM.out.stop HB1.out Hmk.out (.inl ⟨rfl, rfl⟩)
      have Hnw := Lib.hid (show ¬ now < t - t % S.sp + S.sp by rw [← Hfe.out, ← Hspe.out]; exact hnw)
      have Hstr := Lib.hid (sstretch_any (t - m) w1 (HSw.out _ HB1.out) HO.out (by omega) (by rw [← Hspe.out]; exact hsp))
      obtain ⟨Y, hY⟩ : ∃ Y, Y = stretchR S.A (t - m) (t - m + S.sp - 1) := ⟨_, rfl⟩
      rw [← hY] at Hstr
      have HY := Lib.hid (show stretchR S.A (t - t % S.sp) (t - t % S.sp + S.sp - 1) = Y by rw [← Hfe.out]; exact hY.symm)
      clear hY
      go_wp2_with fail
      with_reducible refine Hstr.out.mono ?_
      rintro e w2 ⟨A2, c2', ls, rfl, hrd2, hmap2, hb2⟩
      have HB2 := Lib.hid (Below.call HB1.out hb2 HB1.out.size)
      obtain ⟨nl, hnl⟩ : ∃ nl, nl = ls.length := ⟨_, rfl⟩
      have Hnl := Lib.hid hnl
      rw [← hnl] at hrd2 ⊢
      have HRd := Lib.hid (fun W (hb : Below w2.heap.size w2 W) => hrd2.below hb (Nat.le_refl _))
      have HMap := Lib.hid hmap2
      have Hls := Lib.hid (show ∀ r ∈ ls, (r.nm, r.pts) ∈ Y from fun r hr => by rw [← hmap2]; exact List.mem_map.2 ⟨r, hr, rfl⟩)
      have HYm := Lib.hid (show ∀ r ∈ Y, r.1.length ≤ 200 ∧ ∀ p ∈ r.2, 0 ≤ p.2 ∧ p.2 < 18446744073709551616 from fun r hr => by
        rw [← HY.out] at hr
        obtain ⟨z, hz, rfl⟩ := List.mem_map.1 (List.mem_filter.1 hr).1
        exact ⟨(HM.out.inv.nm z hz).2, fun p hp => (HM.out.inv.vl z hz p (betL_mem hp)).2⟩)
      have hnl60 : nl ≤ 60 := by
        have h1 := congrArg List.length hmap2
        rw [List.length_map, ← hnl] at h1
        have h2 := strN_len (lnsOf L) (t - t % S.sp) (t - t % S.sp + S.sp - 1)
        rw [← strN_lns, HSt.out.ab, HY.out] at h2
        have h3 := lnsOf_len L
        have h4 := HO.out.n60
        omega
      clear hrd2 hmap2 hb2 hnl
      go_wp2
      go_loopw [50] (fun iv wy => ∃ j : Nat, j ≤ nl ∧ iv = .int .i64 j ∧ Below w2.heap.size w2 wy ∧ ∀ i r, i < j → ls[i]? = some r → r.pts.length ≤ 120) (fun iv _ => nl - (intOf iv).toNat)
      case atStart => exact ⟨0, Nat.zero_le _, rfl, Below.refl _ _, fun i r h => absurd h (Nat.not_lt_zero _)⟩
      case round =>
        obtain ⟨j, hj, rfl, hby, hpre⟩ := hrel
        rename World => wy
        have HBy := Lib.hid hby; have Hpre := Lib.hid hpre
        have HBw := Lib.hid (Below.call HB2.out hby HB2.out.size)
        clear hpre
        by_cases hjn : j < nl
        · have hjn' : (j : Int) < nl := by omega
          obtain ⟨b0, o0, r, hA0, had0, hr, x0, y0⟩ := (HRd.out _ hby).1.at2 hjn
          subst hA0
          have hmem := List.mem_of_getElem? hr
          obtain ⟨Ap, cp, hrv, _⟩ := (HRd.out _ hby).2 r hmem
          rw [hrv] at y0
          have Hr := Lib.hid hr
          have Hin := Lib.hid (Hls.out r hmem)
          obtain ⟨pl, hpl⟩ : ∃ pl, pl = r.pts.length := ⟨_, rfl⟩
          rw [← hpl] at y0
          have Hpl := Lib.hid hpl
          generalize B8 r.nm = sn at x0
          clear hby hr hmem hrv had0 hpl
          by_cases h120 : 120 < pl
          · have h120' : (120 : Int) < pl := by omega
            have g6 : (wy.alloc (.cells #[.string sn, .slice Ap pl cp] 58)).cell? ⟨5, 0, none⟩ = some (sentV (es 6)) := (HWr.out.below (Below.alloc HBw.out HBw.out.size _) HWr.out.b0).wal.svl.var 6 (by decide)
            have Hmk := Lib.hid (mk_full (S := S) (now := now) Hfst.out (Int.not_lt.2 Hnw.out) (by
              rw [HY.out, List.any_eq_true]
              exact ⟨_, Hin.out, by simpa using (by rw [← Hpl.out]; exact h120 : 120 < r.pts.length)⟩))
            have HBz := Lib.hid (show Below wr.heap.size wr (wy.alloc (.cells #[.string sn, .slice Ap pl cp] 58)) from Below.alloc HBw.out HBw.out.size _)
            go_wp2
            go_quiet (fail)
            go_wp2
            go_ret2
            exact HM.out.stop (Below.drewN HBz.out _) Hmk.out (.inr ⟨rfl, rfl⟩)
          · have h120' : ¬ (120 : Int) < pl := by omega
            go_wp2
            go_roundw
            case rel =>
              refine ⟨j + 1, by omega, by go_num, Below.alloc HBy.out HBy.out.size _, fun i x hi hx => ?_⟩
              rcases Nat.lt_or_ge i j with h | h
              · exact Hpre.out i x h hx
              · obtain rfl : i = j := by omega
                obtain rfl := Option.some.inj (Hr.out.symm.trans hx)
                rw [← Hpl.out]; omega
            case measure => simp [intOf]; omega
        · obtain rfl : j = nl := by omega
          have hjn' : ¬ (j : Int) < j := by omega
          have Hany := Lib.hid (show ¬ (stretchR S.A (t - t % S.sp) (t - t % S.sp + S.sp - 1)).any (fun r => decide (120 < r.2.length)) = true by
            rw [HY.out, List.any_eq_true, ← HMap.out]
            rintro ⟨r, hr, h⟩
            obtain ⟨x, hx, rfl⟩ := List.mem_map.1 hr
            obtain ⟨i, hi, e⟩ := List.getElem_of_mem hx
            have h1 := Hpre.out i x (by rw [Hnl.out]; exact hi) (by rw [List.getElem?_eq_getElem hi, e])
            have h2 : 120 < x.pts.length := of_decide_eq_true h
            omega)
          have c2 := Hc2.out _ HBw.out
          have hWy := HWr.out.below HBw.out HWr.out.b0
          have Hmk0 := Lib.hid (make_any (t - m) sp A2 j c2' ls wy hWy.bk hWy.wal.tab hWy.b0 ((HRd.out _ hby).more hby.size) (by omega) (fun r hr => ⟨Nat.le_trans (HYm.out _ (Hls.out r hr)).1 (by decide), (HYm.out _ (Hls.out r hr)).2⟩))
          rw [HMap.out] at Hmk0
          obtain ⟨MR, hMR⟩ : ∃ MR, MR = makeR (t - m) sp Y := ⟨_, rfl⟩
          rw [← hMR] at Hmk0
          have HMR := Lib.hid (show makeR (t - t % S.sp) S.sp (stretchR S.A (t - t % S.sp) (t - t % S.sp + S.sp - 1)) = MR by rw [HY.out, ← Hfe.out, ← Hspe.out, hMR])
          have HMR2 := Lib.hid (show MR.1.1 = 0 → MR.2 = encR Y from fun h0 => by
            rw [hMR] at h0 ⊢
            rw [(makeR_inv h0).2.2.2, ← HY.out, str_keep])
          have Hwy := Lib.hid (show w.heap.size ≤ wy.heap.size from Nat.le_trans Hws.out HBw.out.size)
          clear hby hWy hMR c2
          have c2 := Hc2.out _ HBw.out
          go_wp2_with fail
          refine Hmk0.out.mono ?_
          rintro e w4 ⟨v4, f', s', u1, u2, rfl, hev4, hz4, hok4, hpr4, hb4⟩
          obtain ⟨A6, c6, rfl, _, _, _⟩ := own_form hpr4.l
          obtain ⟨A7, c7, rfl, _, _, _⟩ := own_form hpr4.r
          have HB4 := Lib.hid (Below.call HBw.out hb4 HBw.out.size)
          have HE4 := Lib.hid (show EV es w.heap.size w4 v4 MR.1 from hev4.base Hwy.out)
          by_cases h0 : MR.1.1 = 0
          case neg =>
            refine absurd ?_ h0
            rw [← HMR.out]
            refine HM.out.inv.mkok (by rw [← Hfe.out]; omega) Hany.out
          obtain rfl := hev4.zero h0
          obtain ⟨hf4, hs4⟩ := hok4 h0
          subst f'
          subst s'
          have H0 := Lib.hid h0
          rw [HMR2.out h0] at hpr4
          have HPr := Lib.hid hpr4
          obtain ⟨yl, hyl⟩ : ∃ yl, yl = MR.2.length := ⟨_, rfl⟩
          have Hyl := Lib.hid (show yl = Y.length by rw [hyl, HMR2.out h0]; unfold encR; rw [List.length_map])
          rw [← hyl]
          clear hev4 hz4 hok4 hpr4 hb4 h0 hyl
          have HGt := Lib.hid (show ∀ k, StS q hb mb L dq dv bv Bl k → B ≤ k from fun k hk => HM.out.lo k (by rw [HG.out]; exact hk))
          obtain ⟨BX, hBX⟩ : ∃ BX, BX = w4.alloc (.cells #[.int .i64 (t - m), .int .i64 sp, .slice A6 yl c6, .slice A7 yl c7] 85) := ⟨_, rfl⟩
          have hsz4 : w4.heap.size < BX.heap.size := by rw [hBX]; simp
          have hbx : Below w4.heap.size w4 BX := by rw [hBX]; exact Below.alloc (Below.refl _ _) (Nat.le_refl _) _
          have HBXd := Lib.hid (show Below w4.heap.size w4 BX.drew from hbx.drew)
          have HKX := Lib.hid (show Blk BX.drew w4.heap.size 85 #[.int .i64 (t - m), .int .i64 sp, .slice A6 yl c6, .slice A7 yl c7] by rw [hBX]; exact (Blk.new w4 _ _).drew)
          have HB5 := Lib.hid (Below.call HB4.out HBXd.out HB4.out.size)
          have HS5 := Lib.hid (HSw.out _ HB5.out)
          have HP5 := Lib.hid (HPr.out.fr (w' := BX.drew) ((Fr.ofBelow HBXd.out)))
          have HBXe := Lib.hid hBX
          clear hBX hbx
          have HW5 := Lib.hid (show StW es B BX.drew from HWr.out.below HB5.out HWr.out.b0)
          have Hcut := Lib.hid (hcut_any (t - m + sp) BX.drew HW5.out.wal.svl HW5.out.b0 (fun k hk => HGt.out k (.inr (.inl hk))) HS5.out.he (by have := HO.out.n60; omega) (fun x hx => Nat.le_trans (HO.out.nm x hx) (by decide)) (fun x hx => Nat.le_trans (HO.out.pts x hx) (by decide)))
          have Hne := Lib.hid (show hCutR (absL L) (t - m + sp) ≠ [] by
            rw [HSt.out.ab]
            exact cutR_ne Hfst.out (fun x hx => (HM.out.inv.inv x hx).1) (by omega))
          have Hc02 := Lib.hid (show BX.drew.cell? ⟨q, 0, none⟩ = some (.pointer (some ⟨hb, 0, none⟩)) ∧ BX.drew.cell? ⟨q, 2, none⟩ = some (.int .i64 sp) from ⟨Hc0.out _ HB5.out, Hc2.out _ HB5.out⟩)
          have Hspr := Lib.hid (show S.sp = sp from Hspe.out.symm)
          have hw1 : IntKind.i64.wrap (t - m + sp) = t - m + sp := by rw [IntKind.wrap_i64]; omega
          clear c2 hsz4
          go_wp2
          rw [← HBXe.out]
          go_region_held3 (fun w' => w'.cell? ⟨q, 0, none⟩ = some (.pointer (some ⟨hb, 0, none⟩)) ∧ w'.cell? ⟨q, 2, none⟩ = some (.int .i64 sp))
            (first | with_reducible exact Hc02.out | with_reducible exact H6c.out | exact Hc02.out)
            (first | (go_at_call 65; (with_reducible refine Hcut.out.mono ?_); rintro e6 w6 ⟨L6, R6, v6, ev6, rfl, hh6, hab6, _, _, hf6, _, hev6⟩; have hev6 := hev6 Hne.out; subst hev6; have HH6 := Lib.hid hh6; have Hab6 := Lib.hid hab6; have HF6 := Lib.hid hf6; clear hh6 hab6 hf6; have H6c := Lib.hid (show w6.cell? ⟨q, 0, none⟩ = some (.pointer (some ⟨hb, 0, none⟩)) ∧ w6.cell? ⟨q, 2, none⟩ = some (.int .i64 sp) from by have h := HS5.out.headStep HH6.out HF6.out; rw [← Hspr.out]; exact ⟨h.1.hd.cell 0, h.1.hd.cell 2⟩)))
          have HS6 := Lib.hid (HS5.out.headStep HH6.out HF6.out)
          have HK6 := Lib.hid (show Blk w6 w4.heap.size 85 #[.int .i64 (t - m), .int .i64 sp, .slice A6 yl c6, .slice A7 yl c7] from HF6.out.blk HKX.out ((HS5.out.he.odd (T := [85]) (by decide) (by decide) (by decide)).not HKX.out (by simp)))
          have HP6 := Lib.hid (show BkAt w6 ⟨t - m, sp, Y, A6, c6, A7, c7⟩ ∧ (∀ k, (Value.slice A6 Y.length c6).ownBlock = some k ∨ (Value.slice A7 Y.length c7).ownBlock = some k → wr.heap.size ≤ k) from by
            have ho := HS5.out.he.odd (T := [9]) (by decide) (by decide) (by decide)
            have e : (encR Y).length = Y.length := by unfold encR; rw [List.length_map]
            have h5 := HP5.out
            rw [e] at h5
            have hbk := (HM.out.inv.step (mk_ok (S := S) (now := now) Hfst.out (Int.not_lt.2 Hnw.out) Hany.out (by rw [HMR.out]; exact H0.out) (by rw [← Hfe.out, Hspr.out, ← HSt.out.ab]; exact Hne.out))).1.bk _ (List.mem_append_right _ (List.mem_singleton.2 rfl))
            dsimp only at hbk
            rw [HY.out, ← Hfe.out, Hspr.out] at hbk
            refine ⟨⟨own_base (HF6.out.own h5.l (ho.own h5.l (by simp))) (Nat.zero_le _), own_base (HF6.out.own h5.r (ho.own h5.r (by simp))) (Nat.zero_le _), hbk.1⟩, ?_⟩
            rintro k (hk | hk)
            · exact Nat.le_trans HBw.out.size (own_lt h5.l k hk).1
            · exact Nat.le_trans HBw.out.size (own_lt h5.r k hk).1)
          obtain ⟨Ab, cb, hbv, hnb, _, _⟩ := own_form HS6.out.1.bl.own
          have hbl40 : Bl.length ≤ 9040 := by
            have h1 := HM.out.bl
            have h2 := HM.out.cnt
            rw [← HSt.out.bm, List.length_map] at h1
            omega
          have Hq6 := Lib.hid (show w6.cell? ⟨q, 0, none⟩ = some (.pointer (some ⟨hb, 0, none⟩)) ∧ w6.cell? ⟨q, 4, none⟩ = some (.slice Ab Bl.length cb) from ⟨HS6.out.1.hd.cell 0, by rw [← hbv]; exact HS6.out.1.hd.cell 4⟩)
          have HO6 := Lib.hid (fun W (hb' : Below w6.heap.size w6 W) => show W.ownsRow 0 85 4 (.slice Ab Bl.length cb) Bl.length (bkC Bl) from by rw [← hbv]; exact own_below HS6.out.1.bl.own hb' (Nat.le_refl _))
          have HQ6 := Lib.hid (fun W wa (hb' : Below w6.heap.size w6 W) (hg : W.grownBy wa (Value.slice Ab Bl.length cb).ownBlock) => show wa.cell? ⟨q, 4, none⟩ = some (.slice Ab Bl.length cb) ∧ wa.frozen? ⟨q, 4, none⟩ = false from by
            have hk := (HS6.out.1.hd.below hb' HS6.out.1.hd.lt).grown hg (by rw [← hbv]; exact own_ne_blk HS6.out.1.bl.own HS6.out.1.hd (by decide))
            exact ⟨by rw [← hbv]; exact hk.cell 4, hk.frozen 4⟩)
          have Hbv := Lib.hid hbv
          have Hmk := Lib.hid (mk_ok (S := S) (now := now) Hfst.out (Int.not_lt.2 Hnw.out) Hany.out (by rw [HMR.out]; exact H0.out) (by rw [← Hfe.out, Hspr.out, ← HSt.out.ab]; exact Hne.out))
          have HSe := Lib.hid (show (⟨absL L6, S.d, S.sp, S.kp, S.B ++ [((t - m, sp), Y)]⟩ : StM) = ⟨hCut S.A (t - t % S.sp + S.sp), S.d, S.sp, S.kp, S.B ++ [((t - t % S.sp, S.sp), stretchR S.A (t - t % S.sp) (t - t % S.sp + S.sp - 1))]⟩ from by rw [Hab6.out, HSt.out.ab, HY.out, ← Hfe.out, Hspr.out])
          obtain ⟨z0, z4⟩ := Hq6.out
          have x0 := HK6.out.cell 0; have x1 := HK6.out.cell 1; have x2 := HK6.out.cell 2; have x3 := HK6.out.cell 3
          have hyl2 := Hyl.out
          subst hyl2
          obtain ⟨nb, hnb2⟩ : ∃ nb, nb = Bl.length := ⟨_, rfl⟩
          have Hnb := Lib.hid hnb2
          have hk63 : nb + 1 ≤ maxLen := by unfold maxLen; omega
          have hk8 : (nb + 1) * 64 ≤ 140737488355328 := by omega
          rw [← hnb2] at z4 hnb HO6 HQ6 Hbv hbl40
          clear hbv hnb2
          have hqw : q < w6.heap.size := HS6.out.1.hd.lt
          have hw4w : w4.heap.size < w6.heap.size := HK6.out.lt
          have Hpush := Lib.hid (fun W wa v2 (hb' : Below w6.heap.size w6 W) (ho : wa.ownsRow 0 85 4 v2 (nb + 1) (bkC Bl ++ [.int .i64 (t - m), .int .i64 sp, .slice A6 Y.length c6, .slice A7 Y.length c7])) (hg : W.grownBy wa (Value.slice Ab nb cb).ownBlock) (hat : v2.ownBlock = (Value.slice Ab nb cb).ownBlock ∨ v2.ownBlock = some W.heap.size) =>
            HS6.out.1.push (b := ⟨t - m, sp, Y, A6, c6, A7, c7⟩) hb' HP6.out.1 (by rw [← Hnb.out]; exact ho) (by rw [Hbv.out]; exact hg) (by rw [Hbv.out]; exact hat) HP6.out.2 (Nat.le_trans (Nat.le_trans HB4.out.size HBXd.out.size) HF6.out.size))
          go_wp2
          go_region_law ((refine step_append_rd _ (by rfl) (.tmp 97) (.tmp 99) _ (by rfl) 0 85 i0 (.agg #[.int .i64 0, .int .i64 0, .slice none 0 0, .slice none 0 0]) 4 64 Tryz.underlying55 Hi.out Hz0.out Hz1.out Hz2.out (by rfl) (by decide) (.slice Ab nb cb) nb (bkC Bl) (by rfl) (HO6.out _ (by repeat (first | exact Below.refl _ _ | refine Below.drew ?_ | refine Below.alloc ?_ (Nat.le_refl _) _))) _ (some ⟨w6.heap.size, 0, none⟩) 1 1 [.int .i64 (t - m), .int .i64 sp, .slice A6 Y.length c6, .slice A7 Y.length c7] (by rfl) (rd_four w6 85 _ _ _ _) (four_one _ _ _ _ _ _ _ _) hk63 hk8 (Nat.zero_le _) ?_; intro v' wa hown' hgr hat; obtain ⟨A8, c8, rfl, _, _, _⟩ := own_form hown'; have HE := Lib.hid (Hpush.out _ wa _ (by repeat (first | exact Below.refl _ _ | refine Below.drew ?_ | refine Below.alloc ?_ (Nat.le_refl _) _)) hown' hgr hat); obtain ⟨y4, f4⟩ := HQ6.out _ wa (by repeat (first | exact Below.refl _ _ | refine Below.drew ?_ | refine Below.alloc ?_ (Nat.le_refl _) _)) hgr; clear hown' hat hgr))
          all_goals
            go_wp2
            go_roundw
            case rel =>
              have hs1 := (StStep.below HB5.out : StStep wr BX.drew (StS q hb mb L dq dv bv Bl) _).trans HS6.out.2
              refine ⟨k + 1, _, StS q hb mb L6 dq dv (.slice A8 (nb + 1) c8) (Bl ++ [⟨t - m, sp, Y, A6, c6, A7, c7⟩]), by go_num, HM.out.next HBB.out Hmk.out ?_ ?_⟩
              · rw [← HSe.out]
                refine HE.out.1.toI (fun j hj => ?_)
                rcases HE.out.2.2 j hj with h | h
                · rcases hs1.mv j h with h | h
                  · exact HGt.out j h
                  · exact Nat.le_trans HWr.out.b0 h
                · exact Nat.le_trans HWr.out.b0 h
              · rw [HG.out]
                refine ⟨Fr.trans hs1.fr HE.out.2.1 (fun j _ hj => hj.elim .inl (fun h => .inr (.inr (.inr (.inl h))))), fun j hj => ?_⟩
                rcases HE.out.2.2 j hj with h | h
                · exact hs1.mv j h
                · exact .inr h
            case measure => simp [intOf]; omega
end Go.Proofs.YthgefobcohlegaaGreatDoor
