/- The reference's MakeBlock: it answers as block.Make does. -/
import Derived.Test.YtpbgonpmpjpljaaGreatDoorBoIQX
import Derived.Test.YtpbgonpmpjpljaaGreatDoorMkwX
import Derived.Test.YtpbgonpmpjpljaaGreatDoorMkgX
import Derived.Test.YtpbgonpmpjpljaaGreatDoorMkxX
import Derived.Test.YtpbgonpmpjpljaaGreatDoorMklX
import Derived.Test.YtpbgonpmpjpljaaGreatDoorMkyX
import Derived.Deep.DeepCutAuto
import Derived.Deep.Light
import Derived.BigRegion
import Derived.BigQuiet
import Derived.Deep.RegionHeld3
namespace Go.Proofs.YtpbgonpmpjpljaaGreatDoor
open Go.RowKit
set_option linter.unusedVariables false

/-- What MakeBlock answers. -/
def rmR (fr sp : Int) (S : List Rw) : RdB := ((makeR fr sp S).1, if (makeR fr sp S).1.1 = 0 then (fr, sp) else (0, 0), (makeR fr sp S).2)
theorem rmR_bad {fr sp : Int} {S : List Rw} {c : Nat} {a : Int} (h : makeR fr sp S = ((c + 1, a), [])) : rmR fr sp S = ((c + 1, a), (0, 0), []) := by
  unfold rmR; rw [h, if_neg (Nat.succ_ne_zero c)]
theorem rmR_good {fr sp : Int} {S : List Rw} {K : List (Bs × List Nat)} (h : makeR fr sp S = ((0, -1), K)) : rmR fr sp S = ((0, -1), (fr, sp), K) := by
  unfold rmR; rw [h, if_pos rfl]
theorem RB.err {R : RdB} {w w' : World} {e : Ending} {c : Nat} {a : Int} (h : R = ((c, a), (0, 0), [])) (he : e = .returned (.tuple #[.agg #[.int .i64 0, .int .i64 0, .slice none 0 0, .slice none 0 0], .agg #[.int .i64 (c : Int), .int .i64 a]])) (hb : Below w.heap.size w w') : RBPost R w e w' := by
  subst h
  exact ⟨_, _, he, Pair.nil _ _ _, hb⟩
theorem res_mb (tmps : Array Value) (W : World) (b b' : Nat) (v0 v1 v2 v3 c0 c1 : Value) (ha : tmps.getD 6 undef = .pointer (some ⟨b, 0, none⟩)) (hk : tmps.getD 7 undef = .pointer (some ⟨b', 0, none⟩)) (hB : Blk W b 24 #[v0, v1, v2, v3]) (hF : Blk W b' 29 #[c0, c1]) :
    (results Tryz.f38 tmps).run Tryz.prog W = .ok (.tuple #[.agg #[v0, v1, v2, v3], .agg #[c0, c1]]) W := by
  have z0 := hB.cell 0; have z1 := hB.cell 1; have z2 := hB.cell 2; have z3 := hB.cell 3
  obtain ⟨y0, y1⟩ := hF.duo2
  simp only [List.getElem?_toArray, List.getElem?_cons_zero, List.getElem?_cons_succ] at z0 z1 z2 z3
  simp only [Array.getD_eq_getD_getElem?] at ha hk
  simp [results, Tryz.results38, go_sem, ha, hk, z0, z1, z2, z3, y0, y1]
/-- A fault's block of its own is written. -/
theorem RM.setF {w W : World} {g n n1 n2 f i : Nat} {o4 cs : Array Value} {pv v1 v2 : Value} {xs1 xs2 : List Value} {ps : List Bs} (h : RM w W g o4 pv n ps v1 n1 xs1 v2 n2 xs2) (hF : Blk W f 29 cs) (h1 : w.heap.size + 1 < f) (u : Value) : RM w (W.setCell ⟨f, i, none⟩ u) g o4 pv n ps v1 n1 xs1 v2 n2 xs2 := by
  have hg : g ≠ f := fun e => by
    subst e
    exact absurd (blk_type h.ob hF) (by decide)
  have e1 := own_ne_blk h.pr.l hF (by decide)
  have e2 := own_ne_blk h.pr.r hF (by decide)
  have e3 := own_ne_blk h.pc hF (by decide)
  exact ⟨⟨h.iv.bq.far (p := ⟨f, i, none⟩) (by simp only; omega) u, h.iv.bf.far (p := ⟨f, i, none⟩) (by simp only; omega) u, Below.setCell h.iv.bl (p := ⟨f, i, none⟩) (by simp only; omega) u⟩, h.ob.far (p := ⟨f, i, none⟩) hg u, h.pr.set (p := ⟨f, i, none⟩) e1 e2 u, own_set h.pc (p := ⟨f, i, none⟩) e3 u, h.p1, h.p2, h.g0, h.g1⟩
theorem keep_encs {S : List Rw} {k : Nat} {r : Rw} (h : S[k]? = some r) : encR (keepR (S.take (k + 1))) = if r.2.length = 0 then encR (keepR (S.take k)) else encR (keepR (S.take k)) ++ [(r.1, chunkL r.2)] := by
  by_cases hr : r.2 = []
  · rw [keep_no h hr, if_pos (by rw [hr]; rfl)]
  · rw [keep_yes h hr, if_neg (fun e => hr (List.eq_nil_of_length_eq_zero e))]
    unfold encR
    rw [List.map_append]; rfl
theorem mkR_at {fr en : Int} {S : List Rw} {k : Nat} {r : Rw} (h : S[k]? = some r) : mkR fr en S k = mkV (rdF r.1) (dupB (S.map Prod.fst) k) (ptF r.2) (allIn fr en r.2) := by
  unfold mkR
  rw [List.getD_eq_getElem?_getD, h]; rfl
/-- The fault behind the first test, behind the second. -/
def fE (f : Nat × Int) (dup : Bool) : Nat × Int := if (decide (f.1 = 0) && dup) = true then (3, -1) else f
def fG (f : Nat × Int) (dup : Bool) (p : Nat × Int) : Nat × Int := if (fE f dup).1 = 0 then p else fE f dup
theorem mkV_G (f : Nat × Int) (dup : Bool) (p : Nat × Int) (inn : Bool) : mkV f dup p inn = if (fG f dup p).1 ≠ 0 then some ((fG f dup p).1 - 1) else if inn = true then none else some 1 := by
  unfold mkV fG fE
  by_cases hf : f.1 = 0
  · rw [if_neg (by simpa using hf)]
    cases dup
    · simp [hf]
    · simp [hf]
  · rw [if_pos hf]
    simp [hf]
theorem fG_zero {f : Nat × Int} {dup : Bool} {p : Nat × Int} (h : (fG f dup p).1 = 0) : p.1 = 0 := by
  unfold fG at h
  split at h
  · exact h
  · rename_i h1; exact absurd h h1
set_option maxRecDepth 100000 in
set_option maxHeartbeats 60000000 in
theorem makeBlock_any (fr sp : Int) (q : Nat) (S : List Rw) (w : World) (hS : SetRw w w.heap.size q S) (hn : S.length ≤ 100000) (hsl : ∀ r ∈ S, r.1.length ≤ 100000 ∧ ∀ p ∈ r.2, 0 ≤ p.2 ∧ p.2 < 18446744073709551616) :
    Calls Tryz.prog 38 #[.int .i64 fr, .int .i64 sp, .pointer (some ⟨q, 0, none⟩)] w fun e w' => RBPost (rmR fr sp S) w e w' := by
  have hb1 : Below w.heap.size w ((w.alloc (.cells #[.int .i64 0, .int .i64 0, .slice none 0 0, .slice none 0 0] 24)).alloc (.cells #[.int .i64 0, .int .i64 0] 29)) := Below.alloc (Below.alloc (Below.refl _ _) (Nat.le_refl _) _) (by simp) _
  have hf1 := Blk.new (w.alloc (.cells #[.int .i64 0, .int .i64 0, .slice none 0 0, .slice none 0 0] 24)) 29 #[.int .i64 0, .int .i64 0]
  rw [World.size_alloc] at hf1
  have HI1 := Lib.hid (show BoI w ((w.alloc (.cells #[.int .i64 0, .int .i64 0, .slice none 0 0, .slice none 0 0] 24)).alloc (.cells #[.int .i64 0, .int .i64 0] 29)) from
    ⟨(Blk.new w 24 #[.int .i64 0, .int .i64 0, .slice none 0 0, .slice none 0 0]).alloc _, hf1, hb1⟩)
  have HS := Lib.hid (fun W (hb : Below w.heap.size w W) => hS.below hb (Nat.le_refl _))
  have hqw : q < w.heap.size := hS.1
  obtain ⟨n, hnn⟩ : ∃ n, n = S.length := ⟨_, rfl⟩
  have Hn := Lib.hid hnn
  have Hbd := Lib.hid (fun W => rbnd_any fr sp W)
  have Hsl := Lib.hid hsl
  rw [← hnn] at hn
  clear hb1 hf1 hS hnn hsl
  by_cases hbd : bndB fr sp = true
  case neg =>
    have hbf : bndB fr sp = false := by simpa using hbd
    have Hr := Lib.hid (show rmR fr sp S = ((2, -1), (0, 0), []) from rmR_bad (c := 1) (by unfold makeR; rw [if_pos hbf]))
    have Hbf := Lib.hid hbf
    clear hbd hbf
    go_enter Tryz.func38, Tryz.ntmps38
    go_wp2_with fail
    refine (Hbd.out _).mono ?_
    rintro e w2 ⟨_, g2, rfl⟩
    obtain rfl := g2 Hbf.out
    clear g2
    go_wp2_with fail
    refine (bare_any 2 _).mono ?_
    rintro e wb ⟨rfl, hb⟩
    have HX := Lib.hid (bo_set HI1.out hb (.int .i64 0) (.int .i64 0) (.slice none 0 0) (.slice none 0 0) (.int .i64 2) (.int .i64 (-1)))
    obtain ⟨⟨q0, q1, q2, q3⟩, ⟨r0, r1, r2, r3⟩⟩ := cells4 (HI1.out.bq.below hb HI1.out.bq.lt)
    obtain ⟨⟨_, _⟩, ⟨k0, k1⟩⟩ := cells2 (HI1.out.bf.below hb HI1.out.bf.lt)
    clear hb
    go_wp2
    refine bodyPost_ret (res_mb _ _ w.heap.size (w.heap.size + 1) _ _ _ _ _ _ rfl rfl (by with_reducible exact HX.out.1) (by with_reducible exact HX.out.2.1)) rfl ?_
    exact RB.err Hr.out rfl HX.out.2.2
  have hbs : 1 ≤ sp ∧ sp ≤ 100000 ∧ -1099511627776 ≤ fr ∧ fr ≤ 1099511627776 := by simpa [bndB] using hbd
  have Hbt := Lib.hid hbd
  clear hbd
  obtain ⟨An, cn, Al, cl, z0, z1⟩ := (HS.out _ HI1.out.bl).hd
  rw [← Hn.out] at z0 z1
  by_cases hn60 : 60 < n
  · have hn60' : (60 : Int) < n := by omega
    have Hr := Lib.hid (show rmR fr sp S = ((2, -1), (0, 0), []) from rmR_bad (c := 1) (by unfold makeR; rw [if_neg (by rw [Hbt.out]; decide), if_pos (by rw [← Hn.out]; exact hn60)]))
    clear hbs hn60
    go_enter Tryz.func38, Tryz.ntmps38
    go_wp2_with fail
    refine (Hbd.out _).mono ?_
    rintro e w2 ⟨g2, _, rfl⟩
    obtain rfl := g2 Hbt.out
    clear g2
    go_wp2_with fail
    refine (bare_any 2 _).mono ?_
    rintro e wb ⟨rfl, hb⟩
    have HX := Lib.hid (bo_set HI1.out hb (.int .i64 0) (.int .i64 0) (.slice none 0 0) (.slice none 0 0) (.int .i64 2) (.int .i64 (-1)))
    obtain ⟨⟨q0, q1, q2, q3⟩, ⟨r0, r1, r2, r3⟩⟩ := cells4 (HI1.out.bq.below hb HI1.out.bq.lt)
    obtain ⟨⟨_, _⟩, ⟨k0, k1⟩⟩ := cells2 (HI1.out.bf.below hb HI1.out.bf.lt)
    clear hb
    go_wp2
    refine bodyPost_ret (res_mb _ _ w.heap.size (w.heap.size + 1) _ _ _ _ _ _ rfl rfl (by with_reducible exact HX.out.1) (by with_reducible exact HX.out.2.1)) rfl ?_
    exact RB.err Hr.out rfl HX.out.2.2
  have hn60' : ¬ (60 : Int) < n := by omega
  have hfs1 : -9223372036854775800 ≤ fr + sp := by omega
  have hfs2 : fr + sp ≤ 9223372036854775800 := by omega
  have hn1 : n ≤ 60 := by omega
  have Hr := Lib.hid (show makeR fr sp S = match firstM (mkR fr (fr + sp) S) n with
      | some (c, i) => ((c + 1, (i : Int)), [])
      | none => ((0, -1), encR (keepR S)) by
    unfold makeR; rw [if_neg (by rw [Hbt.out]; decide), if_neg (by rw [← Hn.out]; exact hn60), ← Hn.out]; try rfl)
  have Hin := Lib.hid (fun W (A : Option Addr) (m c : Nat) (ps : List (Int × Int)) (hp : Rd W W.heap.size 2 A m (ptsC ps)) (hm : m ≤ 100000) => inside_any A m c ps fr sp W hp hm hfs1 hfs2)
  obtain ⟨i1, hi1, hy0, hy1, hy2⟩ := info_parts infoTx
  have Hi1 := Lib.hid hi1; have Hy0 := Lib.hid hy0; have Hy1 := Lib.hid hy1; have Hy2 := Lib.hid hy2
  clear hi1 hy0 hy1 hy2 hfs1 hfs2 hbs hn60 hn
  obtain ⟨R, hR⟩ : ∃ R, R = mkR fr (fr + sp) S := ⟨_, rfl⟩
  have HRk := Lib.hid (fun k (r : Rw) (h : S[k]? = some r) => show R k = mkV (rdF r.1) (dupB (S.map Prod.fst) k) (ptF r.2) (allIn fr (fr + sp) r.2) by rw [hR]; exact mkR_at h)
  rw [← hR] at Hr
  clear hR
  go_enter Tryz.func38, Tryz.ntmps38
  go_wp2_with fail
  refine (Hbd.out _).mono ?_
  rintro e w2 ⟨g2, _, rfl⟩
  obtain rfl := g2 Hbt.out
  clear g2
  generalize hwx : (w.alloc (.cells #[.int .i64 0, .int .i64 0, .slice none 0 0, .slice none 0 0] 24)).alloc (.cells #[.int .i64 0, .int .i64 0] 29) = wx at HI1 z0 z1 ⊢
  clear hwx
  have HM0 := Lib.hid (show RM w (wx.alloc (.cells #[.int .i64 fr, .int .i64 sp, .slice none 0 0, .slice none 0 0] 24)) wx.heap.size #[.int .i64 fr, .int .i64 sp, .slice none 0 0, .slice none 0 0] (.slice none 0 0) 0 [] (.slice none 0 0) 0 [] (.slice none 0 0) 0 [] from
    ⟨HI1.out.below (Below.alloc (Below.refl _ _) (Nat.le_refl _) _), Blk.new _ _ _, Pair.nil _ _ _, World.ownsRow_nil _ _ _ _, fun k h => (by cases h), fun k h => (by cases h), HI1.out.bl.size, Nat.lt_of_lt_of_le HI1.out.bf.lt (Nat.le_refl _)⟩)
  obtain ⟨g, hg⟩ : ∃ g, g = wx.heap.size := ⟨_, rfl⟩
  have hqx : q < wx.heap.size := Nat.lt_of_lt_of_le hqw HI1.out.bl.size
  go_wp2
  rw [← hg] at HM0 ⊢
  clear hg hqx z0 z1 HI1
  go_loopw [10] (fun iv wr => ∃ (k : Nat) (z1 z2 : Value) (K : List (Bs × List Nat)), k ≤ n ∧ iv = .int .i64 k ∧ RM w wr g #[.int .i64 fr, .int .i64 sp, z1, z2] (.slice none 0 0) 0 [] z1 K.length (txS K) z2 K.length (chS K) ∧ K.length ≤ k ∧ K = encR (keepR (S.take k)) ∧ firstM R k = none) (fun iv _ => n - (intOf iv).toNat)
  case atStart => exact ⟨0, _, _, [], Nat.zero_le _, rfl, HM0.out, Nat.le_refl _, rfl, rfl⟩
  case round =>
    rename World => wo
    obtain ⟨k, z1, z2, K, hk, rfl, hrm, hKk, hKe, hfb⟩ := hrel
    obtain ⟨B1, d1, rfl, _, _, _⟩ := own_form hrm.pr.l
    obtain ⟨B2, d2, rfl, _, _, _⟩ := own_form hrm.pr.r
    have HR := Lib.hid hrm; have HKe := Lib.hid hKe; have Hfb := Lib.hid hfb
    have hk63 : K.length + 1 ≤ maxLen := by unfold maxLen; omega
    have hk8 : (K.length + 1) * 16 ≤ 140737488355328 := by omega
    clear hrm hKe hfb
    by_cases hkn : k < n
    case neg =>
      -- slow
      obtain rfl : k = n := by omega
      have hkn' : ¬ (k : Int) < k := by omega
      have Hfin := Lib.hid (show rmR fr sp S = ((0, -1), (fr, sp), K) from rmR_good (by
        rw [Hr.out, Hfb.out, HKe.out, List.take_of_length_le (by rw [← Hn.out]; exact Nat.le_refl _)]))
      obtain ⟨An, cn, Al, cl, y0, y1⟩ := (HS.out _ HR.out.iv.bl).hd
      rw [← Hn.out] at y0 y1
      have hqo : q < wo.heap.size := Nat.lt_of_lt_of_le hqw HR.out.iv.bl.size
      obtain ⟨⟨o0, o1, o2, o3⟩, _⟩ := cells4 HR.out.ob
      have HRd := Lib.hid (HR.out.below (Below.drew (Below.refl _ _)))
      have Hcd := Lib.hid (cells4 HRd.out.ob).1
      go_wp2
      go_region_held3 (fun w' => w'.cell? ⟨g, 0, none⟩ = some (.int .i64 fr) ∧ w'.cell? ⟨g, 1, none⟩ = some (.int .i64 sp) ∧ w'.cell? ⟨g, 2, none⟩ = some (.slice B1 K.length d1) ∧ w'.cell? ⟨g, 3, none⟩ = some (.slice B2 K.length d2))
        (first | with_reducible exact Hcd.out | with_reducible exact Hc7.out | with_reducible exact HcA.out | with_reducible exact HcB.out | with_reducible exact HcC.out | exact HcD.out)
        (first | (go_at_call 26; refine (fine_any _).mono ?_; rintro e w7 ⟨rfl, hb⟩; have HR7 := Lib.hid (HRd.out.below hb); have Hc7 := Lib.hid (cells4 HR7.out.ob).1; have hne := Nat.ne_of_gt (Nat.lt_of_succ_lt HR7.out.g1); have hne1 := Nat.ne_of_gt HR7.out.g1; have HA4 := Lib.hid ((((HR7.out.ob.far (p := ⟨w.heap.size, 0, none⟩) hne (.int .i64 fr)).far (p := ⟨w.heap.size, 1, none⟩) hne (.int .i64 sp)).far (p := ⟨w.heap.size, 2, none⟩) hne (.slice B1 K.length d1)).far (p := ⟨w.heap.size, 3, none⟩) hne (.slice B2 K.length d2)); have HcA := Lib.hid (cells4 HA4.out).1; have HcB := Lib.hid (cells4 ((HA4.out.far (p := ⟨w.heap.size + 1, 0, none⟩) hne1 (.int .i64 0)).far (p := ⟨w.heap.size + 1, 1, none⟩) hne1 (.int .i64 (-1)))).1; have HC4 := Lib.hid ((HR7.out.ob.far (p := ⟨w.heap.size + 1, 0, none⟩) hne1 (.int .i64 0)).far (p := ⟨w.heap.size + 1, 1, none⟩) hne1 (.int .i64 (-1))); have HcC := Lib.hid (cells4 HC4.out).1; have HcD := Lib.hid (cells4 ((((HC4.out.far (p := ⟨w.heap.size, 0, none⟩) hne (.int .i64 fr)).far (p := ⟨w.heap.size, 1, none⟩) hne (.int .i64 sp)).far (p := ⟨w.heap.size, 2, none⟩) hne (.slice B1 K.length d1)).far (p := ⟨w.heap.size, 3, none⟩) hne (.slice B2 K.length d2))).1; clear hne hne1; have HX := Lib.hid (bo_set HR7.out.iv (Below.refl _ _) (.int .i64 fr) (.int .i64 sp) (.slice B1 K.length d1) (.slice B2 K.length d2) (.int .i64 0) (.int .i64 (-1))); have HY := Lib.hid (HR7.out.set6 (.int .i64 fr) (.int .i64 sp) (.slice B1 K.length d1) (.slice B2 K.length d2) (.int .i64 0) (.int .i64 (-1))); obtain ⟨⟨q0, q1, q2, q3⟩, ⟨r0, r1, r2, r3⟩⟩ := cells4 HR7.out.iv.bq; obtain ⟨⟨_, _⟩, ⟨k0, k1⟩⟩ := cells2 HR7.out.iv.bf; clear hb))
      all_goals
        go_wp2
        refine bodyPost_ret (res_mb _ _ w.heap.size (w.heap.size + 1) _ _ _ _ _ _ rfl rfl (by with_reducible exact HX.out.1) (by with_reducible exact HX.out.2.1)) rfl ?_
        rw [Hfin.out]
        exact ⟨_, _, rfl, HY.out, HX.out.2.2⟩
      -- end
    have hkn' : (k : Int) < n := by omega
    obtain ⟨b0, o0, cn, b1, o1, cl, r, A, c, hr, ⟨hb0, hb1⟩, z0, z1, x0, y0, hrd⟩ := (HS.out w (Below.refl _ _)).at_ (i := k) (by rw [← Hn.out]; exact hkn)
    rw [← Hn.out] at z0 z1
    have hqo : q < wo.heap.size := Nat.lt_of_lt_of_le hqw HR.out.iv.bl.size
    have hrl := (Hsl.out r (List.mem_of_getElem? hr))
    have Hr0 := Lib.hid hr
    have Hxc := Lib.hid (fun W (hb : Below w.heap.size w W) => show (W.cell? ⟨q, 0, none⟩ = some (.slice (some ⟨b0, o0, none⟩) n cn) ∧ W.cell? ⟨q, 1, none⟩ = some (.slice (some ⟨b1, o1, none⟩) n cl)) ∧ (W.cell? ⟨b0, o0 + k, none⟩ = some (.string (B8 r.1)) ∧ W.cell? ⟨b1, o1 + k, none⟩ = some (.slice A r.2.length c)) ∧ Rd W W.heap.size 2 A r.2.length (ptsC r.2) from
      ⟨⟨(hb.cell (p := ⟨q, 0, none⟩) hqw).trans z0, (hb.cell (p := ⟨q, 1, none⟩) hqw).trans z1⟩, ⟨(hb.cell (p := ⟨b0, o0 + k, none⟩) hb0).trans x0, (hb.cell (p := ⟨b1, o1 + k, none⟩) hb1).trans y0⟩, (hrd.below hb).more hb.size⟩)
    have Hjc := Lib.hid (fun W (hb : Below w.heap.size w W) (j : Nat) (r' : Rw) (hr' : S[j]? = some r') => show W.cell? ⟨b0, o0 + j, none⟩ = some (.string (B8 r'.1)) from
      (HS.out _ hb).nm_ (Hxc.out W hb).1.1 hr')
    clear z0 z1 x0 y0 hb0 hb1
    obtain ⟨⟨z0, z1⟩, ⟨x0, y0⟩, _⟩ := Hxc.out _ HR.out.iv.bl
    have HRk0 := Lib.hid (HRk.out k r hr)
    have Hlo := Lib.hid (fun W => labelsOf_u r.1 hrl.1 W)
    have Hvl := Lib.hid hrl.2
    obtain ⟨cc, ca, hcc⟩ : ∃ cc ca, rdF r.1 = (cc, ca) := ⟨_, _, rfl⟩
    rw [hcc] at Hlo HRk0
    clear hcc hrl hrd hr
    go_wp2_with fail
    refine (Hlo.out _).mono ?_
    rintro e w3 ⟨u, ll, rfl, hown, _, _, hb⟩
    rw [show fV (cc, ca) = .agg #[.int .i64 (cc : Int), .int .i64 ca] from rfl]
    obtain ⟨Au, cu, rfl, _, _, _⟩ := own_form hown
    obtain ⟨f, hf⟩ : ∃ f, f = w3.heap.size := ⟨_, rfl⟩
    have HF3 := Lib.hid (show Blk (w3.alloc (.cells #[.int .i64 (cc : Int), .int .i64 ca] 29)) f 29 #[.int .i64 (cc : Int), .int .i64 ca] by rw [hf]; exact Blk.new w3 _ _)
    have Hf1 := Lib.hid (show w.heap.size + 1 < f by rw [hf]; exact (HR.out.below hb).iv.bf.lt)
    have Hf0 := Lib.hid (show f ≠ w.heap.size from Nat.ne_of_gt (Nat.lt_of_succ_lt Hf1.out))
    have HR3 := Lib.hid ((HR.out.below hb).below (Below.alloc (Below.refl _ _) (Nat.le_refl _) (.cells #[.int .i64 (cc : Int), .int .i64 ca] 29)))
    clear hown hb x0 y0 z0 z1 Hlo
    -- the series before it
    obtain ⟨j, rj, hj1, hj2, hj3, hrj, hdup⟩ : ∃ (j : Nat) (rj : Rw), (0 < k → k ≤ j + 1) ∧ (0 < k → j + 1 ≤ k) ∧ j < n ∧ S[j]? = some rj ∧ dupB (S.map Prod.fst) k = (decide (0 < k) && leS r.1 rj.1) := by
      have hj : k - 1 < S.length := by rw [← Hn.out]; omega
      refine ⟨k - 1, S[k - 1], fun h => by omega, fun h => by omega, by rw [Hn.out]; exact hj, List.getElem?_eq_getElem hj, ?_⟩
      unfold dupB
      rw [List.getD_eq_getElem?_getD, List.getD_eq_getElem?_getD, List.getElem?_map, List.getElem?_map, Hr0.out, List.getElem?_eq_getElem hj]
      rfl
    have Hrj := Lib.hid hrj
    have xj := Hjc.out _ HR3.out.iv.bl j rj hrj
    obtain ⟨⟨z0, z1⟩, ⟨x0, y0⟩, _⟩ := Hxc.out _ HR3.out.iv.bl
    obtain ⟨⟨f0, f1⟩, _⟩ := cells2 HF3.out
    have Hcmp := Lib.hid (show (Op.bytesLess (B8 r.1).toList (B8 rj.1).toList || (B8 r.1).toList == (B8 rj.1).toList) = leS r.1 rj.1 by rw [B8_toList, B8_toList]; rfl)
    have Hw := Lib.hid (show 0 < k → IntKind.i64.wrap ((k : Int) - 1) = (j : Int) from fun h => by rw [IntKind.wrap_i64]; have := hj1 h; have := hj2 h; omega)
    have Hdup := Lib.hid hdup
    have hjn : (j : Int) < n := by omega
    clear hj1 hj2 hdup hrj
    go_upto_region 9 with fail
    rw [← hf]
    go_cut [76] (fun s76 wx => s76 = .bool (decide (cc = 0) && dupB (S.map Prod.fst) k) ∧ Below (w3.alloc (.cells #[.int .i64 (cc : Int), .int .i64 ca] 29)).heap.size (w3.alloc (.cells #[.int .i64 (cc : Int), .int .i64 ca] 29)) wx)
    case first =>
      -- slow
      by_cases hc0 : cc = 0
      case neg =>
        have hc0' : ((cc : Int) == 0) = false := by rw [beq_eq_false_iff_ne]; omega
        have Hd := Lib.hid (show (decide (cc = 0) && dupB (S.map Prod.fst) k) = false by rw [decide_eq_false hc0]; rfl)
        clear hc0
        go_quiet (fail)
        go_wp2
        go_meet
        exact ⟨by rw [Hd.out], Below.drewN (Below.refl _ _) nq⟩
      have hc0' : ((cc : Int) == 0) = true := by rw [hc0]; rfl
      have Hdc := Lib.hid (show (decide (cc = 0) && dupB (S.map Prod.fst) k) = dupB (S.map Prod.fst) k by rw [decide_eq_true hc0]; rfl)
      clear hc0
      rcases Nat.eq_zero_or_pos k with h0 | h0
      · have Hd := Lib.hid (show dupB (S.map Prod.fst) k = false by rw [Hdup.out, decide_eq_false (by omega)]; rfl)
        have hd0 : decide ((0 : Int) < k) = false := decide_eq_false (by omega)
        have hd1 : decide (0 < k) = false := decide_eq_false (by omega)
        clear h0
        go_quiet (fail)
        go_wp2
        go_meet
        exact ⟨by rw [Hdc.out, Hd.out], Below.drewN (Below.refl _ _) nq⟩
      · have Hd := Lib.hid (show dupB (S.map Prod.fst) k = leS r.1 rj.1 by rw [Hdup.out, decide_eq_true h0, Bool.true_and])
        have hd0 : decide ((0 : Int) < k) = true := decide_eq_true (by omega)
        have hd1 : decide (0 < k) = true := decide_eq_true h0
        have hle := Hcmp.out
        have hw := Hw.out h0
        clear h0
        cases hls : leS r.1 rj.1
        all_goals
          rw [hls] at hle Hd
          clear hls
          go_quiet (fail)
          go_wp2
          go_meet
          exact ⟨by rw [Hdc.out, Hd.out], Below.drewN (Below.refl _ _) nq⟩
      -- end
    case rest =>
      obtain ⟨rfl, hB4⟩ := hcut
      rename World => w4
      have HR4 := Lib.hid (HR3.out.below hB4)
      have HF4 := Lib.hid (HF3.out.below hB4 HF3.out.lt)
      clear hB4 x0 xj y0 z0 z1 f0 f1 HR3 HF3 Hw Hcmp Hdup Hrj hf
      apply_assumption
      obtain ⟨v76, hv76⟩ : ∃ v, v = (decide (cc = 0) && dupB (S.map Prod.fst) k) := ⟨_, rfl⟩
      obtain ⟨⟨ec, ea⟩, hE⟩ : ∃ E, E = fE (cc, ca) (dupB (S.map Prod.fst) k) := ⟨_, rfl⟩
      have HE := Lib.hid (show (ec, ea) = if v76 = true then (3, -1) else (cc, ca) by rw [hE, hv76]; rfl)
      obtain ⟨⟨pc, pa⟩, hpp⟩ : ∃ p, p = ptF r.2 := ⟨_, rfl⟩
      obtain ⟨⟨fc, fa⟩, hG⟩ : ∃ G, G = fG (cc, ca) (dupB (S.map Prod.fst) k) (ptF r.2) := ⟨_, rfl⟩
      have HG := Lib.hid (show (fc, fa) = if ec = 0 then (pc, pa) else (ec, ea) by rw [hG]; unfold fG; rw [← hE, ← hpp])
      have HRk2 := Lib.hid (show R k = if fc ≠ 0 then some (fc - 1) else if allIn fr (fr + sp) r.2 = true then none else some 1 by rw [HRk0.out, mkV_G, ← hG])
      have Hp0 := Lib.hid (fun (h : fc = 0) => show (ptF r.2).1 = 0 from fG_zero (f := (cc, ca)) (dup := dupB (S.map Prod.fst) k) (by rw [← hG]; exact h))
      have Hpt := Lib.hid (show ptF r.2 = (pc, pa) from hpp.symm)
      rw [← hv76]
      clear HRk0 hv76 hE hpp hG
      go_upto_if 76 with fail
      go_cut [] (fun wx => RM w wx g #[.int .i64 fr, .int .i64 sp, .slice B1 K.length d1, .slice B2 K.length d2] (.slice none 0 0) 0 [] (.slice B1 K.length d1) K.length (txS K) (.slice B2 K.length d2) K.length (chS K) ∧ Blk wx f 29 #[.int .i64 (ec : Int), .int .i64 ea])
      case first =>
        -- slow
        cases v76 with
        | true =>
          obtain ⟨rfl, rfl⟩ : ec = 3 ∧ ea = -1 := by have := HE.out; rw [if_pos rfl] at this; injection this with x y; exact ⟨x, y⟩
          go_wp2_with fail
          refine (bare_any 3 _).mono ?_
          rintro e w5 ⟨rfl, hb⟩
          have HF5 := Lib.hid (HF4.out.below hb HF4.out.lt)
          have HF := Lib.hid ((HF5.out.set_ 0 (.int .i64 3)).set_ 1 (.int .i64 (-1)))
          have HM := Lib.hid (((HR4.out.below hb).setF (i := 0) HF5.out Hf1.out (.int .i64 3)).setF (i := 1) (HF5.out.set_ 0 (.int .i64 3)) Hf1.out (.int .i64 (-1)))
          obtain ⟨_, ⟨g0, g1⟩⟩ := cells2 HF5.out
          clear hb
          go_wp2
          go_meet
          exact ⟨HM.out, HF.out⟩
        | false =>
          obtain ⟨rfl, rfl⟩ : ec = cc ∧ ea = ca := by have := HE.out; rw [if_neg (by decide)] at this; injection this with x y; exact ⟨x, y⟩
          go_wp2
          go_meet
          exact ⟨HR4.out, HF4.out⟩
        -- end
      case rest =>
        obtain ⟨hRB, hFB⟩ := hcut
        have HRB := Lib.hid hRB; have HFB := Lib.hid hFB
        clear hRB hFB HR4 HF4 HE
        rename World => wB
        apply_assumption
        obtain ⟨⟨z0, z1⟩, ⟨x0, y0⟩, hrd⟩ := Hxc.out _ HRB.out.iv.bl
        obtain ⟨⟨f0, f1⟩, _⟩ := cells2 HFB.out
        have Hpf := Lib.hid (pointsFault_u A r.2.length c r.2 wB hrd)
        rw [Hpt.out] at Hpf
        obtain ⟨L, hL⟩ : ∃ L, L = r.2.length := ⟨_, rfl⟩
        have HL := Lib.hid hL
        rw [← hL] at y0 Hpf Hxc
        clear hrd hL
        go_upto_if 80 with fail
        go_cut [] (fun wx => RM w wx g #[.int .i64 fr, .int .i64 sp, .slice B1 K.length d1, .slice B2 K.length d2] (.slice none 0 0) 0 [] (.slice B1 K.length d1) K.length (txS K) (.slice B2 K.length d2) K.length (chS K) ∧ Blk wx f 29 #[.int .i64 (fc : Int), .int .i64 fa])
        case first =>
          -- slow
          by_cases he0 : ec = 0
          · obtain ⟨rfl, rfl⟩ : fc = pc ∧ fa = pa := by have := HG.out; rw [if_pos he0] at this; injection this with x y; exact ⟨x, y⟩
            have hez : ((ec : Int) == 0) = true := by rw [he0]; rfl
            clear he0
            go_wp2_with fail
            refine Hpf.out.mono ?_
            rintro e w5 ⟨rfl, hb⟩
            rw [show fV (fc, fa) = .agg #[.int .i64 (fc : Int), .int .i64 fa] from rfl]
            have HF5 := Lib.hid (HFB.out.below hb HFB.out.lt)
            have HF6 := Lib.hid ((HF5.out.set_ 0 (.int .i64 (fc : Int))).set_ 1 (.int .i64 fa))
            have HR6 := Lib.hid (((HRB.out.below hb).setF (i := 0) HF5.out Hf1.out (.int .i64 (fc : Int))).setF (i := 1) (HF5.out.set_ 0 (.int .i64 (fc : Int))) Hf1.out (.int .i64 fa))
            obtain ⟨_, ⟨g0, g1⟩⟩ := cells2 HF5.out
            clear hb Hpf
            go_wp2
            go_meet
            exact ⟨HR6.out, HF6.out⟩
          · obtain ⟨rfl, rfl⟩ : fc = ec ∧ fa = ea := by have := HG.out; rw [if_neg he0] at this; injection this with x y; exact ⟨x, y⟩
            have hez : ((fc : Int) == 0) = false := by rw [beq_eq_false_iff_ne]; omega
            clear he0
            go_wp2
            go_meet
            exact ⟨HRB.out, HFB.out⟩
          -- end
        case rest =>
          obtain ⟨hR6, hF6⟩ := hcut
          have HR6 := Lib.hid hR6; have HF6 := Lib.hid hF6
          clear hR6 hF6 HRB HFB HG Hpf f0 f1 z0 z1 x0 y0 Hpt
          rename World => w6
          apply_assumption
          obtain ⟨⟨f0, f1⟩, _⟩ := cells2 HF6.out
          by_cases hp0 : fc = 0
          case neg =>
            -- slow
            have hcp : (0 : Int) < (fc : Int) := by omega
            have Hfin := Lib.hid (show rmR fr sp S = ((fc, (k : Int)), (0, 0), []) from by
              have h1 : R k = some (fc - 1) := by rw [HRk2.out, if_pos hp0]
              have h2 : makeR fr sp S = ((fc - 1 + 1, (k : Int)), []) := by rw [Hr.out, firstM_err Hfb.out h1 n hkn]
              have h3 := rmR_bad h2
              rwa [show fc - 1 + 1 = fc by omega] at h3)
            clear hp0
            have HX0 := Lib.hid (bo_set HR6.out.iv (Below.refl _ _) (.int .i64 0) (.int .i64 0) (.slice none 0 0) (.slice none 0 0) (.int .i64 (fc : Int)) (.int .i64 (k : Int)))
            have HXB := Lib.hid (bo_setB HR6.out.iv (.int .i64 0) (.int .i64 0) (.slice none 0 0) (.slice none 0 0) (.int .i64 (fc : Int)) (.int .i64 (k : Int)))
            obtain ⟨⟨q0, q1, q2, q3⟩, ⟨r0, r1, r2, r3⟩⟩ := cells4 HR6.out.iv.bq
            obtain ⟨⟨_, _⟩, ⟨k0, k1⟩⟩ := cells2 HR6.out.iv.bf
            obtain ⟨⟨f0, f1⟩, _⟩ := cells2 HF6.out
            obtain ⟨⟨f2, f3⟩, ⟨f4, f5⟩⟩ := bo_far (w := w) HF6.out Hf0.out (.int .i64 0) (.int .i64 0) (.slice none 0 0) (.slice none 0 0)
            go_wp2
            go_region
            all_goals
              go_wp2
              refine bodyPost_ret (res_mb _ _ w.heap.size (w.heap.size + 1) _ _ _ _ _ _ rfl rfl (by first | with_reducible exact HX0.out.1.drew | with_reducible exact HXB.out.1.drew | with_reducible exact HX0.out.1 | with_reducible exact HXB.out.1) (by first | with_reducible exact HX0.out.2.1.drew | with_reducible exact HXB.out.2.1.drew | with_reducible exact HX0.out.2.1 | with_reducible exact HXB.out.2.1)) rfl ?_
              exact RB.err Hfin.out rfl (by first | with_reducible exact HX0.out.2.2.drew | with_reducible exact HXB.out.2.2.drew | with_reducible exact HX0.out.2.2 | with_reducible exact HXB.out.2.2)
            -- end
          have hpt0 := Hp0.out hp0
          subst hp0
          have HRk3 := Lib.hid (show R k = if allIn fr (fr + sp) r.2 = true then none else some 1 by rw [HRk2.out, if_neg (fun h => h rfl)])
          obtain ⟨hl120, hoks⟩ := ptF_zero.1 hpt0
          rw [← HL.out] at hl120 hoks
          have Hoks := Lib.hid hoks
          have Hin6 := Lib.hid (Hin.out _ A L c r.2 (Hxc.out _ HR6.out.iv.bl).2.2 (Nat.le_trans hl120 (by decide)))
          obtain ⟨⟨z0, z1⟩, ⟨x0, y0⟩, _⟩ := Hxc.out _ HR6.out.iv.bl
          have f0 : w6.cell? ⟨f, 0, none⟩ = some (.int .i64 0) := f0
          clear hoks HRk2 hpt0 Hp0
          obtain ⟨ain, hain⟩ : ∃ ain, ain = allIn fr (fr + sp) r.2 := ⟨_, rfl⟩
          rw [← hain] at Hin6 HRk3
          clear hain
          go_wp2_with fail
          refine Hin6.out.mono ?_
          rintro e w7 ⟨rfl, hb⟩
          cases ain with
          | false =>
            -- slow
            have Hfin := Lib.hid (show rmR fr sp S = ((2, (k : Int)), (0, 0), []) from by
              have h1 : R k = some 1 := by rw [HRk3.out]; rfl
              exact rmR_bad (by rw [Hr.out, firstM_err Hfb.out h1 n hkn]))
            have HI7 := Lib.hid HR6.out.iv
            clear f0 f1 z0 z1 x0 y0
            have HX := Lib.hid (bo_set HI7.out hb (.int .i64 0) (.int .i64 0) (.slice none 0 0) (.slice none 0 0) (.int .i64 2) (.int .i64 (k : Int)))
            obtain ⟨⟨q0, q1, q2, q3⟩, ⟨r0, r1, r2, r3⟩⟩ := cells4 (HI7.out.bq.below hb HI7.out.bq.lt)
            obtain ⟨⟨_, _⟩, ⟨k0, k1⟩⟩ := cells2 (HI7.out.bf.below hb HI7.out.bf.lt)
            clear hb
            go_wp2
            refine bodyPost_ret (res_mb _ _ w.heap.size (w.heap.size + 1) _ _ _ _ _ _ rfl rfl (by with_reducible exact HX.out.1) (by with_reducible exact HX.out.2.1)) rfl ?_
            exact RB.err Hfin.out rfl HX.out.2.2
          -- end
          | true =>
            have Hfn := Lib.hid (firstM_ok Hfb.out (show R k = none by rw [HRk3.out]; rfl))
            have HR7 := Lib.hid (HR6.out.below hb)
            clear hb f0 f1 z0 z1 x0 y0 HR6 HF6 HRk3 Hin6
            obtain ⟨⟨z0, z1⟩, ⟨x0, y0⟩, hrd⟩ := Hxc.out _ HR7.out.iv.bl
            by_cases hL0 : L = 0
            · have hL0' : ¬ (0 : Int) < (L : Int) := by omega
              have HKn := Lib.hid (show K = encR (keepR (S.take (k + 1))) by rw [keep_encs Hr0.out, if_pos (by rw [← HL.out]; exact hL0)]; exact HKe.out)
              clear hL0 hrd
              go_wp2
              go_roundw
              case rel =>
                go_light
                exact ⟨k + 1, _, _, K, hkn, by go_num, HR7.out, Nat.le_succ_of_le hKk, HKn.out, Hfn.out⟩
              case measure =>
                go_light
                simp [intOf]; omega
            have hL0' : (0 : Int) < (L : Int) := by omega
            have HKn := Lib.hid (show K ++ [(r.1, chunkL r.2)] = encR (keepR (S.take (k + 1))) by rw [keep_encs Hr0.out, if_neg (by rw [← HL.out]; exact hL0), ← HKe.out])
            have Hch := Lib.hid (fun W (hb : Below w.heap.size w W) => chunkOf_any A L c r.2 W (Hxc.out W hb).2.2 hl120 Hoks.out Hvl.out)
            obtain ⟨⟨o_0, o_1, o_2, o_3⟩, _⟩ := cells4 HR7.out.ob
            have hqw7 : q < w7.heap.size := Nat.lt_of_lt_of_le hqw HR7.out.iv.bl.size
            have hgw7 : g < w7.heap.size := HR7.out.ob.lt
            generalize hsn : B8 r.1 = sn at x0 Hxc
            have Hsn := Lib.hid hsn
            have HqF := Lib.hid (fun W (hf : Fr (fun _ => False) w7 W) => Nat.le_trans HR7.out.iv.bl.size hf.size)
            have HS7 := Lib.hid (fun W (hf : Fr (fun _ => False) w7 W) => hf.own HR7.out.pr.l (fun _ _ h => h))
            have HNx := Lib.hid (fun W wa v' (hf : Fr (fun _ => False) w7 W) (hgr : W.grownBy wa (Value.slice B1 K.length d1).ownBlock) (hown : wa.ownsRow w.heap.size 9 1 v' (K.length + 1) (txS K ++ [.string sn])) (hat : v'.ownBlock = (Value.slice B1 K.length d1).ownBlock ∨ v'.ownBlock = some W.heap.size) => HR7.out.left hf hgr hown hat)
            have hcs1 := str_one1 sn
            clear hL0 hrd hsn
            go_upto_region 19 with fail
            go_cut [] (fun wx => ∃ z1', RM w wx g #[.int .i64 fr, .int .i64 sp, z1', .slice B2 K.length d2] (.slice none 0 0) 0 [] z1' (K.length + 1) (txS K ++ [.string sn]) (.slice B2 K.length d2) K.length (chS K))
            case first =>
              go_region_law ((refine step_append_rd _ (by rfl) (.tmp 122) (.tmp 130) _ (by rfl) w.heap.size 9 i1 (.string ⟨#[]⟩) 1 16 Tryz.underlying22 Hi1.out Hy0.out Hy1.out Hy2.out (by rfl) (by decide) (.slice B1 K.length d1) K.length (txS K) (by rfl) (HS7.out _ (by repeat (first | exact Fr.refl _ _ | refine Fr.drew ?_ | refine Fr.alloc ?_ _))) _ (some ⟨w7.heap.size, 0, none⟩) 1 1 [.string sn] (by rfl) (one_cell w7 9 (.string sn)) hcs1 hk63 hk8 (HqF.out _ (by repeat (first | exact Fr.refl _ _ | refine Fr.drew ?_ | refine Fr.alloc ?_ _))) ?_; intro v' wa hown hgr hat; obtain ⟨A9, c9, rfl, _, _, _⟩ := own_form hown; have HQ := Lib.hid (HNx.out _ wa _ (by repeat (first | exact Fr.refl _ _ | refine Fr.drew ?_ | refine Fr.alloc ?_ _)) hgr hown hat); clear hown hat hgr; obtain ⟨⟨y0, y1⟩, _⟩ := HQ.out))
              all_goals (go_wp2_with fail; go_meet; exact ⟨_, HQ.out.2⟩)
            case rest =>
              obtain ⟨z1', hR8⟩ := hcut
              have HR8 := Lib.hid hR8
              rename World => w8
              apply_assumption
              obtain ⟨B1', d1', rfl, _, _, _⟩ := own_form hR8.pr.l
              obtain ⟨⟨o_0, o_1, o_2, o_3⟩, _⟩ := cells4 hR8.ob
              obtain ⟨⟨z0, z1⟩, ⟨x0, y0⟩, _⟩ := Hxc.out _ hR8.iv.bl
              have hqw8 : q < w8.heap.size := Nat.lt_of_lt_of_le hqw HR8.out.iv.bl.size
              have hgw8 : g < w8.heap.size := HR8.out.ob.lt
              have HRd8 := Lib.hid (HR8.out.below (Below.drew (Below.refl _ _)))
              have Hc8 := Lib.hid (fun W (h : RM w W g #[.int .i64 fr, .int .i64 sp, .slice B1' (K.length + 1) d1', .slice B2 K.length d2] (.slice none 0 0) 0 [] (.slice B1' (K.length + 1) d1') (K.length + 1) (txS K ++ [.string sn]) (.slice B2 K.length d2) K.length (chS K)) => show (W.cell? ⟨q, 1, none⟩ = some (.slice (some ⟨b1, o1, none⟩) n cl) ∧ W.cell? ⟨b1, o1 + k, none⟩ = some (.slice A L c)) ∧ W.cell? ⟨g, 3, none⟩ = some (.slice B2 K.length d2) from
                ⟨⟨(Hxc.out W h.iv.bl).1.2, (Hxc.out W h.iv.bl).2.1.2⟩, h.ob.cell 3⟩)
              have Hch8 := Lib.hid (Hch.out _ HRd8.out.iv.bl)
              generalize hso : bytesOf (chunkL r.2) = so at Hch8
              have Hso := Lib.hid hso
              have hcs2 := str_one1 so
              clear hR8 HS7 HNx HR7 hso hcs1 HqF
              go_upto_region 20 with fail
              go_region_law (first | (go_simp; go_at_call 63; refine Hch8.out.mono ?_; rintro e w9 ⟨rfl, hb⟩; have HR9 := Lib.hid (HRd8.out.below hb); have HRA := Lib.hid (HR9.out.below (Below.alloc (Below.refl _ _) (Nat.le_refl _) (.cells #[.string so] 9))); have hgw9 : g < w9.heap.size := HR9.out.ob.lt; obtain ⟨⟨o_4, o_5, o_6, o_7⟩, _⟩ := cells4 HR9.out.ob; clear hb) | (refine step_append_rd _ (by rfl) (.tmp 134) (.tmp 143) _ (by rfl) w.heap.size 9 i1 (.string ⟨#[]⟩) 1 16 Tryz.underlying22 Hi1.out Hy0.out Hy1.out Hy2.out (by rfl) (by decide) (.slice B2 K.length d2) K.length (chS K) (by rfl) (HRA.out.pr.r) _ (some ⟨w9.heap.size, 0, none⟩) 1 1 [.string so] (by rfl) (one_cell w9 9 (.string so)) hcs2 hk63 hk8 (HRA.out.iv.bl.size) ?_; intro v' wa hown hgr hat; obtain ⟨A9, c9, rfl, _, _, _⟩ := own_form hown; have HQ := Lib.hid (HRA.out.right (Fr.refl _ _) hgr hown hat); clear hown hat hgr; obtain ⟨⟨y0, y1⟩, _⟩ := HQ.out))
              all_goals
                clear HR9 HRA HR8 HRd8 Hc8 Hch8
                go_wp2
                go_roundw
                case rel =>
                  go_light
                  have h1 := HQ.out.2
                  rw [← Hso.out, ← Hsn.out, (txS_snoc K (r.1, chunkL r.2)).symm, (chS_snoc K (r.1, chunkL r.2)).symm] at h1
                  have e3 : K.length + 1 = (K ++ [(r.1, chunkL r.2)]).length := by rw [List.length_append]; rfl
                  refine ⟨k + 1, .slice B1' (K.length + 1) d1', .slice A9 (K.length + 1) c9, K ++ [(r.1, chunkL r.2)], hkn, by go_num, ?_, by rw [← e3]; exact Nat.succ_le_succ hKk, HKn.out, Hfn.out⟩
                  rw [← e3]
                  exact h1
                case measure =>
                  go_light
                  simp [intOf]; omega
end Go.Proofs.YtpbgonpmpjpljaaGreatDoor
