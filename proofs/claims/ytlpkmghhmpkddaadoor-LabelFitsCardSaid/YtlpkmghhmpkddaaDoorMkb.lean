/- The reference's Bare and Fine. -/
import Derived.Test.YtlpkmghhmpkddaaDoorLabF
import Derived.Test.YtlpkmghhmpkddaaDoorFitN
import Derived.BigQuiet
namespace Go.Proofs.YtlpkmghhmpkddaaDoor
open Go.RowKit
set_option linter.unusedVariables false

theorem res_bare (tmps : Array Value) (W : World) (b : Nat) (v0 v1 : Value) (ha : tmps.getD 2 undef = .pointer (some ⟨b, 0, none⟩)) (hB : Blk W b 36 #[v0, v1]) :
    (results Tryd.f12 tmps).run Tryd.prog W = .ok (.agg #[v0, v1]) W := by
  obtain ⟨z0, z1⟩ := hB.duo2
  simp only [Array.getD_eq_getD_getElem?] at ha
  simp [results, Tryd.results12, go_sem, ha, z0, z1]
theorem bare_any (k : Int) (w : World) : Calls Tryd.prog 12 #[.int .i64 k] w fun e w' => e = .returned (.agg #[.int .i64 k, .int .i64 (-1)]) ∧ Below w.heap.size w w' := by
  go_enter Tryd.func12, Tryd.ntmps12
  go_wp2
  (try simp only [Exit.inBlock, Exit.then])
  have HB := Blk.new w 36 #[.int .i64 k, .int .i64 (-1)]
  refine bodyPost_ret (res_bare _ _ w.heap.size _ _ rfl HB) rfl ?_
  exact ⟨rfl, by go_grown⟩
theorem res_fine (tmps : Array Value) (W : World) (b : Nat) (v0 v1 : Value) (ha : tmps.getD 0 undef = .pointer (some ⟨b, 0, none⟩)) (hB : Blk W b 36 #[v0, v1]) :
    (results Tryd.f11 tmps).run Tryd.prog W = .ok (.agg #[v0, v1]) W := by
  obtain ⟨z0, z1⟩ := hB.duo2
  simp only [Array.getD_eq_getD_getElem?] at ha
  simp [results, Tryd.results11, go_sem, ha, z0, z1]
theorem fine_any (w : World) : Calls Tryd.prog 11 #[] w fun e w' => e = .returned (.agg #[.int .i64 0, .int .i64 (-1)]) ∧ Below w.heap.size w w' := by
  go_enter Tryd.func11, Tryd.ntmps11
  go_wp2
  (try simp only [Exit.inBlock, Exit.then])
  have HB := Blk.new w 36 #[.int .i64 0, .int .i64 (-1)]
  refine bodyPost_ret (res_fine _ _ w.heap.size _ _ rfl HB) rfl ?_
  exact ⟨rfl, by go_grown⟩
end Go.Proofs.YtlpkmghhmpkddaaDoor

namespace Go.Proofs.YtlpkmghhmpkddaaDoor
open Go.RowKit
set_option linter.unusedVariables false

theorem res_mf (tmps : Array Value) (W : World) (b : Nat) (v0 v1 : Value) (ha : tmps.getD 2 undef = .pointer (some ⟨b, 0, none⟩)) (hB : Blk W b 36 #[v0, v1]) :
    (results Tryd.f8 tmps).run Tryd.prog W = .ok (.agg #[v0, v1]) W := by
  obtain ⟨z0, z1⟩ := hB.duo2
  simp only [Array.getD_eq_getD_getElem?] at ha
  simp [results, Tryd.results8, go_sem, ha, z0, z1]
/-- A result's block that gets a fault. -/
theorem mf_put {w W : World} {u0 u1 : Value} (hk : Blk W w.heap.size 36 #[u0, u1]) (hb : Below w.heap.size w W) (v0 v1 : Value) :
    Blk ((W.setCell ⟨w.heap.size, 0, none⟩ v0).setCell ⟨w.heap.size, 1, none⟩ v1) w.heap.size 36 #[v0, v1] ∧ Below w.heap.size w ((W.setCell ⟨w.heap.size, 0, none⟩ v0).setCell ⟨w.heap.size, 1, none⟩ v1) :=
  ⟨(hk.set_ 0 v0).set_ 1 v1, Below.setCell (Below.setCell hb (p := ⟨w.heap.size, 0, none⟩) (Nat.le_refl _) v0) (p := ⟨w.heap.size, 1, none⟩) (Nat.le_refl _) v1⟩
set_option maxRecDepth 100000 in
set_option maxHeartbeats 8000000 in
theorem rmatches_any (A : Option Addr) (n c : Nat) (ms : List Mt) (w : World) (hM : Rd w w.heap.size 3 A n (mtC ms)) (hk : ∀ m ∈ ms, m.2.1.length ≤ 100000) :
    Calls Tryd.prog 8 #[.slice A n c] w fun e w' => e = .returned (fV (mtF ms)) ∧ Below w.heap.size w w' := by
  have hlen : ms.length = n := by have := hM.1; unfold mtC at this; rw [flat_len _ 3 (fun _ => rfl)] at this; omega
  have HM := Lib.hid (fun W (hb : Below w.heap.size w W) (i : Nat) (hi : i < n) => (hM.below hb).at3 hi)
  have HB1 := Lib.hid (Below.alloc (Below.refl w.heap.size w) (Nat.le_refl _) (.cells #[.int .i64 0, .int .i64 0] 36))
  have HK1 := Lib.hid (Blk.new w 36 #[.int .i64 0, .int .i64 0])
  have Hlen := Lib.hid hlen; have Hk := Lib.hid hk
  obtain ⟨F, hF⟩ : ∃ F, F = mtF ms := ⟨_, rfl⟩
  have HF := Lib.hid hF
  rw [← hF]
  clear hM hlen hk hF
  by_cases h6 : 6 < n
  · have h6' : (6 : Int) < n := by omega
    have Hr := Lib.hid (show F = (2, -1) by rw [HF.out]; unfold mtF; rw [if_pos (by rw [Hlen.out]; exact h6)])
    go_enter Tryd.func8, Tryd.ntmps8
    go_wp2_with fail
    refine (bare_any 2 _).mono ?_
    rintro e w2 ⟨rfl, hb⟩
    have HX := Lib.hid (mf_put (HK1.out.below hb HK1.out.lt) (Below.call HB1.out hb HB1.out.size) (.int .i64 2) (.int .i64 (-1)))
    have q0 := (HK1.out.below hb HK1.out.lt).cell 0; have q1 := (HK1.out.below hb HK1.out.lt).cell 1
    have r0 := (HK1.out.below hb HK1.out.lt).frozen 0; have r1 := (HK1.out.below hb HK1.out.lt).frozen 1
    clear hb
    go_wp2
    refine bodyPost_ret (res_mf _ _ w.heap.size _ _ rfl HX.out.1) rfl ?_
    exact ⟨by rw [Hr.out]; rfl, HX.out.2⟩
  have h6' : ¬ (6 : Int) < n := by omega
  have Hr := Lib.hid (show F = frstM ms n by rw [HF.out]; unfold mtF; rw [if_neg (by rw [Hlen.out]; exact h6), Hlen.out])
  go_enter Tryd.func8, Tryd.ntmps8
  go_wp2
  go_loopw [3] (fun iv wr => ∃ k : Nat, k ≤ n ∧ iv = .int .i64 k ∧ frstM ms k = (0, -1) ∧ Below w.heap.size w wr ∧ Blk wr w.heap.size 36 #[.int .i64 0, .int .i64 0]) (fun iv _ => n - (intOf iv).toNat)
  case atStart => exact ⟨0, Nat.zero_le _, rfl, rfl, HB1.out, HK1.out⟩
  case round =>
    rename World => wo
    obtain ⟨k, hk, rfl, hf, hb, hkb⟩ := hrel
    have Hf := Lib.hid hf; have HB := Lib.hid hb; have HK := Lib.hid hkb
    clear hf
    by_cases hkn : k < n
    case neg =>
      obtain rfl : k = n := by omega
      have hkn' : ¬ (k : Int) < k := by omega
      clear hb hkb
      go_wp2_with fail
      refine (fine_any _).mono ?_
      rintro e w2 ⟨rfl, hb⟩
      have HX := Lib.hid (mf_put (HK.out.below hb HK.out.lt) (Below.call HB.out hb HB.out.size) (.int .i64 0) (.int .i64 (-1)))
      have q0 := (HK.out.below hb HK.out.lt).cell 0; have q1 := (HK.out.below hb HK.out.lt).cell 1
      have r0 := (HK.out.below hb HK.out.lt).frozen 0; have r1 := (HK.out.below hb HK.out.lt).frozen 1
      clear hb
      go_wp2
      refine bodyPost_ret (res_mf _ _ w.heap.size _ _ rfl HX.out.1) rfl ?_
      exact ⟨by rw [Hr.out, Hf.out]; rfl, HX.out.2⟩
    have hkn' : (k : Int) < n := by omega
    obtain ⟨b0, o0, m, hA0, had0, hm, x0, x1, x2⟩ := HM.out _ hb k hkn
    subst hA0
    have Hm := Lib.hid hm
    have Hnm := Lib.hid (fun W => isName_any m.2.1 (Hk.out m (List.mem_of_getElem? hm)) W)
    have q0 := hkb.cell 0; have q1 := hkb.cell 1; have r0 := hkb.frozen 0; have r1 := hkb.frozen 1
    have HX := Lib.hid (fun c => mf_put hkb hb (.int .i64 c) (.int .i64 (k : Int)))
    obtain ⟨mk, mn, mv⟩ := m
    dsimp only at x0 x1 x2 Hnm
    generalize hsn : B8 mn = sn at x1 Hnm
    clear hb hkb hm hsn x2
    by_cases hko : kindOk mk
    case neg =>
      have hb1 : ((mk : Int) != 61) = true := by rw [bne_iff_ne]; intro h; exact hko (.inl (by omega))
      have hb2 : ((mk : Int) != 33) = true := by rw [bne_iff_ne]; intro h; exact hko (.inr (.inl (by omega)))
      have hb3 : ((mk : Int) != 126) = true := by rw [bne_iff_ne]; intro h; exact hko (.inr (.inr (by omega)))
      have Hz := Lib.hid (show F = (11, (k : Int)) by rw [Hr.out]; exact frstM_hit (by rw [Hf.out]) Hm.out (show mtBad (mk, mn, mv) = some 10 from if_pos hko) hkn)
      clear hko
      go_wp2
      refine bodyPost_ret (res_mf _ _ w.heap.size _ _ rfl (HX.out 11).1) rfl ?_
      exact ⟨by rw [Hz.out]; rfl, (HX.out 11).2⟩
    have Hbd := Lib.hid (show mtBad (mk, mn, mv) = if nameB mn = true then none else some 3 from if_neg (fun h => h hko))
    cases hnb : nameB mn with
    | false =>
      have Hz := Lib.hid (show F = (4, (k : Int)) by rw [Hr.out]; exact frstM_hit (by rw [Hf.out]) Hm.out (by rw [Hbd.out, if_neg (by rw [hnb]; decide)]) hkn)
      rw [hnb] at Hnm
      clear hnb Hbd Hm
      rcases hko with rfl | rfl | rfl
      all_goals
        go_wp2_with fail
        refine (Hnm.out _).mono ?_
        rintro e w3 ⟨rfl, rfl⟩
        go_wp2
        refine bodyPost_ret (res_mf _ _ w.heap.size _ _ rfl (HX.out 4).1) rfl ?_
        exact ⟨by rw [Hz.out]; rfl, (HX.out 4).2⟩
    | true =>
      have Hn := Lib.hid (frstM_next (by rw [Hf.out]) Hm.out (by rw [Hbd.out, if_pos hnb]))
      rw [hnb] at Hnm
      clear hnb Hbd Hm
      rcases hko with rfl | rfl | rfl
      all_goals
        go_wp2_with fail
        refine (Hnm.out _).mono ?_
        rintro e w3 ⟨rfl, rfl⟩
        go_wp2
        go_roundw
        case rel => exact ⟨k + 1, by omega, by go_num, Hn.out, HB.out, HK.out⟩
        case measure => simp [intOf]; omega
end Go.Proofs.YtlpkmghhmpkddaaDoor

namespace Go.Proofs.YtlpkmghhmpkddaaDoor
open Go.RowKit
set_option linter.unusedVariables false

theorem fitB_false {l : List Lb} {ms : List Mt} {k : Nat} {m : Mt} (hm : ms[k]? = some m) (h : oneB l m = false) : fitB l ms = false := by
  unfold fitB
  apply Bool.eq_false_iff.2
  intro hall
  have := List.all_eq_true.1 hall m (List.mem_of_getElem? hm)
  rw [h] at this
  cases this
theorem fitB_true {l : List Lb} {ms : List Mt} (h : ∀ j m, j < ms.length → ms[j]? = some m → oneB l m = true) : fitB l ms = true := by
  unfold fitB
  rw [List.all_eq_true]
  intro m hm
  obtain ⟨j, hj, rfl⟩ := List.getElem_of_mem hm
  exact h j _ hj (List.getElem?_eq_getElem hj)
set_option maxRecDepth 100000 in
set_option maxHeartbeats 20000000 in
theorem rfits_any (A Am : Option Addr) (n c nm cm : Nat) (l : List Lb) (ms : List Mt) (w : World) (hA : Rd w w.heap.size 2 A n (lbC l)) (hn : n ≤ 100000) (hM : Rd w w.heap.size 3 Am nm (mtC ms)) (hnm : nm ≤ 100000) (hk : ∀ m ∈ ms, kindOk m.1) :
    Calls Tryd.prog 10 #[.slice A n c, .slice Am nm cm] w fun e w' => e = .returned (.bool (fitB l ms)) ∧ Below w.heap.size w w' := by
  have hlenM : ms.length = nm := by have := hM.1; unfold mtC at this; rw [flat_len _ 3 (fun _ => rfl)] at this; omega
  have hlen : l.length = n := by have := hA.1; rw [lbC_len] at this; omega
  have HA := Lib.hid (fun W (hb : Below w.heap.size w W) (i : Nat) (hi : i < n) => (hA.below hb).at2 hi)
  have HM := Lib.hid (fun W (hb : Below w.heap.size w W) (i : Nat) (hi : i < nm) => (hM.below hb).at3 hi)
  have Hlen := Lib.hid hlen; have HlenM := Lib.hid hlenM; have Hk := Lib.hid hk
  obtain ⟨R, hR⟩ : ∃ R, R = fitB l ms := ⟨_, rfl⟩
  have HR := Lib.hid hR
  rw [← hR]
  clear hA hM hlen hlenM hk hR
  go_enter Tryd.func10, Tryd.ntmps10
  go_wp2
  go_loopw [5] (fun iv wr => ∃ i : Nat, i ≤ nm ∧ iv = .int .i64 i ∧ Below w.heap.size w wr ∧ ∀ j (m : Mt), j < i → ms[j]? = some m → oneB l m = true) (fun iv _ => nm - (intOf iv).toNat)
  case atStart => exact ⟨0, Nat.zero_le _, rfl, Below.refl _ _, fun j m h => absurd h (Nat.not_lt_zero _)⟩
  case round =>
    rename World => wo
    obtain ⟨i, hi, rfl, hb, hpre⟩ := hrel
    have HB := Lib.hid hb; have Hpre := Lib.hid hpre
    clear hpre
    by_cases him : i < nm
    case neg =>
      obtain rfl : i = nm := by omega
      have him' : ¬ (i : Int) < i := by omega
      have Hz := Lib.hid (show R = true by rw [HR.out]; exact fitB_true fun j m hj hm => Hpre.out j m (by rw [← HlenM.out]; exact hj) hm)
      clear hb
      go_wp2
      go_ret
      exact ⟨by rw [Hz.out] <;> rfl, HB.out⟩
    have him' : (i : Int) < nm := by omega
    obtain ⟨b1, o1, m, hA1, had1, hm, y0, y1, y2⟩ := HM.out _ hb i him
    subst hA1
    have Hm := Lib.hid hm
    have Hko := Lib.hid (Hk.out m (List.mem_of_getElem? hm))
    have Hyc := Lib.hid (fun W (hb : Below w.heap.size w W) => show W.cell? ⟨b1, o1 + i * 3, none⟩ = some (.int .u8 (m.1 : Int)) ∧ W.cell? ⟨b1, o1 + i * 3 + 1, none⟩ = some (.string (B8 m.2.1)) ∧ W.cell? ⟨b1, o1 + i * 3 + 2, none⟩ = some (.string (B8 m.2.2)) from by
      obtain ⟨b1', o1', m', hA1', had1', hm', z0, z1, z2⟩ := HM.out _ hb i him
      injection hA1' with e; injection e with e e2
      subst e; subst e2
      obtain rfl := Option.some.inj (hm.symm.trans hm')
      exact ⟨z0, z1, z2⟩)
    obtain ⟨mk, mn, mv⟩ := m
    dsimp only at y0 y1 y2 Hko Hyc
    have Hnl := Lib.hid (B8_toList mn); have Hvl := Lib.hid (B8_toList mv); have Hvs := Lib.hid (B8_size mv)
    generalize hsn : B8 mn = sn at y1 Hyc Hnl
    generalize hsv : B8 mv = sv at y2 Hyc Hvl Hvs
    have Hnx := Lib.hid (fun (h : oneB l (mk, mn, mv) = true) => show ∀ j (m : Mt), j < i + 1 → ms[j]? = some m → oneB l m = true from fun j m hj hm' => by
      rcases Nat.lt_or_ge j i with h2 | h2
      · exact Hpre.out j m h2 hm'
      · obtain rfl : j = i := by omega
        obtain rfl := Option.some.inj (hm'.symm.trans Hm.out)
        exact h)
    have Hno := Lib.hid (fun (h : oneB l (mk, mn, mv) = false) => HR.out.trans (fitB_false Hm.out h))
    clear hb hm hsn hsv y0 y1 y2
    go_wp2
    go_loopw [6, 7] (fun vv kv wq => ∃ k : Nat, k ≤ n ∧ kv = .int .i64 k ∧ vv = .string (B8 (vOf (l.take k) mn)) ∧ Below w.heap.size w wq) (fun _ kv _ => n - (intOf kv).toNat)
    case atStart => exact ⟨0, Nat.zero_le _, rfl, rfl, HB.out⟩
    case round =>
      rename World => wq
      obtain ⟨k, hk, rfl, rfl, hb⟩ := hrel
      have HBq := Lib.hid hb
      obtain ⟨y0, y1, y2⟩ := Hyc.out _ hb
      by_cases hkn : k < n
      · have hkn' : (k : Int) < n := by omega
        obtain ⟨b0, o0, p, hA0, had0, hp, x0, x1⟩ := HA.out _ hb k hkn
        subst hA0
        have Hp := Lib.hid (vOf_take mn hp)
        have hpl : (B8 p.1).toList = p.1 := B8_toList p.1
        generalize vOf (l.take k) mn = v0 at Hp ⊢
        by_cases he : p.1 = mn
        · have hq : ((B8 p.1).toList == sn.toList) = true := by rw [hpl, Hnl.out, he]; exact beq_self_eq_true _
          have Hn := Lib.hid (show vOf (l.take (k + 1)) mn = p.2 by rw [Hp.out, if_pos he])
          clear hb hp he hpl
          generalize B8 p.1 = s1 at x0 hq
          go_wp2
          go_quiet (fail)
          go_wp2
          go_roundw
          case rel => exact ⟨k + 1, by omega, by go_num, by rw [Hn.out], Below.drewN HBq.out nq⟩
          case measure => simp [intOf]; omega
        · have hq : ((B8 p.1).toList == sn.toList) = false := by rw [hpl, Hnl.out, beq_eq_false_iff_ne]; exact he
          have Hn := Lib.hid (show vOf (l.take (k + 1)) mn = v0 by rw [Hp.out, if_neg he])
          clear hb hp he hpl
          generalize B8 p.1 = s1 at x0 hq
          go_wp2
          go_quiet (fail)
          go_wp2
          go_roundw
          case rel => exact ⟨k + 1, by omega, by go_num, by rw [Hn.out], Below.drewN HBq.out nq⟩
          case measure => simp [intOf]; omega
      · obtain rfl : k = n := by omega
        have hkn' : ¬ (k : Int) < k := by omega
        rw [show l.take k = l from List.take_of_length_le (by rw [Hlen.out]; exact Nat.le_refl _)]
        obtain ⟨x, hx⟩ : ∃ x, x = vOf l mn := ⟨_, rfl⟩
        have Hx := Lib.hid (fun q => show oneB l (q, mn, mv) = if q = 61 then x == mv else if q = 33 then x != mv else preB x mv by rw [hx]; rfl)
        rw [← hx]
        have hxl : (B8 x).toList = x := B8_toList x
        have hxs : (B8 x).size = x.length := B8_size x
        obtain ⟨e, he⟩ : ∃ e, e = (x == mv) := ⟨_, rfl⟩
        have hq : ((B8 x).toList == sv.toList) = e := by rw [hxl, Hvl.out, he]
        have hqn : ((B8 x).toList != sv.toList) = !e := by rw [bne, hq]
        obtain ⟨vp, hvp⟩ : ∃ vp, vp = (x.take mv.length == mv) := ⟨_, rfl⟩
        have hpe : (((B8 x).extract 0 sv.size).toList == sv.toList) = vp := by rw [Hvs.out, B8_extract, List.drop_zero, B8_toList, Hvl.out, hvp]
        have Hpb := Lib.hid (show preB x mv = (decide (mv.length ≤ x.length) && vp) by unfold preB; rw [hvp])
        obtain ⟨xn, hxn⟩ : ∃ xn, xn = x.length := ⟨_, rfl⟩
        obtain ⟨vn, hvn⟩ : ∃ vn, vn = mv.length := ⟨_, rfl⟩
        rw [← hxn] at hxs Hpb
        rw [← hvn] at Hpb
        have hvs : sv.size = vn := by rw [Hvs.out, hvn]
        clear hb hx hxl hvp hxn hvn
        rcases Hko.out with rfl | rfl | rfl
        · have Hr := Lib.hid (show oneB l (61, mn, mv) = e by rw [Hx.out, if_pos rfl, he])
          clear he hqn hpe hxs hvs
          generalize B8 x = sx at hq ⊢
          cases e with
          | true =>
            go_wp2
            go_roundw
            case rel => exact ⟨i + 1, by omega, by go_num, HBq.out, Hnx.out Hr.out⟩
            case measure => simp [intOf]; omega
          | false =>
            have Hz := Lib.hid (Hno.out Hr.out)
            go_wp2
            go_ret
            exact ⟨by rw [Hz.out] <;> rfl, HBq.out⟩
        · have Hr := Lib.hid (show oneB l (33, mn, mv) = !e by rw [Hx.out, if_neg (by decide), if_pos rfl, he]; rfl)
          clear he hpe hxs hvs
          generalize B8 x = sx at hq hqn ⊢
          cases e with
          | true =>
            have hqn : (sx.toList != sv.toList) = false := hqn
            have Hz := Lib.hid (Hno.out Hr.out)
            go_wp2
            go_ret
            exact ⟨by rw [Hz.out] <;> rfl, HBq.out⟩
          | false =>
            have hqn : (sx.toList != sv.toList) = true := hqn
            go_wp2
            go_roundw
            case rel => exact ⟨i + 1, by omega, by go_num, HBq.out, Hnx.out Hr.out⟩
            case measure => simp [intOf]; omega
        · have Hr := Lib.hid (show oneB l (126, mn, mv) = (decide (vn ≤ xn) && vp) by rw [Hx.out, if_neg (by decide), if_neg (by decide)]; exact Hpb.out)
          clear he hqn
          generalize B8 x = sx at hq hpe hxs ⊢
          by_cases hvx : vn ≤ xn
          · have h1 : (sv.size : Int) ≤ (sx.size : Int) := by omega
            have h2 : (vn : Int) ≤ (xn : Int) := by omega
            have Hr := Lib.hid (show oneB l (126, mn, mv) = vp by rw [Hr.out, decide_eq_true hvx, Bool.true_and])
            rw [hvs] at hpe
            cases vp with
            | true =>
              go_wp2
              go_roundw
              case rel => exact ⟨i + 1, by omega, by go_num, HBq.out, Hnx.out Hr.out⟩
              case measure => simp [intOf]; omega
            | false =>
              have Hz := Lib.hid (Hno.out Hr.out)
              go_wp2
              go_ret
              exact ⟨by rw [Hz.out] <;> rfl, HBq.out⟩
          · have h1 : ¬ (sv.size : Int) ≤ (sx.size : Int) := by omega
            have h2 : ¬ (vn : Int) ≤ (xn : Int) := by omega
            have Hz := Lib.hid (Hno.out (show oneB l (126, mn, mv) = false by rw [Hr.out, decide_eq_false hvx, Bool.false_and]))
            clear hpe hvx
            go_wp2
            go_ret
            exact ⟨by rw [Hz.out] <;> rfl, HBq.out⟩
end Go.Proofs.YtlpkmghhmpkddaaDoor
