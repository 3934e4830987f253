/- Blocks: bounds, End, within by contracts. -/
import Derived.Test.YtfkklcmepcocoaaGreatDoorLabF
import Derived.Test.YtfkklcmepcocoaaGreatDoorPtsRef
import Derived.BigQuiet
namespace Go.Proofs.YtfkklcmepcocoaaGreatDoor
open Go.RowKit
set_option linter.unusedVariables false

def bndB (from_ span : Int) : Bool := decide (1 ≤ span ∧ span ≤ 100000 ∧ -1099511627776 ≤ from_ ∧ from_ ≤ 1099511627776)
theorem bounds_any {es : Nat → Addr} {B : Nat} (f s : Int) (w : World) (hS : SVL es B w) :
    Calls Tryz.prog 49 #[.int .i64 f, .int .i64 s] w fun e w' => (bndB f s = true → e = .returned .nilIface) ∧ (bndB f s = false → e = .returned (sentV (es 1))) ∧ w = w' := by
  have g1 : w.cell? ⟨0, 0, none⟩ = some (sentV (es 1)) := hS.var 1 (by decide)
  clear hS
  have Hno : ∀ (h : ¬ (1 ≤ s ∧ s ≤ 100000 ∧ -1099511627776 ≤ f ∧ f ≤ 1099511627776)), bndB f s = false := fun h => decide_eq_false h
  by_cases h1 : s < 1
  · have Hf := Lib.hid (Hno (by omega))
    clear Hno
    go_enter Tryz.func49, Tryz.ntmps49
    go_wp2
    go_ret
    exact ⟨fun h => (by rw [Hf.out] at h; cases h), fun _ => rfl, rfl⟩
  by_cases h2 : 100000 < s
  · have Hf := Lib.hid (Hno (by omega))
    clear Hno
    go_enter Tryz.func49, Tryz.ntmps49
    go_wp2
    go_ret
    exact ⟨fun h => (by rw [Hf.out] at h; cases h), fun _ => rfl, rfl⟩
  by_cases h3 : f < -1099511627776
  · have Hf := Lib.hid (Hno (by omega))
    clear Hno
    go_enter Tryz.func49, Tryz.ntmps49
    go_wp2
    go_ret
    exact ⟨fun h => (by rw [Hf.out] at h; cases h), fun _ => rfl, rfl⟩
  by_cases h4 : 1099511627776 < f
  · have Hf := Lib.hid (Hno (by omega))
    clear Hno
    go_enter Tryz.func49, Tryz.ntmps49
    go_wp2
    go_ret
    exact ⟨fun h => (by rw [Hf.out] at h; cases h), fun _ => rfl, rfl⟩
  have Hf := Lib.hid (show bndB f s = true from decide_eq_true (by omega))
  clear Hno
  go_enter Tryz.func49, Tryz.ntmps49
  go_wp2
  go_ret
  exact ⟨fun _ => rfl, fun h => (by rw [Hf.out] at h; cases h), rfl⟩
/-- Is a tick outside a stretch? -/
def outB (f e t : Int) : Bool := decide (t < f ∨ e ≤ t)
theorem withinC_any (t b f en : Int) (pf pe : Nat) (w : World) (hf : w.cell? ⟨pf, 0, none⟩ = some (.int .i64 f)) (he : w.cell? ⟨pe, 0, none⟩ = some (.int .i64 en)) (hpf : pf < w.heap.size) (hpe : pe < w.heap.size) :
    Calls Tryz.prog 131 #[.agg #[.int .i64 t, .int .u64 b], .pointer (some ⟨pf, 0, none⟩), .pointer (some ⟨pe, 0, none⟩)] w fun e w' => e = .returned (.bool (outB f en t)) ∧ Below w.heap.size w w' := by
  have Hb := Lib.hid (show Below w.heap.size w (w.alloc (.cells #[.int .i64 t, .int .u64 b] 51)) from Below.alloc (Below.refl _ _) (Nat.le_refl _) _)
  by_cases h1 : t < f
  · have Hr := Lib.hid (show outB f en t = true from decide_eq_true (.inl h1))
    rw [Hr.out]
    go_enter Tryz.func131, Tryz.ntmps131
    go_wp2
    go_ret
    exact ⟨rfl, Hb.out⟩
  by_cases h2 : en ≤ t
  · have Hr := Lib.hid (show outB f en t = true from decide_eq_true (.inr h2))
    rw [Hr.out]
    go_enter Tryz.func131, Tryz.ntmps131
    go_wp2
    go_ret
    exact ⟨rfl, Hb.out⟩
  have h3 : t < en := by omega
  have h4 : f ≤ t := by omega
  have Hr := Lib.hid (show outB f en t = false from decide_eq_false (by omega))
  rw [Hr.out]
  go_enter Tryz.func131, Tryz.ntmps131
  go_wp2
  go_ret
  exact ⟨rfl, Hb.out⟩
/-- The place of the first point outside (-1: none). -/
def idxO (f e : Int) (ps : List (Int × Int)) : Int := match ps.findIdx? fun p => outB f e p.1 with | some k => (k : Int) | none => -1
theorem idxO_some {f e : Int} {ps : List (Int × Int)} {k : Nat} (h : ps.findIdx? (fun p => outB f e p.1) = some k) : idxO f e ps = k := by unfold idxO; rw [h]
theorem idxO_none {f e : Int} {ps : List (Int × Int)} (h : ps.findIdx? (fun p => outB f e p.1) = none) : idxO f e ps = -1 := by unfold idxO; rw [h]
set_option maxRecDepth 100000 in
theorem indexP_any (A : Option Addr) (n c : Nat) (ps : List (Int × Int)) (f en : Int) (pf pe : Nat) (w : World) (hA : Rd w w.heap.size 2 A n (ptsC ps)) (hn : n ≤ 100000) (hf : w.cell? ⟨pf, 0, none⟩ = some (.int .i64 f)) (he : w.cell? ⟨pe, 0, none⟩ = some (.int .i64 en)) (hpf : pf < w.heap.size) (hpe : pe < w.heap.size) :
    Calls Tryz.prog 173 #[.slice A n c, .func (.func 131) #[] #[.pointer (some ⟨pf, 0, none⟩), .pointer (some ⟨pe, 0, none⟩)]] w fun e w' => e = .returned (.int .i64 (idxO f en ps)) ∧ Below w.heap.size w w' := by
  have hlen : ps.length = n := by have := hA.1; rw [flat_len _ 2 (fun _ => rfl)] at this; omega
  have HA := Lib.hid hA; have Hlen := Lib.hid hlen
  have HF := Lib.hid (fun W (hb : Below w.heap.size w W) => show W.cell? ⟨pf, 0, none⟩ = some (.int .i64 f) ∧ W.cell? ⟨pe, 0, none⟩ = some (.int .i64 en) from ⟨(hb.cell (p := ⟨pf, 0, none⟩) hpf).trans hf, (hb.cell (p := ⟨pe, 0, none⟩) hpe).trans he⟩)
  have hn' : (n : Int) ≤ 100000 := by omega
  clear hA hlen hf he
  go_enter Tryz.func173, Tryz.ntmps173
  go_wp2
  go_loopw [5, 8] (fun _ iv wr => ∃ k : Nat, k ≤ n ∧ iv = .int .i64 k ∧ Below w.heap.size w wr ∧ ∀ j (p : Int × Int), j < k → ps[j]? = some p → outB f en p.1 = false) (fun _ iv _ => n - (intOf iv).toNat)
  case atStart => exact ⟨0, Nat.zero_le _, rfl, Below.refl _ _, fun j p h => absurd h (Nat.not_lt_zero j)⟩
  case round =>
    obtain ⟨k, hk, rfl, hb, hpre⟩ := hrel
    have Hpre := Lib.hid hpre; have Hb := Lib.hid hb
    have hszr := hb.size
    by_cases hkn : k < n
    · have hkn' : (k : Int) < n := by omega
      obtain ⟨b0, o0, y, hA0, had0, hy, x0, x1⟩ := (HA.out.below hb).at2 hkn
      subst hA0
      obtain ⟨z0, z1⟩ := HF.out _ hb
      have Hc := Lib.hid (withinC_any y.1 y.2 f en pf pe wr z0 z1 (by omega) (by omega))
      have Hy := Lib.hid hy
      clear hb hpre hy
      go_wp2_with fail
      refine Hc.out.mono ?_
      rintro e w1 ⟨rfl, hb1⟩
      have HB1 := Lib.hid (Below.call Hb.out hb1 hszr)
      clear hb1 Hc
      cases ho : outB f en y.1 with
      | false =>
        have Hn := Lib.hid (show ∀ j (p : Int × Int), j < k + 1 → ps[j]? = some p → outB f en p.1 = false from fun j p hj hp => by
          rcases Nat.lt_or_ge j k with h | h
          · exact Hpre.out j p h hp
          · obtain rfl : j = k := by omega
            rw [Hy.out] at hp
            injection hp with hp
            rw [← hp]; exact ho)
        clear ho
        go_wp2
        go_roundw
        case rel => exact ⟨k + 1, by omega, by go_num, HB1.out, Hn.out⟩
        case measure => simp [intOf]; omega
      | true =>
        have Hi := Lib.hid (show ps.findIdx? (fun p => outB f en p.1) = some k from by
          rw [List.findIdx?_eq_some_iff_getElem]
          obtain ⟨hl, hv⟩ := List.getElem?_eq_some_iff.1 Hy.out
          refine ⟨hl, by rw [hv]; exact ho, fun j hj => ?_⟩
          have h2 := Hpre.out j _ hj (List.getElem?_eq_getElem (by omega))
          rw [h2]; decide)
        clear ho
        go_wp2
        go_ret
        exact ⟨by rw [idxO_some Hi.out]; rfl, HB1.out⟩
    · obtain rfl : k = n := by omega
      have Hi := Lib.hid (show ps.findIdx? (fun p => outB f en p.1) = none from by
        rw [List.findIdx?_eq_none_iff]
        intro x hx
        obtain ⟨j, hj, rfl⟩ := List.getElem_of_mem hx
        exact Hpre.out j _ (by rw [← Hlen.out]; exact hj) (List.getElem?_eq_getElem hj))
      clear hb hpre
      go_wp2
      go_ret
      exact ⟨by rw [idxO_none Hi.out]; rfl, Hb.out⟩
/-- Are all points in a stretch? -/
def allIn (f e : Int) (ps : List (Int × Int)) : Bool := ps.all fun p => !outB f e p.1
theorem allIn_idx (f e : Int) (ps : List (Int × Int)) : allIn f e ps = decide (idxO f e ps < 0) := by
  unfold allIn
  cases h : ps.findIdx? fun p => outB f e p.1 with
  | none =>
    rw [idxO_none h]
    rw [List.findIdx?_eq_none_iff] at h
    exact List.all_eq_true.2 fun p hp => by rw [h p hp]; rfl
  | some k =>
    rw [idxO_some h]
    rw [List.findIdx?_eq_some_iff_getElem] at h
    obtain ⟨hl, hv, _⟩ := h
    have h2 : ¬ ((k : Int) < 0) := by omega
    rw [decide_eq_false h2]
    apply Bool.eq_false_iff.2
    intro hall
    have := List.all_eq_true.1 hall ps[k] (List.getElem_mem hl)
    rw [hv] at this
    cases this
theorem idxO_bd (f e : Int) (ps : List (Int × Int)) : -1 ≤ idxO f e ps := by
  unfold idxO
  split <;> omega
theorem within_any (A : Option Addr) (n c : Nat) (ps : List (Int × Int)) (f en : Int) (w : World) (hA : Rd w w.heap.size 2 A n (ptsC ps)) (hn : n ≤ 100000) :
    Calls Tryz.prog 90 #[.slice A n c, .int .i64 f, .int .i64 en] w fun e w' => e = .returned (.bool (allIn f en ps)) ∧ Below w.heap.size w w' := by
  obtain ⟨pf, hpf⟩ : ∃ pf, pf = w.heap.size := ⟨_, rfl⟩
  have hb2 : Below w.heap.size w ((w.alloc (.cells #[.int .i64 f] 3)).alloc (.cells #[.int .i64 en] 3)) := Below.alloc (Below.alloc (Below.refl _ _) (Nat.le_refl _) _) (by simp) _
  have q0 := (Blk.new w 3 #[.int .i64 f]).alloc (.cells #[.int .i64 en] 3)
  have q1 := Blk.new (w.alloc (.cells #[.int .i64 f] 3)) 3 #[.int .i64 en]
  rw [World.size_alloc, ← hpf] at q1
  rw [← hpf] at q0
  have Hc := Lib.hid (indexP_any A n c ps f en pf (pf + 1) _ ((hA.below hb2).more hb2.size) hn (q0.cell 0) (q1.cell 0) q0.lt q1.lt)
  have HB := Lib.hid hb2
  have Hal := Lib.hid (allIn_idx f en ps)
  have hbd := idxO_bd f en ps
  generalize allIn f en ps = r at Hal
  generalize idxO f en ps = ix at Hc Hal hbd
  have hcf : Calls Tryz.prog 130 #[.slice A n c, .func (.func 131) #[] #[.pointer (some ⟨pf, 0, none⟩), .pointer (some ⟨pf + 1, 0, none⟩)]] ((w.alloc (.cells #[.int .i64 f] 3)).alloc (.cells #[.int .i64 en] 3)) fun e w' => e = .returned (.bool (!r)) ∧ Below ((w.alloc (.cells #[.int .i64 f] 3)).alloc (.cells #[.int .i64 en] 3)).heap.size ((w.alloc (.cells #[.int .i64 f] 3)).alloc (.cells #[.int .i64 en] 3)) w' := by
    clear hb2 q0 q1 HB hpf
    generalize (w.alloc (.cells #[.int .i64 f] 3)).alloc (.cells #[.int .i64 en] 3) = wx at Hc ⊢
    by_cases h0 : 0 ≤ ix
    · have Hr := Lib.hid (show r = false by rw [Hal.out]; exact decide_eq_false (by omega))
      have hd : decide (0 ≤ ix) = true := decide_eq_true h0
      rw [Hr.out]
      go_enter Tryz.func130, Tryz.ntmps130
      go_wp2_with fail
      refine Hc.out.mono ?_
      rintro e w1 ⟨rfl, hb⟩
      have HB1 := Lib.hid hb
      clear hb
      go_wp2
      go_ret
      exact ⟨rfl, HB1.out⟩
    · have Hr := Lib.hid (show r = true by rw [Hal.out]; exact decide_eq_true (by omega))
      have hd : decide (0 ≤ ix) = false := decide_eq_false h0
      rw [Hr.out]
      go_enter Tryz.func130, Tryz.ntmps130
      go_wp2_with fail
      refine Hc.out.mono ?_
      rintro e w1 ⟨rfl, hb⟩
      have HB1 := Lib.hid hb
      clear hb
      go_wp2
      go_ret
      exact ⟨rfl, HB1.out⟩
  have Hcf := Lib.hid hcf
  have hnn : (!(!r)) = r := Bool.not_not r
  clear hb2 q0 q1 hcf hA
  go_enter Tryz.func90, Tryz.ntmps90
  go_wp2_with fail
  rw [← hpf]
  refine Hcf.out.mono ?_
  rintro e w1 ⟨rfl, hb⟩
  have HB1 := Lib.hid (Below.call HB.out hb HB.out.size)
  clear hb
  go_wp2
  go_ret
  exact ⟨by first | rfl | (rw [hnn]), HB1.out⟩
end Go.Proofs.YtfkklcmepcocoaaGreatDoor
