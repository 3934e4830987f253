/- Blocks: bounds, End, within by contracts. -/
import Derived.Test.YtpbgonpmpjpljaaGreatDoorMkfX
import Derived.Test.YtpbgonpmpjpljaaGreatDoorMkeX
import Derived.BigQuiet
import Derived.Test.YtpbgonpmpjpljaaGreatDoorMkaX
import Derived.Test.YtpbgonpmpjpljaaGreatDoorMkcX
import Derived.Test.YtpbgonpmpjpljaaGreatDoorMkdX
namespace Go.Proofs.YtpbgonpmpjpljaaGreatDoor
open Go.RowKit
set_option linter.unusedVariables false

def bndB (from_ span : Int) : Bool := decide (1 ≤ span ∧ span ≤ 100000 ∧ -1099511627776 ≤ from_ ∧ from_ ≤ 1099511627776)
theorem bounds_any {es : Nat → Addr} {B : Nat} (f s : Int) (w : World) (hS : SVL es B w) :
    Calls Tryz.prog 40 #[.int .i64 f, .int .i64 s] w fun e w' => (bndB f s = true → e = .returned .nilIface) ∧ (bndB f s = false → e = .returned (sentV (es 1))) ∧ w = w' := by
  have g1 : w.cell? ⟨1, 0, none⟩ = some (sentV (es 1)) := hS.var 1 (by decide)
  clear hS
  have Hno : ∀ (h : ¬ (1 ≤ s ∧ s ≤ 100000 ∧ -1099511627776 ≤ f ∧ f ≤ 1099511627776)), bndB f s = false := fun h => decide_eq_false h
  by_cases h1 : s < 1
  · have Hf := Lib.hid (Hno (by omega))
    clear Hno
    go_enter Tryz.func40, Tryz.ntmps40
    go_wp2
    go_ret
    exact ⟨fun h => (by rw [Hf.out] at h; cases h), fun _ => rfl, rfl⟩
  by_cases h2 : 100000 < s
  · have Hf := Lib.hid (Hno (by omega))
    clear Hno
    go_enter Tryz.func40, Tryz.ntmps40
    go_wp2
    go_ret
    exact ⟨fun h => (by rw [Hf.out] at h; cases h), fun _ => rfl, rfl⟩
  by_cases h3 : f < -1099511627776
  · have Hf := Lib.hid (Hno (by omega))
    clear Hno
    go_enter Tryz.func40, Tryz.ntmps40
    go_wp2
    go_ret
    exact ⟨fun h => (by rw [Hf.out] at h; cases h), fun _ => rfl, rfl⟩
  by_cases h4 : 1099511627776 < f
  · have Hf := Lib.hid (Hno (by omega))
    clear Hno
    go_enter Tryz.func40, Tryz.ntmps40
    go_wp2
    go_ret
    exact ⟨fun h => (by rw [Hf.out] at h; cases h), fun _ => rfl, rfl⟩
  have Hf := Lib.hid (show bndB f s = true from decide_eq_true (by omega))
  clear Hno
  go_enter Tryz.func40, Tryz.ntmps40
  go_wp2
  go_ret
  exact ⟨fun _ => rfl, fun h => (by rw [Hf.out] at h; cases h), rfl⟩
/-- Is a tick outside a stretch? -/
def outB (f e t : Int) : Bool := decide (t < f ∨ e ≤ t)
theorem withinC_any (t b f en : Int) (pf pe : Nat) (w : World) (hf : w.cell? ⟨pf, 0, none⟩ = some (.int .i64 f)) (he : w.cell? ⟨pe, 0, none⟩ = some (.int .i64 en)) (hpf : pf < w.heap.size) (hpe : pe < w.heap.size) :
    Calls Tryz.prog 106 #[.agg #[.int .i64 t, .int .u64 b], .pointer (some ⟨pf, 0, none⟩), .pointer (some ⟨pe, 0, none⟩)] w fun e w' => e = .returned (.bool (outB f en t)) ∧ Below w.heap.size w w' := by
  have Hb := Lib.hid (show Below w.heap.size w (w.alloc (.cells #[.int .i64 t, .int .u64 b] 57)) from Below.alloc (Below.refl _ _) (Nat.le_refl _) _)
  by_cases h1 : t < f
  · have Hr := Lib.hid (show outB f en t = true from decide_eq_true (.inl h1))
    rw [Hr.out]
    go_enter Tryz.func106, Tryz.ntmps106
    go_wp2
    go_ret
    exact ⟨rfl, Hb.out⟩
  by_cases h2 : en ≤ t
  · have Hr := Lib.hid (show outB f en t = true from decide_eq_true (.inr h2))
    rw [Hr.out]
    go_enter Tryz.func106, Tryz.ntmps106
    go_wp2
    go_ret
    exact ⟨rfl, Hb.out⟩
  have h3 : t < en := by omega
  have h4 : f ≤ t := by omega
  have Hr := Lib.hid (show outB f en t = false from decide_eq_false (by omega))
  rw [Hr.out]
  go_enter Tryz.func106, Tryz.ntmps106
  go_wp2
  go_ret
  exact ⟨rfl, Hb.out⟩
/-- The place of the first point outside (-1: none). -/
def idxO (f e : Int) (ps : List (Int × Int)) : Int := match ps.findIdx? fun p => outB f e p.1 with | some k => (k : Int) | none => -1
theorem idxO_some {f e : Int} {ps : List (Int × Int)} {k : Nat} (h : ps.findIdx? (fun p => outB f e p.1) = some k) : idxO f e ps = k := by unfold idxO; rw [h]
theorem idxO_none {f e : Int} {ps : List (Int × Int)} (h : ps.findIdx? (fun p => outB f e p.1) = none) : idxO f e ps = -1 := by unfold idxO; rw [h]
set_option maxRecDepth 100000 in
theorem indexP_any (A : Option Addr) (n c : Nat) (ps : List (Int × Int)) (f en : Int) (pf pe : Nat) (w : World) (hA : Rd w w.heap.size 2 A n (ptsC ps)) (hn : n ≤ 100000) (hf : w.cell? ⟨pf, 0, none⟩ = some (.int .i64 f)) (he : w.cell? ⟨pe, 0, none⟩ = some (.int .i64 en)) (hpf : pf < w.heap.size) (hpe : pe < w.heap.size) :
    Calls Tryz.prog 133 #[.slice A n c, .func (.func 106) #[] #[.pointer (some ⟨pf, 0, none⟩), .pointer (some ⟨pe, 0, none⟩)]] w fun e w' => e = .returned (.int .i64 (idxO f en ps)) ∧ Below w.heap.size w w' := by
  have hlen : ps.length = n := by have := hA.1; rw [flat_len _ 2 (fun _ => rfl)] at this; omega
  have HA := Lib.hid hA; have Hlen := Lib.hid hlen
  have HF := Lib.hid (fun W (hb : Below w.heap.size w W) => show W.cell? ⟨pf, 0, none⟩ = some (.int .i64 f) ∧ W.cell? ⟨pe, 0, none⟩ = some (.int .i64 en) from ⟨(hb.cell (p := ⟨pf, 0, none⟩) hpf).trans hf, (hb.cell (p := ⟨pe, 0, none⟩) hpe).trans he⟩)
  have hn' : (n : Int) ≤ 100000 := by omega
  clear hA hlen hf he
  go_enter Tryz.func133, Tryz.ntmps133
  go_wp2
  go_loopw [5, 8] (fun _ iv wr => ∃ k : Nat, k ≤ n ∧ iv = .int .i64 k ∧ Below w.heap.size w wr ∧ ∀ j (p : Int × Int), j < k → ps[j]? = some p → outB f en p.1 = false) (fun _ iv _ => n - (intOf iv).toNat)
  case atStart => exact ⟨0, Nat.zero_le _, rfl, Below.refl _ _, fun j p h => absurd h (Nat.not_lt_zero j)⟩
  case round =>
    obtain ⟨k, hk, rfl, hb, hpre⟩ := hrel
    have Hpre := Lib.hid hpre; have Hb := Lib.hid hb
    have hszr := hb.size
    by_cases hkn : k < n
    · have hkn' : (k : Int) < n := by omega
      obtain ⟨b0, o0, y, hA0, had0, hy, x0, x1⟩ := (HA.out.below hb).at2 hkn
      subst hA0
      obtain ⟨z0, z1⟩ := HF.out _ hb
      have Hc := Lib.hid (withinC_any y.1 y.2 f en pf pe wr z0 z1 (by omega) (by omega))
      have Hy := Lib.hid hy
      clear hb hpre hy
      go_wp2_with fail
      refine Hc.out.mono ?_
      rintro e w1 ⟨rfl, hb1⟩
      have HB1 := Lib.hid (Below.call Hb.out hb1 hszr)
      clear hb1 Hc
      cases ho : outB f en y.1 with
      | false =>
        have Hn := Lib.hid (show ∀ j (p : Int × Int), j < k + 1 → ps[j]? = some p → outB f en p.1 = false from fun j p hj hp => by
          rcases Nat.lt_or_ge j k with h | h
          · exact Hpre.out j p h hp
          · obtain rfl : j = k := by omega
            rw [Hy.out] at hp
            injection hp with hp
            rw [← hp]; exact ho)
        clear ho
        go_wp2
        go_roundw
        case rel => exact ⟨k + 1, by omega, by go_num, HB1.out, Hn.out⟩
        case measure => simp [intOf]; omega
      | true =>
        have Hi := Lib.hid (show ps.findIdx? (fun p => outB f en p.1) = some k from by
          rw [List.findIdx?_eq_some_iff_getElem]
          obtain ⟨hl, hv⟩ := List.getElem?_eq_some_iff.1 Hy.out
          refine ⟨hl, by rw [hv]; exact ho, fun j hj => ?_⟩
          have h2 := Hpre.out j _ hj (List.getElem?_eq_getElem (by omega))
          rw [h2]; decide)
        clear ho
        go_wp2
        go_ret
        exact ⟨by rw [idxO_some Hi.out]; rfl, HB1.out⟩
    · obtain rfl : k = n := by omega
      have Hi := Lib.hid (show ps.findIdx? (fun p => outB f en p.1) = none from by
        rw [List.findIdx?_eq_none_iff]
        intro x hx
        obtain ⟨j, hj, rfl⟩ := List.getElem_of_mem hx
        exact Hpre.out j _ (by rw [← Hlen.out]; exact hj) (List.getElem?_eq_getElem hj))
      clear hb hpre
      go_wp2
      go_ret
      exact ⟨by rw [idxO_none Hi.out]; rfl, Hb.out⟩
/-- Are all points in a stretch? -/
def allIn (f e : Int) (ps : List (Int × Int)) : Bool := ps.all fun p => !outB f e p.1
theorem allIn_idx (f e : Int) (ps : List (Int × Int)) : allIn f e ps = decide (idxO f e ps < 0) := by
  unfold allIn
  cases h : ps.findIdx? fun p => outB f e p.1 with
  | none =>
    rw [idxO_none h]
    rw [List.findIdx?_eq_none_iff] at h
    exact List.all_eq_true.2 fun p hp => by rw [h p hp]; rfl
  | some k =>
    rw [idxO_some h]
    rw [List.findIdx?_eq_some_iff_getElem] at h
    obtain ⟨hl, hv, _⟩ := h
    have h2 : ¬ ((k : Int) < 0) := by omega
    rw [decide_eq_false h2]
    apply Bool.eq_false_iff.2
    intro hall
    have := List.all_eq_true.1 hall ps[k] (List.getElem_mem hl)
    rw [hv] at this
    cases this
theorem idxO_bd (f e : Int) (ps : List (Int × Int)) : -1 ≤ idxO f e ps := by
  unfold idxO
  split <;> omega
theorem within_any (A : Option Addr) (n c : Nat) (ps : List (Int × Int)) (f en : Int) (w : World) (hA : Rd w w.heap.size 2 A n (ptsC ps)) (hn : n ≤ 100000) :
    Calls Tryz.prog 67 #[.slice A n c, .int .i64 f, .int .i64 en] w fun e w' => e = .returned (.bool (allIn f en ps)) ∧ Below w.heap.size w w' := by
  obtain ⟨pf, hpf⟩ : ∃ pf, pf = w.heap.size := ⟨_, rfl⟩
  have hb2 : Below w.heap.size w ((w.alloc (.cells #[.int .i64 f] 3)).alloc (.cells #[.int .i64 en] 3)) := Below.alloc (Below.alloc (Below.refl _ _) (Nat.le_refl _) _) (by simp) _
  have q0 := (Blk.new w 3 #[.int .i64 f]).alloc (.cells #[.int .i64 en] 3)
  have q1 := Blk.new (w.alloc (.cells #[.int .i64 f] 3)) 3 #[.int .i64 en]
  rw [World.size_alloc, ← hpf] at q1
  rw [← hpf] at q0
  have Hc := Lib.hid (indexP_any A n c ps f en pf (pf + 1) _ ((hA.below hb2).more hb2.size) hn (q0.cell 0) (q1.cell 0) q0.lt q1.lt)
  have HB := Lib.hid hb2
  have Hal := Lib.hid (allIn_idx f en ps)
  have hbd := idxO_bd f en ps
  generalize allIn f en ps = r at Hal
  generalize idxO f en ps = ix at Hc Hal hbd
  have hcf : Calls Tryz.prog 105 #[.slice A n c, .func (.func 106) #[] #[.pointer (some ⟨pf, 0, none⟩), .pointer (some ⟨pf + 1, 0, none⟩)]] ((w.alloc (.cells #[.int .i64 f] 3)).alloc (.cells #[.int .i64 en] 3)) fun e w' => e = .returned (.bool (!r)) ∧ Below ((w.alloc (.cells #[.int .i64 f] 3)).alloc (.cells #[.int .i64 en] 3)).heap.size ((w.alloc (.cells #[.int .i64 f] 3)).alloc (.cells #[.int .i64 en] 3)) w' := by
    clear hb2 q0 q1 HB hpf
    generalize (w.alloc (.cells #[.int .i64 f] 3)).alloc (.cells #[.int .i64 en] 3) = wx at Hc ⊢
    by_cases h0 : 0 ≤ ix
    · have Hr := Lib.hid (show r = false by rw [Hal.out]; exact decide_eq_false (by omega))
      have hd : decide (0 ≤ ix) = true := decide_eq_true h0
      rw [Hr.out]
      go_enter Tryz.func105, Tryz.ntmps105
      go_wp2_with fail
      refine Hc.out.mono ?_
      rintro e w1 ⟨rfl, hb⟩
      have HB1 := Lib.hid hb
      clear hb
      go_wp2
      go_ret
      exact ⟨rfl, HB1.out⟩
    · have Hr := Lib.hid (show r = true by rw [Hal.out]; exact decide_eq_true (by omega))
      have hd : decide (0 ≤ ix) = false := decide_eq_false h0
      rw [Hr.out]
      go_enter Tryz.func105, Tryz.ntmps105
      go_wp2_with fail
      refine Hc.out.mono ?_
      rintro e w1 ⟨rfl, hb⟩
      have HB1 := Lib.hid hb
      clear hb
      go_wp2
      go_ret
      exact ⟨rfl, HB1.out⟩
  have Hcf := Lib.hid hcf
  have hnn : (!(!r)) = r := Bool.not_not r
  clear hb2 q0 q1 hcf hA
  go_enter Tryz.func67, Tryz.ntmps67
  go_wp2_with fail
  rw [← hpf]
  refine Hcf.out.mono ?_
  rintro e w1 ⟨rfl, hb⟩
  have HB1 := Lib.hid (Below.call HB.out hb HB.out.size)
  clear hb
  go_wp2
  go_ret
  exact ⟨by first | rfl | (rw [hnn]), HB1.out⟩
end Go.Proofs.YtpbgonpmpjpljaaGreatDoor

namespace Go.Proofs.YtpbgonpmpjpljaaGreatDoor
open Go.RowKit
set_option linter.unusedVariables false

theorem res_bare (tmps : Array Value) (W : World) (b : Nat) (v0 v1 : Value) (ha : tmps.getD 2 undef = .pointer (some ⟨b, 0, none⟩)) (hB : Blk W b 29 #[v0, v1]) :
    (results Tryz.f22 tmps).run Tryz.prog W = .ok (.agg #[v0, v1]) W := by
  obtain ⟨z0, z1⟩ := hB.duo2
  simp only [Array.getD_eq_getD_getElem?] at ha
  simp [results, Tryz.results22, go_sem, ha, z0, z1]
theorem bare_any (k : Int) (w : World) : Calls Tryz.prog 22 #[.int .i64 k] w fun e w' => e = .returned (.agg #[.int .i64 k, .int .i64 (-1)]) ∧ Below w.heap.size w w' := by
  go_enter Tryz.func22, Tryz.ntmps22
  go_wp2
  (try simp only [Exit.inBlock, Exit.then])
  have HB := Blk.new w 29 #[.int .i64 k, .int .i64 (-1)]
  refine bodyPost_ret (res_bare _ _ w.heap.size _ _ rfl HB) rfl ?_
  exact ⟨rfl, by go_grown⟩
theorem res_fine (tmps : Array Value) (W : World) (b : Nat) (v0 v1 : Value) (ha : tmps.getD 0 undef = .pointer (some ⟨b, 0, none⟩)) (hB : Blk W b 29 #[v0, v1]) :
    (results Tryz.f26 tmps).run Tryz.prog W = .ok (.agg #[v0, v1]) W := by
  obtain ⟨z0, z1⟩ := hB.duo2
  simp only [Array.getD_eq_getD_getElem?] at ha
  simp [results, Tryz.results26, go_sem, ha, z0, z1]
theorem fine_any (w : World) : Calls Tryz.prog 26 #[] w fun e w' => e = .returned (.agg #[.int .i64 0, .int .i64 (-1)]) ∧ Below w.heap.size w w' := by
  go_enter Tryz.func26, Tryz.ntmps26
  go_wp2
  (try simp only [Exit.inBlock, Exit.then])
  have HB := Blk.new w 29 #[.int .i64 0, .int .i64 (-1)]
  refine bodyPost_ret (res_fine _ _ w.heap.size _ _ rfl HB) rfl ?_
  exact ⟨rfl, by go_grown⟩
end Go.Proofs.YtpbgonpmpjpljaaGreatDoor

namespace Go.Proofs.YtpbgonpmpjpljaaGreatDoor
open Go.RowKit
set_option linter.unusedVariables false

/-- What blocks' own code asks of the sentinels: their values, and errors' own type. -/
structure SBk (es : Nat → Addr) (B : Nat) (w : World) : Prop where
  v : SV es B w
  vl : SVL es B w
  ety : w.cell? ⟨11, 0, none⟩ = some (.iface 175 (.agg #[.pointer (some ⟨18, 34, none⟩)]))
  elt : 11 < B
theorem Sents.bk {es : Nat → Addr} {B : Nat} {w : World} (h : Sents es B w) : SBk es B w := ⟨h.v, h.vl, h.ety, h.elt⟩
theorem SBk.below {es : Nat → Addr} {B C : Nat} {w w' : World} (h : SBk es B w) (hb : Below C w w') (hC : B ≤ C) : SBk es B w' :=
  ⟨h.v.below hb hC, h.vl.below hb hC, (hb.cell (p := ⟨11, 0, none⟩) (Nat.lt_of_lt_of_le h.elt hC)).trans h.ety, h.elt⟩
theorem SBk.alloc {es : Nat → Addr} {B : Nat} {w : World} (h : SBk es B w) (hB : B ≤ w.heap.size) (o : Obj) : SBk es B (w.alloc o) := h.below (Below.alloc (Below.refl w.heap.size w) (Nat.le_refl _) o) hB
theorem SBk.var {es : Nat → Addr} {B : Nat} {w : World} (h : SBk es B w) (k : Nat) (hk : k ∈ [0, 1, 2, 4, 6, 7, 8]) : w.cell? ⟨gErr k, 0, none⟩ = some (sentV (es k)) := h.v.var k hk
set_option maxHeartbeats 4000000 in
theorem cbare_sent {es : Nat → Addr} {B : Nat} (k : Nat) (w : World) (hS : SBk es B w) (hB : B ≤ w.heap.size) :
    Calls Tryz.prog 65 #[sentV (es k)] w fun e w' => e = .returned (sentV (es k)) ∧ Below w.heap.size w w' := by
  have HS := Lib.hid hS
  clear hS
  go_enter Tryz.func65, Tryz.ntmps65
  go_wp2_with fail
  refine (as_sent (es k) ⟨w.heap.size, 0, none⟩ (.pointer none) _ (HS.out.alloc hB _).ety (by simp)).mono ?_
  rintro e w1 ⟨rfl, hb1⟩
  have HB1 := Lib.hid (Below.call (Below.alloc (Below.refl w.heap.size w) (Nat.le_refl _) _) hb1 (by simp))
  clear hb1
  go_wp2
  go_ret
  exact ⟨rfl, HB1.out⟩
set_option maxHeartbeats 4000000 in
theorem cbare_fault {es : Nat → Addr} {B : Nat} (k pb : Nat) (w : World) (hS : SBk es B w) (hB : B ≤ w.heap.size) (hp : pb < w.heap.size) (h1 : w.cell? ⟨pb, 1, none⟩ = some (sentV (es k))) :
    Calls Tryz.prog 65 #[faultV ⟨pb, 0, none⟩] w fun e w' => e = .returned (sentV (es k)) ∧ Below w.heap.size w w' := by
  have Hc := Lib.hid (as_fault' ⟨pb, 0, none⟩ w hS.ety (Nat.lt_of_lt_of_le hS.elt hB))
  clear hS
  go_enter Tryz.func65, Tryz.ntmps65
  go_wp2_with fail
  refine Hc.out.mono ?_
  rintro e w1 ⟨rfl, hcell, hb1⟩
  have HB1 := Lib.hid hb1
  have g1 : w1.cell? ⟨pb, 1, none⟩ = some (sentV (es k)) := (hb1.cell (p := ⟨pb, 1, none⟩) hp).trans h1
  clear hb1
  go_wp2
  go_ret
  exact ⟨rfl, HB1.out⟩
theorem cbare_any {es : Nat → Addr} {B C : Nat} (v : Value) (c : Nat × Int) (w : World) (hv : EV es C w v c) (hc : c.1 ≠ 0) (hS : SBk es B w) (hB : B ≤ w.heap.size) :
    Calls Tryz.prog 65 #[v] w fun e w' => e = .returned (sentV (es (c.1 - 1))) ∧ Below w.heap.size w w' := by
  rcases hv with ⟨rfl, _⟩ | ⟨k, hk, rfl, rfl⟩ | ⟨k, pb, t, hk, rfl, rfl, _, h2, h3, h4⟩
  · exact absurd rfl hc
  · exact cbare_sent k w hS hB
  · exact cbare_fault k pb w hS hB h2 h4
end Go.Proofs.YtpbgonpmpjpljaaGreatDoor

namespace Go.Proofs.YtpbgonpmpjpljaaGreatDoor
open Go.RowKit
set_option linter.unusedVariables false

def sumL (xs : List Nat) : Nat := 4294967295 - crcL xs
def fourL (n : Nat) : List Nat := [n / 16777216 % 256, n / 65536 % 256, n / 256 % 256, n % 256]
theorem fourL_256 (n : Nat) : ∀ x ∈ fourL n, x < 256 := by
  intro x hx
  simp [fourL] at hx
  omega
theorem fourL_len (n : Nat) : (fourL n).length = 4 := rfl
theorem sumL_lt (xs : List Nat) : sumL xs < 4294967296 := by unfold sumL; omega
def sealL (xs : List Nat) : List Nat := xs ++ fourL (sumL xs)
theorem xor_ones (c : Nat) (h : c < 4294967296) : c ^^^ 4294967295 = 4294967295 - c := by
  have h1 := congrArg BitVec.toNat (BitVec.xor_allOnes (x := BitVec.ofNat 32 c))
  rw [BitVec.toNat_xor, BitVec.toNat_not, BitVec.toNat_ofNat, BitVec.toNat_allOnes, Nat.mod_eq_of_lt (by omega)] at h1
  exact h1

set_option maxRecDepth 100000 in
set_option maxHeartbeats 4000000 in
theorem sum_any (xs : List Nat) (hx : ∀ x ∈ xs, x < 256) (hl : xs.length ≤ 1000000000) (w : World) :
    Calls Tryz.prog 104 #[.string (bytesOf xs)] w fun e w' => e = .returned (.int .u32 (sumL xs)) ∧ w' = w := by
  obtain ⟨st, hst⟩ : ∃ st, st = bytesOf xs := ⟨_, rfl⟩
  obtain ⟨n, hn⟩ : ∃ n, n = xs.length := ⟨_, rfl⟩
  have hsz : st.size = n := by rw [hst, bytesOf_size, hn]
  have hidx : ∀ k, k < n → ∃ x, xs[k]? = some x ∧ x < 256 ∧ ∀ h : k < st.size, st[k].toNat = x := by
    intro k hk
    have hk2 : k < xs.length := by omega
    have hm := hx _ (List.getElem_mem hk2)
    refine ⟨xs[k], List.getElem?_eq_getElem hk2, hm, fun h => ?_⟩
    subst hst
    exact bytesOf_get xs _ h _ (List.getElem?_eq_getElem hk2) hm
  have Hidx := Lib.hid hidx
  have Hlt := Lib.hid (fun k => crcL_lt (xs.take k) (fun x h => hx x (List.mem_of_mem_take h)))
  have hn2 : n ≤ 1000000000 := by omega
  have Hn := Lib.hid hn
  rw [← hst]
  clear hx hst hidx hn hl
  go_enter Tryz.func104, Tryz.ntmps104
  go_wp2
  go_loopw [3, 7] (fun c iv wr => ∃ k q : Nat, k ≤ n ∧ iv = .int .i64 k ∧ c = .int .u32 q ∧ q = crcL (xs.take k) ∧ wr = w) (fun _ iv _ => n - (intOf iv).toNat)
  case atStart => exact ⟨0, 4294967295, Nat.zero_le _, rfl, rfl, rfl, rfl⟩
  case round =>
    obtain ⟨k, q, hk, rfl, rfl, hq, rfl⟩ := hrel
    have hq32 : q < 4294967296 := by rw [hq]; exact Hlt.out k
    have Hq := Lib.hid hq
    clear hq
    by_cases hkn : k < n
    · obtain ⟨x, hxg, hx8, hix⟩ := Hidx.out k hkn
      have hks : k < st.size := by omega
      have hix' := hix hks
      have hnx : crcL (xs.take (k + 1)) = crcIter 8 (q ^^^ x) := by rw [take_snoc hxg, crcL_snoc, ← Hq.out]; rfl
      have hxr : bits BinOp.xor IntKind.u32 (q : Int) (x : Int) = ((q ^^^ x : Nat) : Int) := bits_xor_u32_nat q x hq32 (by omega)
      have hwx : IntKind.u32.wrap (x : Int) = (x : Int) := by rw [IntKind.wrap_u32]; omega
      have hc0 : q ^^^ x < 4294967296 := Nat.xor_lt_two_pow (n := 32) hq32 (by omega)
      obtain ⟨c0, hce⟩ : ∃ c0, c0 = q ^^^ x := ⟨_, rfl⟩
      rw [← hce] at hnx hxr hc0
      have Hnx := Lib.hid hnx
      clear hnx hce hix hxg
      go_wp2
      go_loopw [3, 16] (fun c jv wr' => ∃ j p : Nat, j ≤ 8 ∧ jv = .int .i64 j ∧ c = .int .u32 p ∧ p = crcIter j c0 ∧ wr' = wr) (fun _ jv _ => 8 - (intOf jv).toNat)
      case atStart => exact ⟨0, c0, Nat.zero_le _, rfl, rfl, rfl, rfl⟩
      case round =>
        obtain ⟨j, p, hj, rfl, rfl, hp, rfl⟩ := hrel
        have hp32 : p < 4294967296 := by rw [hp]; exact crcIter_lt c0 hc0 j
        have Hp := Lib.hid hp
        clear hp
        by_cases hj8 : j < 8
        · have hst : crcIter (j + 1) c0 = crcStep p := by rw [crcIter, ← Hp.out]
          have hsl := crcStep_lt p hp32
          obtain ⟨b, hb⟩ : ∃ b, b = p % 2 := ⟨_, rfl⟩
          obtain ⟨d, hd⟩ : ∃ d, d = p / 2 := ⟨_, rfl⟩
          obtain ⟨m, hm⟩ : ∃ m, m = polyN * b := ⟨_, rfl⟩
          obtain ⟨s, hs⟩ : ∃ s, s = crcStep p := ⟨_, rfl⟩
          have hm32 : m < 4294967296 := by
            rcases Nat.mod_two_eq_zero_or_one p with e | e <;> rw [hm, hb, e] <;> decide
          have hsm : s = d ^^^ m := by rw [hs, hd, hm, hb]; rfl
          have e1 : bits BinOp.and IntKind.u32 (p : Int) 1 = (b : Int) := by rw [bits_and_u32_one p hp32, hb]
          have e2 : IntKind.u32.wrap (3988292384 * (b : Int)) = (m : Int) := by
            have : (3988292384 * (b : Int)) = (m : Int) := by rw [hm]; unfold polyN; omega
            rw [this, IntKind.wrap_u32]; omega
          have e3 : (p : Int) / 2 = (d : Int) := by omega
          have e4 : bits BinOp.xor IntKind.u32 (d : Int) (m : Int) = (s : Int) := by rw [bits_xor_u32_nat d m (by omega) hm32, hsm]
          have Hs := Lib.hid (show s = crcIter (j + 1) c0 by rw [hs, hst])
          clear hb hd hm hs hsm hst hm32 hsl
          go_wp2
          go_roundw
          case rel => exact ⟨j + 1, s, by omega, by go_num, rfl, Hs.out, trivial⟩
          case measure => simp [intOf]; omega
        · obtain rfl : j = 8 := by omega
          have Hp2 := Lib.hid (show p = crcL (xs.take (k + 1)) by rw [Hnx.out, Hp.out])
          go_wp2
          go_roundw
          case rel => exact ⟨k + 1, p, by omega, by go_num, rfl, Hp2.out, trivial⟩
          case measure => simp [intOf]; omega
    · obtain rfl : k = n := by omega
      have hfin : crcL (xs.take k) = crcL xs := by rw [List.take_of_length_le (by have := Hn.out; omega)]
      have hxo : bits BinOp.xor IntKind.u32 IntKind.u32.max (q : Int) = ((4294967295 - q : Nat) : Int) := by
        have := bits_xor_u32_nat 4294967295 q (by decide) hq32
        rw [Nat.xor_comm, xor_ones q hq32] at this
        exact this
      have Hfin := Lib.hid (show (4294967295 - q : Nat) = sumL xs by unfold sumL; rw [← hfin, Hq.out])
      generalize 4294967295 - q = z at hxo Hfin
      clear hfin
      go_wp2
      go_ret
      exact ⟨by rw [← Hfin.out]; rfl, rfl⟩
theorem four_u8 (n : Nat) (W : World) (b : Nat) (h : Blk W b 5 #[.int .u8 ((n / 16777216 % 256 : Nat) : Int), .int .u8 ((n / 65536 % 256 : Nat) : Int), .int .u8 ((n / 256 % 256 : Nat) : Int), .int .u8 ((n % 256 : Nat) : Int)]) :
    (convert 107 9 (.slice (some ⟨b, 0, none⟩) 4 4)).run Tryz.prog W = .ok (.string (bytesOf (fourL n))) W :=
  conv_bytes W (some ⟨b, 0, none⟩) 4 4 (fourL n) (B := W.heap.size) ⟨rfl, fun _ => ⟨_, _, rfl, h.lt, fun j v hv => by rw [Nat.zero_add, h.cell]; simpa [fourL] using hv⟩⟩ (fourL_256 n)
set_option maxHeartbeats 1000000 in
theorem cfour_any (n : Nat) (hn : n < 4294967296) (w : World) : Calls Tryz.prog 103 #[.int .u32 n] w fun e w' => e = .returned (.string (bytesOf (fourL n))) ∧ Below w.heap.size w w' := by
  obtain ⟨b3, h3⟩ : ∃ b, b = n / 16777216 := ⟨_, rfl⟩
  obtain ⟨b2, h2⟩ : ∃ b, b = n / 65536 := ⟨_, rfl⟩
  obtain ⟨b1, h1⟩ : ∃ b, b = n / 256 := ⟨_, rfl⟩
  have e3 : (n : Int) / 16777216 = (b3 : Int) := by omega
  have e2 : (n : Int) / 65536 = (b2 : Int) := by omega
  have e1 : (n : Int) / 256 = (b1 : Int) := by omega
  obtain ⟨q3, hq3⟩ : ∃ q, q = b3 % 256 := ⟨_, rfl⟩
  obtain ⟨q2, hq2⟩ : ∃ q, q = b2 % 256 := ⟨_, rfl⟩
  obtain ⟨q1, hq1⟩ : ∃ q, q = b1 % 256 := ⟨_, rfl⟩
  obtain ⟨q0, hq0⟩ : ∃ q, q = n % 256 := ⟨_, rfl⟩
  have f3 : IntKind.u8.wrap (b3 : Int) = (q3 : Int) := by rw [IntKind.wrap_u8]; omega
  have f2 : IntKind.u8.wrap (b2 : Int) = (q2 : Int) := by rw [IntKind.wrap_u8]; omega
  have f1 : IntKind.u8.wrap (b1 : Int) = (q1 : Int) := by rw [IntKind.wrap_u8]; omega
  have f0 : IntKind.u8.wrap (n : Int) = (q0 : Int) := by rw [IntKind.wrap_u8]; omega
  have hc := four_u8 n (w.alloc (.cells #[.int .u8 (q3 : Int), .int .u8 (q2 : Int), .int .u8 (q1 : Int), .int .u8 (q0 : Int)] 5)) w.heap.size (by rw [← h3, ← h2, ← h1, ← hq3, ← hq2, ← hq1, ← hq0]; exact Blk.new w _ _)
  clear hq3 hq2 hq1 hq0 h3 h2 h1
  go_enter Tryz.func103, Tryz.ntmps103
  go_wp2
  go_ret
  exact ⟨rfl, by go_grown⟩

set_option maxRecDepth 100000 in
set_option maxHeartbeats 4000000 in
theorem crc_any (xs : List Nat) (hx : ∀ x ∈ xs, x < 256) (hl : xs.length ≤ 1000000000) (w : World) :
    Calls Tryz.prog 71 #[.string (bytesOf xs)] w fun e w' => e = .returned (.int .i64 (sumL xs)) ∧ w' = w := by
  obtain ⟨st, hst⟩ : ∃ st, st = bytesOf xs := ⟨_, rfl⟩
  obtain ⟨n, hn⟩ : ∃ n, n = xs.length := ⟨_, rfl⟩
  have hsz : st.size = n := by rw [hst, bytesOf_size, hn]
  have hidx : ∀ k, k < n → ∃ x, xs[k]? = some x ∧ x < 256 ∧ ∀ h : k < st.size, st[k].toNat = x := by
    intro k hk
    have hk2 : k < xs.length := by omega
    have hm := hx _ (List.getElem_mem hk2)
    refine ⟨xs[k], List.getElem?_eq_getElem hk2, hm, fun h => ?_⟩
    subst hst
    exact bytesOf_get xs _ h _ (List.getElem?_eq_getElem hk2) hm
  have Hidx := Lib.hid hidx
  have Hlt := Lib.hid (fun k => crcL_lt (xs.take k) (fun x h => hx x (List.mem_of_mem_take h)))
  have hn2 : n ≤ 1000000000 := by omega
  have Hn := Lib.hid hn
  rw [← hst]
  clear hx hst hidx hn hl
  go_enter Tryz.func71, Tryz.ntmps71
  go_wp2
  go_loopw [3, 4] (fun c iv wr => ∃ k q : Nat, k ≤ n ∧ iv = .int .i64 k ∧ c = .int .i64 q ∧ q = crcL (xs.take k) ∧ wr = w) (fun _ iv _ => n - (intOf iv).toNat)
  case atStart => exact ⟨0, 4294967295, Nat.zero_le _, rfl, rfl, rfl, rfl⟩
  case round =>
    obtain ⟨k, q, hk, rfl, rfl, hq, rfl⟩ := hrel
    have hq32 : q < 4294967296 := by rw [hq]; exact Hlt.out k
    have Hq := Lib.hid hq
    clear hq
    by_cases hkn : k < n
    · obtain ⟨x, hxg, hx8, hix⟩ := Hidx.out k hkn
      have hks : k < st.size := by omega
      have hix' := hix hks
      have hnx : crcL (xs.take (k + 1)) = refIter x 8 q := by rw [take_snoc hxg, crcL_snoc, ← Hq.out, ref_byte x q hx8]
      have hwx : IntKind.i64.wrap (x : Int) = (x : Int) := by rw [IntKind.wrap_i64]; omega
      have Hnx := Lib.hid hnx
      clear hnx hix hxg
      go_wp2
      go_loopw [3, 5] (fun c jv wr' => ∃ j p : Nat, j ≤ 8 ∧ jv = .int .i64 j ∧ c = .int .i64 p ∧ p = refIter x j q ∧ wr' = wr) (fun _ jv _ => 8 - (intOf jv).toNat)
      case atStart => exact ⟨0, q, Nat.zero_le _, rfl, rfl, rfl, rfl⟩
      case round =>
        obtain ⟨j, p, hj, rfl, rfl, hp, rfl⟩ := hrel
        have hp32 : p < 4294967296 := by rw [hp]; exact refIter_lt x q hq32 j
        have Hp := Lib.hid hp
        clear hp
        by_cases hj8 : j < 8
        · obtain ⟨y, hy⟩ : ∃ y, y = x / 2 ^ j := ⟨_, rfl⟩
          have hy8 : y < 256 := by rw [hy]; exact Nat.lt_of_le_of_lt (Nat.div_le_self _ _) hx8
          obtain ⟨z, hz⟩ : ∃ z, z = p ^^^ y := ⟨_, rfl⟩
          have hz32 : z < 4294967296 := by rw [hz]; exact Nat.xor_lt_two_pow (n := 32) hp32 (by omega)
          obtain ⟨d, hd⟩ : ∃ d, d = p / 2 := ⟨_, rfl⟩
          have e1 : (x : Int) / 2 ^ j = (y : Int) := by rw [hy]; simp
          have e2 : bits BinOp.xor IntKind.i64 (p : Int) (y : Int) = (z : Int) := by rw [bits_xor_i64_nat p y (by omega) (by omega), hz]
          have e3 : (p : Int) / 2 = (d : Int) := by omega
          have hst : refIter x (j + 1) q = if z % 2 = 1 then d ^^^ polyN else d := by rw [refIter, ← Hp.out]; unfold refStep; rw [← hy, ← hz, ← hd]
          by_cases hz1 : z % 2 = 1
          · rw [if_pos hz1] at hst
            obtain ⟨s, hs⟩ : ∃ s, s = d ^^^ polyN := ⟨_, rfl⟩
            have e4 : bits BinOp.xor IntKind.i64 (d : Int) 3988292384 = (s : Int) := by
              have := bits_xor_i64_nat d 3988292384 (by omega) (by decide)
              rw [hs]; exact this
            have e5 : (z : Int) % 2 = 1 := by omega
            have Hs := Lib.hid (show s = refIter x (j + 1) q by rw [hst, hs])
            clear hy hz hd hst hs hz1
            go_wp2
            go_roundw
            case rel => exact ⟨j + 1, s, by omega, by go_num, rfl, Hs.out, trivial⟩
            case measure => simp [intOf]; omega
          · rw [if_neg hz1] at hst
            have e5 : (z : Int) % 2 = 0 := by omega
            have Hs := Lib.hid hst.symm
            clear hy hz hd hst hz1
            go_wp2
            go_roundw
            case rel => exact ⟨j + 1, d, by omega, by go_num, rfl, Hs.out, trivial⟩
            case measure => simp [intOf]; omega
        · obtain rfl : j = 8 := by omega
          have Hp2 := Lib.hid (show p = crcL (xs.take (k + 1)) by rw [Hnx.out, Hp.out])
          go_wp2
          go_roundw
          case rel => exact ⟨k + 1, p, by omega, by go_num, rfl, Hp2.out, trivial⟩
          case measure => simp [intOf]; omega
    · obtain rfl : k = n := by omega
      have hfin : crcL (xs.take k) = crcL xs := by rw [List.take_of_length_le (by have := Hn.out; omega)]
      have hxo : bits BinOp.xor IntKind.i64 (q : Int) 4294967295 = ((4294967295 - q : Nat) : Int) := by
        have := bits_xor_i64_nat q 4294967295 (by omega) (by decide)
        rw [xor_ones q hq32] at this
        exact this
      have Hfin := Lib.hid (show (4294967295 - q : Nat) = sumL xs by unfold sumL; rw [← hfin, Hq.out])
      generalize 4294967295 - q = z at hxo Hfin
      clear hfin
      go_wp2
      go_ret
      exact ⟨by rw [← Hfin.out]; rfl, rfl⟩

set_option maxHeartbeats 1000000 in
theorem byte_mod (n x : Nat) (hn : n < 4294967296) (hx : x = n % 256) (w : World) : Calls Tryz.prog 76 #[.int .i64 n] w fun e w' => e = .returned (.string (bytesOf [x])) ∧ Below w.heap.size w w' := by
  have hx8 : x < 256 := by omega
  have hc : ∀ W : World, W.cell? ⟨w.heap.size, 0, none⟩ = some (.int .u8 x) → w.heap.size < W.heap.size → (convert 107 9 (.slice (some ⟨w.heap.size, 0, none⟩) 1 1)).run Tryz.prog W = .ok (.string (bytesOf [x])) W := by
    intro W hW hlt
    exact conv_bytes W (some ⟨w.heap.size, 0, none⟩) 1 1 [x] (B := W.heap.size) ⟨rfl, fun _ => ⟨_, _, rfl, hlt, fun j v hv => by
      cases j with
      | zero => rw [Nat.zero_add, hW]; simpa using hv
      | succ j => simp at hv⟩⟩ (by simpa using hx8)
  have hc1 := hc (w.alloc (.cells #[.int .u8 x] 5)) (by simp) (by simp)
  have hw : IntKind.u8.wrap (n : Int) = (x : Int) := by rw [IntKind.wrap_u8]; omega
  clear hc hx
  go_enter Tryz.func76, Tryz.ntmps76
  go_wp2
  go_ret
  exact ⟨rfl, by go_grown⟩
set_option maxHeartbeats 1000000 in
theorem rfour_any (n : Nat) (hn : n < 4294967296) (w : World) : Calls Tryz.prog 70 #[.int .i64 n] w fun e w' => e = .returned (.string (bytesOf (fourL n))) ∧ Below w.heap.size w w' := by
  obtain ⟨b3, h3⟩ : ∃ b, b = n / 16777216 := ⟨_, rfl⟩
  obtain ⟨b2, h2⟩ : ∃ b, b = n / 65536 := ⟨_, rfl⟩
  obtain ⟨b1, h1⟩ : ∃ b, b = n / 256 := ⟨_, rfl⟩
  have e3 : (n : Int) / 16777216 = (b3 : Int) := by omega
  have e2 : (n : Int) / 65536 = (b2 : Int) := by omega
  have e1 : (n : Int) / 256 = (b1 : Int) := by omega
  obtain ⟨q3, hq3⟩ : ∃ q, q = b3 % 256 := ⟨_, rfl⟩
  obtain ⟨q2, hq2⟩ : ∃ q, q = b2 % 256 := ⟨_, rfl⟩
  obtain ⟨q1, hq1⟩ : ∃ q, q = b1 % 256 := ⟨_, rfl⟩
  obtain ⟨q0, hq0⟩ : ∃ q, q = n % 256 := ⟨_, rfl⟩
  have hfin : bytesOf [q3] ++ bytesOf [q2] ++ bytesOf [q1] ++ bytesOf [q0] = bytesOf (fourL n) := by
    rw [bytesOf_append, bytesOf_append, bytesOf_append, hq3, hq2, hq1, hq0, h3, h2, h1]; rfl
  have s3 : (bytesOf [q3]).size = 1 := bytesOf_size _
  have s2 : (bytesOf [q2]).size = 1 := bytesOf_size _
  have s1 : (bytesOf [q1]).size = 1 := bytesOf_size _
  have s0 : (bytesOf [q0]).size = 1 := bytesOf_size _
  have H3 := Lib.hid (fun W => byte_mod b3 q3 (by omega) hq3 W)
  have H2 := Lib.hid (fun W => byte_mod b2 q2 (by omega) hq2 W)
  have H1 := Lib.hid (fun W => byte_mod b1 q1 (by omega) hq1 W)
  have H0 := Lib.hid (fun W => byte_mod n q0 (by omega) hq0 W)
  have Hfin := Lib.hid hfin
  generalize bytesOf [q3] = t3 at H3 s3 Hfin
  generalize bytesOf [q2] = t2 at H2 s2 Hfin
  generalize bytesOf [q1] = t1 at H1 s1 Hfin
  generalize bytesOf [q0] = t0 at H0 s0 Hfin
  clear hq3 hq2 hq1 hq0 h3 h2 h1 hfin
  go_enter Tryz.func70, Tryz.ntmps70
  go_wp2_with fail
  refine (H3.out _).mono ?_
  rintro e w1 ⟨rfl, hb1⟩
  have Hb1 := Lib.hid hb1; clear hb1
  go_wp2_with fail
  refine (H2.out _).mono ?_
  rintro e w2 ⟨rfl, hb2⟩
  have Hb2 := Lib.hid (Below.call Hb1.out hb2 Hb1.out.size); clear hb2
  go_wp2_with fail
  refine (H1.out _).mono ?_
  rintro e w3 ⟨rfl, hb3⟩
  have Hb3 := Lib.hid (Below.call Hb2.out hb3 Hb2.out.size); clear hb3
  go_wp2_with fail
  refine (H0.out _).mono ?_
  rintro e w4 ⟨rfl, hb4⟩
  have Hb4 := Lib.hid (Below.call Hb3.out hb4 Hb3.out.size); clear hb4
  go_wp2
  go_ret
  exact ⟨congrArg (fun b => Ending.returned (.string b)) Hfin.out, Hb4.out⟩
set_option maxHeartbeats 1000000 in
theorem seal_any (xs : List Nat) (hx : ∀ x ∈ xs, x < 256) (hl : xs.length ≤ 1000000000) (w : World) :
    Calls Tryz.prog 43 #[.string (bytesOf xs)] w fun e w' => e = .returned (.string (bytesOf (sealL xs))) ∧ Below w.heap.size w w' := by
  have hs := sumL_lt xs
  have hsz : (bytesOf xs).size = xs.length := bytesOf_size xs
  have hs4 : (bytesOf (fourL (sumL xs))).size = 4 := bytesOf_size _
  have Hfin := Lib.hid (show bytesOf xs ++ bytesOf (fourL (sumL xs)) = bytesOf (sealL xs) by rw [bytesOf_append]; rfl)
  have Hc := Lib.hid (fun W => crc_any xs hx hl W)
  have Hf := Lib.hid (fun W => rfour_any (sumL xs) hs W)
  generalize bytesOf (fourL (sumL xs)) = t4 at Hf Hfin hs4
  generalize sumL xs = z at Hc Hf hs
  generalize hst : bytesOf xs = st at Hc Hfin hsz ⊢
  clear hst hx
  go_enter Tryz.func43, Tryz.ntmps43
  go_wp2_with fail
  refine (Hc.out _).mono ?_
  rintro e w' ⟨rfl, rfl⟩
  go_wp2_with fail
  refine (Hf.out _).mono ?_
  rintro e w1 ⟨rfl, hb1⟩
  have Hb1 := Lib.hid hb1; clear hb1
  go_wp2
  go_ret
  exact ⟨congrArg (fun b => Ending.returned (.string b)) Hfin.out, Hb1.out⟩
end Go.Proofs.YtpbgonpmpjpljaaGreatDoor

namespace Go.Proofs.YtpbgonpmpjpljaaGreatDoor
open Go.RowKit
set_option linter.unusedVariables false

theorem allIn_bad {f e : Int} {ps : List (Int × Int)} {k : Nat} {y : Int × Int} (hy : ps[k]? = some y) (h : outB f e y.1 = true) : allIn f e ps = false := by
  apply Bool.eq_false_iff.2
  intro hall
  have := List.all_eq_true.1 hall y (List.mem_of_getElem? hy)
  rw [h] at this
  cases this
theorem allIn_good {f e : Int} {ps : List (Int × Int)} (h : ∀ j (p : Int × Int), j < ps.length → ps[j]? = some p → outB f e p.1 = false) : allIn f e ps = true := by
  refine List.all_eq_true.2 fun p hp => ?_
  obtain ⟨j, hj, rfl⟩ := List.getElem_of_mem hp
  rw [h j _ hj (List.getElem?_eq_getElem hj)]; rfl
set_option maxRecDepth 100000 in
theorem inside_any (A : Option Addr) (n c : Nat) (ps : List (Int × Int)) (f sp : Int) (w : World) (hA : Rd w w.heap.size 2 A n (ptsC ps)) (hn : n ≤ 100000) (h1 : -9223372036854775800 ≤ f + sp) (h2 : f + sp ≤ 9223372036854775800) :
    Calls Tryz.prog 25 #[.slice A n c, .int .i64 f, .int .i64 sp] w fun e w' => e = .returned (.bool (allIn f (f + sp) ps)) ∧ Below w.heap.size w w' := by
  have hlen : ps.length = n := by have := hA.1; rw [flat_len _ 2 (fun _ => rfl)] at this; omega
  have HA := Lib.hid hA; have Hlen := Lib.hid hlen
  have hn' : (n : Int) ≤ 100000 := by omega
  clear hA hlen
  go_enter Tryz.func25, Tryz.ntmps25
  go_wp2
  go_loopw [7] (fun iv wr => ∃ k : Nat, k ≤ n ∧ iv = .int .i64 k ∧ Below w.heap.size w wr ∧ ∀ j (p : Int × Int), j < k → ps[j]? = some p → outB f (f + sp) p.1 = false) (fun iv _ => n - (intOf iv).toNat)
  case atStart => exact ⟨0, Nat.zero_le _, rfl, Below.refl _ _, fun j p h => absurd h (Nat.not_lt_zero j)⟩
  case round =>
    obtain ⟨k, hk, rfl, hb, hpre⟩ := hrel
    have Hpre := Lib.hid hpre; have Hb := Lib.hid hb
    have hszr := hb.size
    by_cases hkn : k < n
    · have hkn' : (k : Int) < n := by omega
      obtain ⟨b0, o0, y, hA0, had0, hy, x0, x1⟩ := (HA.out.below hb).at2 hkn
      subst hA0
      have Hy := Lib.hid hy
      clear hb hpre hy
      by_cases hlt : y.1 < f
      · have Hr := Lib.hid (allIn_bad Hy.out (show outB f (f + sp) y.1 = true from decide_eq_true (.inl hlt)))
        go_wp2
        go_ret
        exact ⟨by rw [Hr.out]; rfl, Hb.out⟩
      by_cases hgt : f + sp - 1 < y.1
      · have Hr := Lib.hid (allIn_bad Hy.out (show outB f (f + sp) y.1 = true from decide_eq_true (.inr (by omega))))
        go_wp2
        go_ret
        exact ⟨by rw [Hr.out]; rfl, Hb.out⟩
      have Hn := Lib.hid (show ∀ j (p : Int × Int), j < k + 1 → ps[j]? = some p → outB f (f + sp) p.1 = false from fun j p hj hp => by
        rcases Nat.lt_or_ge j k with h | h
        · exact Hpre.out j p h hp
        · obtain rfl : j = k := by omega
          rw [Hy.out] at hp
          injection hp with hp
          rw [← hp]; exact decide_eq_false (by omega))
      go_wp2
      go_roundw
      case rel => exact ⟨k + 1, by omega, by go_num, Hb.out, Hn.out⟩
      case measure => simp [intOf]; omega
    · obtain rfl : k = n := by omega
      have Hr := Lib.hid (show allIn f (f + sp) ps = true from allIn_good fun j p hj hp => Hpre.out j p (by rw [← Hlen.out]; exact hj) hp)
      clear hb hpre
      go_wp2
      go_ret
      exact ⟨by rw [Hr.out]; rfl, Hb.out⟩
end Go.Proofs.YtpbgonpmpjpljaaGreatDoor
