/- label.Check and the reference's LabelsFault by contracts. -/
import Derived.Test.YtpbgonpmpjpljaaGreatDoorMkdX
import Derived.Test.YtpbgonpmpjpljaaGreatDoorMkaX
import Derived.Test.YtpbgonpmpjpljaaGreatDoorMkeX
import Derived.RangeFuncNested
import Derived.RangeFuncBound
import Derived.RangeFuncCalls
import Derived.RangeFuncLeaves
import Derived.Shelf.Abstract
import Derived.Shelf.RegionOpen
import Derived.WalkKit
import Derived.OwnWalkIn
import Derived.TacticsInMore
import Derived.LoopNIn
import Derived.LoopIn
import Derived.Test.YtpbgonpmpjpljaaGreatDoorLaysX
namespace Go.Proofs.YtpbgonpmpjpljaaGreatDoor
open Go.RowKit
set_option linter.unusedVariables false

/-- Labels as cells. -/
def lbC (l : List Lb) : List Value := l.flatMap fun p => [.string (B8 p.1), .string (B8 p.2)]
theorem lbC_len (l : List Lb) : (lbC l).length = l.length * 2 := flat_len (fun p : Lb => [Value.string (B8 p.1), Value.string (B8 p.2)]) 2 (fun _ => rfl) l
theorem getD_lb {l : List Lb} {i : Nat} {y : Lb} (h : l[i]? = some y) : lbAt l i = y := by unfold lbAt; rw [List.getD_eq_getElem?_getD, h]; rfl
/-- What Check answers, cc the number of what is wrong. -/
def LPost (es : Nat → Addr) (cc n i : Nat) (w : World) (e : Ending) (w' : World) : Prop :=
  (i = n → e = .returned .nilIface) ∧
  (i < n → ∃ pb, e = .returned (faultV ⟨pb, 0, none⟩) ∧ w.heap.size ≤ pb ∧ pb < w'.heap.size ∧ w'.cell? ⟨pb, 0, none⟩ = some (.int .i64 i) ∧ w'.cell? ⟨pb, 1, none⟩ = some (sentV (es cc))) ∧ Below w.heap.size w w'
theorem LPost.bad {es : Nat → Addr} {n i cc : Nat} {w wr : World} {e : Ending} {W : World} (hW : W = wr.alloc (.cells #[.int .i64 i, sentV (es cc)] 89)) (hin : i < n) (hb : Below w.heap.size w wr) (he : e = .returned (faultV ⟨wr.heap.size, 0, none⟩)) : LPost es cc n i w e W := by
  have hs := hb.size
  have HB := Blk.new wr 89 #[.int .i64 i, sentV (es cc)]
  rw [← hW] at HB
  have hb2 : Below w.heap.size w W := by rw [hW]; exact Below.alloc hb hs _
  exact ⟨fun h => absurd h (by omega), fun _ => ⟨wr.heap.size, he, by omega, HB.lt, HB.cell 0, HB.cell 1⟩, hb2⟩
theorem leS_B8 (a b : Bs) : (Op.bytesLess (B8 a).toList (B8 b).toList || (B8 a).toList == (B8 b).toList) = leS a b := by
  rw [B8_toList, B8_toList]; rfl
abbrev svlL : List Nat := [0, 1, 2, 3, 4, 6, 7]
/-- The sentinels of labels' and heads' own code. -/
structure SVL (es : Nat → Addr) (B : Nat) (w : World) : Prop where
  var : ∀ k, k ∈ svlL → w.cell? ⟨gErr k, 0, none⟩ = some (sentV (es k))
  glt : ∀ k, k ∈ svlL → gErr k < B
theorem svl_lt {k : Nat} (hk : k ∈ svlL) : k < 11 := by
  simp [svlL] at hk; omega
theorem SVL.below {es : Nat → Addr} {B C : Nat} {w w' : World} (h : SVL es B w) (hb : Below C w w') (hC : B ≤ C) : SVL es B w' :=
  ⟨fun k hk => (hb.cell (p := ⟨gErr k, 0, none⟩) (Nat.lt_of_lt_of_le (h.glt k hk) hC)).trans (h.var k hk), h.glt⟩
theorem Sents.vl {es : Nat → Addr} {B : Nat} {w : World} (h : Sents es B w) : SVL es B w := ⟨fun k hk => h.var k (svl_lt hk), fun k hk => h.glt k (svl_lt hk)⟩

set_option maxRecDepth 100000 in
theorem lcheck_long {es : Nat → Addr} {B : Nat} (A : Option Addr) (n c : Nat) (w : World) (hS : SVL es B w) (hn : 6 < n) :
    Calls Tryz.prog 95 #[.slice A n c] w fun e w' => e = .returned (sentV (es 1)) ∧ w = w' := by
  have g1 : w.cell? ⟨1, 0, none⟩ = some (sentV (es 1)) := hS.var 1 (by decide)
  have hn' : (6 : Int) < n := by omega
  have hn0 : ((n : Int) == 0) = false := by rw [beq_eq_false_iff_ne]; omega
  clear hS
  go_enter Tryz.func95, Tryz.ntmps95
  go_wp2
  go_ret
  exact ⟨rfl, rfl⟩

set_option maxRecDepth 100000 in
set_option maxHeartbeats 4000000 in
theorem lcheck_any {es : Nat → Addr} {B : Nat} (A : Option Addr) (n c : Nat) (l : List Lb) (i : Nat) (w : World) (hS : SVL es B w) (hB0 : B ≤ w.heap.size) (hA : Rd w w.heap.size 2 A n (lbC l)) (h1 : 1 ≤ n) (hn : n ≤ 6) (hi : i ≤ n) (hok : ∀ j, j < i → lbOk l j) (hbad : i < n → ¬ lbOk l i) :
    Calls Tryz.prog 95 #[.slice A n c] w (LPost es (lbCode l i) n i w) := by
  have hn' : (n : Int) ≤ 6 := by omega
  have hn0 : ((n : Int) == 0) = false := by rw [beq_eq_false_iff_ne]; omega
  have HS := Lib.hid (fun W (hb : Below w.heap.size w W) => hS.below hb hB0)
  have HA := Lib.hid hA; have Hok := Lib.hid hok; have Hbad := Lib.hid hbad
  clear hS hA hok hbad
  go_enter Tryz.func95, Tryz.ntmps95
  go_wp2
  go_loopw [17] (fun iv wr => ∃ k : Nat, k ≤ i ∧ iv = .int .i64 k ∧ Below w.heap.size w wr) (fun iv _ => n - (intOf iv).toNat)
  case atStart => exact ⟨0, Nat.zero_le _, rfl, Below.refl _ _⟩
  case round =>
    obtain ⟨k, hk, rfl, hbel⟩ := hrel
    have Hbel := Lib.hid hbel
    have hwr : w.heap.size ≤ wr.heap.size := hbel.size
    clear hbel
    by_cases hkn : k < n
    · obtain ⟨bb, off, y, hAe, had, hy, e0, e1⟩ := (HA.out.below Hbel.out).at2 hkn
      subst hAe
      have hg := getD_lb hy
      have HY := Lib.hid hg
      have HB2 := Lib.hid (Below.alloc Hbel.out hwr (.cells #[.string (B8 y.1), .string (B8 y.2)] 91))
      have HK2 := Lib.hid (Blk.new wr 91 #[.string (B8 y.1), .string (B8 y.2)])
      have Hn1 := Lib.hid (fun W => name_any y.1 W); have Hw1 := Lib.hid (fun W => word_any y.2 W)
      have hbb : bb < wr.heap.size := Nat.lt_of_lt_of_le had hwr
      obtain ⟨s1, hs1⟩ : ∃ s1, s1 = B8 y.1 := ⟨_, rfl⟩
      obtain ⟨s2, hs2⟩ : ∃ s2, s2 = B8 y.2 := ⟨_, rfl⟩
      rw [← hs1] at e0; rw [← hs2] at e1
      rw [← hs1, ← hs2] at HB2 HK2
      rw [← hs1] at Hn1; rw [← hs2] at Hw1
      have Hs1 := Lib.hid hs1
      clear hs1 hs2 hg hy
      cases hnm : nameB y.1 with
      | false =>
        have hki : k = i := by
          rcases Nat.lt_or_ge k i with h | h
          · have := (Hok.out k h).1
            rw [HY.out, hnm] at this
            cases this
          · omega
        subst hki
        have Hcode := Lib.hid (show lbCode l k = 3 from by unfold lbCode; rw [HY.out, hnm]; simp)
        rw [hnm] at Hn1
        clear hnm
        go_wp2_with fail
        refine (Hn1.out _).mono ?_
        rintro e w1 ⟨rfl, hb⟩
        have HB3 := Lib.hid (Below.call HB2.out hb (by simp; omega))
        have g3 : w1.cell? ⟨3, 0, none⟩ = some (sentV (es 3)) := (HS.out _ HB3.out).var 3 (by decide)
        clear hb
        go_wp2
        go_ret
        exact LPost.bad (by rw [Hcode.out]) hkn HB3.out rfl
      | true =>
        rw [hnm] at Hn1
        have Hnm := Lib.hid hnm
        clear hnm
        go_wp2_with fail
        refine (Hn1.out _).mono ?_
        rintro e w1 ⟨rfl, hb⟩
        have HB3 := Lib.hid (Below.call HB2.out hb (by simp; omega))
        have HK3 := Lib.hid (HK2.out.below hb (by simp))
        have hz1 : wr.heap.size < w1.heap.size := HK3.out.lt
        have k1 : w1.cell? ⟨wr.heap.size, 1, none⟩ = some (.string s2) := HK3.out.cell 1
        clear hb
        cases hwd : wordB y.2 with
        | false =>
          have hki : k = i := by
            rcases Nat.lt_or_ge k i with h | h
            · have := (Hok.out k h).2.1
              rw [HY.out, hwd] at this
              cases this
            · omega
          subst hki
          have Hcode := Lib.hid (show lbCode l k = 3 from by unfold lbCode; rw [HY.out, hwd]; simp)
          rw [hwd] at Hw1
          clear hwd
          go_wp2_with fail
          refine (Hw1.out _).mono ?_
          rintro e w2 ⟨rfl, hb⟩
          have HB4 := Lib.hid (Below.call HB3.out hb (by omega))
          have g3 : w2.cell? ⟨3, 0, none⟩ = some (sentV (es 3)) := (HS.out _ HB4.out).var 3 (by decide)
          clear hb
          go_wp2
          go_ret
          exact LPost.bad (by rw [Hcode.out]) hkn HB4.out rfl
        | true =>
          rw [hwd] at Hw1
          have Hwd := Lib.hid hwd
          clear hwd
          go_wp2_with fail
          refine (Hw1.out _).mono ?_
          rintro e w2 ⟨rfl, hb⟩
          have HB4 := Lib.hid (Below.call HB3.out hb (by omega))
          have HK4 := Lib.hid (HK3.out.below hb HK3.out.lt)
          have k0 : w2.cell? ⟨wr.heap.size, 0, none⟩ = some (.string s1) := HK4.out.cell 0
          have g2 : w2.cell? ⟨0, 0, none⟩ = some (sentV (es 2)) := (HS.out _ HB4.out).var 2 (by decide)
          clear hb k1 hz1
          by_cases hk0 : k = 0
          · subst hk0
            have hki : 0 < i := by
              rcases Nat.eq_zero_or_pos i with h | h
              · subst h
                exact absurd (show lbOk l 0 from ⟨by rw [HY.out]; exact Hnm.out, by rw [HY.out]; exact Hwd.out, fun h => absurd h (Nat.lt_irrefl _)⟩) (Hbad.out hkn)
              · exact h
            clear e0 e1
            go_wp2
            go_quiet (fail)
            go_wp2
            go_roundw
            case rel => exact ⟨0 + 1, by omega, by go_num, Below.drewN HB4.out _⟩
            case measure => simp [intOf]; omega
          · obtain ⟨bb2, off2, z, hA2, had2, hz, e2, _⟩ := (HA.out.below HB4.out).at2 (k := k - 1) (by omega)
            injection hA2 with hA2
            injection hA2 with hA3 hA4
            subst hA3; subst hA4
            have hgz := getD_lb hz
            have n1 : IntKind.i64.wrap ((k : Int) - 1) = ((k - 1 : Nat) : Int) := by rw [IntKind.wrap_i64]; omega
            have c0 : (0 : Int) < (k : Int) := by omega
            have hdk : decide (0 < k) = true := decide_eq_true (by omega)
            have hkl : ((k - 1 : Nat) : Int) < (n : Int) := by omega
            have hle := leS_B8 y.1 z.1
            rw [← Hs1.out] at hle
            generalize B8 z.1 = s3 at hle e2
            cases hv : leS y.1 z.1 with
            | false =>
              rw [hv] at hle
              have hki : k < i := by
                rcases Nat.lt_or_ge k i with h | h
                · exact h
                · obtain rfl : k = i := by omega
                  exact absurd (show lbOk l k from ⟨by rw [HY.out]; exact Hnm.out, by rw [HY.out]; exact Hwd.out, fun _ => by rw [HY.out, hgz]; exact hv⟩) (Hbad.out hkn)
              clear hgz hz hv e0 e1
              go_wp2
              go_quiet (fail)
              go_wp2
              go_roundw
              case rel => exact ⟨k + 1, by omega, by go_num, Below.drewN HB4.out _⟩
              case measure => simp [intOf]; omega
            | true =>
              rw [hv] at hle
              have hki : k = i := by
                rcases Nat.lt_or_ge k i with h | h
                · have := (Hok.out k h).2.2 (by omega)
                  rw [HY.out, hgz, hv] at this
                  cases this
                · omega
              subst hki
              have Hcode := Lib.hid (show lbCode l k = 2 from by unfold lbCode; rw [HY.out, Hnm.out, Hwd.out]; simp)
              clear hgz hz hv e0 e1
              go_wp2
              go_quiet (fail)
              go_wp2
              go_ret
              exact LPost.bad (by rw [Hcode.out]) hkn (Below.drewN HB4.out _) rfl
    · obtain rfl : k = n := by omega
      obtain rfl : i = k := by omega
      go_wp2
      go_ret
      exact ⟨fun _ => rfl, fun h => absurd h (Nat.lt_irrefl _), Hbel.out⟩

theorem res_lf (tmps : Array Value) (W : World) (b : Nat) (ty : TypeId) (v0 v1 : Value) (ha : tmps.getD 2 undef = .pointer (some ⟨b, 0, none⟩)) (hB : Blk W b ty #[v0, v1]) :
    (results Tryz.f42 tmps).run Tryz.prog W = .ok (.agg #[v0, v1]) W := by
  obtain ⟨z0, z1⟩ := hB.duo2
  simp only [Array.getD_eq_getD_getElem?] at ha
  simp [results, Tryz.results42, go_sem, ha, z0, z1]
set_option maxRecDepth 100000 in
theorem labelsFault_none (A : Option Addr) (c : Nat) (w : World) :
    Calls Tryz.prog 42 #[.slice A 0 c] w fun e w' => e = .returned (.agg #[.int .i64 5, .int .i64 (-1)]) ∧ Below w.heap.size w w' := by
  go_enter Tryz.func42, Tryz.ntmps42
  go_wp2
  (try simp only [Exit.inBlock, Exit.then])
  have HB3 := (Blk.new w 29 #[.int .i64 5, .int .i64 (-1)]).alloc (.cells #[.int .i64 5, .int .i64 (-1)] 29)
  refine bodyPost_ret (res_lf _ _ _ _ _ _ rfl HB3) rfl ?_
  exact ⟨rfl, by go_grown⟩
set_option maxRecDepth 100000 in
theorem labelsFault_long (A : Option Addr) (n c : Nat) (w : World) (hn : 6 < n) :
    Calls Tryz.prog 42 #[.slice A n c] w fun e w' => e = .returned (.agg #[.int .i64 2, .int .i64 (-1)]) ∧ Below w.heap.size w w' := by
  have hn' : (6 : Int) < n := by omega
  have hn0 : ((n : Int) == 0) = false := by rw [beq_eq_false_iff_ne]; omega
  go_enter Tryz.func42, Tryz.ntmps42
  go_wp2
  (try simp only [Exit.inBlock, Exit.then])
  have HB3 := (Blk.new w 29 #[.int .i64 2, .int .i64 (-1)]).alloc (.cells #[.int .i64 2, .int .i64 (-1)] 29)
  refine bodyPost_ret (res_lf _ _ _ _ _ _ rfl HB3) rfl ?_
  exact ⟨rfl, by go_grown⟩
/-- What LabelsFault answers of labels whose first wrong one is i (n: none), cc what is wrong. -/
def lfV (cc n i : Nat) : Value := if i = n then .agg #[.int .i64 0, .int .i64 (-1)] else .agg #[.int .i64 ((cc : Nat) + 1 : Int), .int .i64 i]
theorem lfV_ok (cc n : Nat) : lfV cc n n = .agg #[.int .i64 0, .int .i64 (-1)] := by unfold lfV; rw [if_pos rfl]
theorem lfV_bad (n i cc c : Nat) (h : i < n) (hc : cc = c) : lfV cc n i = .agg #[.int .i64 ((c : Int) + 1), .int .i64 i] := by unfold lfV; rw [if_neg (by omega), hc]

set_option maxRecDepth 100000 in
set_option maxHeartbeats 4000000 in
theorem labelsFault_any (A : Option Addr) (n c : Nat) (l : List Lb) (i : Nat) (w : World) (hA : Rd w w.heap.size 2 A n (lbC l)) (h1 : 1 ≤ n) (hn : n ≤ 6) (hi : i ≤ n) (hok : ∀ j, j < i → lbOk l j) (hbad : i < n → ¬ lbOk l i) (hlen : ∀ p ∈ l, p.1.length ≤ 100000 ∧ p.2.length ≤ 100000) :
    Calls Tryz.prog 42 #[.slice A n c] w fun e w' => e = .returned (lfV (lbCode l i) n i) ∧ Below w.heap.size w w' := by
  have hn' : (n : Int) ≤ 6 := by omega
  have hn0 : ((n : Int) == 0) = false := by rw [beq_eq_false_iff_ne]; omega
  have HA := Lib.hid hA; have Hok := Lib.hid hok; have Hbad := Lib.hid hbad; have Hlen := Lib.hid hlen
  clear hA hok hbad hlen
  go_enter Tryz.func42, Tryz.ntmps42
  go_wp2
  go_loopw [3] (fun iv wr => ∃ k : Nat, k ≤ i ∧ iv = .int .i64 k ∧ Blk wr w.heap.size 29 #[.int .i64 0, .int .i64 0] ∧ Below w.heap.size w wr) (fun iv _ => n - (intOf iv).toNat)
  case atStart => exact ⟨0, Nat.zero_le _, rfl, Blk.new w _ _, Below.alloc (Below.refl _ _) (Nat.le_refl _) _⟩
  case round =>
    obtain ⟨k, hk, rfl, hblk, hbel⟩ := hrel
    have Hbel := Lib.hid hbel; have Hblk := Lib.hid hblk
    have hwr : w.heap.size < wr.heap.size := hblk.lt
    clear hbel hblk
    obtain ⟨w0', w1'⟩ := Hblk.out.duo2
    have fz0 := Hblk.out.frozen 0; have fz1 := Hblk.out.frozen 1
    by_cases hkn : k < n
    · obtain ⟨bb, off, y, hAe, had, hy, e0, e1⟩ := (HA.out.below Hbel.out).at2 hkn
      subst hAe
      have hg := getD_lb hy
      have HY := Lib.hid hg
      obtain ⟨hl1, hl2⟩ := Hlen.out y (List.mem_of_getElem? hy)
      have Hn1 := Lib.hid (fun W => isName_any y.1 hl1 W); have Hw1 := Lib.hid (fun W => isWord_any y.2 hl2 W)
      obtain ⟨s1, hs1⟩ : ∃ s1, s1 = B8 y.1 := ⟨_, rfl⟩
      obtain ⟨s2, hs2⟩ : ∃ s2, s2 = B8 y.2 := ⟨_, rfl⟩
      rw [← hs1] at e0 Hn1; rw [← hs2] at e1 Hw1
      have Hs1 := Lib.hid hs1
      have E0 := Lib.hid e0; have E1 := Lib.hid e1
      clear hs1 hs2 hg hy hl1 hl2
      cases hnm : nameB y.1 with
      | false =>
        have hki : k = i := by
          rcases Nat.lt_or_ge k i with h | h
          · have := (Hok.out k h).1
            rw [HY.out, hnm] at this
            cases this
          · omega
        subst hki
        have Hpf := Lib.hid (lfV_bad n k (lbCode l k) 3 hkn (by unfold lbCode; rw [HY.out, hnm]; simp))
        rw [hnm] at Hn1
        clear hnm
        cases hwd : wordB y.2 with
        | false =>
          rw [hwd] at Hw1
          clear hwd
          go_wp2_with fail
          refine (Hn1.out _).mono ?_
          rintro e w' ⟨rfl, rfl⟩
          go_wp2_with fail
          refine (Hw1.out _).mono ?_
          rintro e w' ⟨rfl, rfl⟩
          go_wp2
          (try simp only [Exit.inBlock, Exit.then])
          refine bodyPost_ret (v := .agg #[.int .i64 4, .int .i64 k]) (by simp [results, Tryz.results42, go_sem, w0', w1']) rfl ?_
          exact ⟨by rw [Hpf.out]; rfl, ((Hbel.out.setCell (Nat.le_refl _) _).setCell (Nat.le_refl _) _)⟩
        | true =>
          rw [hwd] at Hw1
          clear hwd
          go_wp2_with fail
          refine (Hn1.out _).mono ?_
          rintro e w' ⟨rfl, rfl⟩
          go_wp2_with fail
          refine (Hw1.out _).mono ?_
          rintro e w' ⟨rfl, rfl⟩
          go_wp2
          (try simp only [Exit.inBlock, Exit.then])
          refine bodyPost_ret (v := .agg #[.int .i64 4, .int .i64 k]) (by simp [results, Tryz.results42, go_sem, w0', w1']) rfl ?_
          exact ⟨by rw [Hpf.out]; rfl, ((Hbel.out.setCell (Nat.le_refl _) _).setCell (Nat.le_refl _) _)⟩
      | true =>
        rw [hnm] at Hn1
        have Hnm := Lib.hid hnm
        clear hnm
        go_wp2_with fail
        refine (Hn1.out _).mono ?_
        rintro e w' ⟨rfl, rfl⟩
        cases hwd : wordB y.2 with
        | false =>
          have hki : k = i := by
            rcases Nat.lt_or_ge k i with h | h
            · have := (Hok.out k h).2.1
              rw [HY.out, hwd] at this
              cases this
            · omega
          subst hki
          have Hpf := Lib.hid (lfV_bad n k (lbCode l k) 3 hkn (by unfold lbCode; rw [HY.out, hwd]; simp))
          rw [hwd] at Hw1
          clear hwd
          go_wp2_with fail
          refine (Hw1.out _).mono ?_
          rintro e w' ⟨rfl, rfl⟩
          go_wp2
          (try simp only [Exit.inBlock, Exit.then])
          refine bodyPost_ret (v := .agg #[.int .i64 4, .int .i64 k]) (by simp [results, Tryz.results42, go_sem, w0', w1']) rfl ?_
          exact ⟨by rw [Hpf.out]; rfl, ((Hbel.out.setCell (Nat.le_refl _) _).setCell (Nat.le_refl _) _)⟩
        | true =>
          rw [hwd] at Hw1
          have Hwd := Lib.hid hwd
          clear hwd
          go_wp2_with fail
          refine (Hw1.out _).mono ?_
          rintro e w' ⟨rfl, rfl⟩
          by_cases hk0 : k = 0
          · subst hk0
            have hki : 0 < i := by
              rcases Nat.eq_zero_or_pos i with h | h
              · subst h
                exact absurd (show lbOk l 0 from ⟨by rw [HY.out]; exact Hnm.out, by rw [HY.out]; exact Hwd.out, fun h => absurd h (Nat.lt_irrefl _)⟩) (Hbad.out hkn)
              · exact h
            clear e0 e1
            go_wp2
            go_quiet (fail)
            go_wp2
            go_roundw
            case rel => exact ⟨0 + 1, by omega, by go_num, Hblk.out.drewN _, Below.drewN Hbel.out _⟩
            case measure => simp [intOf]; omega
          · obtain ⟨bb2, off2, z, hA2, had2, hz, e2, _⟩ := (HA.out.below Hbel.out).at2 (k := k - 1) (by omega)
            injection hA2 with hA2
            injection hA2 with hA3 hA4
            subst hA3; subst hA4
            have hgz := getD_lb hz
            have n1 : IntKind.i64.wrap ((k : Int) - 1) = ((k - 1 : Nat) : Int) := by rw [IntKind.wrap_i64]; omega
            have c0 : (0 : Int) < (k : Int) := by omega
            have hdk : decide (0 < k) = true := decide_eq_true (by omega)
            have hkl : ((k - 1 : Nat) : Int) < (n : Int) := by omega
            have hle := leS_B8 y.1 z.1
            rw [← Hs1.out] at hle
            generalize B8 z.1 = s3 at hle e2
            cases hv : leS y.1 z.1 with
            | false =>
              rw [hv] at hle
              have hki : k < i := by
                rcases Nat.lt_or_ge k i with h | h
                · exact h
                · obtain rfl : k = i := by omega
                  exact absurd (show lbOk l k from ⟨by rw [HY.out]; exact Hnm.out, by rw [HY.out]; exact Hwd.out, fun _ => by rw [HY.out, hgz]; exact hv⟩) (Hbad.out hkn)
              clear hgz hz hv e1
              go_wp2
              go_quiet (fail)
              go_wp2
              go_roundw
              case rel => exact ⟨k + 1, by omega, by go_num, Hblk.out.drewN _, Below.drewN Hbel.out _⟩
              case measure => simp [intOf]; omega
            | true =>
              rw [hv] at hle
              have hki : k = i := by
                rcases Nat.lt_or_ge k i with h | h
                · have := (Hok.out k h).2.2 (by omega)
                  rw [HY.out, hgz, hv] at this
                  cases this
                · omega
              subst hki
              have Hpf := Lib.hid (lfV_bad n k (lbCode l k) 2 hkn (by unfold lbCode; rw [HY.out, Hnm.out, Hwd.out]; simp))
              clear hgz hz hv e1
              go_wp2
              go_quiet (fail)
              go_wp2
              (try simp only [Exit.inBlock, Exit.then])
              refine bodyPost_ret (v := .agg #[.int .i64 3, .int .i64 k]) (by simp [results, Tryz.results42, go_sem, w0', w1']) rfl ?_
              exact ⟨by rw [Hpf.out]; rfl, (((Below.drewN Hbel.out _).setCell (Nat.le_refl _) _).setCell (Nat.le_refl _) _)⟩
    · obtain rfl : k = n := by omega
      obtain rfl : i = k := by omega
      have Hpf := Lib.hid (lfV_ok (lbCode l i) i)
      go_wp2
      (try simp only [Exit.inBlock, Exit.then])
      have HB3 := ((Hblk.out.set_ 0 (.int .i64 0)).set_ 1 (.int .i64 (-1))).alloc (.cells #[.int .i64 0, .int .i64 (-1)] 29)
      refine bodyPost_ret (res_lf _ _ _ _ _ _ rfl HB3) rfl ?_
      exact ⟨by rw [Hpf.out], Below.alloc ((Hbel.out.setCell (Nat.le_refl _) _).setCell (Nat.le_refl _) _) (by simp; omega) _⟩
end Go.Proofs.YtpbgonpmpjpljaaGreatDoor

namespace Go.Proofs.YtpbgonpmpjpljaaGreatDoor
open Go.RowKit Go.Shelf
attribute [local go_sem] Oper.semAt_some
set_option linter.unusedVariables false

theorem B8_data (s : Bs) : (B8 s).data.toList = s := rfl
theorem cut_none (p : Bs) (h : cutE p = none) (w : World) :
    Calls Tryz.prog 94 #[.string (B8 p), .string ⟨#[61]⟩] w fun e w' => e = .returned (.tuple #[.string (B8 p), .string ⟨#[]⟩, .bool false]) ∧ Below w.heap.size w w' := by
  have Hi := Lib.hid (fun W => Tryz.stringslite_Index_one (B8 p) 61 W)
  rw [B8_data, indexE_none h] at Hi
  generalize B8 p = st at Hi ⊢
  clear h
  go_enter Tryz.func94, Tryz.ntmps94
  go_wp2_with (first | (go_at_call 156; refine (Hi.out _).mono ?_; rintro e w' ⟨rfl, rfl⟩) | go_in)
  go_ret3
  exact ⟨rfl, Below.refl _ _⟩
theorem cut_in (p : Bs) (q : Lb) (h : cutE p = some q) (hl : p.length ≤ 1000000) (w : World) :
    Calls Tryz.prog 123 #[.string (B8 p), .string ⟨#[61]⟩] w fun e w' => e = .returned (.tuple #[.string (B8 q.1), .string (B8 q.2), .bool true]) ∧ Below w.heap.size w w' := by
  have Hi := Lib.hid (fun W => Tryz.stringslite_Index_one (B8 p) 61 W)
  rw [B8_data, indexE_some h] at Hi
  have hp := cutE_some h
  have hlen : p.length = q.1.length + (q.2.length + 1) := by rw [hp, List.length_append, List.length_cons]
  have x1 : (B8 p).extract 0 q.1.length = B8 q.1 := by rw [B8_extract, hp, List.drop_zero, List.take_left]
  have x2 : (B8 p).extract (q.1.length + 1) p.length = B8 q.2 := by
    rw [B8_extract, List.take_length, hp]
    congr 1
    rw [show q.1 ++ 61 :: q.2 = (q.1 ++ [61]) ++ q.2 by simp, show q.1.length + 1 = (q.1 ++ [61]).length by simp, List.drop_left]
  have hsz : (B8 p).size = p.length := B8_size p
  obtain ⟨m, hm⟩ : ∃ m, m = q.1.length := ⟨_, rfl⟩
  obtain ⟨n, hn⟩ : ∃ n, n = p.length := ⟨_, rfl⟩
  rw [← hm] at Hi x1 x2 hlen
  rw [← hn] at x2 hsz hl hlen
  have hmn : m + 1 ≤ n := by omega
  have hmn' : (m : Int) + 1 ≤ n := by omega
  have X1 := Lib.hid x1; have X2 := Lib.hid x2
  generalize B8 p = st at Hi X1 X2 hsz ⊢
  generalize B8 q.1 = s1 at X1 ⊢
  generalize B8 q.2 = s2 at X2 ⊢
  have n1 : IntKind.i64.wrap ((m : Int) + 1) = (m : Int) + 1 := by rw [IntKind.wrap_i64]; omega
  clear h hp x1 x2 hlen hm hn
  go_enter Tryz.func123, Tryz.ntmps123
  go_wp2_with fail
  refine (Hi.out _).mono ?_
  rintro e w' ⟨rfl, rfl⟩
  have E1 := X1.out; have E2 := X2.out
  go_wp2
  go_quiet (fail)
  go_wp2
  go_ret3
  exact ⟨rfl, Below.drewN (Below.refl _ _) _⟩
theorem cut_some (p : Bs) (q : Lb) (h : cutE p = some q) (hl : p.length ≤ 1000000) (w : World) :
    Calls Tryz.prog 94 #[.string (B8 p), .string ⟨#[61]⟩] w fun e w' => e = .returned (.tuple #[.string (B8 q.1), .string (B8 q.2), .bool true]) ∧ Below w.heap.size w w' := by
  have Hi := Lib.hid (cut_in p q h hl w)
  clear h hl
  go_enter Tryz.func94, Tryz.ntmps94
  go_wp2_with fail
  refine Hi.out.mono ?_
  rintro e w' ⟨rfl, hb⟩
  have HB := Lib.hid hb; clear hb
  go_wp2
  go_ret3
  exact ⟨rfl, HB.out⟩
/-- strings.SplitSeq: the iterator, and its three boxes. -/
theorem splitSeq_any (s : ByteArray) (w : World) :
    Calls Tryz.prog 93 #[.string s, .string ⟨#[44]⟩] w fun e w' => e = .returned (.func (.func 153) #[] #[.pointer (some ⟨w.heap.size + 1, 0, none⟩), .pointer (some ⟨w.heap.size, 0, none⟩), .pointer (some ⟨w.heap.size + 2, 0, none⟩)]) ∧
      w' = ((w.alloc (.cells #[.string s] 9)).alloc (.cells #[.string ⟨#[44]⟩] 9)).alloc (.cells #[.int .i64 0] 3) := by
  go_enter Tryz.func93, Tryz.ntmps93
  go_wp2
  go_ret
  exact ⟨rfl, rfl⟩
/-- How many bytes the box b holds still. -/
def left8 (b : Nat) (W : World) : Nat := match W.cell? ⟨b, 0, none⟩ with
  | some (.string s) => s.size
  | _ => 0
theorem left8_eq {b : Nat} {W : World} {s : ByteArray} (h : W.cell? ⟨b, 0, none⟩ = some (.string s)) : left8 b W = s.size := by unfold left8; rw [h]

set_option maxRecDepth 100000 in
set_option maxHeartbeats 2000000 in
theorem split_in (n l b0 : Nat) (s : Bs) (hs : s.length ≤ 1000000) (J Jx : List Bs → World → Prop) (hJ : ∀ p W W', J p W → Fr (fun k => k = b0) W W' → J p W')
    (hY : ∀ pre x W, J pre W → pre ++ [x] <+: splitC 44 s → YieldAt Fence.wide (n - 1) Tryz.prog l #[.string (B8 x)] W fun e W' =>
      (e = .returned (.bool true) ∧ J (pre ++ [x]) W' ∧ ∀ k, k = b0 ∨ k = b0 + 1 ∨ k = b0 + 2 → W'.heap[k]? = W.heap[k]?) ∨ (e = .returned (.bool false) ∧ Jx (pre ++ [x]) W'))
    (W : World) (h0 : J [] W) (k0 : Blk W b0 9 #[.string (B8 s)]) (k1 : Blk W (b0 + 1) 9 #[.string ⟨#[44]⟩]) (k2 : Blk W (b0 + 2) 3 #[.int .i64 0]) :
    CallsIn Fence.wide n Tryz.prog 153 #[.func (.yield l) #[] #[], .pointer (some ⟨b0 + 1, 0, none⟩), .pointer (some ⟨b0, 0, none⟩), .pointer (some ⟨b0 + 2, 0, none⟩)] W fun e W' => (∃ v, e = .returned v) ∧
      (J (splitC 44 s) W' ∨ (∃ pre, pre <+: splitC 44 s ∧ Jx pre W')) := by
  refine callsIn_of_wp Tryz.func153 rfl trivial ?_ rfl
  simp only [Tryz.ntmps153, List.size_toArray, List.length_cons, List.length_nil, Nat.reduceAdd, Nat.reduceSub, Array.replicate_succ, Array.replicate_zero, List.push_toArray, List.append_toArray, List.nil_append, List.cons_append]
  have c1 : W.cell? ⟨b0 + 1, 0, none⟩ = some (.string ⟨#[44]⟩) := k1.cell 0
  gi_wp2
  gi_loopw [7] (fun _ wr => ∃ (pre : List Bs) (r : Bs), r.length ≤ 1000000 ∧ splitC 44 s = pre ++ splitC 44 r ∧ Blk wr b0 9 #[.string (B8 r)] ∧ Blk wr (b0 + 1) 9 #[.string ⟨#[44]⟩] ∧ Blk wr (b0 + 2) 3 #[.int .i64 0] ∧ J pre wr)
    (fun _ wr => left8 b0 wr)
  case atStart => exact ⟨[], s, hs, rfl, k0, k1, k2, h0⟩
  case round =>
    obtain ⟨pre, r, hr, hsp, q0, q1, q2, hJs⟩ := hrel
    have x0 : wr.cell? ⟨b0, 0, none⟩ = some (.string (B8 r)) := q0.cell 0
    have x1 : wr.cell? ⟨b0 + 1, 0, none⟩ = some (.string ⟨#[44]⟩) := q1.cell 0
    have Hi := Lib.hid (fun W => Tryz.strings_Index_one (B8 r) 44 W)
    rw [B8_data] at Hi
    rcases index_split 44 r with ⟨hi, hsr⟩ | ⟨i, hi, hil, hsr⟩
    · rw [hi] at Hi
      have hpre : pre ++ [r] = splitC 44 s := by rw [hsp, hsr]
      obtain ⟨fn, tmps, assign, body, hy, hR⟩ := hY pre r wr hJs (by rw [hpre]; exact List.prefix_refl _)
      rw [hpre] at hR
      have HR := Lib.hid hR
      clear hsr hsp hi hR hpre hY
      generalize B8 r = st at x0 Hi hy HR q0
      gi_wp2_with fail
      refine ⟨trivial, (fun h => by cases h), (callsIn_wide.2 (Hi.out _)).mono ?_⟩
      rintro e w' ⟨rfl, rfl⟩
      gi_wp2
      refine ⟨(fun h => by cases h), HR.out.mono ?_⟩
      rintro e W3 (⟨rfl, hJ3, hk3⟩ | ⟨rfl, hJx3⟩)
      · gi_wp2
        go_end0
        exact ⟨⟨_, rfl⟩, .inl hJ3⟩
      · gi_wp2
        go_end0
        exact ⟨⟨_, rfl⟩, .inr ⟨_, List.prefix_refl _, hJx3⟩⟩
    · rw [hi] at Hi
      have hpre : pre ++ [r.take i] <+: splitC 44 s := by rw [hsp, hsr]; exact ⟨splitC 44 (r.drop (i + 1)), by simp⟩
      obtain ⟨fn, tmps, assign, body, hy, hR⟩ := hY pre (r.take i) wr hJs hpre
      have e1 : (B8 r).extract 0 i = B8 (r.take i) := by rw [B8_extract, List.drop_zero]
      have e2 : (B8 r).extract (i + 1) r.length = B8 (r.drop (i + 1)) := by rw [B8_extract, List.take_length]
      have hsz : (B8 r).size = r.length := B8_size r
      have HR := Lib.hid hR; have Hsp := Lib.hid (show splitC 44 s = (pre ++ [r.take i]) ++ splitC 44 (r.drop (i + 1)) from by rw [hsp, hsr]; simp)
      have Hpre := Lib.hid hpre
      obtain ⟨m, hm⟩ : ∃ m, m = r.length := ⟨_, rfl⟩
      rw [← hm] at e2 hsz hil hr
      have hil' : (i : Int) < m := by omega
      have hil2 : (i : Int) + 1 ≤ m := by omega
      have hil3 : i + 1 ≤ m := by omega
      have n0 : IntKind.i64.wrap (i : Int) = (i : Int) := by rw [IntKind.wrap_i64]; omega
      have n1 : IntKind.i64.wrap ((i : Int) + 1) = (i : Int) + 1 := by rw [IntKind.wrap_i64]; omega
      have hdl : (r.drop (i + 1)).length ≤ 1000000 := by rw [List.length_drop, ← hm]; omega
      have hds : (B8 (r.drop (i + 1))).size < m := by rw [B8_size, List.length_drop, ← hm]; omega
      have Hdl := Lib.hid hdl; have Hds := Lib.hid hds
      have x2 : wr.cell? ⟨b0 + 2, 0, none⟩ = some (.int .i64 0) := q2.cell 0
      clear hsr hsp hi hR hpre hY hdl hds hm
      generalize B8 r = st at x0 Hi q0 hsz e1 e2
      generalize B8 (r.take i) = sf at e1 hy HR
      obtain ⟨sd, hsd⟩ : ∃ sd, sd = B8 (r.drop (i + 1)) := ⟨_, rfl⟩
      rw [← hsd] at e2 Hds
      have Hsd := Lib.hid hsd
      clear hsd
      gi_wp2_with fail
      refine ⟨trivial, (fun h => by cases h), (callsIn_wide.2 (Hi.out _)).mono ?_⟩
      rintro e w' ⟨rfl, rfl⟩
      gi_wp2
      refine ⟨(fun h => by cases h), HR.out.mono ?_⟩
      rintro e W3 (⟨rfl, hJ3, hk3⟩ | ⟨rfl, hJx3⟩)
      · have p0 : Blk W3 b0 9 #[.string st] := (hk3 b0 (.inl rfl)).trans q0
        have p1 : Blk W3 (b0 + 1) 9 #[.string ⟨#[44]⟩] := (hk3 _ (.inr (.inl rfl))).trans q1
        have p2 : Blk W3 (b0 + 2) 3 #[.int .i64 0] := (hk3 _ (.inr (.inr rfl))).trans q2
        have P0 := Lib.hid p0; have P1 := Lib.hid p1; have P2 := Lib.hid p2
        have y0 : W3.cell? ⟨b0, 0, none⟩ = some (.string st) := p0.cell 0
        have y1 : W3.cell? ⟨b0 + 1, 0, none⟩ = some (.string ⟨#[44]⟩) := p1.cell 0
        have f0 : W3.frozen? ⟨b0, 0, none⟩ = false := p0.frozen 0
        clear p0 p1 p2 hk3 hy n0
        gi_wp2
        refine ⟨⟨pre ++ [r.take i], r.drop (i + 1), Hdl.out, Hsp.out, ?_, P1.out.far (p := ⟨b0, 0, none⟩) (by simp) _, P2.out.far (p := ⟨b0, 0, none⟩) (by simp) _, hJ _ _ _ hJ3 (Fr.setCell (S := fun k => k = b0) (Fr.refl _ W3) (p := ⟨b0, 0, none⟩) (.inr rfl) _)⟩, ?_⟩
        · rw [← Hsd.out]; exact P0.out.set_ 0 (.string sd)
        · rw [left8_eq ((P0.out.set_ 0 (.string sd)).cell 0), left8_eq x0, hsz]; exact Hds.out
      · gi_wp2
        refine bodyPost_ret (results_none rfl _ _ _) rfl ?_
        exact ⟨⟨_, rfl⟩, .inr ⟨_, Hpre.out, hJx3⟩⟩
theorem Fr.putObj {S : Nat → Prop} {a w : World} (h : Fr S a w) {l : Nat} (hl : S l) (o : Obj) : Fr S a (w.putObj l o) :=
  ⟨h.os, h.tape, h.output, by rw [World.putObj_size]; exact h.size, fun i hi hn => (World.putObj_heap_other (fun e => hn (by rw [e]; exact hl))).trans (h.block i hi hn)⟩

/-- A range over strings.SplitSeq(s, ","), walked by an invariant of one's own: b0 and the two behind it are the iterator's boxes; the loop lays two blocks of its own. -/
theorem wp_split {n : Nat} {g : Operand} {ps : Array Tmp} {assign body : Code} {Q : Exit → Act → World → Prop} {a : Act} {W : World} (b0 : Nat) (s : Bs) (hs : s.length ≤ 1000000) (hb0 : b0 + 2 < W.heap.size)
    (hg : a.eval g = .func (.func 153) #[] #[.pointer (some ⟨b0 + 1, 0, none⟩), .pointer (some ⟨b0, 0, none⟩), .pointer (some ⟨b0 + 2, 0, none⟩)]) (hps : ps.size = 1)
    (k0 : Blk W b0 9 #[.string (B8 s)]) (k1 : Blk W (b0 + 1) 9 #[.string ⟨#[44]⟩]) (k2 : Blk W (b0 + 2) 3 #[.int .i64 0])
    (I Ix : List Bs → World → Prop) (hI : ∀ p X Y, I p X → Fr (fun k => k = b0 ∨ k = W.heap.size ∨ k = W.heap.size + 1) X Y → I p Y) (hIx : ∀ p X Y, Ix p X → Fr (fun k => k = b0 ∨ k = W.heap.size ∨ k = W.heap.size + 1) X Y → Ix p Y)
    (h0 : ∀ Y, Below W.heap.size W Y → Y.heap.size = W.heap.size + 2 → I [] Y) (a1 : Bs → Act)
    (hassign : ∀ (x : Bs) (X : World) (K : Act → World → Prop), K (a1 x) X →
      assign.wpIn (Fence.wide.inRound (W.heap.size + 1)) (n - 1 - 1) Tryz.prog (Exit.then K (fun _ _ _ => False)) { tmps := (ps.zip #[Value.string (B8 x)]).foldl (fun t (p, v) => t.setIfInBounds p v) a.tmps, defers := [] } X)
    (hbody : ∀ (pre : List Bs) (x : Bs) (X : World), I pre X → W.heap.size + 2 ≤ X.heap.size → pre ++ [x] <+: splitC 44 s → body.wpIn (Fence.wide.inRound (W.heap.size + 1)) (n - 1 - 1) Tryz.prog
      (fun e _ Y => (e = .normal ∧ I (pre ++ [x]) Y ∨ e = .ret ∧ Ix (pre ++ [x]) Y) ∧ W.heap.size + 2 ≤ Y.heap.size ∧ ∀ k, k = b0 ∨ k = b0 + 1 ∨ k = b0 + 2 ∨ k = W.heap.size ∨ k = W.heap.size + 1 → Y.heap[k]? = X.heap[k]?) (a1 x) X)
    (hdone : ∀ (X : World), I (splitC 44 s) X → X.heap[W.heap.size]? = some (.deferred (some [])) → Q .normal { a with defers := { target := .collected W.heap.size, args := #[] } :: a.defers } X)
    (hstop : ∀ (pre : List Bs) (X : World), pre <+: splitC 44 s → Ix pre X → X.heap[W.heap.size]? = some (.deferred (some [])) → Code.ret.wpIn Fence.wide n Tryz.prog Q { a with defers := { target := .collected W.heap.size, args := #[] } :: a.defers } X) :
    (Code.rangeFunc g ps assign body).wpIn Fence.wide n Tryz.prog Q a W := by
  refine wpIn_rangeFunc ?_
  intro fn hfn
  obtain ⟨D, hD⟩ : ∃ D, D = W.heap.size := ⟨_, rfl⟩
  obtain ⟨rec, hrec⟩ : ∃ rec : LoopState → Option Code → Loop, rec = fun st pe => { state := st, pending := pe, fn, tmps := a.tmps, params := ps, assign, body, defers := W.heap.size } := ⟨_, rfl⟩
  obtain ⟨W1, hW1⟩ : ∃ W1, (W.alloc (.deferred (some []))).alloc (.loop (rec .ready none)) = W1 := ⟨_, rfl⟩
  have hL1 : W1.heap[W.heap.size + 1]? = some (.loop (rec .ready none)) := by
    rw [← hW1]; have := World.alloc_heap_new (W.alloc (.deferred (some []))) (.loop (rec .ready none)); rwa [World.size_alloc] at this
  have hD1 : W1.heap[W.heap.size]? = some (.deferred (some [])) := by
    rw [← hW1]; exact (Below.heap_alloc _ _ _ (by simp)).trans (World.alloc_heap_new W _)
  have hb1 : Below W.heap.size W W1 := by rw [← hW1]; exact ((Below.refl _ W).alloc (Nat.le_refl _) _).alloc (by simp) _
  have hs1 : W1.heap.size = W.heap.size + 2 := by rw [← hW1]; simp
  refine ⟨W.heap.size + 1, [{ target := .collected W.heap.size, args := #[] }], W1, { target := .fn (.func 153) #[.pointer (some ⟨b0 + 1, 0, none⟩), .pointer (some ⟨b0, 0, none⟩), .pointer (some ⟨b0 + 2, 0, none⟩)], args := #[.func (.yield (W.heap.size + 1)) #[] #[]] }, W1, 153,
    #[.func (.yield (W.heap.size + 1)) #[] #[]] ++ #[.pointer (some ⟨b0 + 1, 0, none⟩), .pointer (some ⟨b0, 0, none⟩), .pointer (some ⟨b0 + 2, 0, none⟩)], W1, ?_, ?_, ?_, ?_, (fun h => by cases h), ?_⟩
  · rw [← hW1, hrec]; exact run_enterLoop_outer _ _ _ _ _
  · simp only [resolve, hg]
    simp [go_sem]
  · intro f' _; trivial
  · simp [invoke, go_sem]
  · refine (split_in (n - 1) (W.heap.size + 1) b0 s hs
      (fun pre X => I pre X ∧ W.heap.size + 2 ≤ X.heap.size ∧ X.heap[W.heap.size + 1]? = some (.loop (rec .ready none)) ∧ X.heap[W.heap.size]? = some (.deferred (some [])))
      (fun pre X => Ix pre X ∧ W.heap.size + 2 ≤ X.heap.size ∧ X.heap[W.heap.size + 1]? = some (.loop (rec .done (some .ret))) ∧ X.heap[W.heap.size]? = some (.deferred (some [])))
      (fun p X Y hp hf => ⟨hI p X Y hp.1 (hf.mono fun i _ h => .inl h), Nat.le_trans hp.2.1 hf.size, (hf.block _ (by omega) (fun (h : _ = b0) => by omega)).trans hp.2.2.1, (hf.block _ (by omega) (fun (h : _ = b0) => by omega)).trans hp.2.2.2⟩)
      ?_ W1 ⟨h0 W1 hb1 hs1, by omega, hL1, hD1⟩ (k0.below hb1 (by omega)) (k1.below hb1 (by omega)) (k2.below hb1 (by omega))).mono ?_
    · rintro pre x X ⟨hi, hsz, hl, hk⟩ hpre
      have hy := run_yield (P := Tryz.prog) (args := #[Value.string (B8 x)]) hl (by rw [hrec, hps]; rfl)
      rw [hrec] at hy
      refine ⟨fn, _, assign, body, hy, roundIn_of_wpIn hfn (hassign x X _ ?_)⟩
      refine ⟨_, run_beginRound hl (by rw [hrec]), ?_⟩
      obtain ⟨X2, hX2⟩ : ∃ X2, X2 = X.putObj (W.heap.size + 1) (.loop { rec .ready none with state := .busy }) := ⟨_, rfl⟩
      have hl2 : X2.heap[W.heap.size + 1]? = some (.loop { rec .ready none with state := .busy }) := by rw [hX2]; exact World.putObj_heap_same (by omega)
      have hk2 : X2.heap[W.heap.size]? = some (.deferred (some [])) := by rw [hX2]; exact (World.putObj_heap_other (by omega)).trans hk
      have hf2 : Fr (fun k => k = b0 ∨ k = W.heap.size ∨ k = W.heap.size + 1) X X2 := by rw [hX2]; exact (Fr.refl _ _).putObj (.inr (.inr rfl)) _
      have hb2 : ∀ k, k = b0 ∨ k = b0 + 1 ∨ k = b0 + 2 → X2.heap[k]? = X.heap[k]? := fun k hk => by rw [hX2]; exact World.putObj_heap_other (by omega)
      rw [← hX2]
      refine wpIn_mono (hbody pre x X2 (hI _ _ _ hi hf2) (by rw [hX2, World.putObj_size]; exact hsz) hpre) ?_
      rintro e a3 Y ⟨(⟨rfl, hi3⟩ | ⟨rfl, hi3⟩), hsz3, hk3⟩
      · have hl3 : Y.heap[W.heap.size + 1]? = some (.loop { rec .ready none with state := .busy }) := (hk3 _ (by simp)).trans hl2
        have hr := run_endRound (P := Tryz.prog) none hl3
        refine ⟨_, _, hr, .inl ⟨rfl, ⟨hI _ _ _ hi3 ((Fr.refl _ _).putObj (.inr (.inr rfl)) _), by rw [World.putObj_size]; exact hsz3, ?_, (World.putObj_heap_other (by omega)).trans ((hk3 _ (by simp)).trans hk2)⟩, ?_⟩⟩
        · rw [World.putObj_heap_same (by omega), hrec]; rfl
        · intro k hk'
          exact (World.putObj_heap_other (by omega)).trans ((hk3 _ (by omega)).trans (hb2 k hk'))
      · have hl3 : Y.heap[W.heap.size + 1]? = some (.loop { rec .ready none with state := .busy }) := (hk3 _ (by simp)).trans hl2
        have hr := run_endRound (P := Tryz.prog) (some .ret) hl3
        refine ⟨_, _, hr, .inr ⟨rfl, hIx _ _ _ hi3 ((Fr.refl _ _).putObj (.inr (.inr rfl)) _), by rw [World.putObj_size]; exact hsz3, ?_, (World.putObj_heap_other (by omega)).trans ((hk3 _ (by simp)).trans hk2)⟩⟩
        rw [World.putObj_heap_same (by omega), hrec]; rfl
    · rintro e X ⟨⟨v, rfl⟩, (⟨hi, hsz, hl, hk⟩ | ⟨pre, hpre, hi, hsz, hl, hk⟩)⟩
      · exact ⟨none, _, by have := run_endLoop (P := Tryz.prog) hl (by rw [hrec]; simp); rw [hrec] at this; exact this, hdone _ (hI _ _ _ hi ((Fr.refl _ _).putObj (.inr (.inr rfl)) _)) ((World.putObj_heap_other (by omega)).trans hk)⟩
      · exact ⟨some .ret, _, by have := run_endLoop (P := Tryz.prog) hl (by rw [hrec]; simp); rw [hrec] at this; exact this, hstop pre _ hpre (hIx _ _ _ hi ((Fr.refl _ _).putObj (.inr (.inr rfl)) _)) ((World.putObj_heap_other (by omega)).trans hk)⟩
end Go.Proofs.YtpbgonpmpjpljaaGreatDoor

namespace Go.Proofs.YtpbgonpmpjpljaaGreatDoor
open Go.RowKit Go.Shelf
attribute [local go_sem] Oper.semAt_some
set_option linter.unusedVariables false

theorem infoLb : (Tryz.prog.info? 91).map (fun i => (i.zero, i.size, i.bytes)) = some (some (.agg #[.string ⟨#[]⟩, .string ⟨#[]⟩]), 2, 32) := by kernel_rfl
/-- What Read answers. -/
def RPost (es : Nat → Addr) (s : Bs) (w : World) (e : Ending) (w' : World) : Prop :=
  (parseL s = none → e = .returned (.tuple #[.slice none 0 0, sentV (es 0)])) ∧
  (∀ l, parseL s = some l → 6 < l.length → e = .returned (.tuple #[.slice none 0 0, sentV (es 1)])) ∧
  (∀ l i, parseL s = some l → l.length ≤ 6 → i < l.length → (∀ j, j < i → lbOk l j) → ¬ lbOk l i → ∃ pb, e = .returned (.tuple #[.slice none 0 0, faultV ⟨pb, 0, none⟩]) ∧ w.heap.size ≤ pb ∧ pb < w'.heap.size ∧ w'.cell? ⟨pb, 0, none⟩ = some (.int .i64 i) ∧ w'.cell? ⟨pb, 1, none⟩ = some (sentV (es (lbCode l i)))) ∧
  (∀ l, parseL s = some l → l.length ≤ 6 → (∀ j, j < l.length → lbOk l j) → ∃ v, e = .returned (.tuple #[v, .nilIface]) ∧ w'.ownsRow w.heap.size 91 2 v l.length (lbC l)) ∧ Below w.heap.size w w'
theorem Below.putObj_ {B : Nat} {a w : World} (h : Below B a w) {l : Nat} (hl : B ≤ l) (o : Obj) : Below B a (w.putObj l o) :=
  ⟨h.os, h.tape, h.output, by rw [World.putObj_size]; exact h.size, fun i hi => (World.putObj_heap_other (by omega)).trans (h.block i hi)⟩
theorem Blk.putObj_ {w : World} {g : Nat} {t : TypeId} {cs : Array Value} (h : Blk w g t cs) {l : Nat} (hl : g ≠ l) (o : Obj) : Blk (w.putObj l o) g t cs := (World.putObj_heap_other hl).trans h
/-- Between two rounds. -/
def RInv (b : Nat) (w : World) (pre : List Bs) (X : World) : Prop :=
  ∃ v l, pre.mapM cutE = some l ∧ Blk X b 66 #[.slice none 0 0] ∧ Blk X (b + 1) 34 #[.nilIface] ∧ Blk X (b + 2) 66 #[v] ∧ X.ownsRow (b + 8) 91 2 v l.length (lbC l) ∧ Below b w X
/-- A round has left. -/
def RBad (es : Nat → Addr) (b : Nat) (w : World) (pre : List Bs) (X : World) : Prop :=
  pre.mapM cutE = none ∧ Blk X b 66 #[.slice none 0 0] ∧ Blk X (b + 1) 34 #[sentV (es 0)] ∧ Below b w X
theorem Fr.toBelow {S : Nat → Prop} {B : Nat} {w X Y : World} (h : Below B w X) (hB : B ≤ w.heap.size) (hf : Fr S X Y) (hS : ∀ k, k < B → ¬ S k) : Below B w Y :=
  h.trans (hf.below (Nat.le_trans hB h.size) hS)
theorem RInv.fr {b : Nat} {w : World} {p : List Bs} {X Y : World} (h : RInv b w p X) (hb : b ≤ w.heap.size) (hf : Fr (fun k => k = b + 3 ∨ k = b + 6 ∨ k = b + 6 + 1) X Y) : RInv b w p Y := by
  obtain ⟨v, l, h1, h2, h3, h4, h5, h6⟩ := h
  refine ⟨v, l, h1, hf.blk h2 (by omega), hf.blk h3 (by omega), hf.blk h4 (by omega), hf.own h5 (fun k hk => ?_), Fr.toBelow h6 hb hf (fun k hk => by omega)⟩
  have := (own_lt h5 k hk).1
  omega
theorem RBad.fr {es : Nat → Addr} {b : Nat} {w : World} {p : List Bs} {X Y : World} (h : RBad es b w p X) (hb : b ≤ w.heap.size) (hf : Fr (fun k => k = b + 3 ∨ k = b + 6 ∨ k = b + 6 + 1) X Y) : RBad es b w p Y := by
  obtain ⟨h1, h2, h3, h4⟩ := h
  exact ⟨h1, hf.blk h2 (by omega), hf.blk h3 (by omega), Fr.toBelow h4 hb hf (fun k hk => by omega)⟩
theorem rbad_done {es : Nat → Addr} {b : Nat} {w X X1 : World} {p : List Bs} (hp : p.mapM cutE = none) (hb : Below X.heap.size X X1) (h0 : Blk X1 b 66 #[.slice none 0 0]) (h1 : Blk X1 (b + 1) 34 #[.nilIface]) (hB : Below b w X1) (hs : b + 6 + 2 ≤ X.heap.size) :
    let Y := ((X1.setCell ⟨b, 0, none⟩ (.slice none 0 0)).setCell ⟨b + 1, 0, none⟩ (sentV (es 0))).drew
    RBad es b w p Y ∧ b + 6 + 2 ≤ X1.heap.size ∧ Y.heap[b + 3]? = X.heap[b + 3]? ∧ Y.heap[b + 3 + 1]? = X.heap[b + 3 + 1]? ∧ Y.heap[b + 3 + 2]? = X.heap[b + 3 + 2]? ∧ Y.heap[b + 6]? = X.heap[b + 6]? ∧ Y.heap[b + 6 + 1]? = X.heap[b + 6 + 1]? := by
  intro Y
  have hx := hb.size
  have hf : Fr (fun k => k = b ∨ k = b + 1) X1 Y := ((Fr.setCell (S := fun k => k = b ∨ k = b + 1) (Fr.refl _ X1) (p := ⟨b, 0, none⟩) (.inr (.inl rfl)) _).setCell (p := ⟨b + 1, 0, none⟩) (.inr (.inr rfl)) _).drew
  have key : ∀ k, b + 2 ≤ k → k < X.heap.size → Y.heap[k]? = X.heap[k]? := fun k h1 h2 => (hf.block k (by omega) (by omega)).trans (hb.block k h2)
  refine ⟨⟨hp, ((h0.set_ 0 (.slice none 0 0)).far (p := ⟨b + 1, 0, none⟩) (by simp) _).drew, ((h1.far (p := ⟨b, 0, none⟩) (by simp) _).set_ 0 (sentV (es 0))).drew, hB.trans (hf.below ?_ (fun k hk => by omega))⟩, by omega, key _ (by omega) (by omega), key _ (by omega) (by omega), key _ (by omega) (by omega), key _ (by omega) (by omega), key _ (by omega) (by omega)⟩
  omega
theorem lbC_snoc (l : List Lb) (q : Lb) : lbC (l ++ [q]) = lbC l ++ [.string (B8 q.1), .string (B8 q.2)] := by simp [lbC]
theorem rinv_done {b : Nat} {w X X1 Z : World} {p' : List Bs} {l : List Lb} {q : Lb} {v v' : Value} (hp : p'.mapM cutE = some (l ++ [q])) (hb : Below X.heap.size X X1) (h0 : Blk X1 b 66 #[.slice none 0 0]) (h1 : Blk X1 (b + 1) 34 #[.nilIface]) (h2 : Blk X1 (b + 2) 66 #[v])
    (ho : X1.ownsRow (b + 8) 91 2 v l.length (lbC l)) (hB : Below b w X1) (hs : b + 6 + 2 ≤ X.heap.size)
    (hown' : Z.ownsRow (b + 8) 91 2 v' (l.length + 1) (lbC l ++ [.string (B8 q.1), .string (B8 q.2)])) (hgr : (X1.alloc (.cells #[.string (B8 q.1), .string (B8 q.2)] 91)).grownBy Z v.ownBlock) :
    Blk Z (b + 2) 66 #[v] ∧ RInv b w p' (Z.setCell ⟨b + 2, 0, none⟩ v') ∧ b + 6 + 2 ≤ Z.heap.size ∧ (Z.setCell ⟨b + 2, 0, none⟩ v').heap[b + 3]? = X.heap[b + 3]? ∧ (Z.setCell ⟨b + 2, 0, none⟩ v').heap[b + 3 + 1]? = X.heap[b + 3 + 1]? ∧ (Z.setCell ⟨b + 2, 0, none⟩ v').heap[b + 3 + 2]? = X.heap[b + 3 + 2]? ∧ (Z.setCell ⟨b + 2, 0, none⟩ v').heap[b + 6]? = X.heap[b + 6]? ∧ (Z.setCell ⟨b + 2, 0, none⟩ v').heap[b + 6 + 1]? = X.heap[b + 6 + 1]? := by
  have hx := hb.size
  have hfz : Fr (fun k => b + 8 ≤ k) X1 Z := ((Fr.refl _ X1).alloc _).grown hgr (fun k hk => .inr (own_lt ho k hk).1)
  have hf : Fr (fun k => b + 8 ≤ k ∨ k = b + 2) X1 (Z.setCell ⟨b + 2, 0, none⟩ v') := Fr.setCell (hfz.mono fun _ _ h => .inl h) (p := ⟨b + 2, 0, none⟩) (.inr (.inr rfl)) _
  have hz2 : Blk Z (b + 2) 66 #[v] := hfz.blk h2 (by omega)
  have key : ∀ k, b + 3 ≤ k → k < b + 8 → (Z.setCell ⟨b + 2, 0, none⟩ v').heap[k]? = X.heap[k]? := fun k k1 k2 => (hf.block k (by omega) (by omega)).trans (hb.block k (by omega))
  refine ⟨hz2, ⟨v', l ++ [q], hp, hf.blk h0 (by omega), hf.blk h1 (by omega), hz2.set_ 0 v', ?_, hB.trans (hf.below (by omega) (fun k hk => by omega))⟩, by have := hfz.size; omega, key _ (by omega) (by omega), key _ (by omega) (by omega), key _ (by omega) (by omega), key _ (by omega) (by omega), key _ (by omega) (by omega)⟩
  rw [lbC_snoc, List.length_append, List.length_singleton]
  refine own_set hown' (p := ⟨b + 2, 0, none⟩) (fun e => ?_) _
  have h : b + 8 ≤ b + 2 := (own_lt hown' _ e.symm).1
  omega
theorem lb_one2 (q : Lb) : ∀ u ∈ [Value.string (B8 q.1), Value.string (B8 q.2)], u.oneCell' = true := by
  intro u hu; simp at hu; rcases hu with rfl | rfl <;> rfl
theorem new2 (W : World) (t : TypeId) (u0 u1 : Value) : ∀ (j : Nat) u, [u0, u1][j]? = some u → (W.alloc (.cells #[u0, u1] t)).cell? ((⟨W.heap.size, 0, none⟩ : Addr).add j) = some u := by
  intro j u hu
  rw [add_at, Nat.zero_add, (Blk.new W t #[u0, u1]).cell j]
  simpa using hu
theorem cell_of_block {X Y : World} {a : Addr} (h : Y.heap[a.block]? = X.heap[a.block]?) : Y.cell? a = X.cell? a := by unfold World.cell?; rw [h]
theorem fin_set {b : Nat} {X : World} {u0 u1 : Value} (h0 : Blk X b 66 #[u0]) (h1 : Blk X (b + 1) 34 #[u1]) (hD : X.heap[b + 6]? = some (.deferred (some []))) (v0 v1 : Value) :
    ((X.setCell ⟨b, 0, none⟩ v0).setCell ⟨b + 1, 0, none⟩ v1).heap[b + 6]? = some (.deferred (some [])) ∧ Blk (((X.setCell ⟨b, 0, none⟩ v0).setCell ⟨b + 1, 0, none⟩ v1).putObj (b + 6) (.deferred none)) b 66 #[v0] ∧ Blk (((X.setCell ⟨b, 0, none⟩ v0).setCell ⟨b + 1, 0, none⟩ v1).putObj (b + 6) (.deferred none)) (b + 1) 34 #[v1] ∧
      Fr (fun k => k = b ∨ k = b + 1 ∨ k = b + 6) X (((X.setCell ⟨b, 0, none⟩ v0).setCell ⟨b + 1, 0, none⟩ v1).putObj (b + 6) (.deferred none)) := by
  have hl := (Array.getElem?_eq_some_iff.1 hD).1
  have hf : Fr (fun k => k = b ∨ k = b + 1 ∨ k = b + 6) X ((X.setCell ⟨b, 0, none⟩ v0).setCell ⟨b + 1, 0, none⟩ v1) := (Fr.setCell (S := fun k => k = b ∨ k = b + 1 ∨ k = b + 6) (Fr.refl _ X) (p := ⟨b, 0, none⟩) (.inr (.inl rfl)) _).setCell (p := ⟨b + 1, 0, none⟩) (.inr (.inr (.inl rfl))) _
  refine ⟨?_, ((h0.set_ 0 v0).far (p := ⟨b + 1, 0, none⟩) (by simp) _).putObj_ (by omega) _, ((h1.far (p := ⟨b, 0, none⟩) (by simp) _).set_ 0 v1).putObj_ (by omega) _, hf.putObj (.inr (.inr rfl)) _⟩
  rw [Below.heap_setCell _ _ _ _ (by simp), Below.heap_setCell _ _ _ _ (by simp)]
  exact hD
theorem res_rd (tmps : Array Value) (W : World) (b : Nat) (v0 v1 : Value) (ha : tmps.getD 2 undef = .pointer (some ⟨b, 0, none⟩)) (hb : tmps.getD 3 undef = .pointer (some ⟨b + 1, 0, none⟩)) (h0 : Blk W b 66 #[v0]) (h1 : Blk W (b + 1) 34 #[v1]) (hv0 : v0.oneCell' = true) (hv1 : v1.oneCell' = true) :
    (results Tryz.f64 tmps).run Tryz.prog W = .ok (.tuple #[v0, v1]) W := by
  have z0 := h0.cell 0
  have z1 := h1.cell 0
  simp only [List.getElem?_toArray, List.getElem?_cons_zero] at z0 z1
  simp only [Array.getD_eq_getD_getElem?] at ha hb
  simp [results, Tryz.results64, go_sem, ha, hb, z0, z1]

set_option maxRecDepth 100000 in
set_option maxHeartbeats 4000000 in
theorem lread_any {es : Nat → Addr} {B : Nat} (s : Bs) (hs : s.length ≤ 100000) (w : World) (hS : SVL es B w) (hB0 : B ≤ w.heap.size) :
    Calls Tryz.prog 64 #[.string (B8 s)] w (RPost es s w) := by
  refine (callsIn_wide (n := 9)).1 ?_
  refine callsIn_of_wp_marks Tryz.func64 rfl trivial ?_ rfl
  simp only [Tryz.ntmps64, List.size_toArray, List.length_cons, List.length_nil, Nat.reduceAdd, Nat.reduceSub, Array.replicate_succ, Array.replicate_zero, List.push_toArray, List.append_toArray, List.nil_append, List.cons_append]
  gi_wp2_with fail
  refine ⟨trivial, (callsIn_wide.2 (splitSeq_any _ _)).mono ?_⟩
  rintro e W ⟨rfl, hW⟩
  obtain ⟨b, hb⟩ : ∃ b, b = w.heap.size := ⟨_, rfl⟩
  have hsz : W.heap.size = b + 6 := by rw [hW, hb]; simp
  have K0 : Blk W b 66 #[.slice none 0 0] := by rw [hW, hb]; exact (((((Blk.new w _ _).alloc _).alloc _).alloc _).alloc _).alloc _
  have K1 : Blk W (b + 1) 34 #[.nilIface] := by
    rw [hW, hb]
    have := Blk.new (w.alloc (.cells #[.slice none 0 0] 66)) 34 #[.nilIface]
    rw [World.size_alloc] at this
    exact (((this.alloc _).alloc _).alloc _).alloc _
  have K2 : Blk W (b + 2) 66 #[.slice none 0 0] := by
    rw [hW, hb]
    have := Blk.new ((w.alloc (.cells #[.slice none 0 0] 66)).alloc (.cells #[.nilIface] 34)) 66 #[.slice none 0 0]
    simp only [World.size_alloc] at this
    exact ((this.alloc _).alloc _).alloc _
  have K3 : Blk W (b + 3) 9 #[.string (B8 s)] := by
    rw [hW, hb]
    have := Blk.new (((w.alloc (.cells #[.slice none 0 0] 66)).alloc (.cells #[.nilIface] 34)).alloc (.cells #[.slice none 0 0] 66)) 9 #[.string (B8 s)]
    simp only [World.size_alloc] at this
    exact (this.alloc _).alloc _
  have K4 : Blk W (b + 4) 9 #[.string ⟨#[44]⟩] := by
    rw [hW, hb]
    have := Blk.new ((((w.alloc (.cells #[.slice none 0 0] 66)).alloc (.cells #[.nilIface] 34)).alloc (.cells #[.slice none 0 0] 66)).alloc (.cells #[.string (B8 s)] 9)) 9 #[.string ⟨#[44]⟩]
    simp only [World.size_alloc] at this
    exact this.alloc _
  have K5 : Blk W (b + 5) 3 #[.int .i64 0] := by
    rw [hW, hb]
    have := Blk.new (((((w.alloc (.cells #[.slice none 0 0] 66)).alloc (.cells #[.nilIface] 34)).alloc (.cells #[.slice none 0 0] 66)).alloc (.cells #[.string (B8 s)] 9)).alloc (.cells #[.string ⟨#[44]⟩] 9)) 3 #[.int .i64 0]
    simp only [World.size_alloc] at this
    exact this
  have hbl : Below b w W := by rw [hW, hb]; go_grown
  have hfun : ((((w.alloc (.cells #[.slice none 0 0] 66)).alloc (.cells #[.nilIface] 34)).alloc (.cells #[.slice none 0 0] 66)).heap.size) = b + 3 := by rw [hb]; simp
  rw [hfun]
  clear hW hfun
  have KK0 := Lib.hid K0; have KK1 := Lib.hid K1; have KK2 := Lib.hid K2; have KK3 := Lib.hid K3; have KK4 := Lib.hid K4; have KK5 := Lib.hid K5
  have HBl := Lib.hid hbl; have Hsz := Lib.hid hsz; have Hb := Lib.hid hb; have HS := Lib.hid hS
  rw [← hb, show b + 1 + 1 = b + 2 from rfl]
  clear K0 K1 K2 K3 K4 K5 hbl hsz hb hS
  gi_wp2
  refine wp_split (b + 3) s (by omega) (by rw [Hsz.out]; omega) rfl rfl KK3.out KK4.out KK5.out (RInv b w) (RBad es b w) ?hI ?hIx ?h0
    (fun x => { tmps := #[.string (B8 s), undef, .pointer (some ⟨b, 0, none⟩), .pointer (some ⟨b + 1, 0, none⟩), .pointer (some ⟨b + 2, 0, none⟩), .string (B8 x), undef, undef, undef, undef, .string (B8 s),
      .func (.func 153) #[] #[.pointer (some ⟨b + 3 + 1, 0, none⟩), .pointer (some ⟨b + 3, 0, none⟩), .pointer (some ⟨b + 3 + 2, 0, none⟩)], .string (B8 x), undef, undef, undef, undef, undef, undef, undef, undef, undef, undef, undef, undef, undef, undef, undef, undef, undef, undef, undef, undef, undef], defers := [] }) ?assign ?body ?done ?stop
  case hI => exact fun p X Y h hf => h.fr (Nat.le_of_eq Hb.out) (hf.mono fun k _ h => by have := Hsz.out; omega)
  case hIx => exact fun p X Y h hf => h.fr (Nat.le_of_eq Hb.out) (hf.mono fun k _ h => by have := Hsz.out; omega)
  case h0 =>
    intro Y hY _
    have hsz := Hsz.out
    exact ⟨.slice none 0 0, [], rfl, KK0.out.below hY (by omega), KK1.out.below hY (by omega), KK2.out.below hY (by omega), World.ownsRow_nil _ _ _ _, HBl.out.trans (hY.mono (by omega))⟩
  case assign =>
    intro x X K hK
    gi_wp2
    exact hK
  case body =>
    rintro pre x X ⟨v, l, hl, q0, q1, q2, ho, hbX⟩ hszX hpre
    have hsz := Hsz.out
    have HbX := Lib.hid hbX; have Q0 := Lib.hid q0; have Q1 := Lib.hid q1; have Q2 := Lib.hid q2; have Ho := Lib.hid ho; have Hl := Lib.hid hl; have Hpre := Lib.hid hpre
    clear hbX q0 q1 q2 ho hl hpre
    cases hc : cutE x with
    | none =>
      gi_wp2_with fail
      refine ⟨trivial, (CallsIn.inRound _ (callsIn_wide.2 (cut_none x hc _))).mono ?_⟩
      rintro e X1 ⟨rfl, hbb⟩
      have HB1 := Lib.hid (show Below b w X1 from HbX.out.trans (hbb.mono (by rw [Hb.out]; exact (by have := HbX.out.size; omega))))
      have hsx := HbX.out.size
      have hX1 := hbb.size
      have P0 := Lib.hid (Q0.out.below hbb Q0.out.lt); have P1 := Lib.hid (Q1.out.below hbb Q1.out.lt)
      have hS1 := HS.out.below (HB1.out.mono (B := b) (Nat.le_refl _)) (by rw [Hb.out]; exact hB0)
      have gx : X1.cell? ⟨2, 0, none⟩ = some (sentV (es 0)) := hS1.var 0 (by decide)
      have hgl := hS1.glt 0 (by decide)
      have hgb : 2 ≠ b := by rw [Hb.out]; exact Nat.ne_of_lt (Nat.lt_of_lt_of_le hgl hB0)
      have gx2 : (X1.setCell ⟨b, 0, none⟩ (.slice none 0 0)).cell? ⟨2, 0, none⟩ = some (sentV (es 0)) := (World.cell?_setCell_other _ _ _ _ (fun e => hgb (by injection e with e1; exact e1.symm))).trans gx
      have y0 : X1.cell? ⟨b, 0, none⟩ = some (.slice none 0 0) := P0.out.cell 0
      have y1 : X1.cell? ⟨b + 1, 0, none⟩ = some .nilIface := P1.out.cell 0
      have f0 := P0.out.frozen 0
      have f1 := P1.out.frozen 0
      have hmx : Tryz.prog.follows .mixedOrders = true := by kernel_rfl
      have Hfin := Lib.hid (rbad_done (es := es) (b := b) (w := w) (X := X) (X1 := X1) (p := pre ++ [x]) (by rw [mapM_app, Hl.out, mapM_one, hc]; rfl) hbb P0.out P1.out HB1.out (by omega))
      clear hbb hgl hS1
      gi_wp2
      gi_region_with_o (fail)
      all_goals gi_wp2
      all_goals exact Hfin.out
    | some q =>
      obtain ⟨A1, c1, rfl, _, _, _⟩ := own_form Ho.out
      have hlx : x.length ≤ s.length ∧ l.length ≤ s.length + 1 := by
        obtain ⟨r, hr⟩ := Hpre.out
        have hj := split_len s
        rw [← hr] at hj
        have e1 := hj.2 x (by simp)
        have e2 : pre.length ≤ s.length + 1 := by have := hj.1; simp at this; omega
        have e3 : pre.length = l.length := by rw [mapM_cut Hl.out, List.length_map]
        exact ⟨e1, by omega⟩
      obtain ⟨i0, hi, hz0, hz1, hz2⟩ := info_parts infoLb
      have Hi := Lib.hid hi; have Hz0 := Lib.hid hz0; have Hz1 := Lib.hid hz1; have Hz2 := Lib.hid hz2
      have hk63 : l.length + 1 ≤ maxLen := by unfold maxLen; omega
      have hk8 : (l.length + 1) * 32 ≤ 140737488355328 := by omega
      clear hi hz0 hz1 hz2
      gi_wp2_with fail
      refine ⟨trivial, (CallsIn.inRound _ (callsIn_wide.2 (cut_some x q hc (by omega) _))).mono ?_⟩
      rintro e X1 ⟨rfl, hbb⟩
      have HB1 := Lib.hid (show Below b w X1 from HbX.out.trans (hbb.mono (by rw [Hb.out]; exact (by have := HbX.out.size; omega))))
      have hX1 := hbb.size
      have P0 := Lib.hid (Q0.out.below hbb Q0.out.lt); have P1 := Lib.hid (Q1.out.below hbb Q1.out.lt); have P2 := Lib.hid (Q2.out.below hbb Q2.out.lt)
      have Ho1 := Lib.hid (own_below Ho.out hbb (Nat.le_refl _))
      have y2 : X1.cell? ⟨b + 2, 0, none⟩ = some (.slice A1 l.length c1) := P2.out.cell 0
      have Hbb := Lib.hid hbb
      have y2' : (X1.alloc (.cells #[.string (B8 q.1), .string (B8 q.2)] 91)).cell? ⟨b + 2, 0, none⟩ = some (.slice A1 l.length c1) := (P2.out.alloc _).cell 0
      have Hp' := Lib.hid (show (pre ++ [x]).mapM cutE = some (l ++ [q]) from by rw [mapM_app, Hl.out, mapM_one, hc]; rfl)
      have hb8 : b + 8 ≤ (X1.alloc (.cells #[.string (B8 q.1), .string (B8 q.2)] 91)).heap.size := by simp; omega
      have Hb8 := Lib.hid hb8
      clear hbb hb8
      gi_wp2_with (gi_at_builtin; refine wpListIn_append_own _ rfl (.tmp 22) (.tmp 26) _ rfl (b + 8) 91 i0 (.agg #[.string ⟨#[]⟩, .string ⟨#[]⟩]) 2 32 Tryz.underlying66 Hi.out Hz0.out Hz1.out Hz2.out rfl (by decide) (.slice A1 l.length c1) l.length (lbC l) rfl (Ho1.out.alloc _) ⟨X1.heap.size, 0, none⟩ 1 1 [.string (B8 q.1), .string (B8 q.2)] rfl rfl (new2 _ _ _ _) (lb_one2 q) hk63 hk8 Hb8.out ?_; intro v' Z hown' hgr _; have Hfin := Lib.hid (rinv_done Hp'.out Hbb.out P0.out P1.out P2.out Ho1.out HB1.out (by omega) hown' hgr); obtain ⟨A2, c2, rfl, _, _, _⟩ := own_form hown'; have z2 := Hfin.out.1.cell 0; have f2 := Hfin.out.1.frozen 0; simp only [List.getElem?_toArray, List.getElem?_cons_zero] at z2; clear hown' hgr)
      exact Hfin.out.2
  case done =>
    rintro X ⟨v, l, hl, q0, q1, q2, ho, hbX⟩ hD
    have hsz := Hsz.out
    obtain ⟨A1, c1, rfl, _, _, hrd⟩ := own_form ho
    have hwX : w.heap.size ≤ X.heap.size := hbX.size
    have Hpl := Lib.hid (show parseL s = some l from hl)
    have h1 : 1 ≤ l.length := by
      have e := congrArg List.length (mapM_cut hl)
      rw [List.length_map] at e
      have := splitC_ne 44 s
      rcases Nat.eq_zero_or_pos l.length with h | h
      · exact absurd (List.length_eq_zero_iff.1 (e.trans h)) this
      · exact h
    have HbX := Lib.hid (show Below w.heap.size w X by rw [← Hb.out]; exact hbX)
    have Q0 := Lib.hid q0; have Q1 := Lib.hid q1; have Q2 := Lib.hid q2; have Ho := Lib.hid ho; have HR := Lib.hid hrd; have HD := Lib.hid hD
    have HSX := Lib.hid (HS.out.below HbX.out hB0)
    have x2 : X.cell? ⟨b + 2, 0, none⟩ = some (.slice A1 l.length c1) := q2.cell 0
    have hDl : b + 6 < X.heap.size := by have := (Array.getElem?_eq_some_iff.1 hD).1; omega
    have hl3 : b + 2 < X.heap.size := q2.lt
    rw [hsz] at hD
    have HD6 := Lib.hid hD
    clear hl q0 q1 q2 ho hrd hD hbX HD
    by_cases h6 : 6 < l.length
    · gi_wp2_with fail
      refine ⟨trivial, (callsIn_wide.2 (lcheck_long A1 l.length c1 _ HSX.out h6)).mono ?_⟩
      rintro e X' ⟨rfl, rfl⟩
      have y0 : X.cell? ⟨b, 0, none⟩ = some (.slice none 0 0) := Q0.out.cell 0
      have y1 : X.cell? ⟨b + 1, 0, none⟩ = some .nilIface := Q1.out.cell 0
      have f0 := Q0.out.frozen 0; have f1 := Q1.out.frozen 0
      gi_wp2
      obtain ⟨d1, d2, d3, d4⟩ := fin_set Q0.out Q1.out HD6.out (.slice none 0 0) (sentV (es 1))
      refine ⟨by simp, .inl ⟨_, _, rfl, run_takeDeferred d1, ?_⟩⟩
      refine ⟨_, res_rd _ _ b _ _ rfl rfl d2 d3 rfl rfl, fun h => ?_, fun l' hl' _ => rfl, fun l' i hl' h => ?_, fun l' hl' h => ?_, Fr.toBelow HbX.out (Nat.le_refl _) d4 (fun k hk => by have := Hb.out; omega)⟩
      · rw [Hpl.out] at h; cases h
      · rw [Hpl.out] at hl'; injection hl' with hl'; subst hl'; omega
      · rw [Hpl.out] at hl'; injection hl' with hl'; subst hl'; omega
    obtain ⟨i, hi1, hi2, hi3⟩ := first_lb l l.length
    have Hi2 := Lib.hid hi2; have Hi3 := Lib.hid hi3
    gi_wp2_with fail
    refine ⟨trivial, (callsIn_wide.2 (lcheck_any A1 l.length c1 l i _ HSX.out (Nat.le_trans hB0 hwX) HR.out h1 (by omega) hi1 Hi2.out Hi3.out)).mono ?_⟩
    rintro e X' ⟨hgood, hbad, hbb⟩
    have P0 := Lib.hid (Q0.out.below hbb Q0.out.lt); have P1 := Lib.hid (Q1.out.below hbb Q1.out.lt); have P2 := Lib.hid (Q2.out.below hbb Q2.out.lt)
    have PD := Lib.hid ((hbb.block _ hDl).trans HD6.out)
    have Po := Lib.hid (own_below Ho.out hbb (Nat.le_refl _))
    have HbX' := Lib.hid (Below.call HbX.out hbb hwX)
    have y0 : X'.cell? ⟨b, 0, none⟩ = some (.slice none 0 0) := P0.out.cell 0
    have y1 : X'.cell? ⟨b + 1, 0, none⟩ = some .nilIface := P1.out.cell 0
    have y2 : X'.cell? ⟨b + 2, 0, none⟩ = some (.slice A1 l.length c1) := P2.out.cell 0
    have y2' : (X'.setCell ⟨b, 0, none⟩ (.slice A1 l.length c1)).cell? ⟨b + 2, 0, none⟩ = some (.slice A1 l.length c1) := (P2.out.far (p := ⟨b, 0, none⟩) (by simp) _).cell 0
    have f0 := P0.out.frozen 0; have f1 := P1.out.frozen 0
    have hXX := hbb.size
    clear hbb
    by_cases hin : i < l.length
    · obtain ⟨pb, rfl, hpb, hpl, hp0, hp1⟩ := hbad hin
      have Hp0 := Lib.hid hp0; have Hp1 := Lib.hid hp1
      clear hgood hbad hp0 hp1
      gi_wp2
      obtain ⟨d1, d2, d3, d4⟩ := fin_set P0.out P1.out PD.out (.slice none 0 0) (faultV ⟨pb, 0, none⟩)
      refine ⟨by simp, .inl ⟨_, _, rfl, run_takeDeferred d1, ?_⟩⟩
      refine ⟨_, res_rd _ _ b _ _ rfl rfl d2 d3 rfl rfl, fun h => ?_, fun l' hl' h => ?_, fun l' i' hl' _ hi' hok' hbd' => ?_, fun l' hl' _ hok' => ?_, Fr.toBelow HbX'.out (Nat.le_refl _) d4 (fun k hk => by have := Hb.out; omega)⟩
      · rw [Hpl.out] at h; cases h
      · rw [Hpl.out] at hl'; injection hl' with hl'; subst hl'; omega
      · rw [Hpl.out] at hl'; injection hl' with hl'; subst hl'
        obtain rfl : i' = i := by
          rcases Nat.lt_trichotomy i' i with h | h | h
          · exact absurd (Hi2.out i' h) hbd'
          · exact h
          · exact absurd (hok' i h) (Hi3.out hin)
        have hq := d4.block pb hpl (by omega)
        exact ⟨pb, rfl, by omega, Nat.lt_of_lt_of_le hpl d4.size, (cell_of_block (a := ⟨pb, 0, none⟩) hq).trans Hp0.out, (cell_of_block (a := ⟨pb, 1, none⟩) hq).trans Hp1.out⟩
      · rw [Hpl.out] at hl'; injection hl' with hl'; subst hl'
        exact absurd (hok' i hin) (Hi3.out hin)
    · obtain rfl : i = l.length := by omega
      obtain rfl := hgood rfl
      clear hgood hbad
      gi_wp2
      obtain ⟨d1, d2, d3, d4⟩ := fin_set P0.out P1.out PD.out (.slice A1 l.length c1) .nilIface
      refine ⟨by simp, .inl ⟨_, _, rfl, run_takeDeferred d1, ?_⟩⟩
      refine ⟨_, res_rd _ _ b _ _ rfl rfl d2 d3 rfl rfl, fun h => ?_, fun l' hl' h => ?_, fun l' i' hl' _ hi' hok' hbd' => ?_, fun l' hl' _ hok' => ?_, Fr.toBelow HbX'.out (Nat.le_refl _) d4 (fun k hk => by have := Hb.out; omega)⟩
      · rw [Hpl.out] at h; cases h
      · rw [Hpl.out] at hl'; injection hl' with hl'; subst hl'; omega
      · rw [Hpl.out] at hl'; injection hl' with hl'; subst hl'
        exact absurd (Hi2.out i' hi') hbd'
      · rw [Hpl.out] at hl'; injection hl' with hl'; subst hl'
        refine ⟨_, rfl, own_base (d4.own Po.out (fun k hk => ?_)) (by have := Hb.out; omega)⟩
        have := (own_lt Po.out k hk).1
        omega
  case stop =>
    rintro pre X hpre ⟨hp, q0, q1, hbX⟩ hD
    have hsz := Hsz.out
    have hpn : parseL s = none := by
      obtain ⟨t, ht⟩ := hpre
      unfold parseL
      rw [← ht, mapM_app, hp]; rfl
    have HbX := Lib.hid (show Below w.heap.size w X by rw [← Hb.out]; exact hbX)
    gi_wp2
    refine ⟨by simp, .inl ⟨_, _, rfl, run_takeDeferred hD, ?_⟩⟩
    refine ⟨_, res_rd _ _ b _ _ rfl rfl (q0.putObj_ (by omega) _) (q1.putObj_ (by omega) _) rfl rfl, fun _ => rfl, fun l hl => ?_, fun l i hl => ?_, fun l hl => ?_, Below.putObj_ HbX.out (by rw [← Hb.out]; omega) _⟩
    · rw [hpn] at hl; cases hl
    · rw [hpn] at hl; cases hl
    · rw [hpn] at hl; cases hl
end Go.Proofs.YtpbgonpmpjpljaaGreatDoor

namespace Go.Proofs.YtpbgonpmpjpljaaGreatDoor
open Go.RowKit
set_option linter.unusedVariables false

/-- The first label that is not well. -/
def badL (l : List Lb) : Option Nat := (List.range l.length).find? fun i => decide (¬ lbOk l i)
theorem badL_some {l : List Lb} {i : Nat} (h : badL l = some i) : i < l.length ∧ (∀ j, j < i → lbOk l j) ∧ ¬ lbOk l i := by
  unfold badL at h
  rw [List.find?_range_eq_some] at h
  obtain ⟨h1, h2, h3⟩ := h
  refine ⟨by simpa using h2, fun j hj => ?_, by simpa using h1⟩
  have := h3 j hj
  simpa using this
theorem badL_none {l : List Lb} (h : badL l = none) : ∀ j, j < l.length → lbOk l j := by
  unfold badL at h
  rw [List.find?_range_eq_none] at h
  intro j hj
  have := h j hj
  simpa using this
/-- What is wrong with labels: its number, and its place (0: nothing). -/
def lbF (l : List Lb) : Nat × Int := if l.length = 0 then (5, -1) else if 6 < l.length then (2, -1) else match badL l with
  | some i => (lbCode l i + 1, i)
  | none => (0, -1)
theorem lbF_cases (l : List Lb) : (l = [] ∧ lbF l = (5, -1)) ∨ (6 < l.length ∧ lbF l = (2, -1)) ∨ (∃ i, 1 ≤ l.length ∧ l.length ≤ 6 ∧ i < l.length ∧ (∀ j, j < i → lbOk l j) ∧ ¬ lbOk l i ∧ lbF l = (lbCode l i + 1, (i : Int))) ∨ (1 ≤ l.length ∧ l.length ≤ 6 ∧ (∀ j, j < l.length → lbOk l j) ∧ lbF l = (0, -1)) := by
  unfold lbF
  by_cases h0 : l.length = 0
  · exact .inl ⟨List.length_eq_zero_iff.1 h0, by rw [if_pos h0]⟩
  rw [if_neg h0]
  by_cases h6 : 6 < l.length
  · exact .inr (.inl ⟨h6, by rw [if_pos h6]⟩)
  rw [if_neg h6]
  cases h : badL l with
  | some i =>
    obtain ⟨g1, g2, g3⟩ := badL_some h
    exact .inr (.inr (.inl ⟨i, by omega, by omega, g1, g2, g3, rfl⟩))
  | none => exact .inr (.inr (.inr ⟨by omega, by omega, badL_none h, rfl⟩))
/-- Of a text. -/
def rdF (s : Bs) : Nat × Int := match parseL s with
  | none => (1, -1)
  | some l => lbF l
theorem rdF_none {s : Bs} (h : parseL s = none) : rdF s = (1, -1) := by unfold rdF; rw [h]
theorem rdF_some {s : Bs} {l : List Lb} (h : parseL s = some l) : rdF s = lbF l := by unfold rdF; rw [h]
theorem parse_ne {s : Bs} {l : List Lb} (h : parseL s = some l) : l ≠ [] := by
  rintro rfl
  have := mapM_cut h
  exact splitC_ne 44 s this
theorem lbCode_lt (l : List Lb) (i : Nat) : lbCode l i = 2 ∨ lbCode l i = 3 := by unfold lbCode; split <;> simp

/-- The error v says c: its number and place (0: none). -/
def EV (es : Nat → Addr) (B : Nat) (W : World) (v : Value) (c : Nat × Int) : Prop :=
  (c = (0, -1) ∧ v = .nilIface) ∨ (∃ k, k < 11 ∧ c = (k + 1, -1) ∧ v = sentV (es k)) ∨
  (∃ k pb t, k < 11 ∧ c = (k + 1, t) ∧ v = faultV ⟨pb, 0, none⟩ ∧ B ≤ pb ∧ pb < W.heap.size ∧ W.cell? ⟨pb, 0, none⟩ = some (.int .i64 t) ∧ W.cell? ⟨pb, 1, none⟩ = some (sentV (es k)))
theorem EV.is {es : Nat → Addr} {B C : Nat} {W : World} {v : Value} {c : Nat × Int} (h : EV es B W v c) (hS : Sents es C W) : ErrIs es W v (c.1 : Int) c.2 := by
  rcases h with ⟨rfl, rfl⟩ | ⟨k, hk, rfl, rfl⟩ | ⟨k, pb, t, hk, rfl, rfl, _, h1, h2, h3⟩
  · exact ErrIs.nil
  · have := ErrIs.sent hS hk
    simpa using this
  · have := ErrIs.fault hS hk h1 h2 h3
    simpa using this
theorem EV.below {es : Nat → Addr} {B C : Nat} {W W' : World} {v : Value} {c : Nat × Int} (h : EV es B W v c) (hb : Below C W W') (hC : W.heap.size ≤ C) : EV es B W' v c := by
  rcases h with h | h | ⟨k, pb, t, hk, h1, h2, h3, h4, h5, h6⟩
  · exact .inl h
  · exact .inr (.inl h)
  · exact .inr (.inr ⟨k, pb, t, hk, h1, h2, h3, Nat.lt_of_lt_of_le h4 hb.size, (hb.cell (p := ⟨pb, 0, none⟩) (Nat.lt_of_lt_of_le h4 hC)).trans h5, (hb.cell (p := ⟨pb, 1, none⟩) (Nat.lt_of_lt_of_le h4 hC)).trans h6⟩)
theorem EV.base {es : Nat → Addr} {B B' : Nat} {W : World} {v : Value} {c : Nat × Int} (h : EV es B W v c) (hB : B' ≤ B) : EV es B' W v c := by
  rcases h with h | h | ⟨k, pb, t, hk, h1, h2, h3, h4⟩
  · exact .inl h
  · exact .inr (.inl h)
  · exact .inr (.inr ⟨k, pb, t, hk, h1, h2, by omega, h4⟩)
theorem EV.zero {es : Nat → Addr} {B : Nat} {W : World} {v : Value} {c : Nat × Int} (h : EV es B W v c) (h0 : c.1 = 0) : v = .nilIface := by
  rcases h with h | ⟨k, _, rfl, _⟩ | ⟨k, pb, t, _, rfl, _⟩
  · exact h.2
  · simp at h0
  · simp at h0
theorem EV.pos {es : Nat → Addr} {B : Nat} {W : World} {v : Value} {c : Nat × Int} (h : EV es B W v c) (h0 : c.1 ≠ 0) : ∃ t p, v = .iface t p := by
  rcases h with ⟨rfl, _⟩ | ⟨k, _, _, rfl⟩ | ⟨k, pb, t, _, _, rfl, _⟩
  · exact absurd rfl h0
  · exact ⟨_, _, rfl⟩
  · exact ⟨_, _, rfl⟩

/-- label.Read: nil and what is wrong; or labels of its own. -/
theorem lread_u {es : Nat → Addr} {B : Nat} (s : Bs) (hs : s.length ≤ 100000) (w : World) (hS : SVL es B w) (hB0 : B ≤ w.heap.size) :
    Calls Tryz.prog 64 #[.string (B8 s)] w fun e w' => ∃ v u l, e = .returned (.tuple #[u, v]) ∧ EV es w.heap.size w' v (rdF s) ∧ w'.ownsRow w.heap.size 91 2 u l.length (lbC l) ∧ ((rdF s).1 = 0 → parseL s = some l) ∧ ((rdF s).1 ≠ 0 → l = []) ∧ Below w.heap.size w w' := by
  refine (lread_any s hs w hS hB0).mono ?_
  rintro e' w' ⟨g1, g2, g3, g4, hb⟩
  cases hp : parseL s with
  | none =>
    have e := rdF_none hp
    exact ⟨_, _, [], g1 hp, .inr (.inl ⟨0, by decide, e, rfl⟩), World.ownsRow_nil _ _ _ _, fun h => (by rw [e] at h; cases h), fun _ => rfl, hb⟩
  | some l =>
    have e := rdF_some hp
    rcases lbF_cases l with ⟨h, e2⟩ | ⟨h, e2⟩ | ⟨i, h1, h2, h3, h4, h5, e2⟩ | ⟨h1, h2, h3, e2⟩
    · exact absurd h (parse_ne hp)
    · rw [e2] at e
      exact ⟨_, _, [], g2 l hp h, .inr (.inl ⟨1, by decide, e, rfl⟩), World.ownsRow_nil _ _ _ _, fun h => (by rw [e] at h; cases h), fun _ => rfl, hb⟩
    · rw [e2] at e
      obtain ⟨pb, q, q1, q2, q3, q4⟩ := g3 l i hp h2 h3 h4 h5
      exact ⟨_, _, [], q, .inr (.inr ⟨lbCode l i, pb, i, by have := lbCode_lt l i; omega, e, rfl, q1, q2, q3, q4⟩), World.ownsRow_nil _ _ _ _, fun h => (by rw [e] at h; simp at h), fun _ => rfl, hb⟩
    · rw [e2] at e
      obtain ⟨v, q, q1⟩ := g4 l hp h2 h3
      exact ⟨_, v, l, q, .inl ⟨e, rfl⟩, q1, fun _ => rfl, fun h => absurd (by rw [e]) h, hb⟩
/-- A fault of the reference's, as a value. -/
def fV (c : Nat × Int) : Value := .agg #[.int .i64 (c.1 : Int), .int .i64 c.2]
theorem labelsFault_u (A : Option Addr) (n c : Nat) (l : List Lb) (w : World) (hA : Rd w w.heap.size 2 A n (lbC l)) (hlen : ∀ p ∈ l, p.1.length ≤ 100000 ∧ p.2.length ≤ 100000) :
    Calls Tryz.prog 42 #[.slice A n c] w fun e w' => e = .returned (fV (lbF l)) ∧ Below w.heap.size w w' := by
  have hln : l.length = n := by have := hA.1; rw [lbC_len] at this; omega
  rcases lbF_cases l with ⟨h, e⟩ | ⟨h, e⟩ | ⟨i, h1, h2, h3, h4, h5, e⟩ | ⟨h1, h2, h3, e⟩
  · subst h
    obtain rfl : n = 0 := by simpa using hln.symm
    refine (labelsFault_none A c w).mono ?_
    rintro e' w' ⟨rfl, hb⟩
    exact ⟨by rw [e]; rfl, hb⟩
  · refine (labelsFault_long A n c w (by omega)).mono ?_
    rintro e' w' ⟨rfl, hb⟩
    exact ⟨by rw [e]; rfl, hb⟩
  · refine (labelsFault_any A n c l i w hA (by omega) (by omega) (by omega) h4 (fun _ => h5) hlen).mono ?_
    rintro e' w' ⟨rfl, hb⟩
    exact ⟨by rw [e, lfV_bad n i _ _ (by omega) rfl]; rfl, hb⟩
  · refine (labelsFault_any A n c l n w hA (by omega) (by omega) (Nat.le_refl _) (by rw [← hln]; exact h3) (fun h => absurd h (Nat.lt_irrefl _)) hlen).mono ?_
    rintro e' w' ⟨rfl, hb⟩
    exact ⟨by rw [e, lfV_ok]; rfl, hb⟩
end Go.Proofs.YtpbgonpmpjpljaaGreatDoor

namespace Go.Proofs.YtpbgonpmpjpljaaGreatDoor
open Go.RowKit Go.Shelf
set_option linter.unusedVariables false

end Go.Proofs.YtpbgonpmpjpljaaGreatDoor
