/- label.Check and the reference's LabelsFault by contracts. -/
import Derived.Test.YtlpkmghhmpkddaaDoorWord
import Derived.Test.YtlpkmghhmpkddaaDoorCode
import Derived.Test.YtlpkmghhmpkddaaDoorPtsRef
namespace Go.Proofs.YtlpkmghhmpkddaaDoor
open Go.RowKit
set_option linter.unusedVariables false

/-- Labels as cells. -/
def lbC (l : List Lb) : List Value := l.flatMap fun p => [.string (B8 p.1), .string (B8 p.2)]
theorem lbC_len (l : List Lb) : (lbC l).length = l.length * 2 := flat_len (fun p : Lb => [Value.string (B8 p.1), Value.string (B8 p.2)]) 2 (fun _ => rfl) l
theorem getD_lb {l : List Lb} {i : Nat} {y : Lb} (h : l[i]? = some y) : lbAt l i = y := by unfold lbAt; rw [List.getD_eq_getElem?_getD, h]; rfl
/-- What Check answers, cc the number of what is wrong. -/
def LPost (es : Nat → Addr) (cc n i : Nat) (w : World) (e : Ending) (w' : World) : Prop :=
  (i = n → e = .returned .nilIface) ∧
  (i < n → ∃ pb, e = .returned (faultV ⟨pb, 0, none⟩) ∧ w.heap.size ≤ pb ∧ pb < w'.heap.size ∧ w'.cell? ⟨pb, 0, none⟩ = some (.int .i64 i) ∧ w'.cell? ⟨pb, 1, none⟩ = some (sentV (es cc))) ∧ Below w.heap.size w w'
theorem LPost.bad {es : Nat → Addr} {n i cc : Nat} {w wr : World} {e : Ending} {W : World} (hW : W = wr.alloc (.cells #[.int .i64 i, sentV (es cc)] 63)) (hin : i < n) (hb : Below w.heap.size w wr) (he : e = .returned (faultV ⟨wr.heap.size, 0, none⟩)) : LPost es cc n i w e W := by
  have hs := hb.size
  have HB := Blk.new wr 63 #[.int .i64 i, sentV (es cc)]
  rw [← hW] at HB
  have hb2 : Below w.heap.size w W := by rw [hW]; exact Below.alloc hb hs _
  exact ⟨fun h => absurd h (by omega), fun _ => ⟨wr.heap.size, he, by omega, HB.lt, HB.cell 0, HB.cell 1⟩, hb2⟩
theorem leS_B8 (a b : Bs) : (Op.bytesLess (B8 a).toList (B8 b).toList || (B8 a).toList == (B8 b).toList) = leS a b := by
  rw [B8_toList, B8_toList]; rfl
abbrev svlL : List Nat := [0, 1, 2, 3, 4, 6, 7]
/-- The sentinels of labels' and heads' own code. -/
structure SVL (es : Nat → Addr) (B : Nat) (w : World) : Prop where
  var : ∀ k, k ∈ svlL → w.cell? ⟨gErr k, 0, none⟩ = some (sentV (es k))
  glt : ∀ k, k ∈ svlL → gErr k < B
theorem svl_lt {k : Nat} (hk : k ∈ svlL) : k < 11 := by
  simp [svlL] at hk; omega
theorem SVL.below {es : Nat → Addr} {B C : Nat} {w w' : World} (h : SVL es B w) (hb : Below C w w') (hC : B ≤ C) : SVL es B w' :=
  ⟨fun k hk => (hb.cell (p := ⟨gErr k, 0, none⟩) (Nat.lt_of_lt_of_le (h.glt k hk) hC)).trans (h.var k hk), h.glt⟩
theorem Sents.vl {es : Nat → Addr} {B : Nat} {w : World} (h : Sents es B w) : SVL es B w := ⟨fun k hk => h.var k (svl_lt hk), fun k hk => h.glt k (svl_lt hk)⟩

set_option maxRecDepth 100000 in
theorem lcheck_none {es : Nat → Addr} {B : Nat} (A : Option Addr) (c : Nat) (w : World) (hS : SVL es B w) :
    Calls Tryd.prog 16 #[.slice A 0 c] w fun e w' => e = .returned (sentV (es 4)) ∧ w = w' := by
  have g1 : w.cell? ⟨1, 0, none⟩ = some (sentV (es 4)) := hS.var 4 (by decide)
  clear hS
  go_enter Tryd.func16, Tryd.ntmps16
  go_wp2
  go_ret
  exact ⟨rfl, rfl⟩
set_option maxRecDepth 100000 in
theorem lcheck_long {es : Nat → Addr} {B : Nat} (A : Option Addr) (n c : Nat) (w : World) (hS : SVL es B w) (hn : 6 < n) :
    Calls Tryd.prog 16 #[.slice A n c] w fun e w' => e = .returned (sentV (es 1)) ∧ w = w' := by
  have g1 : w.cell? ⟨0, 0, none⟩ = some (sentV (es 1)) := hS.var 1 (by decide)
  have hn' : (6 : Int) < n := by omega
  have hn0 : ((n : Int) == 0) = false := by rw [beq_eq_false_iff_ne]; omega
  clear hS
  go_enter Tryd.func16, Tryd.ntmps16
  go_wp2
  go_ret
  exact ⟨rfl, rfl⟩

set_option maxRecDepth 100000 in
set_option maxHeartbeats 4000000 in
theorem lcheck_any {es : Nat → Addr} {B : Nat} (A : Option Addr) (n c : Nat) (l : List Lb) (i : Nat) (w : World) (hS : SVL es B w) (hB0 : B ≤ w.heap.size) (hA : Rd w w.heap.size 2 A n (lbC l)) (h1 : 1 ≤ n) (hn : n ≤ 6) (hi : i ≤ n) (hok : ∀ j, j < i → lbOk l j) (hbad : i < n → ¬ lbOk l i) :
    Calls Tryd.prog 16 #[.slice A n c] w (LPost es (lbCode l i) n i w) := by
  have hn' : (n : Int) ≤ 6 := by omega
  have hn0 : ((n : Int) == 0) = false := by rw [beq_eq_false_iff_ne]; omega
  have HS := Lib.hid (fun W (hb : Below w.heap.size w W) => hS.below hb hB0)
  have HA := Lib.hid hA; have Hok := Lib.hid hok; have Hbad := Lib.hid hbad
  clear hS hA hok hbad
  go_enter Tryd.func16, Tryd.ntmps16
  go_wp2
  go_loopw [17] (fun iv wr => ∃ k : Nat, k ≤ i ∧ iv = .int .i64 k ∧ Below w.heap.size w wr) (fun iv _ => n - (intOf iv).toNat)
  case atStart => exact ⟨0, Nat.zero_le _, rfl, Below.refl _ _⟩
  case round =>
    obtain ⟨k, hk, rfl, hbel⟩ := hrel
    have Hbel := Lib.hid hbel
    have hwr : w.heap.size ≤ wr.heap.size := hbel.size
    clear hbel
    by_cases hkn : k < n
    · obtain ⟨bb, off, y, hAe, had, hy, e0, e1⟩ := (HA.out.below Hbel.out).at2 hkn
      subst hAe
      have hg := getD_lb hy
      have HY := Lib.hid hg
      have HB2 := Lib.hid (Below.alloc Hbel.out hwr (.cells #[.string (B8 y.1), .string (B8 y.2)] 28))
      have HK2 := Lib.hid (Blk.new wr 28 #[.string (B8 y.1), .string (B8 y.2)])
      have Hn1 := Lib.hid (fun W => name_any y.1 W); have Hw1 := Lib.hid (fun W => word_any y.2 W)
      have hbb : bb < wr.heap.size := Nat.lt_of_lt_of_le had hwr
      obtain ⟨s1, hs1⟩ : ∃ s1, s1 = B8 y.1 := ⟨_, rfl⟩
      obtain ⟨s2, hs2⟩ : ∃ s2, s2 = B8 y.2 := ⟨_, rfl⟩
      rw [← hs1] at e0; rw [← hs2] at e1
      rw [← hs1, ← hs2] at HB2 HK2
      rw [← hs1] at Hn1; rw [← hs2] at Hw1
      have Hs1 := Lib.hid hs1
      clear hs1 hs2 hg hy
      cases hnm : nameB y.1 with
      | false =>
        have hki : k = i := by
          rcases Nat.lt_or_ge k i with h | h
          · have := (Hok.out k h).1
            rw [HY.out, hnm] at this
            cases this
          · omega
        subst hki
        have Hcode := Lib.hid (show lbCode l k = 3 from by unfold lbCode; rw [HY.out, hnm]; simp)
        rw [hnm] at Hn1
        clear hnm
        go_wp2_with fail
        refine (Hn1.out _).mono ?_
        rintro e w1 ⟨rfl, hb⟩
        have HB3 := Lib.hid (Below.call HB2.out hb (by simp; omega))
        have g3 : w1.cell? ⟨2, 0, none⟩ = some (sentV (es 3)) := (HS.out _ HB3.out).var 3 (by decide)
        clear hb
        go_wp2
        go_ret
        exact LPost.bad (by rw [Hcode.out]) hkn HB3.out rfl
      | true =>
        rw [hnm] at Hn1
        have Hnm := Lib.hid hnm
        clear hnm
        go_wp2_with fail
        refine (Hn1.out _).mono ?_
        rintro e w1 ⟨rfl, hb⟩
        have HB3 := Lib.hid (Below.call HB2.out hb (by simp; omega))
        have HK3 := Lib.hid (HK2.out.below hb (by simp))
        have hz1 : wr.heap.size < w1.heap.size := HK3.out.lt
        have k1 : w1.cell? ⟨wr.heap.size, 1, none⟩ = some (.string s2) := HK3.out.cell 1
        clear hb
        cases hwd : wordB y.2 with
        | false =>
          have hki : k = i := by
            rcases Nat.lt_or_ge k i with h | h
            · have := (Hok.out k h).2.1
              rw [HY.out, hwd] at this
              cases this
            · omega
          subst hki
          have Hcode := Lib.hid (show lbCode l k = 3 from by unfold lbCode; rw [HY.out, hwd]; simp)
          rw [hwd] at Hw1
          clear hwd
          go_wp2_with fail
          refine (Hw1.out _).mono ?_
          rintro e w2 ⟨rfl, hb⟩
          have HB4 := Lib.hid (Below.call HB3.out hb (by omega))
          have g3 : w2.cell? ⟨2, 0, none⟩ = some (sentV (es 3)) := (HS.out _ HB4.out).var 3 (by decide)
          clear hb
          go_wp2
          go_ret
          exact LPost.bad (by rw [Hcode.out]) hkn HB4.out rfl
        | true =>
          rw [hwd] at Hw1
          have Hwd := Lib.hid hwd
          clear hwd
          go_wp2_with fail
          refine (Hw1.out _).mono ?_
          rintro e w2 ⟨rfl, hb⟩
          have HB4 := Lib.hid (Below.call HB3.out hb (by omega))
          have HK4 := Lib.hid (HK3.out.below hb HK3.out.lt)
          have k0 : w2.cell? ⟨wr.heap.size, 0, none⟩ = some (.string s1) := HK4.out.cell 0
          have g2 : w2.cell? ⟨3, 0, none⟩ = some (sentV (es 2)) := (HS.out _ HB4.out).var 2 (by decide)
          clear hb k1 hz1
          by_cases hk0 : k = 0
          · subst hk0
            have hki : 0 < i := by
              rcases Nat.eq_zero_or_pos i with h | h
              · subst h
                exact absurd (show lbOk l 0 from ⟨by rw [HY.out]; exact Hnm.out, by rw [HY.out]; exact Hwd.out, fun h => absurd h (Nat.lt_irrefl _)⟩) (Hbad.out hkn)
              · exact h
            clear e0 e1
            go_wp2
            go_quiet (fail)
            go_wp2
            go_roundw
            case rel => exact ⟨0 + 1, by omega, by go_num, Below.drewN HB4.out _⟩
            case measure => simp [intOf]; omega
          · obtain ⟨bb2, off2, z, hA2, had2, hz, e2, _⟩ := (HA.out.below HB4.out).at2 (k := k - 1) (by omega)
            injection hA2 with hA2
            injection hA2 with hA3 hA4
            subst hA3; subst hA4
            have hgz := getD_lb hz
            have n1 : IntKind.i64.wrap ((k : Int) - 1) = ((k - 1 : Nat) : Int) := by rw [IntKind.wrap_i64]; omega
            have c0 : (0 : Int) < (k : Int) := by omega
            have hdk : decide (0 < k) = true := decide_eq_true (by omega)
            have hkl : ((k - 1 : Nat) : Int) < (n : Int) := by omega
            have hle := leS_B8 y.1 z.1
            rw [← Hs1.out] at hle
            generalize B8 z.1 = s3 at hle e2
            cases hv : leS y.1 z.1 with
            | false =>
              rw [hv] at hle
              have hki : k < i := by
                rcases Nat.lt_or_ge k i with h | h
                · exact h
                · obtain rfl : k = i := by omega
                  exact absurd (show lbOk l k from ⟨by rw [HY.out]; exact Hnm.out, by rw [HY.out]; exact Hwd.out, fun _ => by rw [HY.out, hgz]; exact hv⟩) (Hbad.out hkn)
              clear hgz hz hv e0 e1
              go_wp2
              go_quiet (fail)
              go_wp2
              go_roundw
              case rel => exact ⟨k + 1, by omega, by go_num, Below.drewN HB4.out _⟩
              case measure => simp [intOf]; omega
            | true =>
              rw [hv] at hle
              have hki : k = i := by
                rcases Nat.lt_or_ge k i with h | h
                · have := (Hok.out k h).2.2 (by omega)
                  rw [HY.out, hgz, hv] at this
                  cases this
                · omega
              subst hki
              have Hcode := Lib.hid (show lbCode l k = 2 from by unfold lbCode; rw [HY.out, Hnm.out, Hwd.out]; simp)
              clear hgz hz hv e0 e1
              go_wp2
              go_quiet (fail)
              go_wp2
              go_ret
              exact LPost.bad (by rw [Hcode.out]) hkn (Below.drewN HB4.out _) rfl
    · obtain rfl : k = n := by omega
      obtain rfl : i = k := by omega
      go_wp2
      go_ret
      exact ⟨fun _ => rfl, fun h => absurd h (Nat.lt_irrefl _), Hbel.out⟩

theorem res_lf (tmps : Array Value) (W : World) (b : Nat) (ty : TypeId) (v0 v1 : Value) (ha : tmps.getD 2 undef = .pointer (some ⟨b, 0, none⟩)) (hB : Blk W b ty #[v0, v1]) :
    (results Tryd.f7 tmps).run Tryd.prog W = .ok (.agg #[v0, v1]) W := by
  obtain ⟨z0, z1⟩ := hB.duo2
  simp only [Array.getD_eq_getD_getElem?] at ha
  simp [results, Tryd.results7, go_sem, ha, z0, z1]
set_option maxRecDepth 100000 in
theorem labelsFault_none (A : Option Addr) (c : Nat) (w : World) :
    Calls Tryd.prog 7 #[.slice A 0 c] w fun e w' => e = .returned (.agg #[.int .i64 5, .int .i64 (-1)]) ∧ Below w.heap.size w w' := by
  go_enter Tryd.func7, Tryd.ntmps7
  go_wp2
  (try simp only [Exit.inBlock, Exit.then])
  have HB3 := (Blk.new w 36 #[.int .i64 5, .int .i64 (-1)]).alloc (.cells #[.int .i64 5, .int .i64 (-1)] 36)
  refine bodyPost_ret (res_lf _ _ _ _ _ _ rfl HB3) rfl ?_
  exact ⟨rfl, by go_grown⟩
set_option maxRecDepth 100000 in
theorem labelsFault_long (A : Option Addr) (n c : Nat) (w : World) (hn : 6 < n) :
    Calls Tryd.prog 7 #[.slice A n c] w fun e w' => e = .returned (.agg #[.int .i64 2, .int .i64 (-1)]) ∧ Below w.heap.size w w' := by
  have hn' : (6 : Int) < n := by omega
  have hn0 : ((n : Int) == 0) = false := by rw [beq_eq_false_iff_ne]; omega
  go_enter Tryd.func7, Tryd.ntmps7
  go_wp2
  (try simp only [Exit.inBlock, Exit.then])
  have HB3 := (Blk.new w 36 #[.int .i64 2, .int .i64 (-1)]).alloc (.cells #[.int .i64 2, .int .i64 (-1)] 36)
  refine bodyPost_ret (res_lf _ _ _ _ _ _ rfl HB3) rfl ?_
  exact ⟨rfl, by go_grown⟩
/-- What LabelsFault answers of labels whose first wrong one is i (n: none), cc what is wrong. -/
def lfV (cc n i : Nat) : Value := if i = n then .agg #[.int .i64 0, .int .i64 (-1)] else .agg #[.int .i64 ((cc : Nat) + 1 : Int), .int .i64 i]
theorem lfV_ok (cc n : Nat) : lfV cc n n = .agg #[.int .i64 0, .int .i64 (-1)] := by unfold lfV; rw [if_pos rfl]
theorem lfV_bad (n i cc c : Nat) (h : i < n) (hc : cc = c) : lfV cc n i = .agg #[.int .i64 ((c : Int) + 1), .int .i64 i] := by unfold lfV; rw [if_neg (by omega), hc]

set_option maxRecDepth 100000 in
set_option maxHeartbeats 4000000 in
theorem labelsFault_any (A : Option Addr) (n c : Nat) (l : List Lb) (i : Nat) (w : World) (hA : Rd w w.heap.size 2 A n (lbC l)) (h1 : 1 ≤ n) (hn : n ≤ 6) (hi : i ≤ n) (hok : ∀ j, j < i → lbOk l j) (hbad : i < n → ¬ lbOk l i) (hlen : ∀ p ∈ l, p.1.length ≤ 100000 ∧ p.2.length ≤ 100000) :
    Calls Tryd.prog 7 #[.slice A n c] w fun e w' => e = .returned (lfV (lbCode l i) n i) ∧ Below w.heap.size w w' := by
  have hn' : (n : Int) ≤ 6 := by omega
  have hn0 : ((n : Int) == 0) = false := by rw [beq_eq_false_iff_ne]; omega
  have HA := Lib.hid hA; have Hok := Lib.hid hok; have Hbad := Lib.hid hbad; have Hlen := Lib.hid hlen
  clear hA hok hbad hlen
  go_enter Tryd.func7, Tryd.ntmps7
  go_wp2
  go_loopw [3] (fun iv wr => ∃ k : Nat, k ≤ i ∧ iv = .int .i64 k ∧ Blk wr w.heap.size 36 #[.int .i64 0, .int .i64 0] ∧ Below w.heap.size w wr) (fun iv _ => n - (intOf iv).toNat)
  case atStart => exact ⟨0, Nat.zero_le _, rfl, Blk.new w _ _, Below.alloc (Below.refl _ _) (Nat.le_refl _) _⟩
  case round =>
    obtain ⟨k, hk, rfl, hblk, hbel⟩ := hrel
    have Hbel := Lib.hid hbel; have Hblk := Lib.hid hblk
    have hwr : w.heap.size < wr.heap.size := hblk.lt
    clear hbel hblk
    obtain ⟨w0', w1'⟩ := Hblk.out.duo2
    have fz0 := Hblk.out.frozen 0; have fz1 := Hblk.out.frozen 1
    by_cases hkn : k < n
    · obtain ⟨bb, off, y, hAe, had, hy, e0, e1⟩ := (HA.out.below Hbel.out).at2 hkn
      subst hAe
      have hg := getD_lb hy
      have HY := Lib.hid hg
      obtain ⟨hl1, hl2⟩ := Hlen.out y (List.mem_of_getElem? hy)
      have Hn1 := Lib.hid (fun W => isName_any y.1 hl1 W); have Hw1 := Lib.hid (fun W => isWord_any y.2 hl2 W)
      obtain ⟨s1, hs1⟩ : ∃ s1, s1 = B8 y.1 := ⟨_, rfl⟩
      obtain ⟨s2, hs2⟩ : ∃ s2, s2 = B8 y.2 := ⟨_, rfl⟩
      rw [← hs1] at e0 Hn1; rw [← hs2] at e1 Hw1
      have Hs1 := Lib.hid hs1
      have E0 := Lib.hid e0; have E1 := Lib.hid e1
      clear hs1 hs2 hg hy hl1 hl2
      cases hnm : nameB y.1 with
      | false =>
        have hki : k = i := by
          rcases Nat.lt_or_ge k i with h | h
          · have := (Hok.out k h).1
            rw [HY.out, hnm] at this
            cases this
          · omega
        subst hki
        have Hpf := Lib.hid (lfV_bad n k (lbCode l k) 3 hkn (by unfold lbCode; rw [HY.out, hnm]; simp))
        rw [hnm] at Hn1
        clear hnm
        cases hwd : wordB y.2 with
        | false =>
          rw [hwd] at Hw1
          clear hwd
          go_wp2_with fail
          refine (Hn1.out _).mono ?_
          rintro e w' ⟨rfl, rfl⟩
          go_wp2_with fail
          refine (Hw1.out _).mono ?_
          rintro e w' ⟨rfl, rfl⟩
          go_wp2
          (try simp only [Exit.inBlock, Exit.then])
          refine bodyPost_ret (v := .agg #[.int .i64 4, .int .i64 k]) (by simp [results, Tryd.results7, go_sem, w0', w1']) rfl ?_
          exact ⟨by rw [Hpf.out]; rfl, ((Hbel.out.setCell (Nat.le_refl _) _).setCell (Nat.le_refl _) _)⟩
        | true =>
          rw [hwd] at Hw1
          clear hwd
          go_wp2_with fail
          refine (Hn1.out _).mono ?_
          rintro e w' ⟨rfl, rfl⟩
          go_wp2_with fail
          refine (Hw1.out _).mono ?_
          rintro e w' ⟨rfl, rfl⟩
          go_wp2
          (try simp only [Exit.inBlock, Exit.then])
          refine bodyPost_ret (v := .agg #[.int .i64 4, .int .i64 k]) (by simp [results, Tryd.results7, go_sem, w0', w1']) rfl ?_
          exact ⟨by rw [Hpf.out]; rfl, ((Hbel.out.setCell (Nat.le_refl _) _).setCell (Nat.le_refl _) _)⟩
      | true =>
        rw [hnm] at Hn1
        have Hnm := Lib.hid hnm
        clear hnm
        go_wp2_with fail
        refine (Hn1.out _).mono ?_
        rintro e w' ⟨rfl, rfl⟩
        cases hwd : wordB y.2 with
        | false =>
          have hki : k = i := by
            rcases Nat.lt_or_ge k i with h | h
            · have := (Hok.out k h).2.1
              rw [HY.out, hwd] at this
              cases this
            · omega
          subst hki
          have Hpf := Lib.hid (lfV_bad n k (lbCode l k) 3 hkn (by unfold lbCode; rw [HY.out, hwd]; simp))
          rw [hwd] at Hw1
          clear hwd
          go_wp2_with fail
          refine (Hw1.out _).mono ?_
          rintro e w' ⟨rfl, rfl⟩
          go_wp2
          (try simp only [Exit.inBlock, Exit.then])
          refine bodyPost_ret (v := .agg #[.int .i64 4, .int .i64 k]) (by simp [results, Tryd.results7, go_sem, w0', w1']) rfl ?_
          exact ⟨by rw [Hpf.out]; rfl, ((Hbel.out.setCell (Nat.le_refl _) _).setCell (Nat.le_refl _) _)⟩
        | true =>
          rw [hwd] at Hw1
          have Hwd := Lib.hid hwd
          clear hwd
          go_wp2_with fail
          refine (Hw1.out _).mono ?_
          rintro e w' ⟨rfl, rfl⟩
          by_cases hk0 : k = 0
          · subst hk0
            have hki : 0 < i := by
              rcases Nat.eq_zero_or_pos i with h | h
              · subst h
                exact absurd (show lbOk l 0 from ⟨by rw [HY.out]; exact Hnm.out, by rw [HY.out]; exact Hwd.out, fun h => absurd h (Nat.lt_irrefl _)⟩) (Hbad.out hkn)
              · exact h
            clear e0 e1
            go_wp2
            go_quiet (fail)
            go_wp2
            go_roundw
            case rel => exact ⟨0 + 1, by omega, by go_num, Hblk.out.drewN _, Below.drewN Hbel.out _⟩
            case measure => simp [intOf]; omega
          · obtain ⟨bb2, off2, z, hA2, had2, hz, e2, _⟩ := (HA.out.below Hbel.out).at2 (k := k - 1) (by omega)
            injection hA2 with hA2
            injection hA2 with hA3 hA4
            subst hA3; subst hA4
            have hgz := getD_lb hz
            have n1 : IntKind.i64.wrap ((k : Int) - 1) = ((k - 1 : Nat) : Int) := by rw [IntKind.wrap_i64]; omega
            have c0 : (0 : Int) < (k : Int) := by omega
            have hdk : decide (0 < k) = true := decide_eq_true (by omega)
            have hkl : ((k - 1 : Nat) : Int) < (n : Int) := by omega
            have hle := leS_B8 y.1 z.1
            rw [← Hs1.out] at hle
            generalize B8 z.1 = s3 at hle e2
            cases hv : leS y.1 z.1 with
            | false =>
              rw [hv] at hle
              have hki : k < i := by
                rcases Nat.lt_or_ge k i with h | h
                · exact h
                · obtain rfl : k = i := by omega
                  exact absurd (show lbOk l k from ⟨by rw [HY.out]; exact Hnm.out, by rw [HY.out]; exact Hwd.out, fun _ => by rw [HY.out, hgz]; exact hv⟩) (Hbad.out hkn)
              clear hgz hz hv e1
              go_wp2
              go_quiet (fail)
              go_wp2
              go_roundw
              case rel => exact ⟨k + 1, by omega, by go_num, Hblk.out.drewN _, Below.drewN Hbel.out _⟩
              case measure => simp [intOf]; omega
            | true =>
              rw [hv] at hle
              have hki : k = i := by
                rcases Nat.lt_or_ge k i with h | h
                · have := (Hok.out k h).2.2 (by omega)
                  rw [HY.out, hgz, hv] at this
                  cases this
                · omega
              subst hki
              have Hpf := Lib.hid (lfV_bad n k (lbCode l k) 2 hkn (by unfold lbCode; rw [HY.out, Hnm.out, Hwd.out]; simp))
              clear hgz hz hv e1
              go_wp2
              go_quiet (fail)
              go_wp2
              (try simp only [Exit.inBlock, Exit.then])
              refine bodyPost_ret (v := .agg #[.int .i64 3, .int .i64 k]) (by simp [results, Tryd.results7, go_sem, w0', w1']) rfl ?_
              exact ⟨by rw [Hpf.out]; rfl, (((Below.drewN Hbel.out _).setCell (Nat.le_refl _) _).setCell (Nat.le_refl _) _)⟩
    · obtain rfl : k = n := by omega
      obtain rfl : i = k := by omega
      have Hpf := Lib.hid (lfV_ok (lbCode l i) i)
      go_wp2
      (try simp only [Exit.inBlock, Exit.then])
      have HB3 := ((Hblk.out.set_ 0 (.int .i64 0)).set_ 1 (.int .i64 (-1))).alloc (.cells #[.int .i64 0, .int .i64 (-1)] 36)
      refine bodyPost_ret (res_lf _ _ _ _ _ _ rfl HB3) rfl ?_
      exact ⟨by rw [Hpf.out], Below.alloc ((Hbel.out.setCell (Nat.le_refl _) _).setCell (Nat.le_refl _) _) (by simp; omega) _⟩
end Go.Proofs.YtlpkmghhmpkddaaDoor
