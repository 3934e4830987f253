/- The reference's SumOf by its contract: of points whose number is at most 100000: the sum that refS gathers. -/
import Derived.Test.YtiohnehccmbplaaDoorSumsOf
namespace Go.Proofs.YtiohnehccmbplaaDoor
open Go.RowKit
set_option linter.unusedVariables false

def refAt (n : Nat) (ps : List (Int × Int)) (k : Nat) : Sm := refGo 0 ⟨n, 0, 0, 0, 0⟩ (bitsOf (ps.take k))
theorem refAt_c (n : Nat) (ps : List (Int × Int)) (k : Nat) : (refAt n ps k).c = n := refGo_c _ _ _
theorem refAt_next {n : Nat} {ps : List (Int × Int)} {k : Nat} {y : Int × Int} (h : ps[k]? = some y) : refAt n ps (k + 1) = refStep k (refAt n ps k) y.2 := by
  unfold refAt
  rw [bitsOf_take h, refGo_snoc]
  congr 1
  have hl : k < ps.length := (List.getElem?_eq_some_iff.1 h).1
  rw [bitsOf_len ps k (by omega)]; omega
/-- The five cells of a sum behind five stores. -/
theorem Blk.sums {w : World} {g : Nat} {t : TypeId} {s : Sm} (h : Blk w g t (smArr s)) :
    (w.cell? ⟨g, 0, none⟩ = some (.int .i64 s.c) ∧ w.cell? ⟨g, 1, none⟩ = some (.int .u64 s.lo) ∧ w.cell? ⟨g, 2, none⟩ = some (.int .u64 s.hi) ∧ w.cell? ⟨g, 3, none⟩ = some (.int .u64 s.la) ∧ w.cell? ⟨g, 4, none⟩ = some (.int .u64 s.to)) ∧
    (w.frozen? ⟨g, 0, none⟩ = false ∧ w.frozen? ⟨g, 1, none⟩ = false ∧ w.frozen? ⟨g, 2, none⟩ = false ∧ w.frozen? ⟨g, 3, none⟩ = false ∧ w.frozen? ⟨g, 4, none⟩ = false) :=
  ⟨⟨h.cell 0, h.cell 1, h.cell 2, h.cell 3, h.cell 4⟩, h.frozen 0, h.frozen 1, h.frozen 2, h.frozen 3, h.frozen 4⟩

set_option maxHeartbeats 1000000 in
theorem sumOf_any (A : Option Addr) (n c : Nat) (ps : List (Int × Int)) (w : World) (hA : Rd w w.heap.size 2 A n (ps.flatMap fun p => [.int .i64 p.1, .int .u64 p.2])) (hn : n ≤ 100000) (hps : ∀ p ∈ ps, Word p.2) :
    Calls Tryd.prog 27 #[.slice A n c] w fun e w' =>
      e = .returned (.agg #[.int .i64 (ofS (bitsOf ps)).c, .int .u64 (ofS (bitsOf ps)).lo, .int .u64 (ofS (bitsOf ps)).hi, .int .u64 (ofS (bitsOf ps)).la, .int .u64 (ofS (bitsOf ps)).to]) ∧ Below w.heap.size w w' := by
  have hlen : ps.length = n := by have := hA.1; rw [flat_len _ 2 (fun _ => rfl)] at this; omega
  have hfin : refAt n ps n = ofS (bitsOf ps) := by
    unfold refAt
    rw [List.take_of_length_le (by omega)]
    have h1 := ref_of (bitsOf ps) (by intro b hb; obtain ⟨p, hp, rfl⟩ := List.mem_map.1 hb; exact hps p hp)
    unfold refS at h1
    have h2 : (bitsOf ps).length = n := by simp [bitsOf, hlen]
    rw [h2] at h1
    exact h1
  have Hfin := Lib.hid hfin; clear hfin hps
  go_enter Tryd.func27, Tryd.ntmps27
  go_wp2
  go_loopw [4] (fun i wr => ∃ (k : Nat) (s : Sm), k ≤ n ∧ i = .int .i64 k ∧ s = refAt n ps k ∧ Blk wr (w.heap.size + 1) 48 (smArr s) ∧ Blk wr w.heap.size 48 (smArr Sm.zero) ∧ Below w.heap.size w wr) (fun i _ => n - (intOf i).toNat)
  case atStart =>
    refine ⟨0, ⟨n, 0, 0, 0, 0⟩, Nat.zero_le _, rfl, rfl, ?_, ?_, ?_⟩
    · have := Blk.new (w.alloc (.cells (smArr Sm.zero) 48)) 48 (smArr ⟨n, 0, 0, 0, 0⟩)
      rw [World.size_alloc] at this
      exact this
    · exact (Blk.new w _ _).alloc _
    · go_grown
  case round =>
    obtain ⟨k, s, hk, rfl, hs, hB1, hB0, hbel⟩ := hrel
    obtain ⟨⟨h0, h1, h2, h3, h4⟩, f0, f1, f2, f3, f4⟩ := hB1.sums
    have hz := hB1.lt
    have Hs := Lib.hid hs; clear hs
    by_cases hkn : k < n
    · obtain ⟨bb, off, y, rfl, had, hy, e0, e1⟩ := hA.at2 hkn
      have e1' := (hbel.cell (p := ⟨bb, off + k * 2 + 1, none⟩) had).trans e1
      have Hnext := Lib.hid (refAt_next (n := n) hy)
      have Hlen := Lib.hid hlen
      clear e0 e1 hA hlen
      have HB1 := Lib.hid hB1; have HB0 := Lib.hid hB0; have Hbel := Lib.hid hbel; have Hy := Lib.hid hy
      clear hB1 hB0 hbel hy
      have close : ∀ (lo hi to : Int), lo = (refStep k s y.2).lo → hi = (refStep k s y.2).hi → to = (s.to + y.2) % 18446744073709551616 → ∀ W : World,
          Blk W (w.heap.size + 1) 48 #[.int .i64 s.c, .int .u64 lo, .int .u64 hi, .int .u64 y.2, .int .u64 to] → Blk W w.heap.size 48 (smArr Sm.zero) → Below w.heap.size w W →
          ∃ (k1 : Nat) (s1 : Sm), k1 ≤ n ∧ Value.int .i64 ((k : Int) + 1) = .int .i64 k1 ∧ s1 = refAt n ps k1 ∧ Blk W (w.heap.size + 1) 48 (smArr s1) ∧ Blk W w.heap.size 48 (smArr Sm.zero) ∧ Below w.heap.size w W := by
        intro lo hi to h1 h2 h3 W hw1 hw2 hw3
        refine ⟨k + 1, refAt n ps (k + 1), by omega, by go_num, rfl, ?_, hw2, hw3⟩
        rw [Hnext.out, ← Hs.out]
        rw [h1, h2, h3] at hw1
        exact hw1
      have Hclose := Lib.hid close; clear close
      rcases Nat.eq_zero_or_pos k with hk0 | hk0
      · have b0 : ((k : Int) == 0) = true := by simp [hk0]
        have Hk0 := Lib.hid hk0; clear hk0
        by_cases hh : s.hi < y.2
        · go_wp2
          go_roundw
          case rel =>
            refine Hclose.out (y.2) (y.2) _ (by show y.2 = if k = 0 then y.2 else min s.lo y.2; rw [if_pos Hk0.out]) (by show y.2 = max s.hi y.2; omega) (IntKind.wrap_u64 _) _ ?_ ?_ ?_
            · exact (((((HB1.out).set_ 1 _).set_ 2 _).set_ 3 _).set_ 4 _)
            · refine (Blk.far (Blk.far (Blk.far (Blk.far ?_ (by simp) _) (by simp) _) (by simp) _) (by simp) _)
              exact HB0.out
            · refine (Below.setCell (Below.setCell (Below.setCell (Below.setCell ?_ (by simp) _) (by simp) _) (by simp) _) (by simp) _)
              exact Hbel.out
          case measure => simp [intOf]; omega
        · go_wp2
          go_roundw
          case rel =>
            refine Hclose.out (y.2) (s.hi) _ (by show y.2 = if k = 0 then y.2 else min s.lo y.2; rw [if_pos Hk0.out]) (by show s.hi = max s.hi y.2; omega) (IntKind.wrap_u64 _) _ ?_ ?_ ?_
            · exact ((((HB1.out).set_ 1 _).set_ 3 _).set_ 4 _)
            · refine (Blk.far (Blk.far (Blk.far ?_ (by simp) _) (by simp) _) (by simp) _)
              exact HB0.out
            · refine (Below.setCell (Below.setCell (Below.setCell ?_ (by simp) _) (by simp) _) (by simp) _)
              exact Hbel.out
          case measure => simp [intOf]; omega
      · have b0 : ((k : Int) == 0) = false := by rw [beq_eq_false_iff_ne]; omega
        have Hk0 := Lib.hid (Nat.ne_of_gt hk0); clear hk0
        by_cases hh : s.hi < y.2 <;> by_cases hl : y.2 < s.lo
        · go_wp2
          go_roundw
          case rel =>
            refine Hclose.out (y.2) (y.2) _ (by show y.2 = if k = 0 then y.2 else min s.lo y.2; rw [if_neg Hk0.out]; omega) (by show y.2 = max s.hi y.2; omega) (IntKind.wrap_u64 _) _ ?_ ?_ ?_
            · exact (((((HB1.out).set_ 1 _).set_ 2 _).set_ 3 _).set_ 4 _)
            · refine (Blk.far (Blk.far (Blk.far (Blk.far ?_ (by simp) _) (by simp) _) (by simp) _) (by simp) _)
              exact HB0.out
            · refine (Below.setCell (Below.setCell (Below.setCell (Below.setCell ?_ (by simp) _) (by simp) _) (by simp) _) (by simp) _)
              exact Hbel.out
          case measure => simp [intOf]; omega
        · go_wp2
          go_roundw
          case rel =>
            refine Hclose.out (s.lo) (y.2) _ (by show s.lo = if k = 0 then y.2 else min s.lo y.2; rw [if_neg Hk0.out]; omega) (by show y.2 = max s.hi y.2; omega) (IntKind.wrap_u64 _) _ ?_ ?_ ?_
            · exact ((((HB1.out).set_ 2 _).set_ 3 _).set_ 4 _)
            · refine (Blk.far (Blk.far (Blk.far ?_ (by simp) _) (by simp) _) (by simp) _)
              exact HB0.out
            · refine (Below.setCell (Below.setCell (Below.setCell ?_ (by simp) _) (by simp) _) (by simp) _)
              exact Hbel.out
          case measure => simp [intOf]; omega
        · go_wp2
          go_roundw
          case rel =>
            refine Hclose.out (y.2) (s.hi) _ (by show y.2 = if k = 0 then y.2 else min s.lo y.2; rw [if_neg Hk0.out]; omega) (by show s.hi = max s.hi y.2; omega) (IntKind.wrap_u64 _) _ ?_ ?_ ?_
            · exact ((((HB1.out).set_ 1 _).set_ 3 _).set_ 4 _)
            · refine (Blk.far (Blk.far (Blk.far ?_ (by simp) _) (by simp) _) (by simp) _)
              exact HB0.out
            · refine (Below.setCell (Below.setCell (Below.setCell ?_ (by simp) _) (by simp) _) (by simp) _)
              exact Hbel.out
          case measure => simp [intOf]; omega
        · go_wp2
          go_roundw
          case rel =>
            refine Hclose.out (s.lo) (s.hi) _ (by show s.lo = if k = 0 then y.2 else min s.lo y.2; rw [if_neg Hk0.out]; omega) (by show s.hi = max s.hi y.2; omega) (IntKind.wrap_u64 _) _ ?_ ?_ ?_
            · exact (((HB1.out).set_ 3 _).set_ 4 _)
            · refine (Blk.far (Blk.far ?_ (by simp) _) (by simp) _)
              exact HB0.out
            · refine (Below.setCell (Below.setCell ?_ (by simp) _) (by simp) _)
              exact Hbel.out
          case measure => simp [intOf]; omega
    · obtain rfl : k = n := by omega
      have HB1 := Lib.hid hB1; have Hbel := Lib.hid hbel; have HA := Lib.hid hA; have Hlen := Lib.hid hlen
      obtain ⟨⟨z0, z1, z2, z3, z4⟩, g0, g1, g2, g3, g4⟩ := hB0.sums
      simp only [Sm.zero] at z0 z1 z2 z3 z4
      clear hB1 hB0 hbel hA hlen
      go_wp2
      refine bodyPost_ret (v := .agg #[.int .i64 s.c, .int .u64 s.lo, .int .u64 s.hi, .int .u64 s.la, .int .u64 s.to]) (by simp [results, Tryd.results27, go_sem, z0, z1, z2, z3, z4]) rfl ?_
      refine ⟨?_, ?_⟩
      · have : s = ofS (bitsOf ps) := by rw [Hs.out, Hfin.out]
        rw [this]
      · exact ((((Hbel.out.setCell (by simp) _).setCell (by simp) _).setCell (by simp) _).setCell (by simp) _).setCell (by simp) _
end Go.Proofs.YtiohnehccmbplaaDoor
