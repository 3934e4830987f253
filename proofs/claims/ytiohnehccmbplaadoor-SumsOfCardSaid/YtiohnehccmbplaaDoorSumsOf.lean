/- sums.Of by its contract: of points whose number is at most a million: the sum that addS gathers. -/
import Derived.Test.YtiohnehccmbplaaDoorSums
namespace Go.Proofs.YtiohnehccmbplaaDoor
open Go.RowKit
set_option linter.unusedVariables false

def bitsOf (ps : List (Int × Int)) : List Int := ps.map (·.2)
theorem bitsOf_take {ps : List (Int × Int)} {k : Nat} {y : Int × Int} (h : ps[k]? = some y) : bitsOf (ps.take (k + 1)) = bitsOf (ps.take k) ++ [y.2] := by
  rw [take_snoc h]; simp [bitsOf]
theorem bitsOf_len (ps : List (Int × Int)) (k : Nat) (h : k ≤ ps.length) : (bitsOf (ps.take k)).length = k := by simp [bitsOf]; omega

def smArr (s : Sm) : Array Value := #[.int .i64 s.c, .int .u64 s.lo, .int .u64 s.hi, .int .u64 s.la, .int .u64 s.to]

set_option maxHeartbeats 400000 in
theorem of_any (A : Option Addr) (n c : Nat) (ps : List (Int × Int)) (w : World) (hA : Rd w w.heap.size 2 A n (ps.flatMap fun p => [.int .i64 p.1, .int .u64 p.2])) (hn : n ≤ 100000) :
    Calls Tryd.prog 24 #[.slice A n c] w fun e w' =>
      e = .returned (.agg #[.int .i64 (ofS (bitsOf ps)).c, .int .u64 (ofS (bitsOf ps)).lo, .int .u64 (ofS (bitsOf ps)).hi, .int .u64 (ofS (bitsOf ps)).la, .int .u64 (ofS (bitsOf ps)).to]) ∧ Below w.heap.size w w' := by
  have hlen : ps.length = n := by have := hA.1; rw [flat_len _ 2 (fun _ => rfl)] at this; omega
  go_enter Tryd.func24, Tryd.ntmps24
  go_wp2
  go_loopw [8] (fun i wr => ∃ (k : Nat) (s : Sm), k ≤ n ∧ i = .int .i64 k ∧ s = ofS (bitsOf (ps.take k)) ∧ Blk wr (w.heap.size + 1) 44 (smArr s) ∧ Blk wr w.heap.size 44 (smArr Sm.zero) ∧ Below w.heap.size w wr) (fun i _ => n - (intOf i).toNat)
  case atStart =>
    refine ⟨0, Sm.zero, Nat.zero_le _, rfl, rfl, ?_, ?_, ?_⟩
    · have := Blk.new (w.alloc (.cells (smArr Sm.zero) 44)) 44 (smArr Sm.zero)
      rw [World.size_alloc] at this
      exact this
    · exact (Blk.new w _ _).alloc _
    · go_grown
  case round =>
    obtain ⟨k, s, hk, rfl, hs, hB1, hB0, hbel⟩ := hrel
    have h0 := hB1.cell 0
    have h1 := hB1.cell 1
    have h2 := hB1.cell 2
    have h3 := hB1.cell 3
    have h4 := hB1.cell 4
    simp only [smArr] at h0 h1 h2 h3 h4
    simp only [List.getElem?_toArray, List.getElem?_cons_zero, List.getElem?_cons_succ] at h0 h1 h2 h3 h4
    have hz := hB1.lt
    have hsc : s.c = k := by rw [hs, ofS_c, bitsOf_len ps k (by omega)]
    have Hs := Lib.hid hs; clear hs
    by_cases hkn : k < n
    · obtain ⟨bb, off, y, rfl, had, hy, e0, e1⟩ := hA.at2 hkn
      have e0' := (hbel.cell (p := ⟨bb, off + k * 2, none⟩) had).trans e0
      have e1' := (hbel.cell (p := ⟨bb, off + k * 2 + 1, none⟩) had).trans e1
      have hbt := bitsOf_take hy
      have Hbt := Lib.hid hbt; clear hbt
      clear e0 e1 hA
      have hc0 : 0 ≤ s.c := by omega
      have hc1 : s.c ≤ 1000000 := by omega
      have HB1 := Lib.hid hB1; have HB0 := Lib.hid hB0; have Hbel := Lib.hid hbel; have Hy := Lib.hid hy; have Hsc := Lib.hid hsc
      clear hB1 hB0 hbel hy hsc
      go_wp2_with fail
      refine (add_any s (Sm.one y.2) _ hc0 hc1 (by simp [Sm.one]) (by simp [Sm.one])).mono ?_
      rintro e w1 ⟨rfl, hb⟩
      have hB1' := (HB1.out.alloc (.cells #[.int .i64 y.1, .int .u64 y.2] 102)).below hb (by simp; omega)
      have hB0' := (HB0.out.alloc (.cells #[.int .i64 y.1, .int .u64 y.2] 102)).below hb (by simp; omega)
      have g0 := hB1'.cell 0
      have g1 := hB1'.cell 1
      have g2 := hB1'.cell 2
      have g3 := hB1'.cell 3
      have g4 := hB1'.cell 4
      have f0 := hB1'.frozen 0
      have f1 := hB1'.frozen 1
      have f2 := hB1'.frozen 2
      have f3 := hB1'.frozen 3
      have f4 := hB1'.frozen 4
      simp only [smArr, List.getElem?_toArray, List.getElem?_cons_zero, List.getElem?_cons_succ] at g0 g1 g2 g3 g4
      have hb0 : Below w.heap.size w w1 := by
        refine Below.call (Below.alloc Hbel.out (by omega) _) hb (by simp; omega)
      have HB1' := Lib.hid hB1'; have HB0' := Lib.hid hB0'; have Hb0 := Lib.hid hb0; have Hb := Lib.hid hb
      clear hB1' hB0' hb0 hb h0 h1 h2 h3 h4
      go_wp2
      clear g0 g1 g2 g3 g4 f0 f1 f2 f3 f4
      go_roundw
      case rel =>
        refine ⟨k + 1, addS s (Sm.one y.2), by omega, by go_num, ?_, ?_, ?_, ?_⟩
        · rw [Hbt.out, ofS_snoc, ← Hs.out]
        · have := ((((HB1'.out.set_ 0 (.int .i64 (addS s (Sm.one y.2)).c)).set_ 1 (.int .u64 (addS s (Sm.one y.2)).lo)).set_ 2 (.int .u64 (addS s (Sm.one y.2)).hi)).set_ 3 (.int .u64 (addS s (Sm.one y.2)).la)).set_ 4 (.int .u64 (addS s (Sm.one y.2)).to)
          exact this
        · exact ((((HB0'.out.far (by simp) _).far (by simp) _).far (by simp) _).far (by simp) _).far (by simp) _
        · exact ((((Hb0.out.setCell (by simp) _).setCell (by simp) _).setCell (by simp) _).setCell (by simp) _).setCell (by simp) _
      case measure => simp [intOf]; omega
    · obtain rfl : k = n := by omega
      have z0 := hB0.cell 0
      have z1 := hB0.cell 1
      have z2 := hB0.cell 2
      have z3 := hB0.cell 3
      have z4 := hB0.cell 4
      have f0 := hB0.frozen 0
      have f1 := hB0.frozen 1
      have f2 := hB0.frozen 2
      have f3 := hB0.frozen 3
      have f4 := hB0.frozen 4
      simp only [smArr, Sm.zero, List.getElem?_toArray, List.getElem?_cons_zero, List.getElem?_cons_succ] at z0 z1 z2 z3 z4
      have HB1 := Lib.hid hB1; have HB0 := Lib.hid hB0; have Hbel := Lib.hid hbel; have Hsc := Lib.hid hsc; have HA := Lib.hid hA; have Hlen := Lib.hid hlen
      clear hB1 hB0 hbel hsc hA hlen
      go_wp2
      refine bodyPost_ret (v := .agg #[.int .i64 s.c, .int .u64 s.lo, .int .u64 s.hi, .int .u64 s.la, .int .u64 s.to]) (by simp [results, Tryd.results24, go_sem, z0, z1, z2, z3, z4]) rfl ?_
      refine ⟨?_, ?_⟩
      · have : s = ofS (bitsOf ps) := by rw [Hs.out, List.take_of_length_le (by rw [Hlen.out]; exact Nat.le_refl _)]
        rw [this]
      · exact ((((Hbel.out.setCell (by simp) _).setCell (by simp) _).setCell (by simp) _).setCell (by simp) _).setCell (by simp) _
end Go.Proofs.YtiohnehccmbplaaDoor
