/- sums.Total, sameSum by their contracts: for rows of points, each row's points at most a hundred thousand, all at most a million. -/
import Derived.Test.YtiohnehccmbplaaSumsRef
import Derived.Deep.RegionWith
namespace Go.Proofs.Ytiohnehccmbplaa
open Go.RowKit
set_option linter.unusedVariables false

/-- A row as it lies in memory: its text, its slice, and the points that this reads as. -/
structure RowD where
  s : ByteArray
  A : Option Addr
  n : Nat
  c : Nat
  ps : List (Int × Int)

def RowsIn (w : World) (B : Nat) (A : Option Addr) (n : Nat) (rs : List RowD) : Prop :=
  Rd w B 2 A n (rs.flatMap fun r => [.string r.s, .slice r.A r.n r.c]) ∧ ∀ r ∈ rs, Rd w B 2 r.A r.n (r.ps.flatMap fun p => [.int .i64 p.1, .int .u64 p.2])
def allOf (rs : List RowD) : List (Int × Int) := rs.flatMap (·.ps)
theorem allOf_next {rs : List RowD} {k : Nat} {r : RowD} (h : rs[k]? = some r) : allOf (rs.take (k + 1)) = allOf (rs.take k) ++ r.ps := by
  rw [take_snoc h]; simp [allOf]
theorem bitsOf_append (a b : List (Int × Int)) : bitsOf (a ++ b) = bitsOf a ++ bitsOf b := by simp [bitsOf]
theorem bitsOf_length (a : List (Int × Int)) : (bitsOf a).length = a.length := by simp [bitsOf]
theorem RowsIn.len {w : World} {B n : Nat} {A : Option Addr} {rs : List RowD} (h : RowsIn w B A n rs) : rs.length = n := by
  have := h.1.1; rw [flat_len _ 2 (fun _ => rfl)] at this; omega
theorem RowsIn.plen {w : World} {B n : Nat} {A : Option Addr} {rs : List RowD} (h : RowsIn w B A n rs) {r : RowD} (hr : r ∈ rs) : r.ps.length = r.n := by
  have := (h.2 r hr).1; rw [flat_len _ 2 (fun _ => rfl)] at this; omega

theorem keep6 {B : Nat} {w w' : World} {a1 a2 a3 a4 a5 a6 : Addr} {v1 v2 v3 v4 v5 v6 : Value} (hb : Below B w w') (h1 : a1.block < B) (h2 : a2.block < B) (h3 : a3.block < B) (h4 : a4.block < B) (h5 : a5.block < B) (h6 : a6.block < B)
    (h : w.cell? a1 = some v1 ∧ w.cell? a2 = some v2 ∧ w.cell? a3 = some v3 ∧ w.cell? a4 = some v4 ∧ w.cell? a5 = some v5 ∧ w.cell? a6 = some v6) :
    w'.cell? a1 = some v1 ∧ w'.cell? a2 = some v2 ∧ w'.cell? a3 = some v3 ∧ w'.cell? a4 = some v4 ∧ w'.cell? a5 = some v5 ∧ w'.cell? a6 = some v6 := by
  rw [hb.cell h1, hb.cell h2, hb.cell h3, hb.cell h4, hb.cell h5, hb.cell h6]; exact h
/-- Of two equal sums. -/
theorem same_any (s : Sm) (w : World) :
    Calls Try.prog 7 #[.agg #[.int .i64 s.c, .int .u64 s.lo, .int .u64 s.hi, .int .u64 s.la, .int .u64 s.to], .agg #[.int .i64 s.c, .int .u64 s.lo, .int .u64 s.hi, .int .u64 s.la, .int .u64 s.to]] w fun e w' => e = .returned (.bool true) ∧ Below w.heap.size w w' := by
  go_enter Try.func7, Try.ntmps7
  go_wp2
  go_ret
  refine ⟨rfl, ?_⟩
  go_grown

set_option maxHeartbeats 1000000 in
theorem total_any (A : Option Addr) (n c : Nat) (rs : List RowD) (w : World) (hA : RowsIn w w.heap.size A n rs) (hn : n ≤ 100000) (hrs : ∀ r ∈ rs, r.n ≤ 100000) (hall : (allOf rs).length ≤ 1000000) :
    Calls Try.prog 8 #[.slice A n c] w fun e w' =>
      e = .returned (.agg #[.int .i64 (ofS (bitsOf (allOf rs))).c, .int .u64 (ofS (bitsOf (allOf rs))).lo, .int .u64 (ofS (bitsOf (allOf rs))).hi, .int .u64 (ofS (bitsOf (allOf rs))).la, .int .u64 (ofS (bitsOf (allOf rs))).to]) ∧ Below w.heap.size w w' := by
  have hlen := hA.len
  go_enter Try.func8, Try.ntmps8
  go_wp2
  go_loopw [8] (fun i wr => ∃ (k : Nat) (s : Sm), k ≤ n ∧ i = .int .i64 k ∧ s = ofS (bitsOf (allOf (rs.take k))) ∧ Blk wr (w.heap.size + 1) 27 (smArr s) ∧ Blk wr w.heap.size 27 (smArr Sm.zero) ∧ Below w.heap.size w wr) (fun i _ => n - (intOf i).toNat)
  case atStart =>
    refine ⟨0, Sm.zero, Nat.zero_le _, rfl, rfl, ?_, ?_, ?_⟩
    · have := Blk.new (w.alloc (.cells (smArr Sm.zero) 27)) 27 (smArr Sm.zero)
      rw [World.size_alloc] at this
      exact this
    · exact (Blk.new w _ _).alloc _
    · go_grown
  case round =>
    obtain ⟨k, s, hk, rfl, hs, hB1, hB0, hbel⟩ := hrel
    obtain ⟨⟨h0, h1, h2, h3, h4⟩, _⟩ := hB1.sums
    have hz := hB1.lt
    have hle : (allOf (rs.take k)).length ≤ 1000000 := by
      have : allOf rs = allOf (rs.take k) ++ allOf (rs.drop k) := by
        unfold allOf; rw [← List.flatMap_append, List.take_append_drop]
      rw [this, List.length_append] at hall; omega
    have hsc : s.c = (allOf (rs.take k)).length := by rw [hs, ofS_c, bitsOf_length]
    have hc0 : 0 ≤ s.c := by omega
    have hc1 : s.c ≤ 1000000 := by omega
    have Hs := Lib.hid hs; clear hs hsc
    by_cases hkn : k < n
    · obtain ⟨bb, off, r, rfl, had, hy, e0, e1⟩ := hA.1.at2 hkn
      have hr : r ∈ rs := List.mem_of_getElem? hy
      have hrp := hA.2 r hr
      have hrn := hrs r hr
      have hpl := hA.plen hr
      have hr2 : (allOf (rs.take (k + 1))).length ≤ 1000000 := by
        have : allOf rs = allOf (rs.take (k + 1)) ++ allOf (rs.drop (k + 1)) := by
          unfold allOf; rw [← List.flatMap_append, List.take_append_drop]
        rw [this, List.length_append] at hall; omega
      have hnx := allOf_next hy
      rw [hnx, List.length_append] at hr2
      have hrc : (ofS (bitsOf r.ps)).c = r.n := by rw [ofS_c, bitsOf_length, hpl]
      have q0 : 0 ≤ (ofS (bitsOf r.ps)).c := by omega
      have q1 : (ofS (bitsOf r.ps)).c ≤ 1000000 := by omega
      have e0' := (hbel.cell (p := ⟨bb, off + k * 2, none⟩) had).trans e0
      have e1' := (hbel.cell (p := ⟨bb, off + k * 2 + 1, none⟩) had).trans e1
      have Hnx := Lib.hid hnx; have HA := Lib.hid hA; have Hrs := Lib.hid hrs; have Hrp := Lib.hid hrp
      have HB1 := Lib.hid hB1; have HB0 := Lib.hid hB0; have Hbel := Lib.hid hbel; have Hy := Lib.hid hy
      clear e0 e1 hA hrs hnx hr2 hrc hpl hB1 hB0 hbel hy hr hrp hlen
      generalize hofs : ofS (bitsOf r.ps) = t at q0 q1
      have Hofs := Lib.hid hofs; clear hofs
      have hrq : Rd (wr.alloc (.cells #[.string r.s, .slice r.A r.n r.c] 30)).drew (wr.alloc (.cells #[.string r.s, .slice r.A r.n r.c] 30)).drew.heap.size 2 r.A r.n (r.ps.flatMap fun p => [.int .i64 p.1, .int .u64 p.2]) :=
        ((Hrp.out.below Hbel.out).alloc (by omega) _).drew.more (by simp; omega)
      have hrq := Lib.hid hrq
      have mkB : ∀ w1 w2 : World, Below (wr.alloc (.cells #[.string r.s, .slice r.A r.n r.c] 30)).drew.heap.size (wr.alloc (.cells #[.string r.s, .slice r.A r.n r.c] 30)).drew w1 → Below w1.heap.size w1 w2 →
          (w2.cell? ⟨w.heap.size + 1, 0, none⟩ = some (.int .i64 s.c) ∧ w2.cell? ⟨w.heap.size + 1, 1, none⟩ = some (.int .u64 s.lo) ∧ w2.cell? ⟨w.heap.size + 1, 2, none⟩ = some (.int .u64 s.hi) ∧ w2.cell? ⟨w.heap.size + 1, 3, none⟩ = some (.int .u64 s.la) ∧ w2.cell? ⟨w.heap.size + 1, 4, none⟩ = some (.int .u64 s.to)) ∧
          (w2.frozen? ⟨w.heap.size + 1, 0, none⟩ = false ∧ w2.frozen? ⟨w.heap.size + 1, 1, none⟩ = false ∧ w2.frozen? ⟨w.heap.size + 1, 2, none⟩ = false ∧ w2.frozen? ⟨w.heap.size + 1, 3, none⟩ = false ∧ w2.frozen? ⟨w.heap.size + 1, 4, none⟩ = false) := by
        intro w1 w2 hb1 hb2
        have q1 := (HB1.out.alloc (.cells #[.string r.s, .slice r.A r.n r.c] 30)).drew.below hb1 (by simp; omega)
        exact (q1.below hb2 q1.lt).sums
      have mkB := Lib.hid mkB
      have mkA : ∀ w1 : World, Below (wr.alloc (.cells #[.string r.s, .slice r.A r.n r.c] 30)).drew.heap.size (wr.alloc (.cells #[.string r.s, .slice r.A r.n r.c] 30)).drew w1 →
          (w1.cell? ⟨w.heap.size + 1, 0, none⟩ = some (.int .i64 s.c) ∧ w1.cell? ⟨w.heap.size + 1, 1, none⟩ = some (.int .u64 s.lo) ∧ w1.cell? ⟨w.heap.size + 1, 2, none⟩ = some (.int .u64 s.hi) ∧ w1.cell? ⟨w.heap.size + 1, 3, none⟩ = some (.int .u64 s.la) ∧ w1.cell? ⟨w.heap.size + 1, 4, none⟩ = some (.int .u64 s.to)) := by
        intro w1 hb1
        exact ((HB1.out.alloc (.cells #[.string r.s, .slice r.A r.n r.c] 30)).drew.below hb1 (by simp; omega)).sums.1
      have mkA := Lib.hid mkA
      have hrq := Lib.hid hrq
      go_wp2_with fail
      go_region_with (first
          | (go_at_call 5; refine (of_any r.A r.n r.c r.ps _ hrq.out hrn).mono ?_; rintro e w1 ⟨rfl, hb1⟩; rw [Hofs.out]; obtain ⟨g0, g1, g2, g3, g4⟩ := mkA.out w1 hb1; have hb1 := Lib.hid hb1)
          | (go_at_call 6; refine (add_any s t _ hc0 hc1 q0 q1).mono ?_; rintro e w2 ⟨rfl, hb2⟩; obtain ⟨⟨g0, g1, g2, g3, g4⟩, f0, f1, f2, f3, f4⟩ := mkB.out w1 w2 hb1.out hb2; have hb2 := Lib.hid hb2))
      all_goals
        clear g0 g1 g2 g3 g4 f0 f1 f2 f3 f4 h0 h1 h2 h3 h4
        go_wp2
        go_roundw
        case rel =>
          have q1 := (HB1.out.alloc (.cells #[.string r.s, .slice r.A r.n r.c] 30)).drew.below hb1.out (by simp; omega)
          have q2 := q1.below hb2.out q1.lt
          have z1 := (HB0.out.alloc (.cells #[.string r.s, .slice r.A r.n r.c] 30)).drew.below hb1.out (by simp; omega)
          have z2 := z1.below hb2.out z1.lt
          have b1 : Below w.heap.size w w1 := Below.call (Below.drew (Below.alloc Hbel.out (by omega) _)) hb1.out (by simp; omega)
          have b2 : Below w.heap.size w w2 := Below.call b1 hb2.out (by have := q1.lt; omega)
          refine ⟨k + 1, addS s t, by omega, by go_num, ?_, ?_, ?_, ?_⟩
          · rw [Hnx.out, bitsOf_append, ofS_append, ← Hs.out, Hofs.out]
          · exact ((((q2.set_ 0 (.int .i64 (addS s t).c)).set_ 1 (.int .u64 (addS s t).lo)).set_ 2 (.int .u64 (addS s t).hi)).set_ 3 (.int .u64 (addS s t).la)).set_ 4 (.int .u64 (addS s t).to)
          · exact ((((z2.far (by simp) _).far (by simp) _).far (by simp) _).far (by simp) _).far (by simp) _
          · exact ((((b2.setCell (by simp) _).setCell (by simp) _).setCell (by simp) _).setCell (by simp) _).setCell (by simp) _
        case measure => simp [intOf]; omega
    · obtain rfl : k = n := by omega
      have HB1 := Lib.hid hB1; have Hbel := Lib.hid hbel; have HA := Lib.hid hA; have Hlen := Lib.hid hlen
      obtain ⟨⟨z0, z1, z2, z3, z4⟩, g0, g1, g2, g3, g4⟩ := hB0.sums
      simp only [Sm.zero] at z0 z1 z2 z3 z4
      clear hB1 hB0 hbel hA hlen
      go_wp2
      refine bodyPost_ret (v := .agg #[.int .i64 s.c, .int .u64 s.lo, .int .u64 s.hi, .int .u64 s.la, .int .u64 s.to]) (by simp [results, Try.results8, go_sem, z0, z1, z2, z3, z4]) rfl ?_
      refine ⟨?_, ?_⟩
      · have : s = ofS (bitsOf (allOf rs)) := by rw [Hs.out, List.take_of_length_le (by rw [Hlen.out]; exact Nat.le_refl _)]
        rw [this]
      · exact ((((Hbel.out.setCell (by simp) _).setCell (by simp) _).setCell (by simp) _).setCell (by simp) _).setCell (by simp) _
end Go.Proofs.Ytiohnehccmbplaa
