/- sums.Add, sums.Of, the reference's SumOf, sameSum, by their contracts: for points whose number is at most a million. -/
import Derived.Test.YthgefobcohlegaaGreatDoorProg
import Derived.Test.YthgefobcohlegaaGreatDoorBaseX
import Derived.Deep.RegionWith
namespace Go.Proofs.YthgefobcohlegaaGreatDoor
open Go.RowKit
set_option linter.unusedVariables false

/-- A sum of points, in numbers. -/
structure Sm where
  c : Int
  lo : Int
  hi : Int
  la : Int
  to : Int

def Sm.zero : Sm := ⟨0, 0, 0, 0, 0⟩
def Sm.one (b : Int) : Sm := ⟨1, b, b, b, b⟩
def addS (a b : Sm) : Sm := if a.c = 0 then b else if b.c = 0 then a else ⟨a.c + b.c, min a.lo b.lo, max a.hi b.hi, b.la, (a.to + b.to) % 18446744073709551616⟩
def ofS (bs : List Int) : Sm := bs.foldl (fun s b => addS s (Sm.one b)) Sm.zero
/-- Words of 64 bits. -/
def Word (v : Int) : Prop := 0 ≤ v ∧ v < 18446744073709551616

theorem ofS_snoc (bs : List Int) (b : Int) : ofS (bs ++ [b]) = addS (ofS bs) (Sm.one b) := by simp [ofS, List.foldl_append]
theorem addS_c (a b : Sm) : (addS a b).c = a.c + b.c := by
  unfold addS
  split
  · rename_i h; omega
  · split
    · rename_i h; omega
    · rfl
theorem foldS_c (bs : List Int) : ∀ s : Sm, (bs.foldl (fun s b => addS s (Sm.one b)) s).c = s.c + bs.length := by
  induction bs with
  | nil => intro s; simp
  | cons b bs ih => intro s; rw [List.foldl_cons, ih, addS_c]; simp [Sm.one]; omega
theorem ofS_c (bs : List Int) : (ofS bs).c = bs.length := by
  have := foldS_c bs Sm.zero
  simpa [ofS, Sm.zero] using this
theorem addS_assoc (a b c : Sm) (ha : 0 ≤ a.c) (hb : 0 ≤ b.c) (hc : 0 ≤ c.c) : addS (addS a b) c = addS a (addS b c) := by
  by_cases h1 : a.c = 0
  · simp [addS, h1]
  by_cases h2 : b.c = 0
  · simp [addS, h1, h2]
  by_cases h3 : c.c = 0
  · have : ¬ (a.c + b.c = 0) := by omega
    simp [addS, h1, h2, h3, this]
  · have q1 : ¬ (a.c + b.c = 0) := by omega
    have q2 : ¬ (b.c + c.c = 0) := by omega
    simp only [addS, h1, h2, h3, q1, q2, if_false, Sm.mk.injEq, true_and]
    refine ⟨by omega, by omega, by omega, by omega⟩
theorem ofS_append (xs ys : List Int) : ofS (xs ++ ys) = addS (ofS xs) (ofS ys) := by
  induction ys using snoc_ind with
  | h0 =>
    rw [List.append_nil]
    have : ofS ([] : List Int) = Sm.zero := rfl
    rw [this]
    unfold addS
    split
    · rename_i h
      have hx := ofS_c xs
      have : xs = [] := List.eq_nil_of_length_eq_zero (by omega)
      subst this; rfl
    · simp [Sm.zero]
  | h1 ys y ih =>
    rw [← List.append_assoc, ofS_snoc, ofS_snoc, ih]
    have h1 := ofS_c xs
    have h2 := ofS_c ys
    exact addS_assoc _ _ _ (by omega) (by omega) (by simp [Sm.one])

/-! ### The walks -/
theorem sm_ret {a b c d e a' b' c' d' e' : Int} (h1 : a = a') (h2 : b = b') (h3 : c = c') (h4 : d = d') (h5 : e = e') :
    Ending.returned (.agg #[.int .i64 a, .int .u64 b, .int .u64 c, .int .u64 d, .int .u64 e]) = Ending.returned (.agg #[.int .i64 a', .int .u64 b', .int .u64 c', .int .u64 d', .int .u64 e']) := by
  rw [h1, h2, h3, h4, h5]
theorem add_any (a b : Sm) (w : World) (ha : 0 ≤ a.c) (ha' : a.c ≤ 1000000) (hb : 0 ≤ b.c) (hb' : b.c ≤ 1000000) :
    Calls Tryz.prog 33 #[.agg #[.int .i64 a.c, .int .u64 a.lo, .int .u64 a.hi, .int .u64 a.la, .int .u64 a.to], .agg #[.int .i64 b.c, .int .u64 b.lo, .int .u64 b.hi, .int .u64 b.la, .int .u64 b.to]] w fun e w' =>
      e = .returned (.agg #[.int .i64 (addS a b).c, .int .u64 (addS a b).lo, .int .u64 (addS a b).hi, .int .u64 (addS a b).la, .int .u64 (addS a b).to]) ∧ Below w.heap.size w w' := by
  obtain ⟨a0, a1, a2, a3, a4⟩ := a
  obtain ⟨b0, b1, b2, b3, b4⟩ := b
  dsimp only at ha ha' hb hb'
  by_cases h1 : a0 = 0
  · subst h1
    simp only [addS, if_true]
    go_enter Tryz.func33, Tryz.ntmps33
    go_wp2
    go_returns
    refine ⟨rfl, ?_⟩
    go_grown
  have h1' : (a0 == 0) = false := by simpa using h1
  by_cases h2 : b0 = 0
  · subst h2
    simp only [addS, if_true, if_neg h1]
    clear h1
    go_enter Tryz.func33, Tryz.ntmps33
    go_wp2
    go_returns
    refine ⟨rfl, ?_⟩
    go_grown
  have h2' : (b0 == 0) = false := by simpa using h2
  simp only [addS, if_neg h1, if_neg h2]
  clear h1 h2
  go_enter Tryz.func33, Tryz.ntmps33
  go_wp2
  all_goals
    go_returns
    refine ⟨sm_ret rfl (by omega) (by omega) rfl (IntKind.wrap_u64 _), ?_⟩
    go_grown
end Go.Proofs.YthgefobcohlegaaGreatDoor

namespace Go.Proofs.YthgefobcohlegaaGreatDoor
open Go.RowKit
set_option linter.unusedVariables false

def bitsOf (ps : List (Int × Int)) : List Int := ps.map (·.2)
theorem bitsOf_take {ps : List (Int × Int)} {k : Nat} {y : Int × Int} (h : ps[k]? = some y) : bitsOf (ps.take (k + 1)) = bitsOf (ps.take k) ++ [y.2] := by
  rw [take_snoc h]; simp [bitsOf]
theorem bitsOf_len (ps : List (Int × Int)) (k : Nat) (h : k ≤ ps.length) : (bitsOf (ps.take k)).length = k := by simp [bitsOf]; omega

def smArr (s : Sm) : Array Value := #[.int .i64 s.c, .int .u64 s.lo, .int .u64 s.hi, .int .u64 s.la, .int .u64 s.to]

set_option maxHeartbeats 400000 in
theorem sumOf_any (A : Option Addr) (n c : Nat) (ps : List (Int × Int)) (w : World) (hA : Rd w w.heap.size 2 A n (ps.flatMap fun p => [.int .i64 p.1, .int .u64 p.2])) (hn : n ≤ 100000) :
    Calls Tryz.prog 34 #[.slice A n c] w fun e w' =>
      e = .returned (.agg #[.int .i64 (ofS (bitsOf ps)).c, .int .u64 (ofS (bitsOf ps)).lo, .int .u64 (ofS (bitsOf ps)).hi, .int .u64 (ofS (bitsOf ps)).la, .int .u64 (ofS (bitsOf ps)).to]) ∧ Below w.heap.size w w' := by
  have hlen : ps.length = n := by have := hA.1; rw [flat_len _ 2 (fun _ => rfl)] at this; omega
  go_enter Tryz.func34, Tryz.ntmps34
  go_wp2
  go_loopw [8] (fun i wr => ∃ (k : Nat) (s : Sm), k ≤ n ∧ i = .int .i64 k ∧ s = ofS (bitsOf (ps.take k)) ∧ Blk wr (w.heap.size + 1) 45 (smArr s) ∧ Blk wr w.heap.size 45 (smArr Sm.zero) ∧ Below w.heap.size w wr) (fun i _ => n - (intOf i).toNat)
  case atStart =>
    refine ⟨0, Sm.zero, Nat.zero_le _, rfl, rfl, ?_, ?_, ?_⟩
    · have := Blk.new (w.alloc (.cells (smArr Sm.zero) 45)) 45 (smArr Sm.zero)
      rw [World.size_alloc] at this
      exact this
    · exact (Blk.new w _ _).alloc _
    · go_grown
  case round =>
    obtain ⟨k, s, hk, rfl, hs, hB1, hB0, hbel⟩ := hrel
    have h0 := hB1.cell 0
    have h1 := hB1.cell 1
    have h2 := hB1.cell 2
    have h3 := hB1.cell 3
    have h4 := hB1.cell 4
    simp only [smArr] at h0 h1 h2 h3 h4
    simp only [List.getElem?_toArray, List.getElem?_cons_zero, List.getElem?_cons_succ] at h0 h1 h2 h3 h4
    have hz := hB1.lt
    have hsc : s.c = k := by rw [hs, ofS_c, bitsOf_len ps k (by omega)]
    have Hs := Lib.hid hs; clear hs
    by_cases hkn : k < n
    · obtain ⟨bb, off, y, rfl, had, hy, e0, e1⟩ := hA.at2 hkn
      have e0' := (hbel.cell (p := ⟨bb, off + k * 2, none⟩) had).trans e0
      have e1' := (hbel.cell (p := ⟨bb, off + k * 2 + 1, none⟩) had).trans e1
      have hbt := bitsOf_take hy
      have Hbt := Lib.hid hbt; clear hbt
      clear e0 e1 hA
      have hc0 : 0 ≤ s.c := by omega
      have hc1 : s.c ≤ 1000000 := by omega
      have HB1 := Lib.hid hB1; have HB0 := Lib.hid hB0; have Hbel := Lib.hid hbel; have Hy := Lib.hid hy; have Hsc := Lib.hid hsc
      clear hB1 hB0 hbel hy hsc
      go_wp2_with fail
      refine (add_any s (Sm.one y.2) _ hc0 hc1 (by simp [Sm.one]) (by simp [Sm.one])).mono ?_
      rintro e w1 ⟨rfl, hb⟩
      have hB1' := (HB1.out.alloc (.cells #[.int .i64 y.1, .int .u64 y.2] 39)).below hb (by simp; omega)
      have hB0' := (HB0.out.alloc (.cells #[.int .i64 y.1, .int .u64 y.2] 39)).below hb (by simp; omega)
      have g0 := hB1'.cell 0
      have g1 := hB1'.cell 1
      have g2 := hB1'.cell 2
      have g3 := hB1'.cell 3
      have g4 := hB1'.cell 4
      have f0 := hB1'.frozen 0
      have f1 := hB1'.frozen 1
      have f2 := hB1'.frozen 2
      have f3 := hB1'.frozen 3
      have f4 := hB1'.frozen 4
      simp only [smArr, List.getElem?_toArray, List.getElem?_cons_zero, List.getElem?_cons_succ] at g0 g1 g2 g3 g4
      have hb0 : Below w.heap.size w w1 := by
        refine Below.call (Below.alloc Hbel.out (by omega) _) hb (by simp; omega)
      have HB1' := Lib.hid hB1'; have HB0' := Lib.hid hB0'; have Hb0 := Lib.hid hb0; have Hb := Lib.hid hb
      clear hB1' hB0' hb0 hb h0 h1 h2 h3 h4
      go_wp2
      clear g0 g1 g2 g3 g4 f0 f1 f2 f3 f4
      go_roundw
      case rel =>
        refine ⟨k + 1, addS s (Sm.one y.2), by omega, by go_num, ?_, ?_, ?_, ?_⟩
        · rw [Hbt.out, ofS_snoc, ← Hs.out]
        · have := ((((HB1'.out.set_ 0 (.int .i64 (addS s (Sm.one y.2)).c)).set_ 1 (.int .u64 (addS s (Sm.one y.2)).lo)).set_ 2 (.int .u64 (addS s (Sm.one y.2)).hi)).set_ 3 (.int .u64 (addS s (Sm.one y.2)).la)).set_ 4 (.int .u64 (addS s (Sm.one y.2)).to)
          exact this
        · exact ((((HB0'.out.far (by simp) _).far (by simp) _).far (by simp) _).far (by simp) _).far (by simp) _
        · exact ((((Hb0.out.setCell (by simp) _).setCell (by simp) _).setCell (by simp) _).setCell (by simp) _).setCell (by simp) _
      case measure => simp [intOf]; omega
    · obtain rfl : k = n := by omega
      have z0 := hB0.cell 0
      have z1 := hB0.cell 1
      have z2 := hB0.cell 2
      have z3 := hB0.cell 3
      have z4 := hB0.cell 4
      have f0 := hB0.frozen 0
      have f1 := hB0.frozen 1
      have f2 := hB0.frozen 2
      have f3 := hB0.frozen 3
      have f4 := hB0.frozen 4
      simp only [smArr, Sm.zero, List.getElem?_toArray, List.getElem?_cons_zero, List.getElem?_cons_succ] at z0 z1 z2 z3 z4
      have HB1 := Lib.hid hB1; have HB0 := Lib.hid hB0; have Hbel := Lib.hid hbel; have Hsc := Lib.hid hsc; have HA := Lib.hid hA; have Hlen := Lib.hid hlen
      clear hB1 hB0 hbel hsc hA hlen
      go_wp2
      refine bodyPost_ret (v := .agg #[.int .i64 s.c, .int .u64 s.lo, .int .u64 s.hi, .int .u64 s.la, .int .u64 s.to]) (by simp [results, Tryz.results34, go_sem, z0, z1, z2, z3, z4]) rfl ?_
      refine ⟨?_, ?_⟩
      · have : s = ofS (bitsOf ps) := by rw [Hs.out, List.take_of_length_le (by rw [Hlen.out]; exact Nat.le_refl _)]
        rw [this]
      · exact ((((Hbel.out.setCell (by simp) _).setCell (by simp) _).setCell (by simp) _).setCell (by simp) _).setCell (by simp) _
end Go.Proofs.YthgefobcohlegaaGreatDoor

namespace Go.Proofs.YthgefobcohlegaaGreatDoor
open Go.RowKit
set_option linter.unusedVariables false

/-- The five cells of a sum behind five stores. -/
theorem Blk.sums {w : World} {g : Nat} {t : TypeId} {s : Sm} (h : Blk w g t (smArr s)) :
    (w.cell? ⟨g, 0, none⟩ = some (.int .i64 s.c) ∧ w.cell? ⟨g, 1, none⟩ = some (.int .u64 s.lo) ∧ w.cell? ⟨g, 2, none⟩ = some (.int .u64 s.hi) ∧ w.cell? ⟨g, 3, none⟩ = some (.int .u64 s.la) ∧ w.cell? ⟨g, 4, none⟩ = some (.int .u64 s.to)) ∧
    (w.frozen? ⟨g, 0, none⟩ = false ∧ w.frozen? ⟨g, 1, none⟩ = false ∧ w.frozen? ⟨g, 2, none⟩ = false ∧ w.frozen? ⟨g, 3, none⟩ = false ∧ w.frozen? ⟨g, 4, none⟩ = false) :=
  ⟨⟨h.cell 0, h.cell 1, h.cell 2, h.cell 3, h.cell 4⟩, h.frozen 0, h.frozen 1, h.frozen 2, h.frozen 3, h.frozen 4⟩

end Go.Proofs.YthgefobcohlegaaGreatDoor

namespace Go.Proofs.YthgefobcohlegaaGreatDoor
open Go.RowKit
set_option linter.unusedVariables false

/-- A row as it lies in memory: its text, its slice, and the points that this reads as. -/
structure RowD where
  s : ByteArray
  A : Option Addr
  n : Nat
  c : Nat
  ps : List (Int × Int)

def RowsIn (w : World) (B : Nat) (A : Option Addr) (n : Nat) (rs : List RowD) : Prop :=
  Rd w B 2 A n (rs.flatMap fun r => [.string r.s, .slice r.A r.n r.c]) ∧ ∀ r ∈ rs, Rd w B 2 r.A r.n (r.ps.flatMap fun p => [.int .i64 p.1, .int .u64 p.2])
def allOf (rs : List RowD) : List (Int × Int) := rs.flatMap (·.ps)
theorem allOf_next {rs : List RowD} {k : Nat} {r : RowD} (h : rs[k]? = some r) : allOf (rs.take (k + 1)) = allOf (rs.take k) ++ r.ps := by
  rw [take_snoc h]; simp [allOf]
theorem bitsOf_append (a b : List (Int × Int)) : bitsOf (a ++ b) = bitsOf a ++ bitsOf b := by simp [bitsOf]
theorem bitsOf_length (a : List (Int × Int)) : (bitsOf a).length = a.length := by simp [bitsOf]
theorem RowsIn.len {w : World} {B n : Nat} {A : Option Addr} {rs : List RowD} (h : RowsIn w B A n rs) : rs.length = n := by
  have := h.1.1; rw [flat_len _ 2 (fun _ => rfl)] at this; omega
theorem RowsIn.plen {w : World} {B n : Nat} {A : Option Addr} {rs : List RowD} (h : RowsIn w B A n rs) {r : RowD} (hr : r ∈ rs) : r.ps.length = r.n := by
  have := (h.2 r hr).1; rw [flat_len _ 2 (fun _ => rfl)] at this; omega

set_option maxHeartbeats 1000000 in
theorem total_any (A : Option Addr) (n c : Nat) (rs : List RowD) (w : World) (hA : RowsIn w w.heap.size A n rs) (hn : n ≤ 100000) (hrs : ∀ r ∈ rs, r.n ≤ 100000) (hall : (allOf rs).length ≤ 1000000) :
    Calls Tryz.prog 13 #[.slice A n c] w fun e w' =>
      e = .returned (.agg #[.int .i64 (ofS (bitsOf (allOf rs))).c, .int .u64 (ofS (bitsOf (allOf rs))).lo, .int .u64 (ofS (bitsOf (allOf rs))).hi, .int .u64 (ofS (bitsOf (allOf rs))).la, .int .u64 (ofS (bitsOf (allOf rs))).to]) ∧ Below w.heap.size w w' := by
  have hlen := hA.len
  go_enter Tryz.func13, Tryz.ntmps13
  go_wp2
  go_loopw [8] (fun i wr => ∃ (k : Nat) (s : Sm), k ≤ n ∧ i = .int .i64 k ∧ s = ofS (bitsOf (allOf (rs.take k))) ∧ Blk wr (w.heap.size + 1) 45 (smArr s) ∧ Blk wr w.heap.size 45 (smArr Sm.zero) ∧ Below w.heap.size w wr) (fun i _ => n - (intOf i).toNat)
  case atStart =>
    refine ⟨0, Sm.zero, Nat.zero_le _, rfl, rfl, ?_, ?_, ?_⟩
    · have := Blk.new (w.alloc (.cells (smArr Sm.zero) 45)) 45 (smArr Sm.zero)
      rw [World.size_alloc] at this
      exact this
    · exact (Blk.new w _ _).alloc _
    · go_grown
  case round =>
    obtain ⟨k, s, hk, rfl, hs, hB1, hB0, hbel⟩ := hrel
    obtain ⟨⟨h0, h1, h2, h3, h4⟩, _⟩ := hB1.sums
    have hz := hB1.lt
    have hle : (allOf (rs.take k)).length ≤ 1000000 := by
      have : allOf rs = allOf (rs.take k) ++ allOf (rs.drop k) := by
        unfold allOf; rw [← List.flatMap_append, List.take_append_drop]
      rw [this, List.length_append] at hall; omega
    have hsc : s.c = (allOf (rs.take k)).length := by rw [hs, ofS_c, bitsOf_length]
    have hc0 : 0 ≤ s.c := by omega
    have hc1 : s.c ≤ 1000000 := by omega
    have Hs := Lib.hid hs; clear hs hsc
    by_cases hkn : k < n
    · obtain ⟨bb, off, r, rfl, had, hy, e0, e1⟩ := hA.1.at2 hkn
      have hr : r ∈ rs := List.mem_of_getElem? hy
      have hrp := hA.2 r hr
      have hrn := hrs r hr
      have hpl := hA.plen hr
      have hr2 : (allOf (rs.take (k + 1))).length ≤ 1000000 := by
        have : allOf rs = allOf (rs.take (k + 1)) ++ allOf (rs.drop (k + 1)) := by
          unfold allOf; rw [← List.flatMap_append, List.take_append_drop]
        rw [this, List.length_append] at hall; omega
      have hnx := allOf_next hy
      rw [hnx, List.length_append] at hr2
      have hrc : (ofS (bitsOf r.ps)).c = r.n := by rw [ofS_c, bitsOf_length, hpl]
      have q0 : 0 ≤ (ofS (bitsOf r.ps)).c := by omega
      have q1 : (ofS (bitsOf r.ps)).c ≤ 1000000 := by omega
      have e0' := (hbel.cell (p := ⟨bb, off + k * 2, none⟩) had).trans e0
      have e1' := (hbel.cell (p := ⟨bb, off + k * 2 + 1, none⟩) had).trans e1
      have Hnx := Lib.hid hnx; have HA := Lib.hid hA; have Hrs := Lib.hid hrs; have Hrp := Lib.hid hrp
      have HB1 := Lib.hid hB1; have HB0 := Lib.hid hB0; have Hbel := Lib.hid hbel; have Hy := Lib.hid hy
      clear e0 e1 hA hrs hnx hr2 hrc hpl hB1 hB0 hbel hy hr hrp hlen
      generalize hofs : ofS (bitsOf r.ps) = t at q0 q1
      have Hofs := Lib.hid hofs; clear hofs
      have hrq : Rd (wr.alloc (.cells #[.string r.s, .slice r.A r.n r.c] 58)).drew (wr.alloc (.cells #[.string r.s, .slice r.A r.n r.c] 58)).drew.heap.size 2 r.A r.n (r.ps.flatMap fun p => [.int .i64 p.1, .int .u64 p.2]) :=
        ((Hrp.out.below Hbel.out).alloc (by omega) _).drew.more (by simp; omega)
      have hrq := Lib.hid hrq
      have mkB : ∀ w1 w2 : World, Below (wr.alloc (.cells #[.string r.s, .slice r.A r.n r.c] 58)).drew.heap.size (wr.alloc (.cells #[.string r.s, .slice r.A r.n r.c] 58)).drew w1 → Below w1.heap.size w1 w2 →
          (w2.cell? ⟨w.heap.size + 1, 0, none⟩ = some (.int .i64 s.c) ∧ w2.cell? ⟨w.heap.size + 1, 1, none⟩ = some (.int .u64 s.lo) ∧ w2.cell? ⟨w.heap.size + 1, 2, none⟩ = some (.int .u64 s.hi) ∧ w2.cell? ⟨w.heap.size + 1, 3, none⟩ = some (.int .u64 s.la) ∧ w2.cell? ⟨w.heap.size + 1, 4, none⟩ = some (.int .u64 s.to)) ∧
          (w2.frozen? ⟨w.heap.size + 1, 0, none⟩ = false ∧ w2.frozen? ⟨w.heap.size + 1, 1, none⟩ = false ∧ w2.frozen? ⟨w.heap.size + 1, 2, none⟩ = false ∧ w2.frozen? ⟨w.heap.size + 1, 3, none⟩ = false ∧ w2.frozen? ⟨w.heap.size + 1, 4, none⟩ = false) := by
        intro w1 w2 hb1 hb2
        have q1 := (HB1.out.alloc (.cells #[.string r.s, .slice r.A r.n r.c] 58)).drew.below hb1 (by simp; omega)
        exact (q1.below hb2 q1.lt).sums
      have mkB := Lib.hid mkB
      have mkA : ∀ w1 : World, Below (wr.alloc (.cells #[.string r.s, .slice r.A r.n r.c] 58)).drew.heap.size (wr.alloc (.cells #[.string r.s, .slice r.A r.n r.c] 58)).drew w1 →
          (w1.cell? ⟨w.heap.size + 1, 0, none⟩ = some (.int .i64 s.c) ∧ w1.cell? ⟨w.heap.size + 1, 1, none⟩ = some (.int .u64 s.lo) ∧ w1.cell? ⟨w.heap.size + 1, 2, none⟩ = some (.int .u64 s.hi) ∧ w1.cell? ⟨w.heap.size + 1, 3, none⟩ = some (.int .u64 s.la) ∧ w1.cell? ⟨w.heap.size + 1, 4, none⟩ = some (.int .u64 s.to)) := by
        intro w1 hb1
        exact ((HB1.out.alloc (.cells #[.string r.s, .slice r.A r.n r.c] 58)).drew.below hb1 (by simp; omega)).sums.1
      have mkA := Lib.hid mkA
      have hrq := Lib.hid hrq
      go_wp2_with fail
      go_region_with (first
          | (go_at_call 34; refine (sumOf_any r.A r.n r.c r.ps _ hrq.out hrn).mono ?_; rintro e w1 ⟨rfl, hb1⟩; rw [Hofs.out]; obtain ⟨g0, g1, g2, g3, g4⟩ := mkA.out w1 hb1; have hb1 := Lib.hid hb1)
          | (go_at_call 33; refine (add_any s t _ hc0 hc1 q0 q1).mono ?_; rintro e w2 ⟨rfl, hb2⟩; obtain ⟨⟨g0, g1, g2, g3, g4⟩, f0, f1, f2, f3, f4⟩ := mkB.out w1 w2 hb1.out hb2; have hb2 := Lib.hid hb2))
      all_goals
        clear g0 g1 g2 g3 g4 f0 f1 f2 f3 f4 h0 h1 h2 h3 h4
        go_wp2
        go_roundw
        case rel =>
          have q1 := (HB1.out.alloc (.cells #[.string r.s, .slice r.A r.n r.c] 58)).drew.below hb1.out (by simp; omega)
          have q2 := q1.below hb2.out q1.lt
          have z1 := (HB0.out.alloc (.cells #[.string r.s, .slice r.A r.n r.c] 58)).drew.below hb1.out (by simp; omega)
          have z2 := z1.below hb2.out z1.lt
          have b1 : Below w.heap.size w w1 := Below.call (Below.drew (Below.alloc Hbel.out (by omega) _)) hb1.out (by simp; omega)
          have b2 : Below w.heap.size w w2 := Below.call b1 hb2.out (by have := q1.lt; omega)
          refine ⟨k + 1, addS s t, by omega, by go_num, ?_, ?_, ?_, ?_⟩
          · rw [Hnx.out, bitsOf_append, ofS_append, ← Hs.out, Hofs.out]
          · exact ((((q2.set_ 0 (.int .i64 (addS s t).c)).set_ 1 (.int .u64 (addS s t).lo)).set_ 2 (.int .u64 (addS s t).hi)).set_ 3 (.int .u64 (addS s t).la)).set_ 4 (.int .u64 (addS s t).to)
          · exact ((((z2.far (by simp) _).far (by simp) _).far (by simp) _).far (by simp) _).far (by simp) _
          · exact ((((b2.setCell (by simp) _).setCell (by simp) _).setCell (by simp) _).setCell (by simp) _).setCell (by simp) _
        case measure => simp [intOf]; omega
    · obtain rfl : k = n := by omega
      have HB1 := Lib.hid hB1; have Hbel := Lib.hid hbel; have HA := Lib.hid hA; have Hlen := Lib.hid hlen
      obtain ⟨⟨z0, z1, z2, z3, z4⟩, g0, g1, g2, g3, g4⟩ := hB0.sums
      simp only [Sm.zero] at z0 z1 z2 z3 z4
      clear hB1 hB0 hbel hA hlen
      go_wp2
      refine bodyPost_ret (v := .agg #[.int .i64 s.c, .int .u64 s.lo, .int .u64 s.hi, .int .u64 s.la, .int .u64 s.to]) (by simp [results, Tryz.results13, go_sem, z0, z1, z2, z3, z4]) rfl ?_
      refine ⟨?_, ?_⟩
      · have : s = ofS (bitsOf (allOf rs)) := by rw [Hs.out, List.take_of_length_le (by rw [Hlen.out]; exact Nat.le_refl _)]
        rw [this]
      · exact ((((Hbel.out.setCell (by simp) _).setCell (by simp) _).setCell (by simp) _).setCell (by simp) _).setCell (by simp) _
end Go.Proofs.YthgefobcohlegaaGreatDoor
