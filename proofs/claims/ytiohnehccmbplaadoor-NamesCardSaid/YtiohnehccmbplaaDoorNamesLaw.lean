/- The walk of the law Names: it returns true. -/
import Derived.Test.YtiohnehccmbplaaDoorSame
import Derived.Test.YtiohnehccmbplaaDoorCode
namespace Go.Proofs.YtiohnehccmbplaaDoor
open Go.RowKit
set_option linter.unusedVariables false

def namesL : List Int := [1099511627776, 1048576, 120, 12, 6, 60, 40, 65536, 100000, 20000, 6, 3000, 100, 16]
abbrev namesA : Array Value := #[.int .i64 1099511627776, .int .i64 1048576, .int .i64 120, .int .i64 12, .int .i64 6, .int .i64 60, .int .i64 40, .int .i64 65536, .int .i64 100000, .int .i64 20000, .int .i64 6, .int .i64 3000, .int .i64 100, .int .i64 16]
theorem namesA_get (j : Nat) (u : Value) (h : (namesL.map (Value.int .i64))[j]? = some u) : namesA[j]? = some u := by
  have e : namesA = (namesL.map (Value.int .i64)).toArray := rfl
  rw [e]; simpa using h
theorem coded_same (n : Int) : (decide (n = n) && decide ((-1 : Int) = -1)) = true := by simp
theorem numOf_11 : numOf 11 = -1 := rfl
theorem newErr_any (s : ByteArray) (w : World) : Calls Tryd.prog 22 #[.string s] w fun e w' => e = .returned (sentV ⟨w.heap.size, 0, none⟩) ∧ w' = w.alloc (.cells #[.string s] 125) := by
  go_enter Tryd.func22, Tryd.ntmps22
  go_wp2
  go_ret
  exact ⟨rfl, rfl⟩

set_option maxRecDepth 100000 in
set_option maxHeartbeats 4000000 in
theorem names_law {es : Nat → Addr} {B : Nat} (w : World) (hS : Sents es B w) (hB : B ≤ w.heap.size) : Calls Tryd.prog 4 #[] w fun e w' => e = .returned (.bool true) ∧ Below w.heap.size w w' := by
  have HS := Lib.hid hS; clear hS
  have hb0 : Below w.heap.size w ((w.alloc (.cells namesA 3)).alloc (.cells namesA 3)) := by go_grown
  have hr0 : Rd ((w.alloc (.cells namesA 3)).alloc (.cells namesA 3)) ((w.alloc (.cells namesA 3)).alloc (.cells namesA 3)).heap.size 1 (some ⟨w.heap.size, 0, none⟩) 14 (namesL.map (Value.int .i64)) :=
    ⟨rfl, fun _ => ⟨_, _, rfl, by simp <;> omega, fun j u hu => by rw [Nat.zero_add, ((Blk.new w _ _).alloc _).cell]; exact namesA_get j u hu⟩⟩
  have hr1 : Rd ((w.alloc (.cells namesA 3)).alloc (.cells namesA 3)) ((w.alloc (.cells namesA 3)).alloc (.cells namesA 3)).heap.size 1 (some ⟨w.heap.size + 1, 0, none⟩) 14 (namesL.map (Value.int .i64)) :=
    ⟨rfl, fun _ => ⟨_, _, rfl, by simp, fun j u hu => by
      have := (Blk.new (w.alloc (.cells namesA 3)) 3 namesA).cell j
      rw [World.size_alloc] at this
      rw [Nat.zero_add, this]; exact namesA_get j u hu⟩⟩
  have Hb0 := Lib.hid hb0; have Hr0 := Lib.hid hr0; have Hr1 := Lib.hid hr1
  clear hb0 hr0 hr1
  go_enter Tryd.func4, Tryd.ntmps4
  go_wp2_with fail
  refine (sameInts_eq _ 14 14 _ 14 namesL _ Hr0.out Hr1.out (by omega)).mono ?_
  rintro e w1 ⟨rfl, hb⟩
  have hb1 : Below w.heap.size w w1 := Below.call Hb0.out hb Hb0.out.size
  have hs1 := HS.out.below hb1 hB
  have hz1 : w.heap.size ≤ w1.heap.size := hb1.size
  have g0 : w1.cell? ⟨0, 0, none⟩ = some (sentV (es 0)) := hs1.var 0 (by decide)
  have g1 : w1.cell? ⟨1, 0, none⟩ = some (sentV (es 1)) := hs1.var 1 (by decide)
  have g2 : w1.cell? ⟨2, 0, none⟩ = some (sentV (es 2)) := hs1.var 2 (by decide)
  have g3 : w1.cell? ⟨3, 0, none⟩ = some (sentV (es 3)) := hs1.var 3 (by decide)
  have g4 : w1.cell? ⟨4, 0, none⟩ = some (sentV (es 4)) := hs1.var 4 (by decide)
  have g5 : w1.cell? ⟨5, 0, none⟩ = some (sentV (es 5)) := hs1.var 5 (by decide)
  have g6 : w1.cell? ⟨6, 0, none⟩ = some (sentV (es 6)) := hs1.var 6 (by decide)
  have g7 : w1.cell? ⟨7, 0, none⟩ = some (sentV (es 7)) := hs1.var 7 (by decide)
  have g8 : w1.cell? ⟨8, 0, none⟩ = some (sentV (es 8)) := hs1.var 8 (by decide)
  have g9 : w1.cell? ⟨9, 0, none⟩ = some (sentV (es 9)) := hs1.var 9 (by decide)
  have g10 : w1.cell? ⟨10, 0, none⟩ = some (sentV (es 10)) := hs1.var 10 (by decide)
  have Hb1 := Lib.hid hb1; have Hs1 := Lib.hid hs1
  clear hb hb1 hs1
  go_wp2
  go_loopw [4] (fun i wr => ∃ k : Nat, k ≤ 11 ∧ i = .int .i64 k ∧ (∀ j, j < 11 → wr.cell? ⟨w1.heap.size, j, none⟩ = some (sentV (es j))) ∧ w1.heap.size < wr.heap.size ∧ Sents es B wr ∧ Below w.heap.size w wr) (fun i _ => 11 - (intOf i).toNat)
  case atStart =>
    refine ⟨0, Nat.zero_le _, rfl, fun j hj => ?_, by simp, Hs1.out.alloc (Nat.le_trans hB hz1) _, Below.alloc Hb1.out hz1 _⟩
    rw [(Blk.new w1 _ _).cell]; exact sent_table hj
  case round =>
    obtain ⟨k, hk, rfl, htab, hzr, hsr, hbel⟩ := hrel
    have hwr : w.heap.size ≤ wr.heap.size := hbel.size
    have hBr : B ≤ wr.heap.size := Nat.le_trans hB hwr
    clear g0 g1 g2 g3 g4 g5 g6 g7 g8 g9 g10
    by_cases hk11 : k < 11
    · have e0 := htab k hk11
      have hs2 : Sents es B (wr.alloc (.cells #[.int .i64 7, sentV (es k)] 38)) := hsr.alloc hBr _
      have hb2 : Below w.heap.size w (wr.alloc (.cells #[.int .i64 7, sentV (es k)] 38)) := Below.alloc hbel hwr _
      have hB2 : B ≤ (wr.alloc (.cells #[.int .i64 7, sentV (es k)] 38)).heap.size := by simp; omega
      have ht2 : ∀ W, Below (wr.alloc (.cells #[.int .i64 7, sentV (es k)] 38)).heap.size (wr.alloc (.cells #[.int .i64 7, sentV (es k)] 38)) W → ∀ j, j < 11 → W.cell? ⟨w1.heap.size, j, none⟩ = some (sentV (es j)) := fun W hW j hj => by
        rw [hW.cell (p := ⟨w1.heap.size, j, none⟩) (by simp; omega), World.cell?_alloc_lt _ _ ⟨w1.heap.size, j, none⟩ hzr]; exact htab j hj
      have hf2 : ErrIs es (wr.alloc (.cells #[.int .i64 7, sentV (es k)] 38)) (faultV ⟨wr.heap.size, 0, none⟩) ((k : Int) + 1) 7 := ErrIs.fault hs2 hk11 (by simp) (by simp) (by simp)
      have Hs2 := Lib.hid hs2; have Hb2 := Lib.hid hb2; have Ht2 := Lib.hid ht2; have Hf2 := Lib.hid hf2
      clear htab hsr hbel hs2 hb2 ht2 hf2
      go_wp2_with fail
      refine (code_any _ _ _ _ Hs2.out hB2 Hf2.out).mono ?_
      rintro e w3 ⟨rfl, hb⟩
      have e3 := Ht2.out w3 hb k hk11
      have hz3 := hb.size
      simp only [World.size_alloc] at hz3
      have hs3 := Hs2.out.below hb hB2
      have hB3 : B ≤ w3.heap.size := Nat.le_trans hB2 hb.size
      have hb3 : Below w.heap.size w w3 := Below.call Hb2.out hb Hb2.out.size
      have He3 := Lib.hid (ErrIs.sent hs3 hk11)
      have ht3 := Ht2.out w3 hb
      have Hs3 := Lib.hid hs3; have Hb3 := Lib.hid hb3; have Ht3 := Lib.hid ht3
      clear hb hs3 hb3 ht3 e0
      go_wp2_with fail
      refine (coded_any _ _ _ ((k : Int) + 1) _ Hs3.out hB3 He3.out).mono ?_
      rintro e w4 ⟨rfl, hb⟩
      rw [coded_same]
      have hz4 := hb.size
      have hs4 := Hs3.out.below hb hB3
      have hb4 : Below w.heap.size w w4 := Below.call Hb3.out hb Hb3.out.size
      have ht4 : ∀ j, j < 11 → w4.cell? ⟨w1.heap.size, j, none⟩ = some (sentV (es j)) := fun j hj => (hb.cell (p := ⟨w1.heap.size, j, none⟩) (by show w1.heap.size < _; omega)).trans (Ht3.out j hj)
      have Hs4 := Lib.hid hs4; have Hb4 := Lib.hid hb4; have Ht4 := Lib.hid ht4
      clear hb hs4 hb4 ht4 e3
      go_wp2
      go_roundw
      case rel => exact ⟨k + 1, by omega, by go_num, Ht4.out, by omega, Hs4.out, Hb4.out⟩
      case measure => simp [intOf]; omega
    · obtain rfl : k = 11 := by omega
      have Hsr := Lib.hid hsr; have Hbel := Lib.hid hbel
      clear htab hsr hbel
      go_wp2_with fail
      refine (newErr_any _ _).mono ?_
      rintro e w2 ⟨rfl, hw2⟩
      have hb2 : Below w.heap.size w w2 := by rw [hw2]; exact Below.alloc Hbel.out hwr _
      have hs2 : Sents es B w2 := by rw [hw2]; exact Hsr.out.alloc hBr _
      have hB2 : B ≤ w2.heap.size := by rw [hw2]; simp; omega
      have hblk : ∃ c t, w2.heap[wr.heap.size]? = some (.cells c t (0, 0)) := ⟨_, _, by rw [hw2]; exact heap_alloc_new wr _⟩
      have hne : ∀ j, j < 11 → j < 11 → (⟨wr.heap.size, 0, none⟩ : Addr) ≠ es j := by
        intro j hj _ e
        have h1 := hs2.lt j hj
        rw [← e] at h1
        simp only at h1
        omega
      have Hb2 := Lib.hid hb2; have Hs2 := Lib.hid hs2; have Hblk := Lib.hid hblk; have Hne := Lib.hid hne
      clear hw2 hb2 hs2 hblk hne
      go_wp2_with fail
      refine (code_string ⟨wr.heap.size, 0, none⟩ 11 w2 Hs2.out hB2 (by omega) Hblk.out Hne.out (fun h => absurd h (by omega))).mono ?_
      rintro e w3 ⟨rfl, hb⟩
      rw [numOf_11]
      have Hb3 := Lib.hid (Below.call Hb2.out hb Hb2.out.size)
      have Hs3 := Lib.hid (Hs2.out.below hb hB2)
      have hB3 : B ≤ w3.heap.size := Nat.le_trans hB2 hb.size
      clear hb
      go_wp2_with fail
      refine (coded_any .nilIface 0 (-1) 0 w3 Hs3.out hB3 ErrIs.nil).mono ?_
      rintro e w4 ⟨rfl, hb⟩
      rw [coded_same]
      have Hb4 := Lib.hid (Below.call Hb3.out hb Hb3.out.size)
      clear hb
      go_wp2
      go_ret
      exact ⟨rfl, Hb4.out⟩
end Go.Proofs.YtiohnehccmbplaaDoor
