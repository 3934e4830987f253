/- chunk.split and chunk.Encode by contracts. -/
import Derived.Test.YthgefobcohlegaaGreatDoorMkfX
import Derived.Test.YthgefobcohlegaaGreatDoorMkiX
import Derived.Test.YthgefobcohlegaaGreatDoorMklX
import Derived.OwnWalk
import Derived.Deep.RegionHeld3
namespace Go.Proofs.YthgefobcohlegaaGreatDoor
open Go.RowKit
set_option linter.unusedVariables false

def tsOf (l : List (Int × Int)) : List Int := l.map Prod.fst
def vsOf (l : List (Int × Int)) : List Nat := l.map fun p => p.2.toNat
def rowP (l : List (Int × Int)) : List Bool := bitsN l.length 8 ++ (ticksBits (tsOf l) ++ maskB (vsOf l))
def chunkL (l : List (Int × Int)) : List Nat := sealL (packN (rowP l))
theorem infoU64e : (Tryz.prog.info? 33).map (fun i => (i.zero, i.size, i.bytes)) = some (some (.int .u64 0), 1, 8) := by kernel_rfl
theorem u64_onee (xs : List Nat) : ∀ u ∈ xs.map (fun x : Nat => Value.int .u64 (x : Int)), u.oneCell' = true := by
  intro u hu
  obtain ⟨x, _, rfl⟩ := List.mem_map.1 hu
  rfl

theorem Blk.duo {w : World} {b : Nat} {t : TypeId} {v1 v2 : Value} (h : Blk w b t #[v1, v2]) : w.cell? ⟨b, 0, none⟩ = some v1 ∧ w.cell? ⟨b, 1, none⟩ = some v2 := ⟨h.cell 0, h.cell 1⟩
theorem own_after {W wa : World} {base base' : Nat} {e e' : TypeId} {size n size' n' : Nat} {v v' : Value} {xs xs' : List Value} (h : W.ownsRow base e size v n xs) (h' : W.ownsRow base' e' size' v' n' xs') (hne : e ≠ e') (hg : W.grownBy wa v'.ownBlock) : wa.ownsRow base e size v n xs :=
  ((Fr.refl (fun k => v'.ownBlock = some k) W).grown hg (fun k hk => .inr hk)).own h (fun k hk hs => by
    rcases own_ne_own h h' hne with h0 | h0
    · rw [h0] at hk; cases hk
    · exact h0 (hk.trans hs.symm))

set_option maxRecDepth 100000 in
set_option maxHeartbeats 4000000 in
theorem split_any (A : Option Addr) (n c : Nat) (l : List (Int × Int)) (w : World) (hA : Rd w w.heap.size 2 A n (ptsC l)) (hn : n ≤ 100000) (hl : ∀ p ∈ l, 0 ≤ p.2) :
    Calls Tryz.prog 156 #[.slice A n c] w fun e w' => ∃ v1 v2, e = .returned (.tuple #[v1, v2]) ∧ w'.ownsRow w.heap.size 3 1 v1 n ((tsOf l).map (Value.int .i64)) ∧ w'.ownsRow w.heap.size 33 1 v2 n ((vsOf l).map fun x : Nat => Value.int .u64 (x : Int)) ∧ Below w.heap.size w w' := by
  have hlen : l.length = n := by have := hA.1; rw [flat_len (fun p : Int × Int => [Value.int .i64 p.1, Value.int .u64 p.2]) 2 (fun _ => rfl)] at this; omega
  obtain ⟨i1, hi, hz0, hz1, hz2⟩ := info_parts infoInt
  obtain ⟨i2, hi2, hy0, hy1, hy2⟩ := info_parts infoU64e
  have Hi := Lib.hid hi; have Hz0 := Lib.hid hz0; have Hz1 := Lib.hid hz1; have Hz2 := Lib.hid hz2
  have Hi2 := Lib.hid hi2; have Hy0 := Lib.hid hy0; have Hy1 := Lib.hid hy1; have Hy2 := Lib.hid hy2
  have HA := Lib.hid hA; have Hl := Lib.hid hl; have Hlen := Lib.hid hlen
  clear hi hz0 hz1 hz2 hi2 hy0 hy1 hy2 hA hl hlen
  go_enter Tryz.func156, Tryz.ntmps156
  go_wp2
  go_loopw [2, 3, 8] (fun v1 v2 iv wr => ∃ k : Nat, k ≤ n ∧ iv = .int .i64 k ∧ wr.ownsRow w.heap.size 3 1 v1 k ((tsOf (l.take k)).map (Value.int .i64)) ∧ wr.ownsRow w.heap.size 33 1 v2 k ((vsOf (l.take k)).map fun x : Nat => Value.int .u64 (x : Int)) ∧ Below w.heap.size w wr) (fun _ _ iv _ => n - (intOf iv).toNat)
  case atStart => exact ⟨0, Nat.zero_le _, rfl, World.ownsRow_nil _ _ _ _, World.ownsRow_nil _ _ _ _, Below.refl _ _⟩
  case round =>
    obtain ⟨k, hk, rfl, hown1, hown2, hbel⟩ := hrel
    obtain ⟨A1, c1, rfl, _, _, _⟩ := own_form hown1
    obtain ⟨A2, c2, rfl, _, _, _⟩ := own_form hown2
    have Hown1 := Lib.hid hown1; have Hown2 := Lib.hid hown2; have Hbel := Lib.hid hbel
    have hwr : w.heap.size ≤ wr.heap.size := hbel.size
    clear hown1 hown2 hbel
    by_cases hkn : k < n
    · obtain ⟨bb, off, y, hAe, had, hy, e0, e1⟩ := (HA.out.below Hbel.out).at2 hkn
      subst hAe
      have HK := Lib.hid (Blk.new wr 39 #[.int .i64 y.1, .int .u64 y.2])
      obtain ⟨y1, y2⟩ := y
      simp only at e0 e1 HK
      have hy2 : 0 ≤ y2 := Hl.out _ (List.mem_of_getElem? hy)
      obtain ⟨z, rfl⟩ := Int.eq_ofNat_of_zero_le hy2
      have hk63 : k + 1 ≤ maxLen := by unfold maxLen; omega
      have hk8 : (k + 1) * 8 ≤ 140737488355328 := by omega
      have Hts := Lib.hid (show tsOf (l.take (k + 1)) = tsOf (l.take k) ++ [y1] by unfold tsOf; rw [take_snoc hy, List.map_append]; rfl)
      have Hvs := Lib.hid (show vsOf (l.take (k + 1)) = vsOf (l.take k) ++ [z] by unfold vsOf; rw [take_snoc hy, List.map_append]; rfl)
      have hS0 : (wr.alloc (.cells #[.int .i64 y1, .int .u64 (z : Int)] 39)).heap.size = wr.heap.size + 1 := by simp
      have HoA1 := Lib.hid (show ((wr.alloc (.cells #[.int .i64 y1, .int .u64 (z : Int)] 39)).alloc (.cells #[.int .i64 y1] 3)).drew.ownsRow w.heap.size 3 1 (.slice A1 k c1) k ((tsOf (l.take k)).map (Value.int .i64)) from own_drew ((Hown1.out.alloc _).alloc _))
      have HoA2 := Lib.hid (show ((wr.alloc (.cells #[.int .i64 y1, .int .u64 (z : Int)] 39)).alloc (.cells #[.int .i64 y1] 3)).drew.ownsRow w.heap.size 33 1 (.slice A2 k c2) k ((vsOf (l.take k)).map fun x : Nat => Value.int .u64 (x : Int)) from own_drew ((Hown2.out.alloc _).alloc _))
      have HBA := Lib.hid (show Below w.heap.size w ((wr.alloc (.cells #[.int .i64 y1, .int .u64 (z : Int)] 39)).alloc (.cells #[.int .i64 y1] 3)).drew from (Below.alloc (Below.alloc Hbel.out hwr _) (by simp; omega) _).drew)
      have HKA := Lib.hid (show Blk ((wr.alloc (.cells #[.int .i64 y1, .int .u64 (z : Int)] 39)).alloc (.cells #[.int .i64 y1] 3)).drew wr.heap.size 39 #[.int .i64 y1, .int .u64 (z : Int)] from (HK.out.alloc _).drew)
      have HSA := Lib.hid HKA.out.duo
      have HzA := Lib.hid (show w.heap.size ≤ ((wr.alloc (.cells #[.int .i64 y1, .int .u64 (z : Int)] 39)).alloc (.cells #[.int .i64 y1] 3)).drew.heap.size by simp; omega)
      have HYA := Lib.hid (show Blk ((wr.alloc (.cells #[.int .i64 y1, .int .u64 (z : Int)] 39)).alloc (.cells #[.int .i64 y1] 3)).drew (wr.heap.size + 1) 3 #[.int .i64 y1] from by
        have h := Blk.new (wr.alloc (.cells #[.int .i64 y1, .int .u64 (z : Int)] 39)) 3 #[.int .i64 y1]
        rw [show (wr.alloc (.cells #[.int .i64 y1, .int .u64 (z : Int)] 39)).heap.size = wr.heap.size + 1 by simp] at h
        exact h.drew)
      have HrA := Lib.hid (show Rd ((wr.alloc (.cells #[.int .i64 y1, .int .u64 (z : Int)] 39)).alloc (.cells #[.int .i64 y1] 3)).drew ((wr.alloc (.cells #[.int .i64 y1, .int .u64 (z : Int)] 39)).alloc (.cells #[.int .i64 y1] 3)).drew.heap.size 1 (some ⟨wr.heap.size + 1, 0, none⟩) 1 [.int .i64 y1] from ⟨rfl, fun _ => ⟨_, _, rfl, HYA.out.lt, fun j v hv => by rw [Nat.zero_add, HYA.out.cell]; simpa using hv⟩⟩)
      have HoB1 := Lib.hid (show (((wr.alloc (.cells #[.int .i64 y1, .int .u64 (z : Int)] 39)).alloc (.cells #[.int .i64 y1] 3)).alloc (.cells #[.int .u64 (z : Int)] 33)).drew.ownsRow w.heap.size 3 1 (.slice A1 k c1) k ((tsOf (l.take k)).map (Value.int .i64)) from own_drew (((Hown1.out.alloc _).alloc _).alloc _))
      have HoB2 := Lib.hid (show (((wr.alloc (.cells #[.int .i64 y1, .int .u64 (z : Int)] 39)).alloc (.cells #[.int .i64 y1] 3)).alloc (.cells #[.int .u64 (z : Int)] 33)).drew.ownsRow w.heap.size 33 1 (.slice A2 k c2) k ((vsOf (l.take k)).map fun x : Nat => Value.int .u64 (x : Int)) from own_drew (((Hown2.out.alloc _).alloc _).alloc _))
      have HBB := Lib.hid (show Below w.heap.size w (((wr.alloc (.cells #[.int .i64 y1, .int .u64 (z : Int)] 39)).alloc (.cells #[.int .i64 y1] 3)).alloc (.cells #[.int .u64 (z : Int)] 33)).drew from (Below.alloc (Below.alloc (Below.alloc Hbel.out hwr _) (by simp; omega) _) (by simp; omega) _).drew)
      have HKB := Lib.hid (show Blk (((wr.alloc (.cells #[.int .i64 y1, .int .u64 (z : Int)] 39)).alloc (.cells #[.int .i64 y1] 3)).alloc (.cells #[.int .u64 (z : Int)] 33)).drew wr.heap.size 39 #[.int .i64 y1, .int .u64 (z : Int)] from ((HK.out.alloc _).alloc _).drew)
      have HSB := Lib.hid HKB.out.duo
      have HzB := Lib.hid (show w.heap.size ≤ (((wr.alloc (.cells #[.int .i64 y1, .int .u64 (z : Int)] 39)).alloc (.cells #[.int .i64 y1] 3)).alloc (.cells #[.int .u64 (z : Int)] 33)).drew.heap.size by simp; omega)
      have HYB := Lib.hid (show Blk (((wr.alloc (.cells #[.int .i64 y1, .int .u64 (z : Int)] 39)).alloc (.cells #[.int .i64 y1] 3)).alloc (.cells #[.int .u64 (z : Int)] 33)).drew (wr.heap.size + 1) 3 #[.int .i64 y1] from by
        have h := Blk.new (wr.alloc (.cells #[.int .i64 y1, .int .u64 (z : Int)] 39)) 3 #[.int .i64 y1]
        rw [show (wr.alloc (.cells #[.int .i64 y1, .int .u64 (z : Int)] 39)).heap.size = wr.heap.size + 1 by simp] at h
        exact (h.alloc _).drew)
      have HrB := Lib.hid (show Rd (((wr.alloc (.cells #[.int .i64 y1, .int .u64 (z : Int)] 39)).alloc (.cells #[.int .i64 y1] 3)).alloc (.cells #[.int .u64 (z : Int)] 33)).drew (((wr.alloc (.cells #[.int .i64 y1, .int .u64 (z : Int)] 39)).alloc (.cells #[.int .i64 y1] 3)).alloc (.cells #[.int .u64 (z : Int)] 33)).drew.heap.size 1 (some ⟨wr.heap.size + 1, 0, none⟩) 1 [.int .i64 y1] from ⟨rfl, fun _ => ⟨_, _, rfl, HYB.out.lt, fun j v hv => by rw [Nat.zero_add, HYB.out.cell]; simpa using hv⟩⟩)
      have HVB := Lib.hid (show Blk (((wr.alloc (.cells #[.int .i64 y1, .int .u64 (z : Int)] 39)).alloc (.cells #[.int .i64 y1] 3)).alloc (.cells #[.int .u64 (z : Int)] 33)).drew (wr.heap.size + 2) 33 #[.int .u64 (z : Int)] from by
        have h := Blk.new ((wr.alloc (.cells #[.int .i64 y1, .int .u64 (z : Int)] 39)).alloc (.cells #[.int .i64 y1] 3)) 33 #[.int .u64 (z : Int)]
        rw [show ((wr.alloc (.cells #[.int .i64 y1, .int .u64 (z : Int)] 39)).alloc (.cells #[.int .i64 y1] 3)).heap.size = wr.heap.size + 2 by simp] at h
        exact h.drew)
      have HoC1 := Lib.hid (show (((wr.alloc (.cells #[.int .i64 y1, .int .u64 (z : Int)] 39)).alloc (.cells #[.int .u64 (z : Int)] 33)).alloc (.cells #[.int .i64 y1] 3)).drew.ownsRow w.heap.size 3 1 (.slice A1 k c1) k ((tsOf (l.take k)).map (Value.int .i64)) from own_drew (((Hown1.out.alloc _).alloc _).alloc _))
      have HoC2 := Lib.hid (show (((wr.alloc (.cells #[.int .i64 y1, .int .u64 (z : Int)] 39)).alloc (.cells #[.int .u64 (z : Int)] 33)).alloc (.cells #[.int .i64 y1] 3)).drew.ownsRow w.heap.size 33 1 (.slice A2 k c2) k ((vsOf (l.take k)).map fun x : Nat => Value.int .u64 (x : Int)) from own_drew (((Hown2.out.alloc _).alloc _).alloc _))
      have HBC := Lib.hid (show Below w.heap.size w (((wr.alloc (.cells #[.int .i64 y1, .int .u64 (z : Int)] 39)).alloc (.cells #[.int .u64 (z : Int)] 33)).alloc (.cells #[.int .i64 y1] 3)).drew from (Below.alloc (Below.alloc (Below.alloc Hbel.out hwr _) (by simp; omega) _) (by simp; omega) _).drew)
      have HKC := Lib.hid (show Blk (((wr.alloc (.cells #[.int .i64 y1, .int .u64 (z : Int)] 39)).alloc (.cells #[.int .u64 (z : Int)] 33)).alloc (.cells #[.int .i64 y1] 3)).drew wr.heap.size 39 #[.int .i64 y1, .int .u64 (z : Int)] from ((HK.out.alloc _).alloc _).drew)
      have HSC := Lib.hid HKC.out.duo
      have HzC := Lib.hid (show w.heap.size ≤ (((wr.alloc (.cells #[.int .i64 y1, .int .u64 (z : Int)] 39)).alloc (.cells #[.int .u64 (z : Int)] 33)).alloc (.cells #[.int .i64 y1] 3)).drew.heap.size by simp; omega)
      have HYC := Lib.hid (show Blk (((wr.alloc (.cells #[.int .i64 y1, .int .u64 (z : Int)] 39)).alloc (.cells #[.int .u64 (z : Int)] 33)).alloc (.cells #[.int .i64 y1] 3)).drew (wr.heap.size + 2) 3 #[.int .i64 y1] from by
        have h := Blk.new ((wr.alloc (.cells #[.int .i64 y1, .int .u64 (z : Int)] 39)).alloc (.cells #[.int .u64 (z : Int)] 33)) 3 #[.int .i64 y1]
        rw [show ((wr.alloc (.cells #[.int .i64 y1, .int .u64 (z : Int)] 39)).alloc (.cells #[.int .u64 (z : Int)] 33)).heap.size = wr.heap.size + 2 by simp] at h
        exact h.drew)
      have HrC := Lib.hid (show Rd (((wr.alloc (.cells #[.int .i64 y1, .int .u64 (z : Int)] 39)).alloc (.cells #[.int .u64 (z : Int)] 33)).alloc (.cells #[.int .i64 y1] 3)).drew (((wr.alloc (.cells #[.int .i64 y1, .int .u64 (z : Int)] 39)).alloc (.cells #[.int .u64 (z : Int)] 33)).alloc (.cells #[.int .i64 y1] 3)).drew.heap.size 1 (some ⟨wr.heap.size + 2, 0, none⟩) 1 [.int .i64 y1] from ⟨rfl, fun _ => ⟨_, _, rfl, HYC.out.lt, fun j v hv => by rw [Nat.zero_add, HYC.out.cell]; simpa using hv⟩⟩)
      have HVC := Lib.hid (show Blk (((wr.alloc (.cells #[.int .i64 y1, .int .u64 (z : Int)] 39)).alloc (.cells #[.int .u64 (z : Int)] 33)).alloc (.cells #[.int .i64 y1] 3)).drew (wr.heap.size + 1) 33 #[.int .u64 (z : Int)] from by
        have h := Blk.new (wr.alloc (.cells #[.int .i64 y1, .int .u64 (z : Int)] 39)) 33 #[.int .u64 (z : Int)]
        rw [show (wr.alloc (.cells #[.int .i64 y1, .int .u64 (z : Int)] 39)).heap.size = wr.heap.size + 1 by simp] at h
        exact (h.alloc _).drew)
      have HS0 := Lib.hid (show (wr.alloc (.cells #[.int .i64 y1, .int .u64 (z : Int)] 39)).drew.cell? ⟨wr.heap.size, 0, none⟩ = some (.int .i64 y1) ∧ (wr.alloc (.cells #[.int .i64 y1, .int .u64 (z : Int)] 39)).drew.cell? ⟨wr.heap.size, 1, none⟩ = some (.int .u64 (z : Int)) from HK.out.drew.duo)
      have HSD := Lib.hid (show ((wr.alloc (.cells #[.int .i64 y1, .int .u64 (z : Int)] 39)).alloc (.cells #[.int .u64 (z : Int)] 33)).drew.cell? ⟨wr.heap.size, 0, none⟩ = some (.int .i64 y1) ∧ ((wr.alloc (.cells #[.int .i64 y1, .int .u64 (z : Int)] 39)).alloc (.cells #[.int .u64 (z : Int)] 33)).drew.cell? ⟨wr.heap.size, 1, none⟩ = some (.int .u64 (z : Int)) from (HK.out.alloc _).drew.duo)
      have tok1 : True := trivial
      clear hS0 hy hy2
      go_wp2
      go_region_held3 (fun w' => w'.cell? ⟨wr.heap.size, 0, none⟩ = some (.int .i64 y1) ∧ w'.cell? ⟨wr.heap.size, 1, none⟩ = some (.int .u64 (z : Int)))
        (first | with_reducible exact HS0.out | with_reducible exact HSD.out | with_reducible exact HSA.out | with_reducible exact HSB.out | with_reducible exact HSC.out | with_reducible exact HS2.out | with_reducible exact HS3.out | with_reducible exact HS4.out)
        (first
          | (have htok := tok1; refine step_append_rd _ rfl (.tmp 12) (.tmp 15) _ rfl w.heap.size 3 i1 (.int .i64 0) 1 8 Tryz.underlying61 Hi.out Hz0.out Hz1.out Hz2.out rfl (by decide) (.slice A1 k c1) k _ rfl (by with_reducible exact HoA1.out) _ _ 1 1 [.int .i64 y1] rfl (by with_reducible exact HrA.out) (int_one [y1]) hk63 hk8 (by with_reducible exact HzA.out) ?_; intro v1' wa hown' hgr hat; clear htok tok1; have hKa := HKA.out.grown hgr (own_ne_blk HoA1.out HKA.out (by decide)); have HS2 := Lib.hid hKa.duo; have hBa := Below.grown HBA.out hgr HzA.out (fun g hg => (own_lt HoA1.out g hg).1); have how2 := own_after HoA2.out HoA1.out (by decide) hgr; have Hw1 := Lib.hid (hown'.alloc (.cells #[.int .u64 (z : Int)] 33)); have Hw2 := Lib.hid (how2.alloc (.cells #[.int .u64 (z : Int)] 33)); have HBa := Lib.hid (Below.alloc hBa hBa.size (.cells #[.int .u64 (z : Int)] 33)); have Hsz2 := Lib.hid (show w.heap.size ≤ (wa.alloc (.cells #[.int .u64 (z : Int)] 33)).heap.size from HBa.out.size); have HKa := Lib.hid (hKa.alloc (.cells #[.int .u64 (z : Int)] 33)); have HS3 := Lib.hid HKa.out.duo; have HrZ := Lib.hid (Rd.one wa 33 (.int .u64 (z : Int))); clear hown' hgr hat hBa how2 hKa)
          | (have htok := tok1; refine step_append_rd _ rfl (.tmp 12) (.tmp 15) _ rfl w.heap.size 3 i1 (.int .i64 0) 1 8 Tryz.underlying61 Hi.out Hz0.out Hz1.out Hz2.out rfl (by decide) (.slice A1 k c1) k _ rfl (by with_reducible exact HoB1.out) _ _ 1 1 [.int .i64 y1] rfl (by with_reducible exact HrB.out) (int_one [y1]) hk63 hk8 (by with_reducible exact HzB.out) ?_; intro v1' wa hown' hgr hat; clear htok tok1; have hKa := HKB.out.grown hgr (own_ne_blk HoB1.out HKB.out (by decide)); have HS2 := Lib.hid hKa.duo; have hBa := Below.grown HBB.out hgr HzB.out (fun g hg => (own_lt HoB1.out g hg).1); have how2 := own_after HoB2.out HoB1.out (by decide) hgr; have Hw1 := Lib.hid hown'; have Hw2 := Lib.hid how2; have HBa := Lib.hid hBa; have Hsz2 := Lib.hid hBa.size; have HKa := Lib.hid hKa; have hVa := HVB.out.grown hgr (own_ne_blk HoB1.out HVB.out (by decide)); have HrZ := Lib.hid (show Rd wa wa.heap.size 1 (some ⟨wr.heap.size + 2, 0, none⟩) 1 [.int .u64 (z : Int)] from ⟨rfl, fun _ => ⟨_, _, rfl, hVa.lt, fun j v hv => by rw [Nat.zero_add, hVa.cell]; simpa using hv⟩⟩); clear hVa; clear hown' hgr hat hBa how2 hKa)
          | (have htok := tok1; refine step_append_rd _ rfl (.tmp 12) (.tmp 15) _ rfl w.heap.size 3 i1 (.int .i64 0) 1 8 Tryz.underlying61 Hi.out Hz0.out Hz1.out Hz2.out rfl (by decide) (.slice A1 k c1) k _ rfl (by with_reducible exact HoC1.out) _ _ 1 1 [.int .i64 y1] rfl (by with_reducible exact HrC.out) (int_one [y1]) hk63 hk8 (by with_reducible exact HzC.out) ?_; intro v1' wa hown' hgr hat; clear htok tok1; have hKa := HKC.out.grown hgr (own_ne_blk HoC1.out HKC.out (by decide)); have HS2 := Lib.hid hKa.duo; have hBa := Below.grown HBC.out hgr HzC.out (fun g hg => (own_lt HoC1.out g hg).1); have how2 := own_after HoC2.out HoC1.out (by decide) hgr; have Hw1 := Lib.hid hown'; have Hw2 := Lib.hid how2; have HBa := Lib.hid hBa; have Hsz2 := Lib.hid hBa.size; have HKa := Lib.hid hKa; have hVa := HVC.out.grown hgr (own_ne_blk HoC1.out HVC.out (by decide)); have HrZ := Lib.hid (show Rd wa wa.heap.size 1 (some ⟨wr.heap.size + 1, 0, none⟩) 1 [.int .u64 (z : Int)] from ⟨rfl, fun _ => ⟨_, _, rfl, hVa.lt, fun j v hv => by rw [Nat.zero_add, hVa.cell]; simpa using hv⟩⟩); clear hVa; clear hown' hgr hat hBa how2 hKa)
          | (refine step_append_rd _ rfl (.tmp 17) (.tmp 20) _ rfl w.heap.size 33 i2 (.int .u64 0) 1 8 Tryz.underlying246 Hi2.out Hy0.out Hy1.out Hy2.out rfl (by decide) (.slice A2 k c2) k _ rfl (by with_reducible exact Hw2.out) _ _ 1 1 [.int .u64 (z : Int)] rfl (by with_reducible exact HrZ.out) (u64_onee [z]) hk63 hk8 (by with_reducible exact Hsz2.out) ?_; intro v2' wb hown' hgr hat; have Hv2 := Lib.hid hown'; have Hv1 := Lib.hid (own_after Hw1.out Hw2.out (by decide) hgr); have HBb := Lib.hid (Below.grown HBa.out hgr Hsz2.out (fun g hg => (own_lt Hw2.out g hg).1)); have HS4 := Lib.hid (HKa.out.grown hgr (own_ne_blk Hw2.out HKa.out (by decide))).duo; clear hown' hgr hat))
      all_goals
        go_wp2
        go_roundw
        case rel => exact ⟨k + 1, by omega, by go_num, by rw [Hts.out, List.map_append]; exact Hv1.out, by rw [Hvs.out, List.map_append]; exact Hv2.out, HBb.out⟩
        case measure => simp [intOf]; omega
    · obtain rfl : k = n := by omega
      have e1 : tsOf (l.take k) = tsOf l := by rw [List.take_of_length_le (by rw [Hlen.out]; exact Nat.le_refl _)]
      have e2 : vsOf (l.take k) = vsOf l := by rw [List.take_of_length_le (by rw [Hlen.out]; exact Nat.le_refl _)]
      have Ho1 := Lib.hid (by rw [← e1]; exact Hown1.out : wr.ownsRow w.heap.size 3 1 _ k ((tsOf l).map (Value.int .i64)))
      have Ho2 := Lib.hid (by rw [← e2]; exact Hown2.out : wr.ownsRow w.heap.size 33 1 _ k ((vsOf l).map fun x : Nat => Value.int .u64 (x : Int)))
      clear e1 e2
      go_wp2
      go_ret2
      exact ⟨_, _, rfl, Ho1.out, Ho2.out, Hbel.out⟩

theorem ticksBits_le (l : List Int) : (ticksBits l).length ≤ 68 * l.length := by
  have h : ∀ s : List Int, (wavesL s).length ≤ 68 * s.length := by
    intro s
    induction s with
    | nil => simp [wavesL]
    | cons a s ih =>
      have e : wavesL (a :: s) = waveBits a ++ wavesL s := by simp [wavesL]
      have h1 := waveBits_len a
      have h2 := sizeN_bd a
      rw [e, List.length_append, List.length_cons]; omega
  have := h (stepsL l)
  rw [stepsL_len] at this; exact this
theorem okAt_tick {l : List (Int × Int)} {n : Nat} (hlen : l.length = n) (h : ∀ j, j < n → okAt l j) : ∀ t ∈ tsOf l, Tick t := by
  intro t ht
  obtain ⟨p, hp, rfl⟩ := List.mem_map.1 ht
  obtain ⟨j, hj, rfl⟩ := List.getElem_of_mem hp
  have := (h j (by omega)).1
  rw [getD_pt (List.getElem?_eq_getElem hj)] at this
  exact this
theorem vsOf_lt {l : List (Int × Int)} (h : ∀ p ∈ l, 0 ≤ p.2 ∧ p.2 < 18446744073709551616) : ∀ x ∈ vsOf l, x < 18446744073709551616 := by
  intro x hx
  obtain ⟨p, hp, rfl⟩ := List.mem_map.1 hx
  have := h p hp
  omega
theorem check_long {es : Nat → Addr} {B : Nat} (A : Option Addr) (n c : Nat) (w : World) (hS : SV es B w) (hn : 120 < n) :
    Calls Tryz.prog 154 #[.slice A n c] w fun e w' => e = .returned (sentV (es 1)) ∧ w = w' := by
  have g1 : w.cell? ⟨0, 0, none⟩ = some (sentV (es 1)) := hS.var 1 (by decide)
  have hn' : (120 : Int) < n := by omega
  clear hS
  go_enter Tryz.func154, Tryz.ntmps154
  go_wp2
  go_ret
  exact ⟨rfl, rfl⟩
theorem encode_long {es : Nat → Addr} {B : Nat} (A : Option Addr) (n c : Nat) (w : World) (hS : SV es B w) (hn : 120 < n) :
    Calls Tryz.prog 120 #[.slice A n c] w fun e w' => e = .returned (.tuple #[.string ByteArray.empty, sentV (es 1)]) ∧ w = w' := by
  have Hc := Lib.hid (check_long A n c w hS hn)
  clear hS
  go_enter Tryz.func120, Tryz.ntmps120
  go_wp2_with fail
  refine Hc.out.mono ?_
  rintro e w' ⟨rfl, rfl⟩
  go_wp2
  go_ret2
  exact ⟨rfl, rfl⟩
theorem encode_bad {es : Nat → Addr} {B : Nat} (A : Option Addr) (n c : Nat) (l : List (Int × Int)) (i : Nat) (w : World) (hS : SV es B w) (hB0 : B ≤ w.heap.size) (hA : Rd w w.heap.size 2 A n (ptsC l)) (hn : n ≤ 120) (hi : i < n) (hok : ∀ j, j < i → okAt l j) (hbad : ¬ okAt l i) :
    Calls Tryz.prog 120 #[.slice A n c] w fun e w' => ∃ pb, e = .returned (.tuple #[.string ByteArray.empty, faultV ⟨pb, 0, none⟩]) ∧ w.heap.size ≤ pb ∧ pb < w'.heap.size ∧ w'.cell? ⟨pb, 0, none⟩ = some (.int .i64 i) ∧ w'.cell? ⟨pb, 1, none⟩ = some (sentV (es (codeAt l i))) ∧ Below w.heap.size w w' := by
  have Hc := Lib.hid (check_any A n c l i w hS hB0 hA hn (by omega) hok (fun _ => hbad))
  have Hi := Lib.hid hi
  clear hS hA hok hbad hi
  go_enter Tryz.func120, Tryz.ntmps120
  go_wp2_with fail
  refine Hc.out.mono ?_
  rintro e w1 ⟨_, hb, hbel⟩
  obtain ⟨pb, rfl, h1, h2, h3, h4⟩ := hb Hi.out
  have HX := Lib.hid (And.intro h1 (And.intro h2 (And.intro h3 (And.intro h4 hbel))))
  clear hb hbel h1 h2 h3 h4
  go_wp2
  go_ret2
  exact ⟨pb, rfl, HX.out⟩

set_option maxRecDepth 100000 in
set_option maxHeartbeats 4000000 in
theorem encode_ok {es : Nat → Addr} {B : Nat} (A : Option Addr) (n c : Nat) (l : List (Int × Int)) (w : World) (hS : SV es B w) (hT : TabAt w) (hB0 : B ≤ w.heap.size) (hA : Rd w w.heap.size 2 A n (ptsC l)) (hn : n ≤ 120) (hok : ∀ j, j < n → okAt l j) (hl : ∀ p ∈ l, 0 ≤ p.2 ∧ p.2 < 18446744073709551616) :
    Calls Tryz.prog 120 #[.slice A n c] w fun e w' => e = .returned (.tuple #[.string (bytesOf (chunkL l)), .nilIface]) ∧ Below w.heap.size w w' := by
  have hlen : l.length = n := by have := hA.1; rw [flat_len (fun p : Int × Int => [Value.int .i64 p.1, Value.int .u64 p.2]) 2 (fun _ => rfl)] at this; omega
  have hn' : (n : Int) ≤ 120 := by omega
  have ht := okAt_tick hlen hok
  have hv := vsOf_lt hl
  have hlt : (tsOf l).length = n := by unfold tsOf; rw [List.length_map, hlen]
  have hlv : (vsOf l).length = n := by unfold vsOf; rw [List.length_map, hlen]
  have htb := ticksBits_le (tsOf l)
  have hmb : (maskB (vsOf l)).length ≤ 256 * n := by
    have := sumN_mP (vsOf l) n hv (by omega)
    unfold maskB; rw [hlv]; exact this
  have hb8 : (bitsN n 8).length = 8 := bitsN_len _ _
  have Hc := Lib.hid (check_any A n c l n w hS hB0 hA hn (Nat.le_refl _) hok (fun h => absurd h (Nat.lt_irrefl _)))
  have HT := Lib.hid hT; have HA := Lib.hid hA; have Hl := Lib.hid hl; have Ht := Lib.hid ht; have Hv := Lib.hid hv
  have Hlen := Lib.hid hlen
  have hu : IntKind.u64.wrap (n : Int) = (n : Int) := by rw [IntKind.wrap_u64]; omega
  have Hroom := Lib.hid (show ([] ++ bitsN n 8 : List Bool).length = 8 ∧ (ticksBits (tsOf l)).length ≤ 8160 ∧ (maskB (vsOf l)).length ≤ 30720 from ⟨by rw [List.nil_append, hb8], by rw [hlt] at htb; omega, by omega⟩)
  clear hS hT hA hok hl ht hv htb hmb hlt hlv hlen hb8
  go_enter Tryz.func120, Tryz.ntmps120
  go_wp2_with fail
  refine Hc.out.mono ?_
  rintro e w1 ⟨hnil, _, hb⟩
  obtain rfl := hnil rfl
  have hB1 := Lib.hid hb
  clear hnil hb
  go_wp2_with fail
  refine (new_any _).mono ?_
  rintro e w2 ⟨rfl, hw2⟩
  have hr2 : RowAt w2 w1.heap.size (.slice none 0 0) [] := by rw [hw2]; exact new_row w1
  have hB2 := Lib.hid (show Below w.heap.size w w2 by rw [hw2]; exact Below.alloc hB1.out hB1.out.size _)
  have hg : w.heap.size ≤ w1.heap.size := hB1.out.size
  generalize hgg : w1.heap.size = g at hr2 hg
  have Hr2 := Lib.hid hr2
  clear hw2 hr2 hgg hB1
  go_wp2_with fail
  refine (split_any A n c l _ ((HA.out.below hB2.out).more hB2.out.size) (by omega) (fun p hp => (Hl.out p hp).1)).mono ?_
  rintro e w3 ⟨v1, v2, rfl, ho1, ho2, hb⟩
  obtain ⟨A1, c1, rfl, _, _, _⟩ := own_form ho1
  obtain ⟨A2, c2, rfl, _, _, _⟩ := own_form ho2
  have hB3 := Lib.hid (Below.call hB2.out hb hB2.out.size)
  have Hr3 := Lib.hid (Hr2.out.below hb (Nat.le_refl _))
  have Ho1 := Lib.hid ho1; have Ho2 := Lib.hid ho2
  clear hb ho1 ho2
  go_wp2_with fail
  refine (put_any g (.slice none 0 0) [] (n : Int) 8 _ Hr3.out (by omega) (by omega) (by simp) (by omega) (by omega)).mono ?_
  rintro e w4 ⟨rfl, hst⟩
  rw [Int.toNat_natCast, show (8 : Int).toNat = 8 from rfl] at hst
  have hb4 := Below.trans hB3.out (hst.below (B := w.heap.size) Hr3.out hg)
  have ho14 := hst.own Hr3.out Ho1.out (by decide) (by decide)
  have ho24 := hst.own Hr3.out Ho2.out (by decide) (by decide)
  obtain ⟨bv4, hr4, _, _⟩ := hst
  have hB4 := Lib.hid hb4; have Hr4 := Lib.hid hr4; have Ho14 := Lib.hid ho14; have Ho24 := Lib.hid ho24
  clear hb4 hr4 ho14 ho24
  go_wp2_with fail
  refine (ticks_ok g bv4 ([] ++ bitsN n 8) A1 n c1 (tsOf l) _ Hr4.out (Rd.of_own Ho14.out) (by omega) Ht.out (by have h := Hroom.out; omega)).mono ?_
  rintro e w5 ⟨rfl, hst⟩
  have hb5 := Below.trans hB4.out (hst.below (B := w.heap.size) Hr4.out hg)
  have ho25 := hst.own Hr4.out Ho24.out (by decide) (by decide)
  obtain ⟨bv5, hr5, _, _⟩ := hst
  have hB5 := Lib.hid hb5; have Hr5 := Lib.hid hr5; have Ho25 := Lib.hid ho25
  clear hb5 hr5 ho25
  go_wp2_with fail
  refine (mput_ok g bv5 (([] ++ bitsN n 8) ++ ticksBits (tsOf l)) A2 n c2 (vsOf l) _ Hr5.out (HT.out.call hB5.out (Nat.le_refl _)) (Rd.of_own Ho25.out) (by omega) Hv.out (by have h := Hroom.out; rw [List.length_append]; omega)).mono ?_
  rintro e w6 ⟨rfl, hst⟩
  rw [show (([] ++ bitsN n 8) ++ ticksBits (tsOf l)) ++ maskB (vsOf l) = rowP l by unfold rowP; rw [Hlen.out, List.nil_append, List.append_assoc]] at hst
  have hb6 := Below.trans hB5.out (hst.below (B := w.heap.size) Hr5.out hg)
  obtain ⟨bv6, hr6, _, _⟩ := hst
  have hB6 := Lib.hid hb6; have Hr6 := Lib.hid hr6
  clear hb6 hr6
  go_wp2_with fail
  refine (bytes_any g bv6 (rowP l) _ Hr6.out).mono ?_
  rintro e w' ⟨rfl, rfl⟩
  have hpl : (packN (rowP l)).length ≤ 5000 := by
    rw [packN_len]
    have h := Hroom.out
    have : (rowP l).length = 8 + ((ticksBits (tsOf l)).length + (maskB (vsOf l)).length) := by unfold rowP; rw [List.length_append, List.length_append, bitsN_len]
    omega
  have hp256 := packN_256 (rowP l)
  have Hfin := Lib.hid (show bytesOf (packN (rowP l)) ++ bytesOf (fourL (sumL (packN (rowP l)))) = bytesOf (chunkL l) by rw [bytesOf_append]; rfl)
  have hsz : (bytesOf (packN (rowP l))).size ≤ 5000 := by rw [bytesOf_size]; exact hpl
  have hs4 : (bytesOf (fourL (sumL (packN (rowP l))))).size = 4 := bytesOf_size _
  have Hsum := Lib.hid (fun W => sum_any (packN (rowP l)) hp256 (by omega) W)
  have Hfour := Lib.hid (fun W => cfour_any (sumL (packN (rowP l))) (sumL_lt _) W)
  generalize bytesOf (packN (rowP l)) = st at hsz Hsum Hfin ⊢
  generalize bytesOf (fourL (sumL (packN (rowP l)))) = t4 at hs4 Hfour Hfin
  generalize sumL (packN (rowP l)) = z at Hsum Hfour
  clear hp256 hpl
  go_wp2_with fail
  refine (Hsum.out _).mono ?_
  rintro e w'' ⟨rfl, rfl⟩
  go_wp2_with fail
  refine (Hfour.out _).mono ?_
  rintro e w7 ⟨rfl, hb⟩
  have hB7 := Lib.hid (Below.call hB6.out hb hB6.out.size)
  clear hb
  go_wp2
  go_ret2
  exact ⟨congrArg (fun b => Ending.returned (.tuple #[.string b, .nilIface])) Hfin.out, hB7.out⟩
end Go.Proofs.YthgefobcohlegaaGreatDoor
