/- package wave's forms by their contracts: has, of, head, Size: for every number. -/
import Derived.Test.YtfkklcmepcocoaaGreatDoorProg
import Derived.Test.YtfkklcmepcocoaaGreatDoorBase
namespace Go.Proofs.YtfkklcmepcocoaaGreatDoor
open Go.RowKit
set_option linter.unusedVariables false

/-- The form of a number: how many bits are 1 at its head; how many follow. -/
def ofK (n : Int) : Nat := if n = 0 then 0 else if -64 < n ∧ n ≤ 64 then 1 else if -256 < n ∧ n ≤ 256 then 2 else if -2048 < n ∧ n ≤ 2048 then 3 else 4
def wideK (k : Nat) : Int := match k with | 0 => 0 | 1 => 7 | 2 => 9 | 3 => 12 | _ => 64
def mostW (wd : Int) : Int := if wd = 7 then 64 else if wd = 9 then 256 else 2048
def hasB (wd n : Int) : Bool := if wd = 0 then decide (n = 0) else if wd = 64 then true else decide (-(mostW wd) < n ∧ n ≤ mostW wd)
def headV (k : Nat) : Int := match k with | 0 => 0 | 1 => 2 | 2 => 6 | 3 => 14 | _ => 15
def headN (k : Nat) : Int := match k with | 0 => 1 | 1 => 2 | 2 => 3 | _ => 4
def sizeN (n : Int) : Int := headN (ofK n) + wideK (ofK n)
def formsL : List (Int × Int) := [(0, 0), (1, 7), (2, 9), (3, 12), (4, 64)]

theorem ofK_le (n : Int) : ofK n ≤ 4 := by unfold ofK; repeat' split
                                           all_goals omega
theorem forms_get (k : Nat) (hk : k ≤ 4) : formsL[k]? = some ((k : Int), wideK k) := by
  rcases k with _ | _ | _ | _ | _ | k
  · rfl
  · rfl
  · rfl
  · rfl
  · rfl
  · omega
theorem hasB_of (n : Int) : hasB (wideK (ofK n)) n = true := by
  unfold ofK
  split
  · rename_i h; simp [wideK, hasB, h]
  · split
    · rename_i h; simp [wideK, hasB, mostW]; omega
    · split
      · rename_i h; simp [wideK, hasB, mostW]; omega
      · split
        · rename_i h; simp [wideK, hasB, mostW]; omega
        · simp [wideK, hasB]
theorem hasB_before (n : Int) (k : Nat) (h : k < ofK n) : hasB (wideK k) n = false := by
  have h4 := ofK_le n
  have hc : (k = 0 ∨ k = 1 ∨ k = 2 ∨ k = 3) := by omega
  unfold ofK at h
  split at h
  · omega
  · rename_i h0
    split at h
    · obtain rfl : k = 0 := by omega
      simp [wideK, hasB, h0]
    · rename_i h1
      split at h
      · rcases hc with rfl | rfl | rfl | rfl
        · simp [wideK, hasB, h0]
        · simp [wideK, hasB, mostW]; omega
        · omega
        · omega
      · rename_i h2
        split at h
        · rcases hc with rfl | rfl | rfl | rfl
          · simp [wideK, hasB, h0]
          · simp [wideK, hasB, mostW]; omega
          · simp [wideK, hasB, mostW]; omega
          · omega
        · rename_i h3
          rcases hc with rfl | rfl | rfl | rfl
          · simp [wideK, hasB, h0]
          · simp [wideK, hasB, mostW]; omega
          · simp [wideK, hasB, mostW]; omega
          · simp [wideK, hasB, mostW]; omega

theorem has_zero (o n : Int) (w : World) : Calls Tryz.prog 243 #[.agg #[.int .i64 o, .int .i64 0], .int .i64 n] w fun e w' => e = .returned (.bool (hasB 0 n)) ∧ Below w.heap.size w w' := by
  by_cases h : n = 0
  · subst h
    have e : hasB 0 0 = true := rfl
    rw [e]
    go_enter Tryz.func243, Tryz.ntmps243
    go_wp2
    go_ret
    exact ⟨rfl, by go_grown⟩
  · have e : hasB 0 n = false := by simp [hasB, h]
    have h' : (n == 0) = false := by simpa using h
    rw [e]
    clear h
    go_enter Tryz.func243, Tryz.ntmps243
    go_wp2
    go_ret
    exact ⟨rfl, by go_grown⟩
theorem has_all (o n : Int) (w : World) : Calls Tryz.prog 243 #[.agg #[.int .i64 o, .int .i64 64], .int .i64 n] w fun e w' => e = .returned (.bool (hasB 64 n)) ∧ Below w.heap.size w w' := by
  have e : hasB 64 n = true := rfl
  rw [e]
  go_enter Tryz.func243, Tryz.ntmps243
  go_wp2
  go_ret
  exact ⟨rfl, by go_grown⟩
theorem has_mid (o wd n : Int) (w : World) (hw : wd = 7 ∨ wd = 9 ∨ wd = 12) : Calls Tryz.prog 243 #[.agg #[.int .i64 o, .int .i64 wd], .int .i64 n] w fun e w' => e = .returned (.bool (hasB wd n)) ∧ Below w.heap.size w w' := by
  have h1 : -(mostW wd) < n ∨ n ≤ -(mostW wd) := by omega
  have h2 : n ≤ mostW wd ∨ mostW wd < n := by omega
  have e : hasB wd n = decide (-(mostW wd) < n ∧ n ≤ mostW wd) := by rcases hw with rfl | rfl | rfl <;> rfl
  rcases hw with rfl | rfl | rfl <;> simp only [show mostW 7 = 64 from rfl, show mostW 9 = 256 from rfl, show mostW 12 = 2048 from rfl] at h1 h2 e <;> rcases h1 with h1 | h1 <;> rcases h2 with h2 | h2 <;> (try omega)
  all_goals
    simp only [e]
    clear e
    first
      | rw [decide_eq_true (⟨h1, h2⟩ : _ ∧ _)]
      | rw [decide_eq_false (by omega)]
    go_enter Tryz.func243, Tryz.ntmps243
    go_wp2
    go_ret
    refine ⟨?_, by go_grown⟩
    first | rfl | (simp; omega)
theorem has_any (y : Int × Int) (hy : y ∈ formsL) (n : Int) (w : World) : Calls Tryz.prog 243 #[.agg #[.int .i64 y.1, .int .i64 y.2], .int .i64 n] w fun e w' => e = .returned (.bool (hasB y.2 n)) ∧ Below w.heap.size w w' := by
  simp only [formsL, List.mem_cons, List.not_mem_nil, or_false] at hy
  rcases hy with rfl | rfl | rfl | rfl | rfl
  · exact has_zero _ _ _
  · exact has_mid _ _ _ _ (by simp)
  · exact has_mid _ _ _ _ (by simp)
  · exact has_mid _ _ _ _ (by simp)
  · exact has_all _ _ _

def formCells : Array Value := #[.int .i64 0, .int .i64 0, .int .i64 1, .int .i64 7, .int .i64 2, .int .i64 9, .int .i64 3, .int .i64 12, .int .i64 4, .int .i64 64]
theorem forms_any (w : World) : Calls Tryz.prog 242 #[] w fun e w' => e = .returned (.slice (some ⟨w.heap.size, 0, none⟩) 5 5) ∧ w' = w.alloc (.cells formCells 290) := by
  go_enter Tryz.func242, Tryz.ntmps242
  go_wp2
  go_ret
  exact ⟨rfl, rfl⟩
theorem forms_rd (w : World) {w' : World} (hw : w' = w.alloc (.cells formCells 290)) : Rd w' (w.heap.size + 1) 2 (some ⟨w.heap.size, 0, none⟩) 5 (formsL.flatMap fun y => [.int .i64 y.1, .int .i64 y.2]) := by
  subst hw
  refine ⟨rfl, fun _ => ⟨w.heap.size, 0, rfl, Nat.lt_succ_self _, fun j u hu => ?_⟩⟩
  rw [Nat.zero_add, (Blk.new w _ _).cell]
  have e : formCells = (formsL.flatMap fun y => [Value.int .i64 y.1, Value.int .i64 y.2]).toArray := rfl
  rw [e]
  simpa using hu

set_option maxHeartbeats 400000 in
theorem of_any (n : Int) (w : World) : Calls Tryz.prog 210 #[.int .i64 n] w fun e w' => e = .returned (.agg #[.int .i64 (ofK n), .int .i64 (wideK (ofK n))]) ∧ Below w.heap.size w w' := by
  have hK := ofK_le n
  go_enter Tryz.func210, Tryz.ntmps210
  go_wp2_with fail
  refine (forms_any _).mono ?_
  rintro e w1 ⟨rfl, hw1⟩
  have hrd := forms_rd _ hw1
  have hz1 : w1.heap.size = w.heap.size + 1 + 1 := by rw [hw1]; simp
  have hb1 : Below w.heap.size w w1 := by rw [hw1]; go_grown
  have hB1 : Blk w1 w.heap.size 290 #[.int .i64 0, .int .i64 0] := by
    rw [hw1]; exact (Blk.new w _ _).alloc _
  clear hw1
  simp only [World.size_alloc] at hrd
  have Hrd := Lib.hid hrd; have Hz1 := Lib.hid hz1; have Hb1 := Lib.hid hb1; have HB1 := Lib.hid hB1
  clear hrd hz1 hb1 hB1
  go_wp2
  go_loopw [7] (fun i wr => ∃ k : Nat, k ≤ ofK n ∧ i = .int .i64 k ∧ Below w1.heap.size w1 wr) (fun i _ => 5 - (intOf i).toNat)
  case atStart => exact ⟨0, Nat.zero_le _, rfl, Below.refl _ _⟩
  case round =>
    obtain ⟨k, hk, rfl, hbel⟩ := hrel
    obtain ⟨bb, off, y, hA, had, hy, e0, e1⟩ := (Hrd.out.below (hbel.mono (by rw [Hz1.out]; exact Nat.le_refl _))).at2 (k := k) (by omega)
    have hyv : y = ((k : Int), wideK k) := Option.some.inj (hy.symm.trans (forms_get k (by omega)))
    have hmem : y ∈ formsL := List.mem_of_getElem? hy
    injection hA with hA
    injection hA with hA1 hA2
    subst hA1; subst hA2
    simp only [Nat.zero_add] at e0 e1
    have Hy := Lib.hid hy; have Hyv := Lib.hid hyv; have Hbel := Lib.hid hbel; have Hmem := Lib.hid hmem
    clear hy hyv hbel hmem
    have hz : w.heap.size + 1 < wr.heap.size := by have := Hbel.out.size; rw [Hz1.out] at this; omega
    by_cases hlt : k < ofK n
    · have hh : hasB y.2 n = false := by rw [Hyv.out]; exact hasB_before n k hlt
      go_wp2_with (go_at_call 243; refine (has_any y Hmem.out n _).mono ?_; rintro e w2 ⟨rfl, hb2⟩; have hb2 := Lib.hid hb2)
      go_roundw
      case rel => exact ⟨k + 1, by omega, by go_num, Below.call (Below.alloc Hbel.out Hbel.out.size _) hb2.out (by have := Hbel.out.size; simp; omega)⟩
      case measure => simp [intOf]; omega
    · have hkk : k = ofK n := by omega
      have hh : hasB y.2 n = true := by rw [Hyv.out, hkk]; exact hasB_of n
      have Hkk := Lib.hid hkk
      clear hkk
      have hB2 : ∀ w2 : World, Below (wr.alloc (.cells #[.int .i64 y.1, .int .i64 y.2] 290)).heap.size (wr.alloc (.cells #[.int .i64 y.1, .int .i64 y.2] 290)) w2 →
          (Blk w2 w.heap.size 290 #[.int .i64 0, .int .i64 0] ∧ Blk w2 wr.heap.size 290 #[.int .i64 y.1, .int .i64 y.2] ∧ Below w.heap.size w w2) := by
        intro w2 hb2
        have q := HB1.out.below Hbel.out HB1.out.lt
        refine ⟨(q.alloc _).below hb2 (by simp; omega), (Blk.new wr _ _).below hb2 (by simp), ?_⟩
        exact Below.call (Below.alloc (Below.trans Hb1.out (Hbel.out.mono (by rw [Hz1.out]; omega))) (by omega) _) hb2 (by simp; omega)
      have HB2 := Lib.hid hB2
      clear hB2
      go_wp2_with (go_at_call 243; refine (has_any y Hmem.out n _).mono ?_; rintro e w2 ⟨rfl, hb2⟩; obtain ⟨b0, b1, b2⟩ := HB2.out w2 hb2; have z0 := b0.cell 0; have z1 := b0.cell 1; have f0 := b0.frozen 0; have f1 := b0.frozen 1; have y0 := b1.cell 0; have y1 := b1.cell 1; have b2 := Lib.hid b2; clear b0 b1 hb2; simp only [List.getElem?_toArray, List.getElem?_cons_zero, List.getElem?_cons_succ] at z0 z1 y0 y1)
      refine bodyPost_ret (v := .agg #[.int .i64 y.1, .int .i64 y.2]) (by simp [results, Tryz.results210, go_sem, z0, z1]) rfl ?_
      refine ⟨?_, (b2.out.setCell (by simp) _).setCell (by simp) _⟩
      rw [Hyv.out, ← Hkk.out]

theorem head_any (k : Nat) (hk : k ≤ 4) (w : World) : Calls Tryz.prog 211 #[.agg #[.int .i64 (k : Int), .int .i64 (wideK k)]] w fun e w' => e = .returned (.tuple #[.int .u64 (headV k), .int .i64 (headN k)]) ∧ Below w.heap.size w w' := by
  have hc : k = 0 ∨ k = 1 ∨ k = 2 ∨ k = 3 ∨ k = 4 := by omega
  rcases hc with rfl | rfl | rfl | rfl | rfl
  · go_enter Tryz.func211, Tryz.ntmps211
    go_wp2
    go_quiet (fail)
    go_wp2
    go_ret2
    exact ⟨rfl, Below.drewN (by go_grown) _⟩
  · go_enter Tryz.func211, Tryz.ntmps211
    go_wp2
    go_quiet (fail)
    go_wp2
    go_ret2
    exact ⟨rfl, Below.drewN (by go_grown) _⟩
  · go_enter Tryz.func211, Tryz.ntmps211
    go_wp2
    go_quiet (fail)
    go_wp2
    go_ret2
    exact ⟨rfl, Below.drewN (by go_grown) _⟩
  · go_enter Tryz.func211, Tryz.ntmps211
    go_wp2
    go_quiet (fail)
    go_wp2
    go_ret2
    exact ⟨rfl, Below.drewN (by go_grown) _⟩
  · go_enter Tryz.func211, Tryz.ntmps211
    go_wp2
    go_ret2
    exact ⟨rfl, by go_grown⟩

theorem headN_bd (k : Nat) : 1 ≤ headN k ∧ headN k ≤ 4 := by unfold headN; split <;> omega
theorem wideK_bd (k : Nat) : 0 ≤ wideK k ∧ wideK k ≤ 64 := by unfold wideK; split <;> omega
set_option maxHeartbeats 400000 in
theorem size_any (n : Int) (w : World) : Calls Tryz.prog 168 #[.int .i64 n] w fun e w' => e = .returned (.int .i64 (sizeN n)) ∧ Below w.heap.size w w' := by
  have hK := ofK_le n
  obtain ⟨n0, n1⟩ := headN_bd (ofK n)
  obtain ⟨d0, d1⟩ := wideK_bd (ofK n)
  go_enter Tryz.func168, Tryz.ntmps168
  go_wp2_with fail
  refine (of_any n _).mono ?_
  rintro e w1 ⟨rfl, hb1⟩
  have hb1 := Lib.hid hb1
  go_wp2_with fail
  refine (head_any (ofK n) hK _).mono ?_
  rintro e w2 ⟨rfl, hb2⟩
  have c1 := ((Blk.new w1 290 #[.int .i64 (ofK n), .int .i64 (wideK (ofK n))]).below hb2 (by simp)).cell 1
  simp only [List.getElem?_toArray, List.getElem?_cons_zero, List.getElem?_cons_succ] at c1
  have hb2 := Lib.hid hb2
  go_wp2
  go_ret
  exact ⟨rfl, Below.call (Below.alloc hb1.out hb1.out.size _) hb2.out (by have := hb1.out.size; simp; omega)⟩
end Go.Proofs.YtfkklcmepcocoaaGreatDoor
