/- The reference's SamePoints and PointsFault by contracts. -/
import Derived.Test.YtfkklcmepcocoaaGreatDoorChunkChk
namespace Go.Proofs.YtfkklcmepcocoaaGreatDoor
open Go.RowKit
set_option linter.unusedVariables false

theorem samePoints_eq (A : Option Addr) (n c : Nat) (A' : Option Addr) (c' : Nat) (ps : List (Int × Int)) (w : World) (hA : Rd w w.heap.size 2 A n (ptsC ps)) (hA' : Rd w w.heap.size 2 A' n (ptsC ps)) (hn : n ≤ 100000) :
    Calls Tryz.prog 34 #[.slice A n c, .slice A' n c'] w fun e w' => e = .returned (.bool true) ∧ Below w.heap.size w w' := by
  have HA := Lib.hid hA; have HA' := Lib.hid hA'
  clear hA hA'
  go_enter Tryz.func34, Tryz.ntmps34
  go_wp2
  go_loopw [5] (fun i wr => ∃ k : Nat, k ≤ n ∧ i = .int .i64 k ∧ Below w.heap.size w wr) (fun i _ => n - (intOf i).toNat)
  case atStart => exact ⟨0, Nat.zero_le _, rfl, Below.refl _ _⟩
  case round =>
    obtain ⟨k, hk, rfl, hbel⟩ := hrel
    by_cases hkn : k < n
    · obtain ⟨b0, o0, y, hA0, had0, hy0, e0, e0b⟩ := HA.out.at2 hkn
      obtain ⟨b1, o1, z, hA1, had1, hz1, e1, e1b⟩ := HA'.out.at2 hkn
      obtain rfl : y = z := Option.some.inj (hy0.symm.trans hz1)
      subst hA0; subst hA1
      have x0 := (hbel.cell (p := ⟨b0, o0 + k * 2, none⟩) had0).trans e0
      have x1 := (hbel.cell (p := ⟨b0, o0 + k * 2 + 1, none⟩) had0).trans e0b
      have x2 := (hbel.cell (p := ⟨b1, o1 + k * 2, none⟩) had1).trans e1
      have x3 := (hbel.cell (p := ⟨b1, o1 + k * 2 + 1, none⟩) had1).trans e1b
      have Hbel := Lib.hid hbel
      clear hy0 hz1 e0 e1 e0b e1b hbel
      go_wp2
      go_quiet (fail)
      go_wp2
      go_roundw
      case rel => exact ⟨k + 1, by omega, by go_num, Below.drewN Hbel.out _⟩
      case measure => simp [intOf]; omega
    · obtain rfl : k = n := by omega
      have Hbel := Lib.hid hbel
      clear hbel
      go_wp2
      go_ret
      exact ⟨rfl, Hbel.out⟩

theorem isTick_in (t : Int) (h1 : -1099511627776 ≤ t) (h2 : t ≤ 1099511627776) (w : World) : Calls Tryz.prog 61 #[.int .i64 t] w fun e w' => e = .returned (.bool true) ∧ w = w' := by
  go_enter Tryz.func61, Tryz.ntmps61
  go_wp2
  go_ret
  exact ⟨rfl, rfl⟩
theorem isTick_out (t : Int) (h : ¬ (-1099511627776 ≤ t ∧ t ≤ 1099511627776)) (w : World) : Calls Tryz.prog 61 #[.int .i64 t] w fun e w' => e = .returned (.bool false) ∧ w = w' := by
  rcases (show t < -1099511627776 ∨ (-1099511627776 ≤ t ∧ 1099511627776 < t) by omega) with q | ⟨q, q2⟩
  · clear h
    go_enter Tryz.func61, Tryz.ntmps61
    go_wp2
    go_ret
    exact ⟨rfl, rfl⟩
  · have q3 : decide (t ≤ 1099511627776) = false := decide_eq_false (by omega)
    clear h
    go_enter Tryz.func61, Tryz.ntmps61
    go_wp2
    go_ret
    exact ⟨by simp, rfl⟩
theorem Blk.duo2 {w : World} {b : Nat} {t : TypeId} {v1 v2 : Value} (h : Blk w b t #[v1, v2]) : w.cell? ⟨b, 0, none⟩ = some v1 ∧ w.cell? ⟨b, 1, none⟩ = some v2 := ⟨h.cell 0, h.cell 1⟩
theorem res_pf (tmps : Array Value) (W : World) (b : Nat) (ty : TypeId) (v0 v1 : Value) (ha : tmps.getD 2 undef = .pointer (some ⟨b, 0, none⟩)) (hB : Blk W b ty #[v0, v1]) :
    (results Tryz.f81 tmps).run Tryz.prog W = .ok (.agg #[v0, v1]) W := by
  obtain ⟨z0, z1⟩ := hB.duo2
  simp only [Array.getD_eq_getD_getElem?] at ha
  simp [results, Tryz.results81, go_sem, ha, z0, z1]
/-- What PointsFault answers of some points whose first wrong one is i (n: none). -/
def pfV (l : List (Int × Int)) (n i : Nat) : Value := if i = n then .agg #[.int .i64 0, .int .i64 (-1)] else .agg #[.int .i64 ((codeAt l i : Nat) + 1 : Int), .int .i64 i]
theorem pfV_ok (l : List (Int × Int)) (n : Nat) : pfV l n n = .agg #[.int .i64 0, .int .i64 (-1)] := by unfold pfV; rw [if_pos rfl]
theorem pfV_bad (l : List (Int × Int)) (n i c : Nat) (h : i < n) (hc : codeAt l i = c) : pfV l n i = .agg #[.int .i64 ((c : Int) + 1), .int .i64 i] := by unfold pfV; rw [if_neg (by omega), hc]

set_option maxRecDepth 100000 in
set_option maxHeartbeats 4000000 in
theorem pointsFault_any (A : Option Addr) (n c : Nat) (l : List (Int × Int)) (i : Nat) (w : World) (hA : Rd w w.heap.size 2 A n (ptsC l)) (hn : n ≤ 120) (hi : i ≤ n) (hok : ∀ j, j < i → okAt l j) (hbad : i < n → ¬ okAt l i) :
    Calls Tryz.prog 81 #[.slice A n c] w fun e w' => e = .returned (pfV l n i) ∧ Below w.heap.size w w' := by
  have hn' : (n : Int) ≤ 120 := by omega
  have HA := Lib.hid hA; have Hok := Lib.hid hok; have Hbad := Lib.hid hbad
  clear hA hok hbad
  go_enter Tryz.func81, Tryz.ntmps81
  go_wp2
  go_loopw [3] (fun iv wr => ∃ k : Nat, k ≤ i ∧ iv = .int .i64 k ∧ Blk wr w.heap.size 57 #[.int .i64 0, .int .i64 0] ∧ Below w.heap.size w wr) (fun iv _ => n - (intOf iv).toNat)
  case atStart => exact ⟨0, Nat.zero_le _, rfl, Blk.new w _ _, Below.alloc (Below.refl _ _) (Nat.le_refl _) _⟩
  case round =>
    obtain ⟨k, hk, rfl, hblk, hbel⟩ := hrel
    have Hbel := Lib.hid hbel; have Hblk := Lib.hid hblk
    have hwr : w.heap.size < wr.heap.size := hblk.lt
    clear hbel hblk
    obtain ⟨w0', w1'⟩ := Hblk.out.duo2
    have fz0 := Hblk.out.frozen 0; have fz1 := Hblk.out.frozen 1
    by_cases hkn : k < n
    · obtain ⟨bb, off, y, hAe, had, hy, e0, _⟩ := (HA.out.below Hbel.out).at2 hkn
      subst hAe
      have hg := getD_pt hy
      by_cases htk : -1099511627776 ≤ y.1 ∧ y.1 ≤ 1099511627776
      · have Htk := Lib.hid htk
        by_cases hk0 : k = 0
        · subst hk0
          have hko : okAt l 0 := ⟨by rw [hg]; exact htk, fun h => absurd h (Nat.lt_irrefl _)⟩
          have hki : 0 < i := by
            rcases Nat.eq_zero_or_pos i with h | h
            · subst h; exact absurd hko (Hbad.out hkn)
            · exact h
          simp only [Nat.add_zero, Nat.zero_mul] at e0
          clear hg hy hko htk
          go_wp2_with fail
          refine (isTick_in y.1 Htk.out.1 Htk.out.2 _).mono ?_
          rintro e w' ⟨rfl, rfl⟩
          go_wp2
          go_quiet (fail)
          go_wp2
          go_roundw
          case rel => exact ⟨0 + 1, by omega, by go_num, Hblk.out.drewN _, Below.drewN Hbel.out _⟩
          case measure => simp [intOf]; omega
        · obtain ⟨bb2, off2, z, hA2, had2, hz, e2, _⟩ := (HA.out.below Hbel.out).at2 (k := k - 1) (by omega)
          injection hA2 with hA2
          injection hA2 with hA3 hA4
          subst hA3; subst hA4
          have hgz := getD_pt hz
          have n1 : IntKind.i64.wrap ((k : Int) - 1) = ((k - 1 : Nat) : Int) := by rw [IntKind.wrap_i64]; omega
          have c0 : (0 : Int) < (k : Int) := by omega
          have hdk : decide (0 < k) = true := decide_eq_true (by omega)
          have hkl : ((k - 1 : Nat) : Int) < (n : Int) := by omega
          by_cases hzy : z.1 < y.1
          · have hko : okAt l k := ⟨by rw [hg]; exact htk, fun _ => by rw [hg, hgz]; exact hzy⟩
            have hki : k < i := by
              rcases Nat.lt_or_ge k i with h | h
              · exact h
              · obtain rfl : k = i := by omega
                exact absurd hko (Hbad.out hkn)
            have hd : decide (y.1 ≤ z.1) = false := decide_eq_false (by omega)
            have hd' : ¬ y.1 ≤ z.1 := by omega
            clear hg hgz hy hz hko htk
            go_wp2_with fail
            refine (isTick_in y.1 Htk.out.1 Htk.out.2 _).mono ?_
            rintro e w' ⟨rfl, rfl⟩
            go_wp2
            go_quiet (fail)
            go_wp2
            go_roundw
            case rel => exact ⟨k + 1, by omega, by go_num, Hblk.out.drewN _, Below.drewN Hbel.out _⟩
            case measure => simp [intOf]; omega
          · have hki : k = i := by
              rcases Nat.lt_or_ge k i with h | h
              · have := (Hok.out k h).2 (by omega)
                rw [hg, hgz] at this
                exact absurd this hzy
              · omega
            subst hki
            have hd : decide (y.1 ≤ z.1) = true := decide_eq_true (by omega)
            have hd' : y.1 ≤ z.1 := by omega
            have Hpf := Lib.hid (pfV_bad l n k 7 hkn (by unfold codeAt; rw [hg, if_pos htk]))
            clear hg hgz hy hz htk
            go_wp2_with fail
            refine (isTick_in y.1 Htk.out.1 Htk.out.2 _).mono ?_
            rintro e w' ⟨rfl, rfl⟩
            go_wp2
            go_quiet (fail)
            go_wp2
            (try simp only [Exit.inBlock, Exit.then])
            refine bodyPost_ret (v := .agg #[.int .i64 8, .int .i64 k]) (by simp [results, Tryz.results81, go_sem, w0', w1']) rfl ?_
            exact ⟨by rw [Hpf.out]; rfl, (((Below.drewN Hbel.out _).setCell (Nat.le_refl _) _).setCell (Nat.le_refl _) _)⟩
      · have hki : k = i := by
          rcases Nat.lt_or_ge k i with h | h
          · have := (Hok.out k h).1
            rw [hg] at this
            exact absurd this htk
          · omega
        subst hki
        have Hpf := Lib.hid (pfV_bad l n k 1 hkn (by unfold codeAt; rw [hg, if_neg htk]))
        have Htk := Lib.hid htk
        clear hg hy htk
        go_wp2_with fail
        refine (isTick_out y.1 Htk.out _).mono ?_
        rintro e w' ⟨rfl, rfl⟩
        go_wp2
        (try simp only [Exit.inBlock, Exit.then])
        refine bodyPost_ret (v := .agg #[.int .i64 2, .int .i64 k]) (by simp [results, Tryz.results81, go_sem, w0', w1']) rfl ?_
        exact ⟨by rw [Hpf.out]; rfl, ((Hbel.out.setCell (Nat.le_refl _) _).setCell (Nat.le_refl _) _)⟩
    · obtain rfl : k = n := by omega
      obtain rfl : i = k := by omega
      have Hpf := Lib.hid (pfV_ok l i)
      go_wp2
      (try simp only [Exit.inBlock, Exit.then])
      have HB3 := ((Hblk.out.set_ 0 (.int .i64 0)).set_ 1 (.int .i64 (-1))).alloc (.cells #[.int .i64 0, .int .i64 (-1)] 57)
      refine bodyPost_ret (res_pf _ _ _ _ _ _ rfl HB3) rfl ?_
      exact ⟨by rw [Hpf.out], Below.alloc ((Hbel.out.setCell (Nat.le_refl _) _).setCell (Nat.le_refl _) _) (by simp; omega) _⟩
end Go.Proofs.YtfkklcmepcocoaaGreatDoor
