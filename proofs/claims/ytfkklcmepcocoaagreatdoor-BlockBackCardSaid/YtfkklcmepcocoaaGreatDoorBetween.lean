/- chunk.Between, the reference's BetweenOf and OwnPoints by contracts, for up to a hundred thousand points. -/
import Derived.Test.YtfkklcmepcocoaaGreatDoorChecked
import Derived.Test.YtfkklcmepcocoaaGreatDoorBase
namespace Go.Proofs.YtfkklcmepcocoaaGreatDoor
open Go.RowKit
set_option linter.unusedVariables false

abbrev ptsC (ps : List (Int × Int)) : List Value := ps.flatMap fun p => [.int .i64 p.1, .int .u64 p.2]
theorem infoPt : (Tryz.prog.info? 51).map (fun i => (i.zero, i.size, i.bytes)) = some (some (.agg #[.int .i64 0, .int .u64 0]), 2, 16) := by kernel_rfl
theorem ptsC_one (ps : List (Int × Int)) : ∀ u ∈ ptsC ps, u.oneCell' = true := by
  intro u hu
  obtain ⟨p, _, hp⟩ := List.mem_flatMap.1 hu
  simp at hp
  rcases hp with rfl | rfl <;> rfl
/-- One point laid in a block of its own reads as that point. -/
theorem Rd.one2 (w : World) (t : TypeId) (y : Int × Int) : Rd (w.alloc (.cells #[.int .i64 y.1, .int .u64 y.2] t)) (w.alloc (.cells #[.int .i64 y.1, .int .u64 y.2] t)).heap.size 2 (some ⟨w.heap.size, 0, none⟩) 1 (ptsC [y]) :=
  ⟨rfl, fun _ => ⟨_, _, rfl, by simp, fun j v hv => by rw [Nat.zero_add, (Blk.new w _ _).cell]; simpa [ptsC] using hv⟩⟩
def betL (f t : Int) (ps : List (Int × Int)) : List (Int × Int) := ps.filter fun p => decide (f ≤ p.1) && decide (p.1 ≤ t)
theorem betL_in {f t : Int} {ps : List (Int × Int)} {k : Nat} {y : Int × Int} (h : ps[k]? = some y) (h1 : f ≤ y.1) (h2 : y.1 ≤ t) : betL f t (ps.take (k + 1)) = betL f t (ps.take k) ++ [y] := by
  rw [take_snoc h, betL, List.filter_append]; simp [betL, h1, h2]
theorem betL_out {f t : Int} {ps : List (Int × Int)} {k : Nat} {y : Int × Int} (h : ps[k]? = some y) (h1 : ¬ (f ≤ y.1 ∧ y.1 ≤ t)) : betL f t (ps.take (k + 1)) = betL f t (ps.take k) := by
  have h2 : (decide (f ≤ y.1) && decide (y.1 ≤ t)) = false := by
    rw [← Bool.decide_and]; exact decide_eq_false h1
  rw [take_snoc h, betL, List.filter_append]
  simp only [betL, List.filter_cons, h2, List.filter_nil]
  simp
theorem betL_le (f t : Int) (ps : List (Int × Int)) : (betL f t ps).length ≤ ps.length := List.length_filter_le _ _
theorem betL_take_le (f t : Int) (ps : List (Int × Int)) (k : Nat) : (betL f t (ps.take k)).length ≤ k := Nat.le_trans (betL_le _ _ _) (List.length_take_le _ _)
theorem betL_mem {f t : Int} {ps : List (Int × Int)} {p : Int × Int} (h : p ∈ betL f t ps) : p ∈ ps := (List.mem_filter.1 h).1

/-- A round that appends the point y: what it leaves. -/
theorem bet_append {w wr wx wa : World} {v v' : Value} {m : Nat} {l : List (Int × Int)} {y : Int × Int} (hown : wr.ownsRow w.heap.size 51 2 v m (ptsC l)) (hbel : Below w.heap.size w wx) (hx : wr.heap.size ≤ wx.heap.size)
    (hown' : wa.ownsRow w.heap.size 51 2 v' (m + 1) (ptsC l ++ ptsC [y])) (hgr : wx.grownBy wa v.ownBlock) (hw : w.heap.size ≤ wr.heap.size) : wa.ownsRow w.heap.size 51 2 v' (m + 1) (ptsC (l ++ [y])) ∧ Below w.heap.size w wa :=
  ⟨by rw [ptsC, List.flatMap_append]; exact hown', Below.grown hbel hgr (by omega) (fun g hg => (own_lt hown g hg).1)⟩

set_option maxRecDepth 100000 in
set_option maxHeartbeats 4000000 in
theorem between_any (A : Option Addr) (n c : Nat) (ps : List (Int × Int)) (f t : Int) (w : World) (hA : Rd w w.heap.size 2 A n (ptsC ps)) (hn : n ≤ 100000) :
    Calls Tryz.prog 53 #[.slice A n c, .int .i64 f, .int .i64 t] w fun e w' => ∃ v, e = .returned v ∧ w'.ownsRow w.heap.size 51 2 v (betL f t ps).length (ptsC (betL f t ps)) ∧ Below w.heap.size w w' := by
  obtain ⟨i0, hi, hz0, hz1, hz2⟩ := info_parts infoPt
  have hlen : ps.length = n := by have := hA.1; rw [flat_len _ 2 (fun _ => rfl)] at this; omega
  have Hi := Lib.hid hi; have Hz0 := Lib.hid hz0; have Hz1 := Lib.hid hz1; have Hz2 := Lib.hid hz2; have Hlen := Lib.hid hlen
  clear hi hz0 hz1 hz2 hlen
  go_enter Tryz.func53, Tryz.ntmps53
  go_wp2
  go_loopw [7, 12] (fun v i wr => ∃ (k m : Nat) (l : List (Int × Int)), k ≤ n ∧ m ≤ k ∧ i = .int .i64 k ∧ l = betL f t (ps.take k) ∧ m = l.length ∧ wr.ownsRow w.heap.size 51 2 v m (ptsC l) ∧ Below w.heap.size w wr) (fun _ i _ => n - (intOf i).toNat)
  case atStart => exact ⟨0, 0, [], Nat.zero_le _, Nat.zero_le _, rfl, rfl, rfl, World.ownsRow_nil _ _ _ _, Below.refl _ _⟩
  case round =>
    obtain ⟨k, m, l, hk, hmk, rfl, hl, hm, hown, hbel⟩ := hrel
    obtain ⟨va, ca, rfl, hca, _, _⟩ := own_form hown
    have hws : w.heap.size ≤ wr.heap.size := hbel.size
    have Hown := Lib.hid hown; have Hbel := Lib.hid hbel; have Hl := Lib.hid hl; have Hm := Lib.hid hm
    clear hown hbel hl hm
    by_cases hkn : k < n
    · obtain ⟨bb, off, y, rfl, had, hy, e0, e1⟩ := hA.at2 hkn
      have e0' := (Hbel.out.cell (p := ⟨bb, off + k * 2, none⟩) had).trans e0
      have e1' := (Hbel.out.cell (p := ⟨bb, off + k * 2 + 1, none⟩) had).trans e1
      have Hy := Lib.hid hy
      clear e0 e1 hy hA
      have hk63 : m + 1 ≤ maxLen := by unfold maxLen; omega
      have hk8 : (m + 1) * 16 ≤ 140737488355328 := by omega
      have hbx : Below w.heap.size w (wr.alloc (.cells #[.int .i64 y.1, .int .u64 y.2] 51)) := Below.alloc Hbel.out hws _
      have hby : Below w.heap.size w ((wr.alloc (.cells #[.int .i64 y.1, .int .u64 y.2] 51)).alloc (.cells #[.int .i64 y.1, .int .u64 y.2] 51)) := Below.alloc hbx (by simp; omega) _
      have hsz : w.heap.size ≤ ((wr.alloc (.cells #[.int .i64 y.1, .int .u64 y.2] 51)).alloc (.cells #[.int .i64 y.1, .int .u64 y.2] 51)).heap.size := by simp; omega
      have hrd2 := Rd.one2 (wr.alloc (.cells #[.int .i64 y.1, .int .u64 y.2] 51)) 51 y
      simp only [World.size_alloc] at hrd2
      have hsz2 : w.heap.size ≤ wr.heap.size + 1 + 1 := by omega
      have Hrd2 := Lib.hid hrd2
      clear hrd2
      have Hbx := Lib.hid hbx; have Hby := Lib.hid hby; have Hsz := Lib.hid hsz
      clear hbx hby hsz
      by_cases h1 : f ≤ y.1
      · by_cases h2 : y.1 ≤ t
        · have hbl := betL_in (f := f) (t := t) Hy.out h1 h2
          rw [← Hl.out] at hbl
          have Hbl := Lib.hid hbl
          clear hbl
          go_wp2_with (at_builtin; refine wpList_append_rd _ rfl (.tmp 26) (.tmp 28) _ rfl w.heap.size 51 i0 (.agg #[.int .i64 0, .int .u64 0]) 2 16 Tryz.underlying33 Hi.out Hz0.out Hz1.out Hz2.out rfl (by decide) _ m _ rfl ((Hown.out.alloc _).alloc _) _ _ 1 1 (ptsC [y]) rfl Hrd2.out (ptsC_one [y]) hk63 hk8 Hsz.out ?_; intro v' wa hown' hgr hat; have HR := Lib.hid (bet_append Hown.out Hby.out (by simp <;> omega) hown' hgr hws); clear hown' hgr hat)
          go_roundw
          case rel => exact ⟨k + 1, m + 1, l ++ [y], by omega, by omega, by go_num, Hbl.out.symm, by rw [List.length_append, ← Hm.out]; rfl, HR.out.1, HR.out.2⟩
          case measure => simp [intOf]; omega
        · have hbl := betL_out (f := f) (t := t) Hy.out (fun h => h2 h.2)
          rw [← Hl.out] at hbl
          have Hbl := Lib.hid hbl
          clear hbl
          have h2' : t < y.1 := by omega
          clear h2
          go_wp2
          go_roundw
          case rel => exact ⟨k + 1, m, l, by omega, by omega, by go_num, Hbl.out.symm, Hm.out, Hown.out.alloc _, Hbx.out⟩
          case measure => simp [intOf]; omega
      · have hbl := betL_out (f := f) (t := t) Hy.out (fun h => h1 h.1)
        rw [← Hl.out] at hbl
        have Hbl := Lib.hid hbl
        clear hbl
        have h1' : y.1 < f := by omega
        clear h1
        go_wp2
        go_roundw
        case rel => exact ⟨k + 1, m, l, by omega, by omega, by go_num, Hbl.out.symm, Hm.out, Hown.out.alloc _, Hbx.out⟩
        case measure => simp [intOf]; omega
    · obtain rfl : k = n := by omega
      have e : betL f t ps = l := by rw [Hl.out, List.take_of_length_le (by rw [Hlen.out]; exact Nat.le_refl _)]
      have He := Lib.hid e
      clear e hA
      go_wp2
      go_ret
      exact ⟨_, rfl, by rw [He.out, ← Hm.out]; exact Hown.out, Hbel.out⟩

set_option maxRecDepth 100000 in
set_option maxHeartbeats 4000000 in
theorem betweenOf_any (A : Option Addr) (n c : Nat) (ps : List (Int × Int)) (f t : Int) (w : World) (hA : Rd w w.heap.size 2 A n (ptsC ps)) (hn : n ≤ 100000) :
    Calls Tryz.prog 42 #[.slice A n c, .int .i64 f, .int .i64 t] w fun e w' => ∃ v, e = .returned v ∧ w'.ownsRow w.heap.size 51 2 v (betL f t ps).length (ptsC (betL f t ps)) ∧ Below w.heap.size w w' := by
  obtain ⟨i0, hi, hz0, hz1, hz2⟩ := info_parts infoPt
  have hlen : ps.length = n := by have := hA.1; rw [flat_len _ 2 (fun _ => rfl)] at this; omega
  have Hi := Lib.hid hi; have Hz0 := Lib.hid hz0; have Hz1 := Lib.hid hz1; have Hz2 := Lib.hid hz2; have Hlen := Lib.hid hlen
  clear hi hz0 hz1 hz2 hlen
  go_enter Tryz.func42, Tryz.ntmps42
  go_wp2
  go_loopw [7, 8] (fun v i wr => ∃ (k m : Nat) (l : List (Int × Int)), k ≤ n ∧ m ≤ k ∧ i = .int .i64 k ∧ l = betL f t (ps.take k) ∧ m = l.length ∧ wr.ownsRow w.heap.size 51 2 v m (ptsC l) ∧ Below w.heap.size w wr) (fun _ i _ => n - (intOf i).toNat)
  case atStart => exact ⟨0, 0, [], Nat.zero_le _, Nat.zero_le _, rfl, rfl, rfl, World.ownsRow_nil _ _ _ _, Below.refl _ _⟩
  case round =>
    obtain ⟨k, m, l, hk, hmk, rfl, hl, hm, hown, hbel⟩ := hrel
    obtain ⟨va, ca, rfl, hca, _, _⟩ := own_form hown
    have hws : w.heap.size ≤ wr.heap.size := hbel.size
    have Hown := Lib.hid hown; have Hbel := Lib.hid hbel; have Hl := Lib.hid hl; have Hm := Lib.hid hm
    clear hown hbel hl hm
    by_cases hkn : k < n
    · obtain ⟨bb, off, y, rfl, had, hy, e0, e1⟩ := hA.at2 hkn
      have e0' := (Hbel.out.cell (p := ⟨bb, off + k * 2, none⟩) had).trans e0
      have e1' := (Hbel.out.cell (p := ⟨bb, off + k * 2 + 1, none⟩) had).trans e1
      have Hy := Lib.hid hy
      clear e0 e1 hy hA
      have hk63 : m + 1 ≤ maxLen := by unfold maxLen; omega
      have hk8 : (m + 1) * 16 ≤ 140737488355328 := by omega
      have hby : Below w.heap.size w (wr.alloc (.cells #[.int .i64 y.1, .int .u64 y.2] 51)) := Below.alloc Hbel.out hws _
      have hsz : w.heap.size ≤ (wr.alloc (.cells #[.int .i64 y.1, .int .u64 y.2] 51)).heap.size := by simp; omega
      have Hby := Lib.hid hby; have Hsz := Lib.hid hsz
      clear hby hsz
      by_cases h1 : f ≤ y.1
      · by_cases h2 : y.1 ≤ t
        · have hbl := betL_in (f := f) (t := t) Hy.out h1 h2
          rw [← Hl.out] at hbl
          have Hbl := Lib.hid hbl
          clear hbl
          go_wp2_with (at_builtin; refine wpList_append_rd _ rfl (.tmp 31) (.tmp 36) _ rfl w.heap.size 51 i0 (.agg #[.int .i64 0, .int .u64 0]) 2 16 Tryz.underlying33 Hi.out Hz0.out Hz1.out Hz2.out rfl (by decide) _ m _ rfl (Hown.out.alloc _) _ _ 1 1 (ptsC [y]) rfl (Rd.one2 wr 51 y) (ptsC_one [y]) hk63 hk8 Hsz.out ?_; intro v' wa hown' hgr hat; have HR := Lib.hid (bet_append Hown.out Hby.out (by simp) hown' hgr hws); clear hown' hgr hat)
          go_roundw
          case rel => exact ⟨k + 1, m + 1, l ++ [y], by omega, by omega, by go_num, Hbl.out.symm, by rw [List.length_append, ← Hm.out]; rfl, HR.out.1, HR.out.2⟩
          case measure => simp [intOf]; omega
        · have hbl := betL_out (f := f) (t := t) Hy.out (fun h => h2 h.2)
          rw [← Hl.out] at hbl
          have Hbl := Lib.hid hbl
          clear hbl
          have h2' : t < y.1 := by omega
          clear h2
          go_wp2
          go_roundw
          case rel => exact ⟨k + 1, m, l, by omega, by omega, by go_num, Hbl.out.symm, Hm.out, Hown.out, Hbel.out⟩
          case measure => simp [intOf]; omega
      · have hbl := betL_out (f := f) (t := t) Hy.out (fun h => h1 h.1)
        rw [← Hl.out] at hbl
        have Hbl := Lib.hid hbl
        clear hbl
        have h1' : y.1 < f := by omega
        clear h1
        go_wp2
        go_roundw
        case rel => exact ⟨k + 1, m, l, by omega, by omega, by go_num, Hbl.out.symm, Hm.out, Hown.out, Hbel.out⟩
        case measure => simp [intOf]; omega
    · obtain rfl : k = n := by omega
      have e : betL f t ps = l := by rw [Hl.out, List.take_of_length_le (by rw [Hlen.out]; exact Nat.le_refl _)]
      have He := Lib.hid e
      clear e hA
      go_wp2
      go_ret
      exact ⟨_, rfl, by rw [He.out, ← Hm.out]; exact Hown.out, Hbel.out⟩

set_option maxRecDepth 100000 in
theorem own_any (A : Option Addr) (n c : Nat) (ps : List (Int × Int)) (w : World) (hA : Rd w w.heap.size 2 A n (ptsC ps)) (hn : n ≤ 100000) :
    Calls Tryz.prog 51 #[.slice A n c] w fun e w' => ∃ v, e = .returned v ∧ w'.ownsRow w.heap.size 51 2 v n (ptsC ps) ∧ Below w.heap.size w w' := by
  obtain ⟨i0, hi, hz0, hz1, hz2⟩ := info_parts infoPt
  have Hi := Lib.hid hi; have Hz0 := Lib.hid hz0; have Hz1 := Lib.hid hz1; have Hz2 := Lib.hid hz2; have HA := Lib.hid hA
  clear hi hz0 hz1 hz2 hA
  have hk63 : 0 + n ≤ maxLen := by unfold maxLen; omega
  have hk8 : (0 + n) * 16 ≤ 140737488355328 := by omega
  go_enter Tryz.func51, Tryz.ntmps51
  go_wp2_with (at_builtin; refine wpList_append_rd _ rfl (.tmp 4) (.tmp 5) _ rfl w.heap.size 51 i0 (.agg #[.int .i64 0, .int .u64 0]) 2 16 Tryz.underlying33 Hi.out Hz0.out Hz1.out Hz2.out rfl (by decide) _ 0 _ rfl (World.ownsRow_nil _ _ _ _) w.heap.size A n c _ rfl HA.out (ptsC_one ps) hk63 hk8 (Nat.le_refl _) ?_; intro v' wa hown' hgr hat; have Hown' := Lib.hid hown'; have Hbe := Lib.hid (Below.grown (Below.refl w.heap.size w) hgr (Nat.le_refl _) (fun g hg => by cases hg)); clear hown' hgr hat)
  go_ret
  exact ⟨_, rfl, by simpa using Hown'.out, Hbe.out⟩
end Go.Proofs.YtfkklcmepcocoaaGreatDoor
