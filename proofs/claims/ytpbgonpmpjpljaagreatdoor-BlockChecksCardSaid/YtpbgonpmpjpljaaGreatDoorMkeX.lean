/- chunk.Between, the reference's BetweenOf and OwnPoints by contracts, for up to a hundred thousand points. -/
import Derived.Test.YtpbgonpmpjpljaaGreatDoorChecked
import Derived.Test.YtpbgonpmpjpljaaGreatDoorBaseX
import Derived.Test.YtpbgonpmpjpljaaGreatDoorMkcX
import Derived.Test.YtpbgonpmpjpljaaGreatDoorMkaX
import Derived.BigQuiet
namespace Go.Proofs.YtpbgonpmpjpljaaGreatDoor
open Go.RowKit
set_option linter.unusedVariables false

abbrev ptsC (ps : List (Int × Int)) : List Value := ps.flatMap fun p => [.int .i64 p.1, .int .u64 p.2]
theorem infoPt : (Tryz.prog.info? 57).map (fun i => (i.zero, i.size, i.bytes)) = some (some (.agg #[.int .i64 0, .int .u64 0]), 2, 16) := by kernel_rfl
theorem ptsC_one (ps : List (Int × Int)) : ∀ u ∈ ptsC ps, u.oneCell' = true := by
  intro u hu
  obtain ⟨p, _, hp⟩ := List.mem_flatMap.1 hu
  simp at hp
  rcases hp with rfl | rfl <;> rfl
/-- One point laid in a block of its own reads as that point. -/
theorem Rd.one2 (w : World) (t : TypeId) (y : Int × Int) : Rd (w.alloc (.cells #[.int .i64 y.1, .int .u64 y.2] t)) (w.alloc (.cells #[.int .i64 y.1, .int .u64 y.2] t)).heap.size 2 (some ⟨w.heap.size, 0, none⟩) 1 (ptsC [y]) :=
  ⟨rfl, fun _ => ⟨_, _, rfl, by simp, fun j v hv => by rw [Nat.zero_add, (Blk.new w _ _).cell]; simpa [ptsC] using hv⟩⟩
def betL (f t : Int) (ps : List (Int × Int)) : List (Int × Int) := ps.filter fun p => decide (f ≤ p.1) && decide (p.1 ≤ t)
theorem betL_in {f t : Int} {ps : List (Int × Int)} {k : Nat} {y : Int × Int} (h : ps[k]? = some y) (h1 : f ≤ y.1) (h2 : y.1 ≤ t) : betL f t (ps.take (k + 1)) = betL f t (ps.take k) ++ [y] := by
  rw [take_snoc h, betL, List.filter_append]; simp [betL, h1, h2]
theorem betL_out {f t : Int} {ps : List (Int × Int)} {k : Nat} {y : Int × Int} (h : ps[k]? = some y) (h1 : ¬ (f ≤ y.1 ∧ y.1 ≤ t)) : betL f t (ps.take (k + 1)) = betL f t (ps.take k) := by
  have h2 : (decide (f ≤ y.1) && decide (y.1 ≤ t)) = false := by
    rw [← Bool.decide_and]; exact decide_eq_false h1
  rw [take_snoc h, betL, List.filter_append]
  simp only [betL, List.filter_cons, h2, List.filter_nil]
  simp
theorem betL_le (f t : Int) (ps : List (Int × Int)) : (betL f t ps).length ≤ ps.length := List.length_filter_le _ _
/-- A round that appends the point y: what it leaves. -/
theorem bet_append {w wr wx wa : World} {v v' : Value} {m : Nat} {l : List (Int × Int)} {y : Int × Int} (hown : wr.ownsRow w.heap.size 57 2 v m (ptsC l)) (hbel : Below w.heap.size w wx) (hx : wr.heap.size ≤ wx.heap.size)
    (hown' : wa.ownsRow w.heap.size 57 2 v' (m + 1) (ptsC l ++ ptsC [y])) (hgr : wx.grownBy wa v.ownBlock) (hw : w.heap.size ≤ wr.heap.size) : wa.ownsRow w.heap.size 57 2 v' (m + 1) (ptsC (l ++ [y])) ∧ Below w.heap.size w wa :=
  ⟨by rw [ptsC, List.flatMap_append]; exact hown', Below.grown hbel hgr (by omega) (fun g hg => (own_lt hown g hg).1)⟩

set_option maxRecDepth 100000 in
set_option maxHeartbeats 4000000 in
theorem between_any (A : Option Addr) (n c : Nat) (ps : List (Int × Int)) (f t : Int) (w : World) (hA : Rd w w.heap.size 2 A n (ptsC ps)) (hn : n ≤ 100000) :
    Calls Tryz.prog 28 #[.slice A n c, .int .i64 f, .int .i64 t] w fun e w' => ∃ v, e = .returned v ∧ w'.ownsRow w.heap.size 57 2 v (betL f t ps).length (ptsC (betL f t ps)) ∧ Below w.heap.size w w' := by
  obtain ⟨i0, hi, hz0, hz1, hz2⟩ := info_parts infoPt
  have hlen : ps.length = n := by have := hA.1; rw [flat_len _ 2 (fun _ => rfl)] at this; omega
  have Hi := Lib.hid hi; have Hz0 := Lib.hid hz0; have Hz1 := Lib.hid hz1; have Hz2 := Lib.hid hz2; have Hlen := Lib.hid hlen
  clear hi hz0 hz1 hz2 hlen
  go_enter Tryz.func28, Tryz.ntmps28
  go_wp2
  go_loopw [7, 12] (fun v i wr => ∃ (k m : Nat) (l : List (Int × Int)), k ≤ n ∧ m ≤ k ∧ i = .int .i64 k ∧ l = betL f t (ps.take k) ∧ m = l.length ∧ wr.ownsRow w.heap.size 57 2 v m (ptsC l) ∧ Below w.heap.size w wr) (fun _ i _ => n - (intOf i).toNat)
  case atStart => exact ⟨0, 0, [], Nat.zero_le _, Nat.zero_le _, rfl, rfl, rfl, World.ownsRow_nil _ _ _ _, Below.refl _ _⟩
  case round =>
    obtain ⟨k, m, l, hk, hmk, rfl, hl, hm, hown, hbel⟩ := hrel
    obtain ⟨va, ca, rfl, hca, _, _⟩ := own_form hown
    have hws : w.heap.size ≤ wr.heap.size := hbel.size
    have Hown := Lib.hid hown; have Hbel := Lib.hid hbel; have Hl := Lib.hid hl; have Hm := Lib.hid hm
    clear hown hbel hl hm
    by_cases hkn : k < n
    · obtain ⟨bb, off, y, rfl, had, hy, e0, e1⟩ := hA.at2 hkn
      have e0' := (Hbel.out.cell (p := ⟨bb, off + k * 2, none⟩) had).trans e0
      have e1' := (Hbel.out.cell (p := ⟨bb, off + k * 2 + 1, none⟩) had).trans e1
      have Hy := Lib.hid hy
      clear e0 e1 hy hA
      have hk63 : m + 1 ≤ maxLen := by unfold maxLen; omega
      have hk8 : (m + 1) * 16 ≤ 140737488355328 := by omega
      have hbx : Below w.heap.size w (wr.alloc (.cells #[.int .i64 y.1, .int .u64 y.2] 57)) := Below.alloc Hbel.out hws _
      have hby : Below w.heap.size w ((wr.alloc (.cells #[.int .i64 y.1, .int .u64 y.2] 57)).alloc (.cells #[.int .i64 y.1, .int .u64 y.2] 57)) := Below.alloc hbx (by simp; omega) _
      have hsz : w.heap.size ≤ ((wr.alloc (.cells #[.int .i64 y.1, .int .u64 y.2] 57)).alloc (.cells #[.int .i64 y.1, .int .u64 y.2] 57)).heap.size := by simp; omega
      have hrd2 := Rd.one2 (wr.alloc (.cells #[.int .i64 y.1, .int .u64 y.2] 57)) 57 y
      simp only [World.size_alloc] at hrd2
      have hsz2 : w.heap.size ≤ wr.heap.size + 1 + 1 := by omega
      have Hrd2 := Lib.hid hrd2
      clear hrd2
      have Hbx := Lib.hid hbx; have Hby := Lib.hid hby; have Hsz := Lib.hid hsz
      clear hbx hby hsz
      by_cases h1 : f ≤ y.1
      · by_cases h2 : y.1 ≤ t
        · have hbl := betL_in (f := f) (t := t) Hy.out h1 h2
          rw [← Hl.out] at hbl
          have Hbl := Lib.hid hbl
          clear hbl
          go_wp2_with (at_builtin; refine wpList_append_rd _ rfl (.tmp 26) (.tmp 28) _ rfl w.heap.size 57 i0 (.agg #[.int .i64 0, .int .u64 0]) 2 16 Tryz.underlying32 Hi.out Hz0.out Hz1.out Hz2.out rfl (by decide) _ m _ rfl ((Hown.out.alloc _).alloc _) _ _ 1 1 (ptsC [y]) rfl Hrd2.out (ptsC_one [y]) hk63 hk8 Hsz.out ?_; intro v' wa hown' hgr hat; have HR := Lib.hid (bet_append Hown.out Hby.out (by simp <;> omega) hown' hgr hws); clear hown' hgr hat)
          go_roundw
          case rel => exact ⟨k + 1, m + 1, l ++ [y], by omega, by omega, by go_num, Hbl.out.symm, by rw [List.length_append, ← Hm.out]; rfl, HR.out.1, HR.out.2⟩
          case measure => simp [intOf]; omega
        · have hbl := betL_out (f := f) (t := t) Hy.out (fun h => h2 h.2)
          rw [← Hl.out] at hbl
          have Hbl := Lib.hid hbl
          clear hbl
          have h2' : t < y.1 := by omega
          clear h2
          go_wp2
          go_roundw
          case rel => exact ⟨k + 1, m, l, by omega, by omega, by go_num, Hbl.out.symm, Hm.out, Hown.out.alloc _, Hbx.out⟩
          case measure => simp [intOf]; omega
      · have hbl := betL_out (f := f) (t := t) Hy.out (fun h => h1 h.1)
        rw [← Hl.out] at hbl
        have Hbl := Lib.hid hbl
        clear hbl
        have h1' : y.1 < f := by omega
        clear h1
        go_wp2
        go_roundw
        case rel => exact ⟨k + 1, m, l, by omega, by omega, by go_num, Hbl.out.symm, Hm.out, Hown.out.alloc _, Hbx.out⟩
        case measure => simp [intOf]; omega
    · obtain rfl : k = n := by omega
      have e : betL f t ps = l := by rw [Hl.out, List.take_of_length_le (by rw [Hlen.out]; exact Nat.le_refl _)]
      have He := Lib.hid e
      clear e hA
      go_wp2
      go_ret
      exact ⟨_, rfl, by rw [He.out, ← Hm.out]; exact Hown.out, Hbel.out⟩

set_option maxRecDepth 100000 in
set_option maxHeartbeats 4000000 in
theorem betweenOf_any (A : Option Addr) (n c : Nat) (ps : List (Int × Int)) (f t : Int) (w : World) (hA : Rd w w.heap.size 2 A n (ptsC ps)) (hn : n ≤ 100000) :
    Calls Tryz.prog 12 #[.slice A n c, .int .i64 f, .int .i64 t] w fun e w' => ∃ v, e = .returned v ∧ w'.ownsRow w.heap.size 57 2 v (betL f t ps).length (ptsC (betL f t ps)) ∧ Below w.heap.size w w' := by
  obtain ⟨i0, hi, hz0, hz1, hz2⟩ := info_parts infoPt
  have hlen : ps.length = n := by have := hA.1; rw [flat_len _ 2 (fun _ => rfl)] at this; omega
  have Hi := Lib.hid hi; have Hz0 := Lib.hid hz0; have Hz1 := Lib.hid hz1; have Hz2 := Lib.hid hz2; have Hlen := Lib.hid hlen
  clear hi hz0 hz1 hz2 hlen
  go_enter Tryz.func12, Tryz.ntmps12
  go_wp2
  go_loopw [7, 8] (fun v i wr => ∃ (k m : Nat) (l : List (Int × Int)), k ≤ n ∧ m ≤ k ∧ i = .int .i64 k ∧ l = betL f t (ps.take k) ∧ m = l.length ∧ wr.ownsRow w.heap.size 57 2 v m (ptsC l) ∧ Below w.heap.size w wr) (fun _ i _ => n - (intOf i).toNat)
  case atStart => exact ⟨0, 0, [], Nat.zero_le _, Nat.zero_le _, rfl, rfl, rfl, World.ownsRow_nil _ _ _ _, Below.refl _ _⟩
  case round =>
    obtain ⟨k, m, l, hk, hmk, rfl, hl, hm, hown, hbel⟩ := hrel
    obtain ⟨va, ca, rfl, hca, _, _⟩ := own_form hown
    have hws : w.heap.size ≤ wr.heap.size := hbel.size
    have Hown := Lib.hid hown; have Hbel := Lib.hid hbel; have Hl := Lib.hid hl; have Hm := Lib.hid hm
    clear hown hbel hl hm
    by_cases hkn : k < n
    · obtain ⟨bb, off, y, rfl, had, hy, e0, e1⟩ := hA.at2 hkn
      have e0' := (Hbel.out.cell (p := ⟨bb, off + k * 2, none⟩) had).trans e0
      have e1' := (Hbel.out.cell (p := ⟨bb, off + k * 2 + 1, none⟩) had).trans e1
      have Hy := Lib.hid hy
      clear e0 e1 hy hA
      have hk63 : m + 1 ≤ maxLen := by unfold maxLen; omega
      have hk8 : (m + 1) * 16 ≤ 140737488355328 := by omega
      have hby : Below w.heap.size w (wr.alloc (.cells #[.int .i64 y.1, .int .u64 y.2] 57)) := Below.alloc Hbel.out hws _
      have hsz : w.heap.size ≤ (wr.alloc (.cells #[.int .i64 y.1, .int .u64 y.2] 57)).heap.size := by simp; omega
      have Hby := Lib.hid hby; have Hsz := Lib.hid hsz
      clear hby hsz
      by_cases h1 : f ≤ y.1
      · by_cases h2 : y.1 ≤ t
        · have hbl := betL_in (f := f) (t := t) Hy.out h1 h2
          rw [← Hl.out] at hbl
          have Hbl := Lib.hid hbl
          clear hbl
          go_wp2_with (at_builtin; refine wpList_append_rd _ rfl (.tmp 31) (.tmp 36) _ rfl w.heap.size 57 i0 (.agg #[.int .i64 0, .int .u64 0]) 2 16 Tryz.underlying32 Hi.out Hz0.out Hz1.out Hz2.out rfl (by decide) _ m _ rfl (Hown.out.alloc _) _ _ 1 1 (ptsC [y]) rfl (Rd.one2 wr 57 y) (ptsC_one [y]) hk63 hk8 Hsz.out ?_; intro v' wa hown' hgr hat; have HR := Lib.hid (bet_append Hown.out Hby.out (by simp) hown' hgr hws); clear hown' hgr hat)
          go_roundw
          case rel => exact ⟨k + 1, m + 1, l ++ [y], by omega, by omega, by go_num, Hbl.out.symm, by rw [List.length_append, ← Hm.out]; rfl, HR.out.1, HR.out.2⟩
          case measure => simp [intOf]; omega
        · have hbl := betL_out (f := f) (t := t) Hy.out (fun h => h2 h.2)
          rw [← Hl.out] at hbl
          have Hbl := Lib.hid hbl
          clear hbl
          have h2' : t < y.1 := by omega
          clear h2
          go_wp2
          go_roundw
          case rel => exact ⟨k + 1, m, l, by omega, by omega, by go_num, Hbl.out.symm, Hm.out, Hown.out, Hbel.out⟩
          case measure => simp [intOf]; omega
      · have hbl := betL_out (f := f) (t := t) Hy.out (fun h => h1 h.1)
        rw [← Hl.out] at hbl
        have Hbl := Lib.hid hbl
        clear hbl
        have h1' : y.1 < f := by omega
        clear h1
        go_wp2
        go_roundw
        case rel => exact ⟨k + 1, m, l, by omega, by omega, by go_num, Hbl.out.symm, Hm.out, Hown.out, Hbel.out⟩
        case measure => simp [intOf]; omega
    · obtain rfl : k = n := by omega
      have e : betL f t ps = l := by rw [Hl.out, List.take_of_length_le (by rw [Hlen.out]; exact Nat.le_refl _)]
      have He := Lib.hid e
      clear e hA
      go_wp2
      go_ret
      exact ⟨_, rfl, by rw [He.out, ← Hm.out]; exact Hown.out, Hbel.out⟩

end Go.Proofs.YtpbgonpmpjpljaaGreatDoor

namespace Go.Proofs.YtpbgonpmpjpljaaGreatDoor
open Go.RowKit
set_option linter.unusedVariables false

def Tick (t : Int) : Prop := -1099511627776 ≤ t ∧ t ≤ 1099511627776
/-- What is put of tick number k. -/
def stepAt (l : List Int) (k : Nat) : Int := if k = 0 then l.getD 0 0 else if k = 1 then l.getD 1 0 - l.getD 0 0 else l.getD k 0 - l.getD (k - 1) 0 - (l.getD (k - 1) 0 - l.getD (k - 2) 0)
def stepsL (l : List Int) : List Int := (List.range l.length).map (stepAt l)
theorem stepsL_len (l : List Int) : (stepsL l).length = l.length := by simp [stepsL]
theorem stepsL_get (l : List Int) (k : Nat) (h : k < l.length) : (stepsL l)[k]? = some (stepAt l k) := by simp [stepsL, h]
theorem getD_of {l : List Int} {k : Nat} {y : Int} (h : l[k]? = some y) : l.getD k 0 = y := by rw [List.getD_eq_getElem?_getD, h]; rfl
theorem int_one (xs : List Int) : ∀ u ∈ xs.map (Value.int .i64), u.oneCell' = true := by
  intro u hu
  obtain ⟨x, _, rfl⟩ := List.mem_map.1 hu
  rfl
theorem infoInt : (Tryz.prog.info? 3).map (fun i => (i.zero, i.size, i.bytes)) = some (some (.int .i64 0), 1, 8) := by kernel_rfl

/-- One element laid in a block of its own reads as that element. -/
theorem Rd.one (w : World) (t : TypeId) (u : Value) : Rd (w.alloc (.cells #[u] t)) (w.alloc (.cells #[u] t)).heap.size 1 (some ⟨w.heap.size, 0, none⟩) 1 [u] :=
  ⟨rfl, fun _ => ⟨_, _, rfl, by simp, fun j v hv => by rw [Nat.zero_add, (Blk.new w _ _).cell]; simpa using hv⟩⟩

set_option maxRecDepth 100000 in
set_option maxHeartbeats 4000000 in
theorem steps_any (A : Option Addr) (n c : Nat) (l : List Int) (w : World) (hA : Rd w w.heap.size 1 A n (l.map (Value.int .i64))) (hn : n ≤ 100000) (hl : ∀ t ∈ l, Tick t) :
    Calls Tryz.prog 127 #[.slice A n c] w fun e w' => ∃ v, e = .returned v ∧ w'.ownsRow w.heap.size 3 1 v n ((stepsL l).map (Value.int .i64)) ∧ Below w.heap.size w w' := by
  obtain ⟨i0, hi, hz0, hz1, hz2⟩ := info_parts infoInt
  have hlen : l.length = n := by have := hA.1; simp at this; omega
  have Hi := Lib.hid hi; have Hz0 := Lib.hid hz0; have Hz1 := Lib.hid hz1; have Hz2 := Lib.hid hz2; have Hlen := Lib.hid hlen; have Hl := Lib.hid hl
  clear hi hz0 hz1 hz2 hlen hl
  go_enter Tryz.func127, Tryz.ntmps127
  go_wp2
  go_loopw [3, 4, 5, 10] (fun v la st i wr => ∃ (k : Nat) (a b : Int), k ≤ n ∧ i = .int .i64 k ∧ la = .int .i64 a ∧ st = .int .i64 b ∧ (-1099511627776 ≤ a ∧ a ≤ 1099511627776) ∧ (-2199023255552 ≤ b ∧ b ≤ 2199023255552) ∧
      (0 < k → a = l.getD (k - 1) 0) ∧ (1 < k → b = l.getD (k - 1) 0 - l.getD (k - 2) 0) ∧ wr.ownsRow w.heap.size 3 1 v k (((stepsL l).take k).map (Value.int .i64)) ∧ Below w.heap.size w wr) (fun _ _ _ i _ => n - (intOf i).toNat)
  case atStart => exact ⟨0, 0, 0, Nat.zero_le _, rfl, rfl, rfl, by omega, by omega, by omega, by omega, World.ownsRow_nil _ _ _ _, Below.refl _ _⟩
  case round =>
    obtain ⟨k, a, b, hk, rfl, rfl, rfl, ha, hb, hav, hbv, hown, hbel⟩ := hrel
    obtain ⟨ha0, ha1⟩ := ha
    obtain ⟨hb0, hb1⟩ := hb
    have Hav := Lib.hid hav; have Hbv := Lib.hid hbv; have Hown := Lib.hid hown; have Hbel := Lib.hid hbel
    clear hav hbv hown hbel
    by_cases hkn : k < n
    · obtain ⟨bb, off, t, rfl, had, hy, e0⟩ := hA.at1 hkn
      have e0' := (Hbel.out.cell (p := ⟨bb, off + k, none⟩) had).trans e0
      obtain ⟨ht0, ht1⟩ := Hl.out t (List.mem_of_getElem? hy)
      have hg := getD_of hy
      have hst := stepsL_get l k (by rw [Hlen.out]; exact hkn)
      have htk : (stepsL l).take (k + 1) = (stepsL l).take k ++ [stepAt l k] := take_snoc hst
      have Hhy := Lib.hid hy; have Hg := Lib.hid hg; have Htk := Lib.hid htk
      clear e0 hy hg hst htk
      have hk63 : k + 1 ≤ maxLen := by unfold maxLen; omega
      have hk8 : (k + 1) * 8 ≤ 140737488355328 := by omega
      have hbs : w.heap.size ≤ wr.heap.size := Hbel.out.size
      have hsz : ∀ u : Value, w.heap.size ≤ (wr.alloc (.cells #[u] 3)).heap.size := fun u => by simp; omega
      have Hsz := Lib.hid hsz; clear hsz
      -- what the append of x leaves
      have rest : ∀ (x : Int) (wa : World) (v v' : Value), x = stepAt l k → wr.ownsRow w.heap.size 3 1 v k (((stepsL l).take k).map (Value.int .i64)) →
          wa.ownsRow w.heap.size 3 1 v' (k + 1) (((stepsL l).take k).map (Value.int .i64) ++ [.int .i64 x]) → (wr.alloc (.cells #[.int .i64 x] 3)).grownBy wa v.ownBlock →
          wa.ownsRow w.heap.size 3 1 v' (k + 1) (((stepsL l).take (k + 1)).map (Value.int .i64)) ∧ Below w.heap.size w wa := by
        intro x wa v v' hx h0 h1 h2
        refine ⟨by rw [Htk.out, List.map_append, ← hx]; exact h1, ?_⟩
        exact Below.grown (Below.alloc Hbel.out hbs _) h2 (by simp; omega) (fun q hq => (own_lt h0 q hq).1)
      have Hrest := Lib.hid rest; clear rest
      have hc : k = 0 ∨ k = 1 ∨ 2 ≤ k := by omega
      rcases hc with hc | hc | hc
      · have b0 : ((k : Int) == 0) = true := by simp [hc]
        have hx : t = stepAt l k := by unfold stepAt; rw [if_pos hc, ← Hg.out, hc]
        have Hc := Lib.hid hc; have Hx := Lib.hid hx
        clear hc hx
        go_wp2_with (at_builtin; refine wpList_append_rd _ rfl (.tmp 29) (.tmp 31) _ rfl w.heap.size 3 i0 (.int .i64 0) 1 8 Tryz.underlying94 Hi.out Hz0.out Hz1.out Hz2.out rfl (by decide) _ k _ rfl (Hown.out.alloc _) _ _ 1 1 [.int .i64 t] rfl (Rd.one wr 3 (.int .i64 t)) (int_one [t]) hk63 hk8 (Hsz.out _) ?_; intro v' wa hown' hgr hat; obtain ⟨r1, r2⟩ := Hrest.out t wa _ v' Hx.out Hown.out hown' hgr; have R1 := Lib.hid r1; have R2 := Lib.hid r2; clear r1 r2 hown' hgr hat)
        go_roundw
        case rel => exact ⟨k + 1, t, b, by omega, by go_num, rfl, rfl, ⟨ht0, ht1⟩, ⟨hb0, hb1⟩, fun _ => Hg.out.symm, fun h => absurd Hc.out (by omega), R1.out, R2.out⟩
        case measure => simp [intOf]; omega
      · have b0 : ((k : Int) == 0) = false := by rw [beq_eq_false_iff_ne]; omega
        have b1 : ((k : Int) == 1) = true := by simp [hc]
        have hx : t - a = stepAt l k := by
          unfold stepAt
          rw [if_neg (by omega), if_pos hc, ← Hg.out, Hav.out (by omega), hc]
        have hst2 : t - a = l.getD (k + 1 - 1) 0 - l.getD (k + 1 - 2) 0 := by
          rw [← Hg.out, Hav.out (by omega)]
          have e1 : k + 1 - 1 = k := by omega
          have e2 : k + 1 - 2 = k - 1 := by omega
          rw [e1, e2]
        have Hc := Lib.hid hc; have Hx := Lib.hid hx; have Hst2 := Lib.hid hst2
        clear hc hx hst2
        go_wp2_with (at_builtin; refine wpList_append_rd _ rfl (.tmp 35) (.tmp 39) _ rfl w.heap.size 3 i0 (.int .i64 0) 1 8 Tryz.underlying94 Hi.out Hz0.out Hz1.out Hz2.out rfl (by decide) _ k _ rfl (Hown.out.alloc _) _ _ 1 1 [.int .i64 (t - a)] rfl (Rd.one wr 3 (.int .i64 (t - a))) (int_one [t - a]) hk63 hk8 (Hsz.out _) ?_; intro v' wa hown' hgr hat; obtain ⟨r1, r2⟩ := Hrest.out (t - a) wa _ v' Hx.out Hown.out hown' hgr; have R1 := Lib.hid r1; have R2 := Lib.hid r2; clear r1 r2 hown' hgr hat)
        go_roundw
        case rel => exact ⟨k + 1, t, t - a, by omega, by go_num, rfl, rfl, ⟨ht0, ht1⟩, ⟨by omega, by omega⟩, fun _ => Hg.out.symm, fun _ => Hst2.out, R1.out, R2.out⟩
        case measure => simp [intOf]; omega
      · have b0 : ((k : Int) == 0) = false := by rw [beq_eq_false_iff_ne]; omega
        have b1 : ((k : Int) == 1) = false := by rw [beq_eq_false_iff_ne]; omega
        have hx : t - a - b = stepAt l k := by
          unfold stepAt
          rw [if_neg (by omega), if_neg (by omega), ← Hg.out, Hav.out (by omega), Hbv.out (by omega)]
        have hst2 : t - a = l.getD (k + 1 - 1) 0 - l.getD (k + 1 - 2) 0 := by
          rw [← Hg.out, Hav.out (by omega)]
          have e1 : k + 1 - 1 = k := by omega
          have e2 : k + 1 - 2 = k - 1 := by omega
          rw [e1, e2]
        have Hx := Lib.hid hx; have Hst2 := Lib.hid hst2
        clear hx hst2
        go_wp2_with (at_builtin; refine wpList_append_rd _ rfl (.tmp 16) (.tmp 22) _ rfl w.heap.size 3 i0 (.int .i64 0) 1 8 Tryz.underlying94 Hi.out Hz0.out Hz1.out Hz2.out rfl (by decide) _ k _ rfl (Hown.out.alloc _) _ _ 1 1 [.int .i64 (t - a - b)] rfl (Rd.one wr 3 (.int .i64 (t - a - b))) (int_one [t - a - b]) hk63 hk8 (Hsz.out _) ?_; intro v' wa hown' hgr hat; obtain ⟨r1, r2⟩ := Hrest.out (t - a - b) wa _ v' Hx.out Hown.out hown' hgr; have R1 := Lib.hid r1; have R2 := Lib.hid r2; clear r1 r2 hown' hgr hat)
        go_roundw
        case rel => exact ⟨k + 1, t, t - a, by omega, by go_num, rfl, rfl, ⟨ht0, ht1⟩, ⟨by omega, by omega⟩, fun _ => Hg.out.symm, fun _ => Hst2.out, R1.out, R2.out⟩
        case measure => simp [intOf]; omega
    · obtain rfl : k = n := by omega
      have e : (stepsL l).take k = stepsL l := List.take_of_length_le (by rw [stepsL_len, Hlen.out]; exact Nat.le_refl _)
      have hown2 := Hown.out
      rw [e] at hown2
      have Hown2 := Lib.hid hown2
      clear hown2 e hA
      go_wp2
      go_ret
      exact ⟨_, rfl, Hown2.out, Hbel.out⟩
end Go.Proofs.YtpbgonpmpjpljaaGreatDoor

namespace Go.Proofs.YtpbgonpmpjpljaaGreatDoor
open Go.RowKit
set_option linter.unusedVariables false

def wavesL (l : List Int) : List Bool := l.flatMap waveBits
def ticksBits (l : List Int) : List Bool := wavesL (stepsL l)
theorem wavesL_next {l : List Int} {k : Nat} {y : Int} (h : l[k]? = some y) : wavesL (l.take (k + 1)) = wavesL (l.take k) ++ waveBits y := by
  rw [take_snoc h]; simp [wavesL]
theorem wavesL_take (l : List Int) (k : Nat) : (wavesL (l.take k)).length ≤ (wavesL l).length := by
  have : wavesL l = wavesL (l.take k) ++ wavesL (l.drop k) := by unfold wavesL; rw [← List.flatMap_append, List.take_append_drop]
  rw [this, List.length_append]; omega

set_option maxRecDepth 100000 in
set_option maxHeartbeats 4000000 in
theorem ticks_ok (g : Nat) (bv : Value) (l0 : List Bool) (A : Option Addr) (n c : Nat) (ts : List Int) (w : World) (hr : RowAt w g bv l0) (hA : Rd w w.heap.size 1 A n (ts.map (Value.int .i64))) (hn : n ≤ 100000) (hts : ∀ t ∈ ts, Tick t) (hroom : l0.length + (ticksBits ts).length ≤ 1048576) :
    Calls Tryz.prog 100 #[.pointer (some ⟨g, 0, none⟩), .slice A n c] w fun e w' => e = .returned .nilIface ∧ RowStep w w' g bv (l0 ++ ticksBits ts) := by
  have hlen : ts.length = n := by have := hA.1; simp at this; omega
  have HA := Lib.hid hA; have Hr := Lib.hid hr; have Hlen := Lib.hid hlen; have Hts := Lib.hid hts; have Hroom := Lib.hid hroom
  clear hA hr hlen hts hroom
  go_enter Tryz.func100, Tryz.ntmps100
  go_wp2
  go_loop [18] (fun i => ∃ k : Nat, k ≤ n ∧ i = .int .i64 k) (fun i => n - (intOf i).toNat)
  case atStart => exact ⟨0, Nat.zero_le _, rfl⟩
  case round =>
    obtain ⟨k, hk, rfl⟩ := hrel
    by_cases hkn : k < n
    · obtain ⟨bb, off, t, hAe, had, hy, e0⟩ := HA.out.at1 hkn
      subst hAe
      obtain ⟨ht0, ht1⟩ := Hts.out t (List.mem_of_getElem? hy)
      clear hy had
      go_wp2
      go_round
      case rel => exact ⟨k + 1, by omega, by go_num⟩
      case measure => simp [intOf]; omega
    · obtain rfl : k = n := by omega
      go_wp2_with fail
      refine (steps_any A k c ts _ HA.out hn Hts.out).mono ?_
      rintro e w1 ⟨v1, rfl, hown1, hb1⟩
      obtain ⟨A1, c1, rfl, hc1, _, hrd1⟩ := own_form hown1
      have Hrd1 := Lib.hid hrd1; have Hb1 := Lib.hid hb1
      clear hown1 hrd1 hb1
      go_wp2
      go_loopw [7, 35] (fun s i wr => ∃ (k1 : Nat) (z : Int), k1 ≤ k ∧ i = .int .i64 k1 ∧ s = .int .i64 z ∧ z = ((wavesL ((stepsL ts).take k1)).length : Int) ∧ Below w1.heap.size w1 wr) (fun _ i _ => k - (intOf i).toNat)
      case atStart => exact ⟨0, 0, Nat.zero_le _, rfl, rfl, rfl, Below.refl _ _⟩
      case round =>
        obtain ⟨k1, z, hk1, rfl, rfl, hz, hbel⟩ := hrel
        have hzb := wavesL_take (stepsL ts) k1
        have hroom := Hroom.out
        unfold ticksBits at hroom
        have hz0 : 0 ≤ z := by omega
        have hz1 : z ≤ 1048576 := by omega
        have Hz := Lib.hid hz; have Hbel := Lib.hid hbel
        clear hz hbel hzb hroom
        by_cases hkn1 : k1 < k
        · obtain ⟨bb, off, t, hAe, had, hy, e0⟩ := Hrd1.out.at1 hkn1
          subst hAe
          have e0' := (Hbel.out.cell (p := ⟨bb, off + k1, none⟩) had).trans e0
          have hnx := wavesL_next hy
          have htb := wavesL_take (stepsL ts) (k1 + 1)
          have hroom := Hroom.out
          unfold ticksBits at hroom
          have hsl := waveBits_len t
          rw [hnx, List.length_append] at htb
          have hzz := Hz.out
          have hroomB : (z + sizeN t) ≤ 1048576 - (l0.length : Int) := by omega
          have hl0 : l0.length ≤ 1048576 := by omega
          have hzt : z + sizeN t = ((wavesL ((stepsL ts).take (k1 + 1))).length : Int) := by rw [hnx, List.length_append]; omega
          have hst := sizeN_bd t
          have Hzt := Lib.hid hzt; have Hhy := Lib.hid hy
          clear e0 hnx htb hroom hsl hzz hzt hy
          go_wp2_with fail
          refine (size_any t _).mono ?_
          rintro e w2 ⟨rfl, hb2⟩
          have Hb2 := Lib.hid hb2; clear hb2
          go_wp2_with fail
          refine (room_any g bv l0 (z + sizeN t) w2 (((Hr.out.below Hb1.out (Nat.le_refl _)).below Hbel.out (Nat.le_refl _)).below Hb2.out (Nat.le_refl _)) hl0).mono ?_
          rintro e w' ⟨rfl, rfl⟩
          go_wp2
          go_roundw
          case rel => exact ⟨k1 + 1, z + sizeN t, by omega, by go_num, rfl, Hzt.out, Below.call Hbel.out Hb2.out Hbel.out.size⟩
          case measure => simp [intOf]; omega
        · have hb3 : Below w.heap.size w wr := Below.call Hb1.out Hbel.out Hb1.out.size
          have hA3 : Rd wr wr.heap.size 1 A k (ts.map (Value.int .i64)) := (HA.out.below hb3).more hb3.size
          have hr3 : RowAt wr g bv l0 := Hr.out.below hb3 (Nat.le_refl _)
          have Hb3 := Lib.hid hb3; have HA3 := Lib.hid hA3; have Hr3 := Lib.hid hr3
          clear hb3 hA3 hr3
          go_wp2_with fail
          refine (steps_any A k c ts _ HA3.out hn Hts.out).mono ?_
          rintro e w4 ⟨v4, rfl, hown4, hb4⟩
          obtain ⟨A4, c4, rfl, hc4, _, hrd4⟩ := own_form hown4
          have hr4 : RowAt w4 g bv l0 := Hr3.out.below hb4 (Nat.le_refl _)
          have hb4' : Below w.heap.size w w4 := Below.call Hb3.out hb4 Hb3.out.size
          have Hown4 := Lib.hid hown4; have Hb4 := Lib.hid hb4'; have Hr4 := Lib.hid hr4
          clear hown4 hrd4 hb4 hb4' hr4
          go_wp2
          go_loopw [52] (fun i wq => ∃ (k1 : Nat) (bv1 : Value), k1 ≤ k ∧ i = .int .i64 k1 ∧ RowAt wq g bv1 (l0 ++ wavesL ((stepsL ts).take k1)) ∧ Fr (RowS g bv) w4 wq ∧ Mv w4 bv bv1 ∧ wq.ownsRow wr.heap.size 3 1 (.slice A4 k c4) k ((stepsL ts).map (Value.int .i64))) (fun i _ => k - (intOf i).toNat)
          case atStart => exact ⟨0, bv, Nat.zero_le _, rfl, by simpa [wavesL] using Hr4.out, Fr.refl _ _, Mv.refl _ _, Hown4.out⟩
          case round =>
            obtain ⟨k1, bv1, hk1, rfl, hrow, hfr, hmv, hown⟩ := hrel
            have Hrow := Lib.hid hrow; have Hfr := Lib.hid hfr; have Hmv := Lib.hid hmv; have Hown := Lib.hid hown
            have Hrd := Lib.hid (Rd.of_own hown)
            clear hrow hfr hmv hown
            by_cases hkn1 : k1 < k
            · obtain ⟨bb, off, t, hAe, had, hy, e0⟩ := Hrd.out.at1 hkn1
              subst hAe
              have hnx := wavesL_next hy
              have htb := wavesL_take (stepsL ts) (k1 + 1)
              have hroom := Hroom.out
              unfold ticksBits at hroom
              have hsl := waveBits_len t
              rw [hnx, List.length_append] at htb
              have hfit : ((l0 ++ wavesL ((stepsL ts).take k1)).length : Int) + sizeN t ≤ 1048576 := by rw [List.length_append]; omega
              have Hnx := Lib.hid hnx; have Hhy := Lib.hid hy
              clear hnx htb hroom hsl hy
              go_wp2_with fail
              refine (wput_ok g bv1 _ t _ Hrow.out hfit).mono ?_
              rintro e w5 ⟨rfl, hst⟩
              have hown5 := hst.own Hrow.out Hown.out (by decide) (by decide)
              obtain ⟨bv5, hr5, hf5, hm5⟩ := RowStep.trans Hrow.out Hfr.out Hmv.out hst
              have Hown5 := Lib.hid hown5; have Hr5 := Lib.hid hr5; have Hf5 := Lib.hid hf5; have Hm5 := Lib.hid hm5
              clear hst hown5 hr5 hf5 hm5
              go_wp2
              go_roundw
              case rel => exact ⟨k1 + 1, bv5, by omega, by go_num, by rw [Hnx.out, ← List.append_assoc]; exact Hr5.out, Hf5.out, Hm5.out, Hown5.out⟩
              case measure => simp [intOf]; omega
            · obtain rfl : k1 = k := by omega
              have e : (stepsL ts).take k1 = stepsL ts := List.take_of_length_le (by rw [stepsL_len, Hlen.out]; exact Nat.le_refl _)
              have hrow := Hrow.out
              rw [e] at hrow
              have Hrow2 := Lib.hid hrow
              clear hrow e
              go_wp2
              go_ret
              exact ⟨rfl, RowStep.behind Hr.out Hb4.out (Nat.le_refl _) ⟨bv1, Hrow2.out, Hfr.out, Hmv.out⟩⟩
end Go.Proofs.YtpbgonpmpjpljaaGreatDoor

namespace Go.Proofs.YtpbgonpmpjpljaaGreatDoor
open Go.RowKit
set_option linter.unusedVariables false

/-- Point i is right: a tick, and behind the one ahead. -/
def okAt (l : List (Int × Int)) (i : Nat) : Prop := Tick (l.getD i (0, 0)).1 ∧ (0 < i → (l.getD (i - 1) (0, 0)).1 < (l.getD i (0, 0)).1)
/-- What is wrong with it: bound, or old. -/
def codeAt (l : List (Int × Int)) (i : Nat) : Nat := if -1099511627776 ≤ (l.getD i (0, 0)).1 ∧ (l.getD i (0, 0)).1 ≤ 1099511627776 then 7 else 1
instance (l : List (Int × Int)) (i : Nat) : Decidable (okAt l i) := by unfold okAt Tick; infer_instance
theorem getD_pt {l : List (Int × Int)} {i : Nat} {y : Int × Int} (h : l[i]? = some y) : l.getD i (0, 0) = y := by rw [List.getD_eq_getElem?_getD, h]; rfl
theorem first_pt (l : List (Int × Int)) : ∀ n, ∃ i, i ≤ n ∧ (∀ j, j < i → okAt l j) ∧ (i < n → ¬ okAt l i)
  | 0 => ⟨0, Nat.le_refl _, fun j h => absurd h (Nat.not_lt_zero _), fun h => absurd h (Nat.not_lt_zero _)⟩
  | n + 1 => by
    obtain ⟨i, h1, h2, h3⟩ := first_pt l n
    by_cases hi : i < n
    · exact ⟨i, by omega, h2, fun _ => h3 hi⟩
    · obtain rfl : i = n := by omega
      by_cases ho : okAt l i
      · exact ⟨i + 1, Nat.le_refl _, fun j hj => by
          rcases Nat.lt_or_ge j i with h | h
          · exact h2 j h
          · obtain rfl : j = i := by omega
            exact ho, fun h => absurd h (Nat.lt_irrefl _)⟩
      · exact ⟨i, by omega, h2, fun _ => ho⟩

/-- What Check answers. -/
def KPost (es : Nat → Addr) (l : List (Int × Int)) (n i : Nat) (w : World) (e : Ending) (w' : World) : Prop :=
  (i = n → e = .returned .nilIface) ∧
  (i < n → ∃ pb, e = .returned (faultV ⟨pb, 0, none⟩) ∧ w.heap.size ≤ pb ∧ pb < w'.heap.size ∧ w'.cell? ⟨pb, 0, none⟩ = some (.int .i64 i) ∧ w'.cell? ⟨pb, 1, none⟩ = some (sentV (es (codeAt l i)))) ∧ Below w.heap.size w w'
theorem KPost.bad {es : Nat → Addr} {l : List (Int × Int)} {n i cc : Nat} {w wr : World} {o : Obj} {e : Ending} {W : World} (hW : W = (wr.alloc o).alloc (.cells #[.int .i64 i, sentV (es cc)] 89)) (hin : i < n) (hcode : codeAt l i = cc) (hb : Below w.heap.size w wr) (he : e = .returned (faultV ⟨wr.heap.size + 1, 0, none⟩)) : KPost es l n i w e W := by
  have hs := hb.size
  have HB := Blk.new (wr.alloc o) 89 #[.int .i64 i, sentV (es cc)]
  rw [← hW, show (wr.alloc o).heap.size = wr.heap.size + 1 by simp] at HB
  have hb2 : Below w.heap.size w W := by
    rw [hW]
    exact Below.alloc (Below.alloc hb hs _) (by simp; omega) _
  exact ⟨fun h => absurd h (by omega), fun _ => ⟨wr.heap.size + 1, he, by omega, HB.lt, HB.cell 0, by rw [hcode]; exact HB.cell 1⟩, hb2⟩
theorem KPost.drewN {es : Nat → Addr} {l : List (Int × Int)} {n i : Nat} {w W : World} {e : Ending} (h : KPost es l n i w e W) (k : Nat) : KPost es l n i w e (W.drewN k) := ⟨h.1, fun hi => by
  obtain ⟨pb, h1, h2, h3, h4, h5⟩ := h.2.1 hi
  exact ⟨pb, h1, h2, h3, h4, h5⟩, Below.drewN h.2.2 k⟩

set_option maxRecDepth 100000 in
set_option maxHeartbeats 4000000 in
theorem check_any {es : Nat → Addr} {B : Nat} (A : Option Addr) (n c : Nat) (l : List (Int × Int)) (i : Nat) (w : World) (hS : SV es B w) (hB0 : B ≤ w.heap.size) (hA : Rd w w.heap.size 2 A n (ptsC l)) (hn : n ≤ 120) (hi : i ≤ n) (hok : ∀ j, j < i → okAt l j) (hbad : i < n → ¬ okAt l i) :
    Calls Tryz.prog 96 #[.slice A n c] w (KPost es l n i w) := by
  have hn' : (n : Int) ≤ 120 := by omega
  have HS := Lib.hid hS; have HA := Lib.hid hA; have Hok := Lib.hid hok; have Hbad := Lib.hid hbad
  clear hS hA hok hbad
  go_enter Tryz.func96, Tryz.ntmps96
  go_wp2
  go_loopw [11] (fun iv wr => ∃ k : Nat, k ≤ i ∧ iv = .int .i64 k ∧ Below w.heap.size w wr) (fun iv _ => n - (intOf iv).toNat)
  case atStart => exact ⟨0, Nat.zero_le _, rfl, Below.refl _ _⟩
  case round =>
    obtain ⟨k, hk, rfl, hbel⟩ := hrel
    have Hbel := Lib.hid hbel
    have hwr : w.heap.size ≤ wr.heap.size := hbel.size
    clear hbel
    by_cases hkn : k < n
    · obtain ⟨bb, off, y, hAe, had, hy, e0, e1⟩ := (HA.out.below Hbel.out).at2 hkn
      subst hAe
      have hg := getD_pt hy
      have HB2 := Lib.hid (Below.alloc Hbel.out hwr (.cells #[.int .i64 y.1, .int .u64 y.2] 57))
      have g1 : (wr.alloc (.cells #[.int .i64 y.1, .int .u64 y.2] 57)).cell? ⟨1, 0, none⟩ = some (sentV (es 1)) := (HS.out.below HB2.out hB0).var 1 (by decide)
      have g7 : (wr.alloc (.cells #[.int .i64 y.1, .int .u64 y.2] 57)).cell? ⟨7, 0, none⟩ = some (sentV (es 7)) := (HS.out.below HB2.out hB0).var 7 (by decide)
      by_cases htk : -1099511627776 ≤ y.1 ∧ y.1 ≤ 1099511627776
      · obtain ⟨t0, t1⟩ := htk
        have q0 : ¬ y.1 < -1099511627776 := by omega
        have q1 : ¬ 1099511627776 < y.1 := by omega
        by_cases hk0 : k = 0
        · subst hk0
          have hko : okAt l 0 := ⟨by rw [hg]; exact ⟨t0, t1⟩, fun h => absurd h (Nat.lt_irrefl _)⟩
          have hki : 0 < i := by
            rcases Nat.eq_zero_or_pos i with h | h
            · subst h; exact absurd hko (Hbad.out hkn)
            · exact h
          simp only [Nat.add_zero, Nat.zero_mul] at e0 e1
          clear hg hy hko
          go_wp2
          go_quiet (fail)
          go_wp2
          go_roundw
          case rel => exact ⟨0 + 1, by omega, by go_num, Below.drewN HB2.out _⟩
          case measure => simp [intOf]; omega
        · obtain ⟨bb2, off2, z, hA2, had2, hz, e2, e3⟩ := (HA.out.below Hbel.out).at2 (k := k - 1) (by omega)
          injection hA2 with hA2
          injection hA2 with hA3 hA4
          subst hA3; subst hA4
          have hgz := getD_pt hz
          have n1 : IntKind.i64.wrap ((k : Int) - 1) = ((k - 1 : Nat) : Int) := by rw [IntKind.wrap_i64]; omega
          have c0 : (0 : Int) < (k : Int) := by omega
          have hdk : decide (0 < k) = true := decide_eq_true (by omega)
          have hltb : bb < wr.heap.size := Nat.lt_of_lt_of_le had hwr
          have hkl : ((k - 1 : Nat) : Int) < (n : Int) := by omega
          have e2' : (wr.alloc (.cells #[.int .i64 y.1, .int .u64 y.2] 57)).cell? ⟨bb, off + (k - 1) * 2, none⟩ = some (.int .i64 z.1) := ((Below.alloc (Below.refl wr.heap.size wr) (Nat.le_refl _) _).cell (p := ⟨bb, off + (k - 1) * 2, none⟩) hltb).trans e2
          by_cases hzy : z.1 < y.1
          · have hko : okAt l k := ⟨by rw [hg]; exact ⟨t0, t1⟩, fun _ => by rw [hg, hgz]; exact hzy⟩
            have hki : k < i := by
              rcases Nat.lt_or_ge k i with h | h
              · exact h
              · obtain rfl : k = i := by omega
                exact absurd hko (Hbad.out hkn)
            have hd : decide (y.1 ≤ z.1) = false := decide_eq_false (by omega)
            have hd' : ¬ y.1 ≤ z.1 := by omega
            clear hg hgz hy hz hko e3
            go_wp2
            go_quiet (fail)
            go_wp2
            go_roundw
            case rel => exact ⟨k + 1, by omega, by go_num, Below.drewN HB2.out _⟩
            case measure => simp [intOf]; omega
          · have hki : k = i := by
              rcases Nat.lt_or_ge k i with h | h
              · have := (Hok.out k h).2 (by omega)
                rw [hg, hgz] at this
                exact absurd this hzy
              · omega
            subst hki
            have hd : decide (y.1 ≤ z.1) = true := decide_eq_true (by omega)
            have hd' : y.1 ≤ z.1 := by omega
            have hcode : codeAt l k = 7 := by unfold codeAt; rw [hg, if_pos ⟨t0, t1⟩]
            have Hcode := Lib.hid hcode
            clear hg hgz hy hz hcode e3
            go_wp2
            go_quiet (fail)
            go_wp2
            go_ret
            exact KPost.drewN (KPost.bad rfl hkn Hcode.out Hbel.out rfl) _
      · have hki : k = i := by
          rcases Nat.lt_or_ge k i with h | h
          · have := (Hok.out k h).1
            rw [hg] at this
            exact absurd this htk
          · omega
        subst hki
        have hcode : codeAt l k = 1 := by unfold codeAt; rw [hg, if_neg htk]
        have Hcode := Lib.hid hcode
        have hbd : y.1 < -1099511627776 ∨ (-1099511627776 ≤ y.1 ∧ 1099511627776 < y.1) := by omega
        clear hg hy hcode htk
        rcases hbd with q0 | ⟨q0, q1⟩
        · go_wp2
          go_ret
          exact KPost.bad rfl hkn Hcode.out Hbel.out rfl
        · have q2 : ¬ y.1 < -1099511627776 := by omega
          go_wp2
          go_ret
          exact KPost.bad rfl hkn Hcode.out Hbel.out rfl
    · obtain rfl : k = n := by omega
      obtain rfl : i = k := by omega
      go_wp2
      go_ret
      exact ⟨fun _ => rfl, fun h => absurd h (Nat.lt_irrefl _), Hbel.out⟩
end Go.Proofs.YtpbgonpmpjpljaaGreatDoor

namespace Go.Proofs.YtpbgonpmpjpljaaGreatDoor
open Go.RowKit
set_option linter.unusedVariables false

theorem samePoints_eq (A : Option Addr) (n c : Nat) (A' : Option Addr) (c' : Nat) (ps : List (Int × Int)) (w : World) (hA : Rd w w.heap.size 2 A n (ptsC ps)) (hA' : Rd w w.heap.size 2 A' n (ptsC ps)) (hn : n ≤ 100000) :
    Calls Tryz.prog 11 #[.slice A n c, .slice A' n c'] w fun e w' => e = .returned (.bool true) ∧ Below w.heap.size w w' := by
  have HA := Lib.hid hA; have HA' := Lib.hid hA'
  clear hA hA'
  go_enter Tryz.func11, Tryz.ntmps11
  go_wp2
  go_loopw [5] (fun i wr => ∃ k : Nat, k ≤ n ∧ i = .int .i64 k ∧ Below w.heap.size w wr) (fun i _ => n - (intOf i).toNat)
  case atStart => exact ⟨0, Nat.zero_le _, rfl, Below.refl _ _⟩
  case round =>
    obtain ⟨k, hk, rfl, hbel⟩ := hrel
    by_cases hkn : k < n
    · obtain ⟨b0, o0, y, hA0, had0, hy0, e0, e0b⟩ := HA.out.at2 hkn
      obtain ⟨b1, o1, z, hA1, had1, hz1, e1, e1b⟩ := HA'.out.at2 hkn
      obtain rfl : y = z := Option.some.inj (hy0.symm.trans hz1)
      subst hA0; subst hA1
      have x0 := (hbel.cell (p := ⟨b0, o0 + k * 2, none⟩) had0).trans e0
      have x1 := (hbel.cell (p := ⟨b0, o0 + k * 2 + 1, none⟩) had0).trans e0b
      have x2 := (hbel.cell (p := ⟨b1, o1 + k * 2, none⟩) had1).trans e1
      have x3 := (hbel.cell (p := ⟨b1, o1 + k * 2 + 1, none⟩) had1).trans e1b
      have Hbel := Lib.hid hbel
      clear hy0 hz1 e0 e1 e0b e1b hbel
      go_wp2
      go_quiet (fail)
      go_wp2
      go_roundw
      case rel => exact ⟨k + 1, by omega, by go_num, Below.drewN Hbel.out _⟩
      case measure => simp [intOf]; omega
    · obtain rfl : k = n := by omega
      have Hbel := Lib.hid hbel
      clear hbel
      go_wp2
      go_ret
      exact ⟨rfl, Hbel.out⟩

theorem isTick_in (t : Int) (h1 : -1099511627776 ≤ t) (h2 : t ≤ 1099511627776) (w : World) : Calls Tryz.prog 74 #[.int .i64 t] w fun e w' => e = .returned (.bool true) ∧ w = w' := by
  go_enter Tryz.func74, Tryz.ntmps74
  go_wp2
  go_ret
  exact ⟨rfl, rfl⟩
theorem isTick_out (t : Int) (h : ¬ (-1099511627776 ≤ t ∧ t ≤ 1099511627776)) (w : World) : Calls Tryz.prog 74 #[.int .i64 t] w fun e w' => e = .returned (.bool false) ∧ w = w' := by
  rcases (show t < -1099511627776 ∨ (-1099511627776 ≤ t ∧ 1099511627776 < t) by omega) with q | ⟨q, q2⟩
  · clear h
    go_enter Tryz.func74, Tryz.ntmps74
    go_wp2
    go_ret
    exact ⟨rfl, rfl⟩
  · have q3 : decide (t ≤ 1099511627776) = false := decide_eq_false (by omega)
    clear h
    go_enter Tryz.func74, Tryz.ntmps74
    go_wp2
    go_ret
    exact ⟨by simp, rfl⟩
theorem Blk.duo2 {w : World} {b : Nat} {t : TypeId} {v1 v2 : Value} (h : Blk w b t #[v1, v2]) : w.cell? ⟨b, 0, none⟩ = some v1 ∧ w.cell? ⟨b, 1, none⟩ = some v2 := ⟨h.cell 0, h.cell 1⟩
theorem res_pf (tmps : Array Value) (W : World) (b : Nat) (ty : TypeId) (v0 v1 : Value) (ha : tmps.getD 2 undef = .pointer (some ⟨b, 0, none⟩)) (hB : Blk W b ty #[v0, v1]) :
    (results Tryz.f48 tmps).run Tryz.prog W = .ok (.agg #[v0, v1]) W := by
  obtain ⟨z0, z1⟩ := hB.duo2
  simp only [Array.getD_eq_getD_getElem?] at ha
  simp [results, Tryz.results48, go_sem, ha, z0, z1]
/-- What PointsFault answers of some points whose first wrong one is i (n: none). -/
def pfV (l : List (Int × Int)) (n i : Nat) : Value := if i = n then .agg #[.int .i64 0, .int .i64 (-1)] else .agg #[.int .i64 ((codeAt l i : Nat) + 1 : Int), .int .i64 i]
theorem pfV_ok (l : List (Int × Int)) (n : Nat) : pfV l n n = .agg #[.int .i64 0, .int .i64 (-1)] := by unfold pfV; rw [if_pos rfl]
theorem pfV_bad (l : List (Int × Int)) (n i c : Nat) (h : i < n) (hc : codeAt l i = c) : pfV l n i = .agg #[.int .i64 ((c : Int) + 1), .int .i64 i] := by unfold pfV; rw [if_neg (by omega), hc]

set_option maxRecDepth 100000 in
set_option maxHeartbeats 4000000 in
theorem pointsFault_any (A : Option Addr) (n c : Nat) (l : List (Int × Int)) (i : Nat) (w : World) (hA : Rd w w.heap.size 2 A n (ptsC l)) (hn : n ≤ 120) (hi : i ≤ n) (hok : ∀ j, j < i → okAt l j) (hbad : i < n → ¬ okAt l i) :
    Calls Tryz.prog 48 #[.slice A n c] w fun e w' => e = .returned (pfV l n i) ∧ Below w.heap.size w w' := by
  have hn' : (n : Int) ≤ 120 := by omega
  have HA := Lib.hid hA; have Hok := Lib.hid hok; have Hbad := Lib.hid hbad
  clear hA hok hbad
  go_enter Tryz.func48, Tryz.ntmps48
  go_wp2
  go_loopw [3] (fun iv wr => ∃ k : Nat, k ≤ i ∧ iv = .int .i64 k ∧ Blk wr w.heap.size 29 #[.int .i64 0, .int .i64 0] ∧ Below w.heap.size w wr) (fun iv _ => n - (intOf iv).toNat)
  case atStart => exact ⟨0, Nat.zero_le _, rfl, Blk.new w _ _, Below.alloc (Below.refl _ _) (Nat.le_refl _) _⟩
  case round =>
    obtain ⟨k, hk, rfl, hblk, hbel⟩ := hrel
    have Hbel := Lib.hid hbel; have Hblk := Lib.hid hblk
    have hwr : w.heap.size < wr.heap.size := hblk.lt
    clear hbel hblk
    obtain ⟨w0', w1'⟩ := Hblk.out.duo2
    have fz0 := Hblk.out.frozen 0; have fz1 := Hblk.out.frozen 1
    by_cases hkn : k < n
    · obtain ⟨bb, off, y, hAe, had, hy, e0, _⟩ := (HA.out.below Hbel.out).at2 hkn
      subst hAe
      have hg := getD_pt hy
      by_cases htk : -1099511627776 ≤ y.1 ∧ y.1 ≤ 1099511627776
      · have Htk := Lib.hid htk
        by_cases hk0 : k = 0
        · subst hk0
          have hko : okAt l 0 := ⟨by rw [hg]; exact htk, fun h => absurd h (Nat.lt_irrefl _)⟩
          have hki : 0 < i := by
            rcases Nat.eq_zero_or_pos i with h | h
            · subst h; exact absurd hko (Hbad.out hkn)
            · exact h
          simp only [Nat.add_zero, Nat.zero_mul] at e0
          clear hg hy hko htk
          go_wp2_with fail
          refine (isTick_in y.1 Htk.out.1 Htk.out.2 _).mono ?_
          rintro e w' ⟨rfl, rfl⟩
          go_wp2
          go_quiet (fail)
          go_wp2
          go_roundw
          case rel => exact ⟨0 + 1, by omega, by go_num, Hblk.out.drewN _, Below.drewN Hbel.out _⟩
          case measure => simp [intOf]; omega
        · obtain ⟨bb2, off2, z, hA2, had2, hz, e2, _⟩ := (HA.out.below Hbel.out).at2 (k := k - 1) (by omega)
          injection hA2 with hA2
          injection hA2 with hA3 hA4
          subst hA3; subst hA4
          have hgz := getD_pt hz
          have n1 : IntKind.i64.wrap ((k : Int) - 1) = ((k - 1 : Nat) : Int) := by rw [IntKind.wrap_i64]; omega
          have c0 : (0 : Int) < (k : Int) := by omega
          have hdk : decide (0 < k) = true := decide_eq_true (by omega)
          have hkl : ((k - 1 : Nat) : Int) < (n : Int) := by omega
          by_cases hzy : z.1 < y.1
          · have hko : okAt l k := ⟨by rw [hg]; exact htk, fun _ => by rw [hg, hgz]; exact hzy⟩
            have hki : k < i := by
              rcases Nat.lt_or_ge k i with h | h
              · exact h
              · obtain rfl : k = i := by omega
                exact absurd hko (Hbad.out hkn)
            have hd : decide (y.1 ≤ z.1) = false := decide_eq_false (by omega)
            have hd' : ¬ y.1 ≤ z.1 := by omega
            clear hg hgz hy hz hko htk
            go_wp2_with fail
            refine (isTick_in y.1 Htk.out.1 Htk.out.2 _).mono ?_
            rintro e w' ⟨rfl, rfl⟩
            go_wp2
            go_quiet (fail)
            go_wp2
            go_roundw
            case rel => exact ⟨k + 1, by omega, by go_num, Hblk.out.drewN _, Below.drewN Hbel.out _⟩
            case measure => simp [intOf]; omega
          · have hki : k = i := by
              rcases Nat.lt_or_ge k i with h | h
              · have := (Hok.out k h).2 (by omega)
                rw [hg, hgz] at this
                exact absurd this hzy
              · omega
            subst hki
            have hd : decide (y.1 ≤ z.1) = true := decide_eq_true (by omega)
            have hd' : y.1 ≤ z.1 := by omega
            have Hpf := Lib.hid (pfV_bad l n k 7 hkn (by unfold codeAt; rw [hg, if_pos htk]))
            clear hg hgz hy hz htk
            go_wp2_with fail
            refine (isTick_in y.1 Htk.out.1 Htk.out.2 _).mono ?_
            rintro e w' ⟨rfl, rfl⟩
            go_wp2
            go_quiet (fail)
            go_wp2
            (try simp only [Exit.inBlock, Exit.then])
            refine bodyPost_ret (v := .agg #[.int .i64 8, .int .i64 k]) (by simp [results, Tryz.results48, go_sem, w0', w1']) rfl ?_
            exact ⟨by rw [Hpf.out]; rfl, (((Below.drewN Hbel.out _).setCell (Nat.le_refl _) _).setCell (Nat.le_refl _) _)⟩
      · have hki : k = i := by
          rcases Nat.lt_or_ge k i with h | h
          · have := (Hok.out k h).1
            rw [hg] at this
            exact absurd this htk
          · omega
        subst hki
        have Hpf := Lib.hid (pfV_bad l n k 1 hkn (by unfold codeAt; rw [hg, if_neg htk]))
        have Htk := Lib.hid htk
        clear hg hy htk
        go_wp2_with fail
        refine (isTick_out y.1 Htk.out _).mono ?_
        rintro e w' ⟨rfl, rfl⟩
        go_wp2
        (try simp only [Exit.inBlock, Exit.then])
        refine bodyPost_ret (v := .agg #[.int .i64 2, .int .i64 k]) (by simp [results, Tryz.results48, go_sem, w0', w1']) rfl ?_
        exact ⟨by rw [Hpf.out]; rfl, ((Hbel.out.setCell (Nat.le_refl _) _).setCell (Nat.le_refl _) _)⟩
    · obtain rfl : k = n := by omega
      obtain rfl : i = k := by omega
      have Hpf := Lib.hid (pfV_ok l i)
      go_wp2
      (try simp only [Exit.inBlock, Exit.then])
      have HB3 := ((Hblk.out.set_ 0 (.int .i64 0)).set_ 1 (.int .i64 (-1))).alloc (.cells #[.int .i64 0, .int .i64 (-1)] 29)
      refine bodyPost_ret (res_pf _ _ _ _ _ _ rfl HB3) rfl ?_
      exact ⟨by rw [Hpf.out], Below.alloc ((Hbel.out.setCell (Nat.le_refl _) _).setCell (Nat.le_refl _) _) (by simp; omega) _⟩
set_option maxRecDepth 100000 in
theorem pointsFault_long (A : Option Addr) (n c : Nat) (w : World) (hn : 120 < n) :
    Calls Tryz.prog 48 #[.slice A n c] w fun e w' => e = .returned (.agg #[.int .i64 2, .int .i64 (-1)]) ∧ Below w.heap.size w w' := by
  have hn' : (120 : Int) < n := by omega
  go_enter Tryz.func48, Tryz.ntmps48
  go_wp2
  (try simp only [Exit.inBlock, Exit.then])
  have HB3 := (Blk.new w 29 #[.int .i64 2, .int .i64 (-1)]).alloc (.cells #[.int .i64 2, .int .i64 (-1)] 29)
  refine bodyPost_ret (res_pf _ _ _ _ _ _ rfl HB3) rfl ?_
  exact ⟨rfl, by go_grown⟩
end Go.Proofs.YtpbgonpmpjpljaaGreatDoor

namespace Go.Proofs.YtpbgonpmpjpljaaGreatDoor
open Go.RowKit
set_option linter.unusedVariables false

/-- Texts as cells. -/
def txC (l : List Bs) : List Value := l.map fun s => .string (B8 s)
theorem infoTx : (Tryz.prog.info? 9).map (fun i => (i.zero, i.size, i.bytes)) = some (some (.string ⟨#[]⟩), 1, 16) := by kernel_rfl
theorem txC_snoc (l : List Bs) (s : Bs) : txC (l ++ [s]) = txC l ++ [.string (B8 s)] := by unfold txC; rw [List.map_append]; rfl
theorem one_cell (W : World) (t : TypeId) (u : Value) : Rd (W.alloc (.cells #[u] t)) (W.alloc (.cells #[u] t)).heap.size 1 (some ⟨W.heap.size, 0, none⟩) 1 [u] := by
  refine ⟨rfl, fun _ => ⟨W.heap.size, 0, rfl, by simp, fun j v hv => ?_⟩⟩
  rw [Nat.zero_add, (Blk.new W t #[u]).cell j]
  simpa using hv

theorem own_typed {w : World} {base k : Nat} {e : TypeId} {size n : Nat} {v : Value} {xs : List Value} (h : w.ownsRow base e size v n xs) (hk : v.ownBlock = some k) : ∃ cs, Blk w k e cs := by
  rcases h.2 with ⟨rfl, _⟩ | ⟨g, cap, cur, rfl, _, hg, _⟩
  · cases hk
  · injection hk with hk
    have hk : g = k := hk
    rw [← hk]
    exact ⟨cur, hg⟩
theorem blk_type {w : World} {k : Nat} {t t' : TypeId} {cs cs' : Array Value} (h : Blk w k t cs) (h' : Blk w k t' cs') : t = t' := by
  have e := Option.some.inj (h.symm.trans h')
  injection e
theorem Fr.ofBelow {w w' : World} (h : Below w.heap.size w w') : Fr (fun _ => False) w w' := ⟨h.os, h.tape, h.output, h.size, fun k hk _ => h.block k hk⟩
end Go.Proofs.YtpbgonpmpjpljaaGreatDoor

namespace Go.Proofs.YtpbgonpmpjpljaaGreatDoor
open Go.RowKit
set_option linter.unusedVariables false

/-- Points in memory. -/
structure PtV where
  v : Value
  pts : List (Int × Int)
structure SetAt (w : World) (G : Nat → Prop) (sb : Nat) (sv lv : Value) (N : List Bs) (R : List PtV) : Prop where
  hd : Blk w sb 65 #[sv, lv]
  nms : w.ownsRow 0 9 1 sv N.length (txC N)
  rows : w.ownsRow 0 32 1 lv R.length (R.map fun r => r.v)
  pts : ∀ r ∈ R, w.ownsRow 0 57 2 r.v r.pts.length (ptsC r.pts)
  gh : G sb
  gs : ∀ k, sv.ownBlock = some k → G k
  gl : ∀ k, lv.ownBlock = some k → G k
  gp : ∀ r ∈ R, ∀ k, r.v.ownBlock = some k → G k
theorem SetAt.fr {S G : Nat → Prop} {w w' : World} {sb : Nat} {sv lv : Value} {N : List Bs} {R : List PtV} (h : SetAt w G sb sv lv N R) (hf : Fr S w w') (hn : ∀ k, G k → ¬ S k) : SetAt w' G sb sv lv N R :=
  ⟨hf.blk h.hd (hn _ h.gh), hf.own h.nms (fun k hk => hn k (h.gs k hk)), hf.own h.rows (fun k hk => hn k (h.gl k hk)), fun x hx => hf.own (h.pts x hx) (fun k hk => hn k (h.gp x hx k hk)), h.gh, h.gs, h.gl, h.gp⟩
theorem SetAt.below {G : Nat → Prop} {w w' : World} {sb : Nat} {sv lv : Value} {N : List Bs} {R : List PtV} (h : SetAt w G sb sv lv N R) (hf : Below w.heap.size w w') : SetAt w' G sb sv lv N R :=
  h.fr (Fr.ofBelow hf) (fun _ _ h => h)
theorem SetAt.mono {G G' : Nat → Prop} {w : World} {sb : Nat} {sv lv : Value} {N : List Bs} {R : List PtV} (h : SetAt w G sb sv lv N R) (hG : ∀ k, G k → G' k) : SetAt w G' sb sv lv N R :=
  ⟨h.hd, h.nms, h.rows, h.pts, hG _ h.gh, fun k hk => hG _ (h.gs k hk), fun k hk => hG _ (h.gl k hk), fun x hx k hk => hG _ (h.gp x hx k hk)⟩
/-- The blocks of S that were there have other types than these. -/
def Strange (S : Nat → Prop) (w : World) (T : List TypeId) : Prop := ∀ k, S k → k < w.heap.size → ∃ t cs, Blk w k t cs ∧ t ∉ T
theorem Strange.not {S : Nat → Prop} {w : World} {T : List TypeId} (h : Strange S w T) {k : Nat} {t : TypeId} {cs : Array Value} (hb : Blk w k t cs) (ht : t ∈ T) : ¬ S k := by
  intro hk
  obtain ⟨t', cs', hb', hn⟩ := h k hk hb.lt
  obtain rfl := blk_type hb hb'
  exact hn ht
theorem Strange.notOwn {S : Nat → Prop} {w : World} {T : List TypeId} (h : Strange S w T) {base : Nat} {e : TypeId} {size n : Nat} {v : Value} {xs : List Value} (ho : w.ownsRow base e size v n xs) (ht : e ∈ T) : ∀ k, v.ownBlock = some k → ¬ S k := by
  intro k hk
  obtain ⟨cs, hc⟩ := own_typed ho hk
  exact h.not hc ht
theorem Strange.own {w : World} {base : Nat} {e : TypeId} {size n : Nat} {v : Value} {xs : List Value} {T : List TypeId} (ho : w.ownsRow base e size v n xs) (ht : e ∉ T) : Strange (fun k => v.ownBlock = some k) w T := by
  intro k hk _
  obtain ⟨cs, hc⟩ := own_typed ho hk
  exact ⟨e, cs, hc, ht⟩
theorem Strange.blk {w : World} {g : Nat} {e : TypeId} {cs : Array Value} {T : List TypeId} (hb : Blk w g e cs) (ht : e ∉ T) : Strange (fun k => k = g) w T := by
  intro k hk _
  subst hk
  exact ⟨e, cs, hb, ht⟩
/-- A name more. -/
theorem SetAt.name {G : Nat → Prop} {w w' : World} {sb : Nat} {sv sv' lv : Value} {N : List Bs} {R : List PtV} (h : SetAt w G sb sv lv N R) {s : Bs} (hf : Fr (fun k => sv.ownBlock = some k) w w') {base : Nat} (ho : w'.ownsRow base 9 1 sv' (N.length + 1) (txC N ++ [.string (B8 s)])) (hG : ∀ k, sv'.ownBlock = some k → G k) :
    SetAt (w'.setCell ⟨sb, 0, none⟩ sv') G sb sv' lv (N ++ [s]) R ∧ Fr (fun k => k = sb) w' (w'.setCell ⟨sb, 0, none⟩ sv') := by
  have hz : Fr (fun k => k = sb) w' (w'.setCell ⟨sb, 0, none⟩ sv') := Fr.setCell (S := fun k => k = sb) (Fr.refl _ _) (p := ⟨sb, 0, none⟩) (.inr rfl) sv'
  have hst : Strange (fun k => sv.ownBlock = some k) w [65, 32, 57] := Strange.own h.nms (by decide)
  have hb' := hf.blk h.hd (hst.not h.hd (by simp))
  have hsb : Strange (fun k => k = sb) w' [9, 32, 57] := Strange.blk hb' (by decide)
  have hr' := hf.own h.rows (hst.notOwn h.rows (by simp))
  refine ⟨⟨hb'.set_ 0 sv', ?_, hz.own hr' (hsb.notOwn hr' (by simp)), fun x hx => ?_, h.gh, hG, h.gl, h.gp⟩, hz⟩
  · rw [List.length_append, List.length_singleton, txC_snoc]
    have ho0 := own_base ho (Nat.zero_le _)
    exact hz.own ho0 (hsb.notOwn ho0 (by simp))
  · have hp' := hf.own (h.pts x hx) (hst.notOwn (h.pts x hx) (by simp))
    exact hz.own hp' (hsb.notOwn hp' (by simp))
/-- Points more. -/
theorem SetAt.row {G : Nat → Prop} {w w' : World} {sb : Nat} {sv lv lv' : Value} {N : List Bs} {R : List PtV} (h : SetAt w G sb sv lv N R) {r : PtV} (hf : Fr (fun k => lv.ownBlock = some k) w w') {base : Nat} (ho : w'.ownsRow base 32 1 lv' (R.length + 1) ((R.map fun r => r.v) ++ [r.v])) (hG : ∀ k, lv'.ownBlock = some k → G k)
    {base' : Nat} (hp : w.ownsRow base' 57 2 r.v r.pts.length (ptsC r.pts)) (hgp : ∀ k, r.v.ownBlock = some k → G k) :
    SetAt (w'.setCell ⟨sb, 1, none⟩ lv') G sb sv lv' N (R ++ [r]) ∧ Fr (fun k => k = sb) w' (w'.setCell ⟨sb, 1, none⟩ lv') := by
  have hz : Fr (fun k => k = sb) w' (w'.setCell ⟨sb, 1, none⟩ lv') := Fr.setCell (S := fun k => k = sb) (Fr.refl _ _) (p := ⟨sb, 1, none⟩) (.inr rfl) lv'
  have hst : Strange (fun k => lv.ownBlock = some k) w [65, 9, 57] := Strange.own h.rows (by decide)
  have hb' := hf.blk h.hd (hst.not h.hd (by simp))
  have hsb : Strange (fun k => k = sb) w' [9, 32, 57] := Strange.blk hb' (by decide)
  have hn' := hf.own h.nms (hst.notOwn h.nms (by simp))
  refine ⟨⟨hb'.set_ 1 lv', hz.own hn' (hsb.notOwn hn' (by simp)), ?_, fun x hx => ?_, h.gh, h.gs, hG, fun x hx => ?_⟩, hz⟩
  · rw [List.length_append, List.length_singleton, List.map_append]
    have ho0 := own_base ho (Nat.zero_le _)
    exact hz.own ho0 (hsb.notOwn ho0 (by simp))
  · rcases List.mem_append.1 hx with hx | hx
    · have hp' := hf.own (h.pts x hx) (hst.notOwn (h.pts x hx) (by simp))
      exact hz.own hp' (hsb.notOwn hp' (by simp))
    · obtain rfl := List.mem_singleton.1 hx
      have hp0 := own_base hp (Nat.zero_le _)
      have hp' := hf.own hp0 (hst.notOwn hp0 (by simp))
      exact hz.own hp' (hsb.notOwn hp' (by simp))
  · rcases List.mem_append.1 hx with hx | hx
    · exact h.gp x hx
    · obtain rfl := List.mem_singleton.1 hx
      exact hgp
theorem SetAt.new {w : World} : SetAt (w.alloc (.cells #[.slice none 0 0, .slice none 0 0] 65)) (fun k => w.heap.size ≤ k) w.heap.size (.slice none 0 0) (.slice none 0 0) [] [] :=
  ⟨Blk.new _ _ _, World.ownsRow_nil _ _ _ _, World.ownsRow_nil _ _ _ _, fun r h => (by cases h), Nat.le_refl _, fun k h => (by cases h), fun k h => (by cases h), fun r h => (by cases h)⟩

/-- Names and points stand for these rows. -/
def SetIs (N : List Bs) (R : List PtV) (S : List (Bs × List (Int × Int))) : Prop := N = S.map (·.1) ∧ R.map (·.pts) = S.map (·.2)
theorem SetIs.len {N : List Bs} {R : List PtV} {S : List (Bs × List (Int × Int))} (h : SetIs N R S) : N.length = S.length ∧ R.length = S.length := by
  have h2 := congrArg List.length h.2
  rw [List.length_map, List.length_map] at h2
  exact ⟨by rw [h.1, List.length_map], h2⟩
theorem SetIs.snoc {N : List Bs} {R : List PtV} {S : List (Bs × List (Int × Int))} (h : SetIs N R S) (s : Bs) (r : PtV) : SetIs (N ++ [s]) (R ++ [r]) (S ++ [(s, r.pts)]) := by
  refine ⟨?_, ?_⟩
  · rw [List.map_append, ← h.1]; rfl
  · rw [List.map_append, List.map_append, h.2]; rfl
theorem infoSl : (Tryz.prog.info? 32).map (fun i => (i.zero, i.size, i.bytes)) = some (some (.slice none 0 0), 1, 24) := by kernel_rfl
theorem own_hiB {w : World} {base B : Nat} {e : TypeId} {size n : Nat} {v : Value} {xs : List Value} (h : w.ownsRow base e size v n xs) (hb : ∀ k, v.ownBlock = some k → B ≤ k) : w.ownsRow B e size v n xs := by
  refine ⟨h.1, ?_⟩
  rcases h.2 with h1 | ⟨g, cap, cur, rfl, hg, rest⟩
  · exact .inl h1
  · exact .inr ⟨g, cap, cur, rfl, hb g rfl, rest⟩
theorem own_far {w w' : World} {S : Nat → Prop} {base n size : Nat} {e : TypeId} {v : Value} {xs : List Value} {T : List TypeId} (h : w.ownsRow base e size v n xs) (hf : Fr S w w') (hS : Strange S w T) (ht : e ∈ T) : w'.ownsRow base e size v n xs := hf.own h (hS.notOwn h ht)

theorem set2 {w W : World} {f : Nat} {t : TypeId} {v0 v1 : Value} (hf : w.heap.size ≤ f) (hb : Below w.heap.size w W) (hk : Blk W f t #[v0, v1]) (u0 u1 : Value) :
    Blk ((W.setCell ⟨f, 0, none⟩ u0).setCell ⟨f, 1, none⟩ u1) f t #[u0, u1] ∧ Below w.heap.size w ((W.setCell ⟨f, 0, none⟩ u0).setCell ⟨f, 1, none⟩ u1) :=
  ⟨(hk.set_ 0 u0).set_ 1 u1, Below.setCell (Below.setCell hb (p := ⟨f, 0, none⟩) hf u0) (p := ⟨f, 1, none⟩) hf u1⟩
theorem cells2 {W : World} {f : Nat} {t : TypeId} {v0 v1 : Value} (h : Blk W f t #[v0, v1]) : (W.cell? ⟨f, 0, none⟩ = some v0 ∧ W.cell? ⟨f, 1, none⟩ = some v1) ∧ (W.frozen? ⟨f, 0, none⟩ = false ∧ W.frozen? ⟨f, 1, none⟩ = false) :=
  ⟨⟨h.cell 0, h.cell 1⟩, ⟨h.frozen 0, h.frozen 1⟩⟩
end Go.Proofs.YtpbgonpmpjpljaaGreatDoor
