/- Two lists of points l1 one: plain facts. -/
import Derived.Laws.Bits64
import Derived.Test.YtpbgonpmpjpljaaGreatDoorMkeX
import Derived.OwnWalk
import Derived.BigQuiet
import Derived.Lib.AppendZerosOnto
import Derived.Lib.AppendZeros
import Derived.Lib.SliceRun
namespace Go.Proofs.YtpbgonpmpjpljaaGreatDoor
open Go
set_option linter.unusedVariables false

end Go.Proofs.YtpbgonpmpjpljaaGreatDoor

namespace Go.Proofs.YtpbgonpmpjpljaaGreatDoor
open Go.RowKit
set_option linter.unusedVariables false

end Go.Proofs.YtpbgonpmpjpljaaGreatDoor

namespace Go.Proofs.YtpbgonpmpjpljaaGreatDoor
open Go.RowKit
set_option linter.unusedVariables false

/-- A slice value, and the cells that it reads as. -/
structure Sl where
  A : Option Addr
  n : Nat
  c : Nat
  xs : List Value
def Sl.v (s : Sl) : Value := .slice s.A s.n s.c
def sumS (ss : List Sl) : Nat := (ss.map Sl.n).sum
theorem sumS_next {ss : List Sl} {k : Nat} {s : Sl} (h : ss[k]? = some s) : sumS (ss.take (k + 1)) = sumS (ss.take k) + s.n := by
  unfold sumS; rw [take_snoc h, List.map_append, List.sum_append]; simp
theorem sumS_le (ss : List Sl) (k : Nat) : sumS (ss.take k) ≤ sumS ss := by
  have h : sumS ss = sumS (ss.take k) + sumS (ss.drop k) := by
    conv => lhs; rw [← List.take_append_drop k ss]
    unfold sumS; rw [List.map_append, List.sum_append]
  omega
theorem xsS_next {ss : List Sl} {k : Nat} {s : Sl} (h : ss[k]? = some s) : (ss.take (k + 1)).flatMap Sl.xs = (ss.take k).flatMap Sl.xs ++ s.xs := by
  rw [take_snoc h, List.flatMap_append]; simp
theorem cc_append {w wr wa : World} {v v' : Value} {m r : Nat} {l xs : List Value} (hown : wr.ownsRow w.heap.size 57 2 v m l) (hb : Below w.heap.size w wr)
    (hown' : wa.ownsRow w.heap.size 57 2 v' (m + r) (l ++ xs)) (hgr : wr.grownBy wa v.ownBlock) :
    wa.ownsRow w.heap.size 57 2 v' (m + r) (l ++ xs) ∧ Below w.heap.size w wa :=
  ⟨hown', Below.grown hb hgr hb.size (fun g hg => (own_lt hown g hg).1)⟩

theorem grow_zero (w : World) : Calls Tryz.prog 89 #[.slice none 0 0, .int .i64 0] w fun e w' => e = .returned (.slice none 0 0) ∧ w = w' := by
  go_enter Tryz.func89, Tryz.ntmps89
  go_wp2
  go_ret
  exact ⟨rfl, rfl⟩
set_option maxRecDepth 100000 in
set_option maxHeartbeats 4000000 in
theorem grow_pos (n : Nat) (w : World) (h0 : 0 < n) (hn : n ≤ 100000) :
    Calls Tryz.prog 89 #[.slice none 0 0, .int .i64 n] w fun e w' => ∃ v, e = .returned v ∧ w'.ownsRow w.heap.size 57 2 v 0 [] ∧ Below w.heap.size w w' := by
  obtain ⟨i0, hi, hz0, hz1, hz2⟩ := info_parts infoPt
  have hold : (Builtin.firstCells i0.size 0 (.slice none 0 0)).run Tryz.prog w.drew = .ok ([] : List Value).toArray w.drew := run_firstCells_none w.drew i0.size 0 0 0
  have hrz : ∀ ty, (Builtin.append_ #[32, 3] ty #[.slice none 0 0, .int .i64 (n : Int)]).run Tryz.prog w =
      .ok (.slice (some ⟨w.heap.size, 0, none⟩) n (grownCap w n 0 57)) (w.drew.alloc (.cells (#[] ++ Builtin.zeroCells (Value.agg #[.int .i64 0, .int .u64 0]).cells n ++ Builtin.zeroCells (Value.agg #[.int .i64 0, .int .u64 0]).cells (grownCap w n 0 57 - n)) 57)) := fun ty => by
    have h := Lib.run_append_grow_zeros w 32 3 ty 57 i0 (.agg #[.int .i64 0, .int .u64 0]) .i64 .i64 Tryz.underlying32 Tryz.underlying3 hi hz0 none 0 0 [] hold n h0 (by rw [hz1]; decide) (by omega) (by omega)
      (by rw [hz2]; omega) (by rw [hz2, Nat.zero_add]; exact growslice_fits h0 (by omega))
    rw [Nat.zero_add] at h
    exact h
  have hGn : n ≤ grownCap w n 0 57 := grownCap_ge w _ _ _
  have hGm : grownCap w n 0 57 ≤ maxLen := grownCap_le_maxLen w n 0 57 (by unfold maxLen; omega)
  generalize grownCap w n 0 57 = G at hrz hGn hGm
  have hown : (w.drew.alloc (.cells (#[] ++ Builtin.zeroCells (Value.agg #[.int .i64 0, .int .u64 0]).cells n ++ Builtin.zeroCells (Value.agg #[.int .i64 0, .int .u64 0]).cells (G - n)) 57)).ownsRow w.heap.size 57 2 (.slice (some ⟨w.heap.size, 0, none⟩) 0 G) 0 [] := by
    refine ⟨rfl, .inr ⟨w.heap.size, G, _, rfl, Nat.le_refl _, Blk.new w.drew _ _, Nat.zero_le _, hGm, ?_, by simp⟩⟩
    rw [Array.size_append, Array.size_append, size_zeroCells, size_zeroCells]
    show 0 + n * 2 + (G - n) * 2 = G * 2
    omega
  have hbel : Below w.heap.size w (w.drew.alloc (.cells (#[] ++ Builtin.zeroCells (Value.agg #[.int .i64 0, .int .u64 0]).cells n ++ Builtin.zeroCells (Value.agg #[.int .i64 0, .int .u64 0]).cells (G - n)) 57)) := Below.alloc (Below.refl _ w).drew (Nat.le_refl _) _
  generalize hW : w.drew.alloc (.cells (#[] ++ Builtin.zeroCells (Value.agg #[.int .i64 0, .int .u64 0]).cells n ++ Builtin.zeroCells (Value.agg #[.int .i64 0, .int .u64 0]).cells (G - n)) 57) = W at hrz hown hbel
  have Hrz := Lib.hid hrz; have Hown := Lib.hid hown; have Hbel := Lib.hid hbel
  have hG63 : (G : Int) ≤ 9223372036854775807 := by unfold maxLen at hGm; omega
  have h0' : (0 : Int) < (n : Int) := by omega
  clear hrz hown hbel hW hold hi hz0 hz1 hz2 hGm
  go_enter Tryz.func89, Tryz.ntmps89
  go_wp2_with (at_builtin; refine Lib.wpList_append_run _ rfl _ _ _ _ rfl _ _ rfl rfl _ _ (Hrz.out _) ?_)
  go_ret
  exact ⟨_, rfl, Hown.out, Hbel.out⟩

set_option maxRecDepth 100000 in
set_option maxHeartbeats 4000000 in
theorem concat_any (g m c : Nat) (ss : List Sl) (w : World) (hg : Rd w w.heap.size 1 (some ⟨g, 0, none⟩) m (ss.map Sl.v)) (hss : ∀ s ∈ ss, Rd w w.heap.size 2 s.A s.n s.xs ∧ ∀ u ∈ s.xs, u.oneCell' = true)
    (hm : m ≤ 1000) (hsum : sumS ss ≤ 100000) :
    Calls Tryz.prog 60 #[.slice (some ⟨g, 0, none⟩) m c] w fun e w' => ∃ v, e = .returned v ∧ w'.ownsRow w.heap.size 57 2 v (sumS ss) (ss.flatMap Sl.xs) ∧ Below w.heap.size w w' := by
  have hlen : ss.length = m := by have := hg.1; rw [List.length_map] at this; omega
  obtain ⟨i0, hi, hz0, hz1, hz2⟩ := info_parts infoPt
  have Hi := Lib.hid hi; have Hz0 := Lib.hid hz0; have Hz1 := Lib.hid hz1; have Hz2 := Lib.hid hz2
  have Hg := Lib.hid hg; have Hss := Lib.hid hss; have Hlen := Lib.hid hlen; have Hsum := Lib.hid hsum
  clear hi hz0 hz1 hz2 hg hss hlen hsum
  go_enter Tryz.func60, Tryz.ntmps60
  go_wp2
  go_loop [3, 11] (fun z iv => ∃ k : Nat, k ≤ m ∧ iv = .int .i64 k ∧ z = .int .i64 (sumS (ss.take k))) (fun _ iv => m - (intOf iv).toNat)
  case atStart => exact ⟨0, Nat.zero_le _, rfl, rfl⟩
  case round =>
    obtain ⟨k, hk, rfl, rfl⟩ := hrel
    by_cases hkm : k < m
    · obtain ⟨b, o, s, hA, hb, hs, hc⟩ := Hg.out.at1 hkm
      injection hA with hA
      injection hA with hA1 hA2
      subst hA1; subst hA2
      obtain ⟨z, hz⟩ : ∃ z, z = sumS (ss.take k) := ⟨_, rfl⟩
      have hnx := sumS_next hs
      have hle := sumS_le ss (k + 1)
      have hsm := Hsum.out
      rw [← hz] at hnx ⊢
      have hz2 : z + s.n ≤ 100000 := by omega
      have Hnx := Lib.hid hnx
      unfold Sl.v at hc
      rw [Nat.zero_add] at hc
      clear hs hz hnx hle hsm
      go_wp2
      go_round
      case rel => exact ⟨k + 1, by omega, by go_num, by rw [Hnx.out]; go_num⟩
      case measure => simp [intOf]; omega
    · obtain rfl : k = m := by omega
      have htk : ss.take k = ss := List.take_of_length_le (by rw [Hlen.out]; exact Nat.le_refl _)
      rw [htk]
      obtain ⟨z, hz⟩ : ∃ z, z = sumS ss := ⟨_, rfl⟩
      rw [← hz]
      have hz1 : z ≤ 100000 := by rw [hz]; exact Hsum.out
      have Hz := Lib.hid hz
      clear hz htk
      have hgrow : Calls Tryz.prog 89 #[.slice none 0 0, .int .i64 z] w fun e w' => ∃ v, e = .returned v ∧ w'.ownsRow w.heap.size 57 2 v 0 [] ∧ Below w.heap.size w w' := by
        rcases Nat.eq_zero_or_pos z with h0 | h0
        · subst h0
          exact (grow_zero w).mono fun e w' ⟨he, hw⟩ => ⟨_, he, by rw [← hw]; exact World.ownsRow_nil _ _ _ _, by rw [← hw]; exact Below.refl _ _⟩
        · exact grow_pos z w h0 hz1
      have Hgrow := Lib.hid hgrow
      clear hgrow
      go_wp2_with fail
      refine Hgrow.out.mono ?_
      rintro e w1 ⟨v, rfl, hown, hbel⟩
      have Hown := Lib.hid hown; have Hbel := Lib.hid hbel
      clear hown hbel
      go_wp2
      go_loopw [6, 27] (fun o iv wr => ∃ j : Nat, j ≤ k ∧ iv = .int .i64 j ∧ wr.ownsRow w.heap.size 57 2 o (sumS (ss.take j)) ((ss.take j).flatMap Sl.xs) ∧ Below w.heap.size w wr) (fun _ iv _ => k - (intOf iv).toNat)
      case atStart => exact ⟨0, Nat.zero_le _, rfl, Hown.out, Hbel.out⟩
      case round =>
        obtain ⟨j, hj, rfl, hown, hbel⟩ := hrel
        obtain ⟨Ao, co, rfl, _, _, _⟩ := own_form hown
        have hws : w.heap.size ≤ wr.heap.size := hbel.size
        have Hown2 := Lib.hid hown; have Hbel2 := Lib.hid hbel
        clear hown hbel
        by_cases hjk : j < k
        · obtain ⟨b, o, s, hA, hb, hs, hc⟩ := (Hg.out.below Hbel2.out).at1 hjk
          injection hA with hA
          injection hA with hA1 hA2
          subst hA1; subst hA2
          obtain ⟨hsr, hs1⟩ := Hss.out s (List.mem_of_getElem? hs)
          have hnx := sumS_next hs
          have hxn := xsS_next hs
          have hle := sumS_le ss (j + 1)
          have hsm := Hsum.out
          obtain ⟨q, hq⟩ : ∃ q, q = sumS (ss.take j) := ⟨_, rfl⟩
          obtain ⟨cur, hcur⟩ : ∃ cur, cur = (ss.take j).flatMap Sl.xs := ⟨_, rfl⟩
          rw [← hq] at hnx Hown2 ⊢
          rw [← hcur] at hxn Hown2
          have hk63 : q + s.n ≤ maxLen := by unfold maxLen; omega
          have hk8 : (q + s.n) * 16 ≤ 140737488355328 := by omega
          have Hnx := Lib.hid hnx; have Hxn := Lib.hid hxn; have Hs1 := Lib.hid hs1
          have Hsr := Lib.hid ((hsr.below Hbel2.out).more hws)
          unfold Sl.v at hc
          rw [Nat.zero_add] at hc
          clear hs hq hcur hnx hxn hle hsm hs1 hsr
          go_wp2_with (at_builtin; refine wpList_append_rd _ rfl (.tmp 31) (.tmp 32) _ rfl w.heap.size 57 i0 (.agg #[.int .i64 0, .int .u64 0]) 2 16 Tryz.underlying32 Hi.out Hz0.out Hz1.out Hz2.out rfl (by decide) (.slice Ao q co) q _ rfl Hown2.out _ _ s.n s.c s.xs rfl Hsr.out Hs1.out hk63 hk8 hws ?_; intro v' wa hown' hgr hat; have HR := Lib.hid (cc_append Hown2.out Hbel2.out hown' hgr); clear hown' hgr hat)
          go_roundw
          case rel => exact ⟨j + 1, by omega, by go_num, by rw [Hnx.out, Hxn.out]; exact HR.out.1, HR.out.2⟩
          case measure => simp [intOf]; omega
        · obtain rfl : j = k := by omega
          have htk : ss.take j = ss := List.take_of_length_le (by rw [Hlen.out]; exact Nat.le_refl _)
          rw [htk] at Hown2 ⊢
          have Hz2 := Hz
          go_wp2
          go_ret
          exact ⟨_, rfl, Hown2.out, Hbel2.out⟩
end Go.Proofs.YtpbgonpmpjpljaaGreatDoor
